/- Proved in the last of these texts: for every input the law returns true and its arguments read afterwards as they read before. This text: a part of the proof. -/
import Derived.Test.YtkgphhemcglgnaaGreatDoorP3
set_option linter.unusedVariables false
set_option linter.unusedSimpArgs false
set_option linter.unusedSectionVars false
set_option linter.defProp false
namespace HY
open Go Go.RowKit
structure LeV (x t:AV):Prop where
 ok:∀(H:HV) (E:Env) (v:Value),RV H E x v→RV H E t v
structure St.Same (s t:St):Prop where
 n:s.n=t.n
 nx:s.nx=t.nx
 get:∀k,s.get k=t.get k
 hp:lkb s.hp=lkb t.hp
def wnrm{α:Type}(sh:α→AV)(s:Nat)(st:St)(K:St→Prop):Prop:=
 match st.get s with
 | .int k m=>∃n,n=m∧K ⟨st.n,pt st.sl s (.int k n),st.hp,st.nx⟩
 | .str t=>∃u,u=t∧K ⟨st.n,pt st.sl s (.str u),st.hp,st.nx⟩
 | .bool t=>∃u,u=t∧K ⟨st.n,pt st.sl s (.bool u),st.hp,st.nx⟩
 | .ow id ver sz len=>match lkb st.hp id with
  |some (.own v z xs)=>∃l:List α,(List.map sh l=xs∧l.length=len)∧K ⟨st.n,pt st.sl s (.ow id ver sz l.length),pt st.hp id (.own v z (List.map sh l)),st.nx⟩
  |_=>False
 | .oe id _ _ _ _=>match lkb st.hp id with
  |some (.own v z xs)=>∃l:List α,List.map sh l=xs∧K ⟨st.n,st.sl,pt st.hp id (.own v z (List.map sh l)),st.nx⟩
  |_=>False
 | .tup []=>K st
 | .undef=>K st
 |v=>∃x:α,LeV v (sh x)∧K ⟨st.n,pt st.sl s (sh x),st.hp,st.nx⟩
theorem Tw{st:St}{s:Nat}{x y:AV}(h:st.get s=x)(e:y=x):St.Same ⟨st.n,pt st.sl s y,st.hp,st.nx⟩ st where
 n:=rfl
 nx:=rfl
 get k:=by
  show lk .undef (pt st.sl s y) k=_;rw[UX];split
  ·simp_all
  ·rfl
 hp:=rfl
theorem Q3w{st:St}{id:Nat}{b b':Box}(h:lkb st.hp id=some b)(e:b'=b):St.Same ⟨st.n,st.sl,pt st.hp id b',st.nx⟩ st where
 n:=rfl
 nx:=rfl
 get k:=rfl
 hp:=by
  show lkb (pt st.hp id b')=_;rw[QV]
  grind [updF]
theorem St.Same.trans{a b c:St}(h:St.Same a b)(k:St.Same b c):St.Same a c:=⟨h.n.trans k.n,h.nx.trans k.nx,fun i=>(h.get i).trans (k.get i),h.hp.trans k.hp⟩
structure St.Tell (gl:Nat→AV) (s t:St):Prop where
 n:s.n=t.n
 rel:∀(m:Nat→Lc) (H:HV) (B:Nat→Prop) (H0:HV) (rest:List (AV×Value)) (tmps:Array Value) (w:World),RelS m H B H0 gl rest t tmps w→RelS m H B H0 gl rest s tmps w
theorem St.Tell.refl(gl:Nat→AV)(s:St):St.Tell gl s s:=⟨rfl,fun _ _ _ _ _ _ _ h=>h⟩
theorem St.Tell.trans{gl:Nat→AV}{a b c:St}(h:St.Tell gl a b)(k:St.Tell gl b c):St.Tell gl a c:=⟨h.n.trans k.n,fun _ _ _ _ _ _ _ r=>h.rel _ _ _ _ _ _ _ (k.rel _ _ _ _ _ _ _ r)⟩
theorem RelS.same{m:Nat→Lc}{H:HV}{B:Nat→Prop}{H0:HV}{gl:Nat→AV}{rest:List (AV×Value)}{s t:St}{tmps:Array Value}{w:World}(h:RelS m H B H0 gl rest t tmps w)(e:St.Same s t):RelS m H B H0 gl rest s tmps w:=by
 have he:s.env m=t.env m:=by show Q6 (lkb s.hp) m=Q6 (lkb t.hp) m;rw[e.hp]
 refine⟨?_,?_,fun k=> ?_,fun p hp=> ?_⟩
 ·rw[e.hp,e.nx];exact h.heap
 ·rw[e.n];exact h.size
 ·rw[he,e.get];exact h.slot k
 ·rw[he];exact h.rest p hp
theorem St.Same.tell{gl:Nat→AV}{s t:St}(e:St.Same s t):St.Tell gl s t:=⟨e.n,fun _ _ _ _ _ _ _ h=>h.same e⟩
theorem tell_le{gl:Nat→AV}{st:St}{s:Nat}{x y:AV}(h:st.get s=x)(e:LeV x y):St.Tell gl ⟨st.n,pt st.sl s y,st.hp,st.nx⟩ st where
 n:=rfl
 rel m H B H0 rest tmps w r:=by
  refine⟨r.heap,r.size,fun k=> ?_,r.rest⟩
  show RV H (st.env m) (lk .undef (pt st.sl s y) k) _;rw[UX];split;·rename_i e2;subst e2;exact e.ok _ _ _ (h▸r.slot _)
  ·exact r.slot k
theorem Q4f{gl:Nat→AV}{α:Type}{sh:α→AV}{s:Nat}{st:St}{K:St→Prop}(h:wnrm sh s st K):∃st',K st'∧St.Tell gl st' st:=by
 unfold wnrm at h;split at h;·rename_i k m hx;obtain⟨n,rfl,h⟩:=h;exact⟨_,h,(Tw hx rfl).tell⟩
 ·rename_i t hx;obtain⟨n,rfl,h⟩:=h;exact⟨_,h,(Tw hx rfl).tell⟩
 ·rename_i t hx;obtain⟨n,rfl,h⟩:=h;exact⟨_,h,(Tw hx rfl).tell⟩
 ·rename_i id ver sz len hx;split at h
  ·rename_i v z xs a4;obtain⟨l,⟨rfl,rfl⟩,h⟩:=h;exact⟨_,h,((Q3w (st:=⟨st.n,pt st.sl s _,st.hp,st.nx⟩) a4 rfl).trans (Tw hx rfl)).tell⟩
  ·cases h
 ·rename_i id _ _ _ _ hx;split at h
  ·rename_i v z xs a4;obtain⟨l,rfl,h⟩:=h;exact⟨_,h,(Q3w a4 rfl).tell⟩
  ·cases h
 ·exact⟨_,h,.refl _ _⟩
 ·exact⟨_,h,.refl _ _⟩
 ·rename_i v _ _ hx;obtain⟨x,a5,h⟩:=h;exact⟨_,h,tell_le rfl a5⟩
def wfill{α:Type}(sh:α→AV)(s:Nat)(st:St)(K:St→Prop):Prop:=
 match st.get s with
 | .ow id _ _ _=>match lkb st.hp id with
  |some (.hol v z xs i c r)=>match r with
   | .ow id2 v2 z2 len=>match lkb st.hp id2 with
    |some (.own v' z' ys)=>match Nat.beq v' v2&&Nat.beq z' z2 with
     |true=>len=ys.length∧∃x:α,xs[i]? =some (sh x)∧∃l:List α,List.map sh l=xs.set i (putE c 1 z (sh x) (.sl z' ys))∧K ⟨st.n,st.sl,pt (pt st.hp id2 (.own (v'+4096) z' [])) id (.own v z (List.map sh l)),st.nx⟩
     |false=>False
    |_=>False
   |_=>False
  |_=>False
 |_=>False
theorem Qa9{gl:Nat→AV}{α:Type}{sh:α→AV}{s:Nat}{st:St}{K:St→Prop}(h:wfill sh s st K):∃st',Conv gl st st'∧K st':=by
 unfold wfill at h;split at h
 ·split at h
  ·rename_i v z xs i c r a5;split at h
   ·rename_i a6 v2 z2 len;split at h
    ·rename_i v' z' ys a4;split at h
     ·rename_i hc;rw[cqb] at hc;obtain rfl:=cqa hc.1;obtain rfl:=cqa hc.2
      grind [Q6k]
     ·cases h
    ·cases h
   ·cases h
  ·cases h
 ·cases h
def inner:Option Hint→Option Hint
 |some (.n _ _ h)=>h
 |some (.z _ h)=>match h with
  |some (.n _ _ h)=>h
  |h=>h
 |h=>h
def outer:Option Hint→Option Hint
 |some (.z _ h)=>h
 |h=>h
def M8(hs:QH):List Oper→St→(St→Prop)→Prop
 | [],st,K=>K st
 |o::l,st,K=>match outer (lkH hs (B5 o.dst o.op)) with
  |some (.n sh s _)=>wnrm sh s st (fun st=>M8 hs l st K)
  |_=>M8 hs l st K
theorem Nj{gl:Nat→AV}{hs:QH}:∀ {l:List Oper} {st:St} {K:St→Prop},M8 hs l st K→∃st',K st'∧St.Tell gl st' st
 | [],st,K,h=>⟨st,h,.refl _ _⟩
 |o::l,st,K,h=>by
  simp only[M8] at h;split at h
  ·obtain⟨s1,h1,e1⟩:=Q4f (gl:=gl) h;obtain⟨s2,h2,e2⟩:=Nj (gl:=gl) h1;exact⟨s2,h2,e2.trans e1⟩
  ·exact Nj h
def wopt(x:Option Res)(K:Res→Prop):Prop:=
 match x with
 |some y=>K y
 |none=>False
def wrow(bid:Nat)(K:Res→Prop)(r:AV)(bt:List Box):Prop:=match r with
 | .ow id ver sz len=>match bt with
  | [.own v z xs]=>match Nat.beq id 0&& (Nat.beq v ver&&Nat.beq z sz) with
   |true=>xs.all immE=true∧K (.ow bid 0 sz len,some (bid,.own 0 sz xs))
   |false=>False
  |_=>False
 |_=>wopt (UH true bid (some (r,hpOf 0 bt,bt.length))) K
def T2(P:Program)(gl:Nat→AV)(bid f:Nat)(h:Hint)(K:Res→Prop)(a3:Bool)(ts:List AV):Prop:=
 match h with
 | .cc r=>Pu P gl f ts r∧wopt (UH a3 bid (some (r,.nil,0))) K
 | .c sh=>∃x,Pu P gl f ts (sh x)∧wopt (UH a3 bid (some (sh x,.nil,0))) K
 | .cb=>∃u,Pu P gl f ts (.bool u)∧(u=true→K (.bool true,none))∧(u=false→K (.bool false,none))
 | .h _ r bt=>∃x,PuH P gl f ts [] (r x) (bt x)∧(match a3 with
  |false=>wopt (UH false bid (some (r x,hpOf 0 (bt x),(bt x).length))) K
  |true=>wrow bid K (r x) (bt x))
 |_=>False
def wans(hp:Hp)(args:List AV)(K:Bool→List AV→Prop):Prop:=
 match optL (tree (fun _=>none) false 12) args with
 |some ts=>K false ts
 |none=>Li (LM hp 12) args (K true)
def wansD(hp:Hp)(args:List AV)(K:Bool→List AV→Prop):Prop:=
 match optL (tree (fun _=>none) false 12) args with
 |some ts=>K false ts
 |none=>match optL (tree hp false 12) args with
  |some ts=>K true ts
  |none=>False
def wcall(P:Program)(gl:Nat→AV)(ch0:Qq)(hp:Hp)(bid f:Nat)(args:List AV)(h:Option Hint)(K:Res→Prop):Prop:=
 match h with
 |none=>wopt (CM ch0 hp bid f args) K
 |some h=>wansD hp args (T2 P gl bid f h K)
open Classical in
noncomputable def once(f:Nat)(ts:List AV)(x:AV×Tr Box×Nat):Qq:=fun f' a' h' n'=>if f'=f∧a'=ts∧h'= .nil∧n'=0 then some x else none
def HS(P:Program)(gl:Nat→AV)(ch:Qq):Prop:=∀f ts r hp' nx',ch f ts .nil 0=some (r,hp',nx')→Vr P gl f ts r hp' nx'
section
variable {P : Program} {gl : Nat → AV}
theorem Tq{f:Nat}{ts:List AV}{r:AV}{hp':Tr Box}{nx':Nat}(h:Vr P gl f ts r hp' nx'):HS P gl (once f ts (r,hp',nx')):=by
 intro f' a' r' h2 n2 hk;unfold once at hk
 simp_all
theorem Tp{f:Nat}{ts:List AV}{x:AV×Tr Box×Nat}:once f ts x f ts .nil 0=some x:=by
 unfold once;simp_all
theorem O6{bid f:Nat}{h:Hint}{K:Res→Prop}{a3:Bool}{ts:List AV}(hw:T2 P gl bid f h K a3 ts):∃ch x,HS P gl ch∧UH a3 bid (ch f ts .nil 0)=some x∧K x:=by
 have a6:∀ {o:Option Res},wopt o K→∃x,o=some x∧K x:=fun {o} ho=>by
  unfold wopt at ho
  grind
 unfold T2 at hw;split at hw
 ·rename_i r;obtain⟨x,hx,hK⟩:=a6 hw.2;exact⟨once f ts (r,.nil,0),x,Tq hw.1.ok,by grind [Tp],hK⟩
 ·rename_i sh;obtain⟨y,hp,hw⟩:=hw;obtain⟨x,hx,hK⟩:=a6 hw;exact⟨once f ts (sh y,.nil,0),x,Tq hp.ok,by grind [Tp],hK⟩
 ·obtain⟨u,hp,h1,h2⟩:=hw;refine⟨once f ts (.bool u,.nil,0),(.bool u,none),Tq hp.ok,by rw[Tp];rfl,?_⟩
  cases u with
  |true=>grind
  |false=>grind
 ·rename_i kb τ r bt;obtain⟨y,hp,hw⟩:=hw;have go:∃x,UH a3 bid (some (r y,hpOf 0 (bt y),(bt y).length))=some x∧K x:=by
   cases a3 with
   |false=>grind
   |true=>
    simp only[wrow] at hw;split at hw
    ·rename_i id ver sz len hr;split at hw
     ·rename_i v z xs hb;split at hw
      ·rename_i hc;rw[cqb,cqb] at hc;obtain rfl:=cqa hc.1;rw[hr,hb];refine⟨_,?_,hw.2⟩;have h0:lkb (hpOf 0 [Box.own v z xs]) 0=some (.own v z xs):=rfl
       grind [UH]
      ·cases hw
     ·cases hw
    simp_all
  obtain⟨x,hx,hK⟩:=go;exact⟨once f ts (r y,hpOf 0 (bt y),(bt y).length),x,Tq hp.zero,by grind [Tp],hK⟩
 ·cases hw
theorem Qa8{ch0:Qq}(h0:ch0.Ok P gl){hp:Hp}{bid f:Nat}{args:List AV}{h:Option Hint}{K:Res→Prop}(hw:wcall P gl ch0 hp bid f args h K):∃ch x,HS P gl ch∧CM ch hp bid f args=some x∧K x:=by
 unfold wcall at hw;split at hw
 ·unfold wopt at hw;split at hw
  ·rename_i r hr;exact⟨ch0,r,fun _ _ _ _ _ hk=>(h0 _ _ _ _ _ _ _ hk).zero,hr,hw⟩
  ·cases hw
 ·rename_i h;unfold wansD at hw
  grind [O6,CM]
end
def wo(P:Program)(gl:Nat→AV)(ch0:Qq)(hs:QH)(bid:Nat)(dst:Option Nat)(op:Op)(ev:Operand→AV)(hp:Hp)(K:Res→Prop):Prop:=
 match VQ op with
 |true=>match YH ev op with
  |some (f,args)=>wcall P gl ch0 hp bid f args (inner (lkH hs (B5 dst op))) K
  |none=>False
 |false=>wask P bid dst op ev hp (inner (lkH hs (B5 dst op))) K
def Fv(P:Program)(gl:Nat→AV)(ch0:Qq)(hs:QH)(sd:Bool)(bid:Nat)(o:Oper)(gv:Option AV)(st:St)(K:St→Prop):Prop:=
 match Z2 o.dst st.n&& (lkb st.hp bid).isNone&&Nat.blt bid st.nx with
 |true=>match M2 o gv with
  |some true=>match sd with
    |true=>match TG P bid o.op with
     |some r=>K (st.eff o.dst r)
     |none=>False
    |false=>wo P gl ch0 hs bid o.dst o.op (st.ev gl) (lkb st.hp) (fun r=>K (st.eff o.dst r))
  |some false=>K (st.eff o.dst (.tup [],none))
  |none=>False
 |false=>False
def IZ(P:Program)(gl:Nat→AV)(ch0:Qq)(hs:QH)(all:List Oper)(base:Nat):List Nat→St→(St→Prop)→Prop
 | [],st,K=>K st
 |i::l,st,K=>match all[i]? with
  |some o=>Fv P gl ch0 hs false (base+i) o (gval all o st) st (fun s=>IZ P gl ch0 hs all base l s K)
  |none=>False
def Fq(P:Program)(gl:Nat→AV)(ch0:Qq)(hs:QH)(all:List Oper)(base:Nat):List Nat→Zj→St→(St→Prop)→Prop
 | [],_,st,K=>K st
 |i::l,F,st,K=>match all[i]? with
  |some o=>match Cs all o (gval all o st) (st.ev gl) with
   |ft=>match okF F all base i (hk o.op) ft with
    |true=>Fv P gl ch0 hs (seed all o) (base+i) o (gval all o st) st (fun s=>Fq P gl ch0 hs all base l (updT F (base+i) ft) s K)
    |false=>False
  |none=>False
def Fs(P:Program)(gl:Nat→AV)(ch0:Qq)(hs:QH)(all:List Oper)(base:Nat)(n:Nat)(st:St)(K:St→Prop):Prop:=
 match mdR all with
 |true=>Fq P gl ch0 hs all base (List.range n) (fun _=>none) st K
 |false=>IZ P gl ch0 hs all base (List.range n) st K
def Bf(P:Program)(gl:Nat→AV)(ch0:Qq)(hs:QH)(all:List Oper)(base lo n:Nat)(st:St)(K:St→Prop):Prop:=
 match mdR all with
 |true=>Fq P gl ch0 hs all base (List.range' lo n) (fun _=>none) st K
 |false=>IZ P gl ch0 hs all base (List.range' lo n) st K
structure Both (A B:Prop):Prop where
 a:A
 b:B
section
variable {P : Program} {gl : Nat → AV} {ch0 : Qq} {hs : QH}
theorem wo_ok(h0:ch0.Ok P gl){bid:Nat}{dst:Option Nat}{op:Op}{ev:Operand→AV}{hp:Hp}{K:Res→Prop}(hw:wo P gl ch0 hs bid dst op ev hp K):
  ∃ch x,HS P gl ch∧K x∧∀cb:Yr,cb bid=ch→xo P cb bid dst op ev hp=some x:=by
 unfold wo at hw;split at hw
 ·rename_i hc;split at hw
  ·rename_i f args hf;obtain⟨ch,x,h1,h2,h3⟩:=Qa8 h0 hw;refine⟨ch,x,h1,h3,fun cb he=> ?_⟩
   simp_all [xo,if_pos]
  ·cases hw
 ·rename_i hc;obtain⟨x,h1,h2⟩:=Q4b hw;refine⟨ch0,x,fun _ _ _ _ _ hk=>(h0 _ _ _ _ _ _ _ hk).zero,h2,fun cb he=> ?_⟩
  simp_all [xo,if_neg]
theorem Q2c{F:Zj}{all:List Oper}{bid:Nat}{o:Oper}{gv:Option AV}{ev:Operand→AV}(hg:M2 o gv=some true)(h:F bid=Cs all o gv ev):WB true F bid o ev=true:=by
 have:Cs all o gv ev=foot o.op ev:=by
  grind [M2,Cs]
 unfold WB;rw[h,this];cases hf:foot o.op ev with
 |none=>rfl
 |some l=>simp
theorem O9(h0:ch0.Ok P gl){md:Bool}{F:Zj}{all:List Oper}{bid:Nat}{o:Oper}{st:St}{K:St→Prop}{sd:Bool}(ab:sd=(md&&seed all o))(hF:md=true→F bid=Cs all o (gval all o st) (st.ev gl))(hw:Fv P gl ch0 hs sd bid o (gval all o st) st K):
  ∃ch s,HS P gl ch∧K s∧∀cb:Yr,cb bid=ch→Xp P gl cb md F all bid o st=some s:=by
 unfold Fv at hw;split at hw
 ·rename_i hc;split at hw
  ·rename_i hg;have hf:WB md F bid o (st.ev gl)=true:=by
    cases md with
    |false=>rfl
    |true=>exact Q2c hg (hF rfl)
   split at hw
   ·split at hw
    ·rename_i r hr;refine⟨ch0,_,fun _ _ _ _ _ hk=>(h0 _ _ _ _ _ _ _ hk).zero,hw,fun cb he=> ?_⟩
     rw[V0,Hn,if_pos hc,hg]
     grind [xoF]
    ·cases hw
   ·obtain⟨ch,x,h1,h2,h3⟩:=wo_ok h0 hw;refine⟨ch,_,h1,h2,fun cb he=> ?_⟩
    rw[V0,Hn,if_pos hc,hg]
    grind [xoF]
  ·rename_i hg;refine⟨ch0,_,fun _ _ _ _ _ hk=>(h0 _ _ _ _ _ _ _ hk).zero,hw,fun cb he=> ?_⟩
   rw[V0,Hn,if_pos hc,hg]
  ·cases hw
 ·cases hw
theorem Q34{ch:Qq}{cb:Yr}{i base:Nat}(h1:HS P gl ch)(h4:cb.Ok P gl):Yr.Ok P gl (fun b=>if b=base+i then ch else cb b):=fun b f ts r hp' nx' hk=>by
 dsimp only at hk;split at hk;·exact h1 _ _ _ _ _ hk
 ·exact h4 _ _ _ _ _ _ hk
theorem MH(h0:ch0.Ok P gl){F:Zj}{all:List Oper}{base:Nat}{K:St→Prop}:∀(l:List Nat) (st:St),l.Nodup→IZ P gl ch0 hs all base l st K→
  ∃(cb:Yr) (s:St),cb.Ok P gl∧K s∧∀a3:Yr,(∀i∈l,a3 (base+i)=cb (base+i))→runI P gl a3 false F all base l st=some s
 | [],st,_,hw=>⟨fun _=>ch0,st,L2 h0,hw,fun _ _=>rfl⟩
 |i::l,st,hn,hw=>by
  simp only[IZ] at hw;split at hw
  ·rename_i o ho;obtain⟨ch,s1,h1,h2,h3⟩:=O9 h0 (F:=F) (md:=false) rfl nofun hw;obtain⟨cb,s,h4,h5,h6⟩:=MH h0 l s1 (List.nodup_cons.1 hn).2 h2;refine⟨fun b=>if b=base+i then ch else cb b,s,Q34 h1 h4,h5,fun a3 he=> ?_⟩
   ·simp only[runI,ho];rw[h3 a3 (by simp_all)]
    refine h6 a3 fun j hj=> ?_
    grind
  ·cases hw
theorem Aj(h0:ch0.Ok P gl){all:List Oper}{base:Nat}{K:St→Prop}:∀(n k:Nat) (F:Zj) (st:St),Fq P gl ch0 hs all base (List.range' k n) F st K→
  ∃(cb:Yr) (G:Zj) (s:St),cb.Ok P gl∧K s∧(∀j,j<k→G (base+j)=F (base+j))∧(∀a3:Yr,(∀i∈List.range' k n,a3 (base+i)=cb (base+i))→runI P gl a3 true G all base (List.range' k n) st=some s)∧
   ∀i j o p,i<j→k≤j→j<k+n→all[i]? =some o→all[j]? =some p→hkCl (hk o.op) (hk p.op)=true→LF (G (base+i)) (G (base+j))=true∨((Zx all []).getD j 0).testBit i=true
 |0,k,F,st,hw=>⟨fun _=>ch0,F,st,L2 h0,hw,fun _ _=>rfl,fun _ _=>rfl,fun i j o p h1 h2 h3=>by omega⟩
 |n+1,k,F,st,hw=>by
  simp only[List.range'_succ,Fq] at hw;split at hw
  ·rename_i o ho;split at hw
   ·rename_i a7;obtain⟨ch,s1,h1,h2,h3⟩:=O9 h0 (F:=updT F (base+k) (Cs all o (gval all o st) (st.ev gl))) (md:=true) (all:=all) (by simp) (fun _=>TA) hw
    obtain⟨cb,G,s,h4,h5,h6,h7,h8⟩:=Aj h0 n (k+1) _ s1 h2;have hk:G (base+k)=Cs all o (gval all o st) (st.ev gl):=by simp_all [TA]
    have a4:∀j,j<k→G (base+j)=F (base+j):=fun j hj=>by grind [Q4a]
    refine⟨fun b=>if b=base+k then ch else cb b,G,s,Q34 h1 h4,h5,a4,fun a3 he=> ?_,fun i j o' p h9 ad ae a6 hp hc=> ?_⟩
    ·simp only[List.range'_succ,runI,ho];rw[Q1n (G:=updT F (base+k) (Cs all o (gval all o st) (st.ev gl))) (by simp_all),h3 a3 (by simp_all)]
     grind
    ·by_cases e:j=k
     ·subst e;rw[ho] at hp;cases hp;exact Q03 a7 a4 hk i o' h9 a6 hc
     grind
   ·cases hw
  ·cases hw
theorem Q17(h0:ch0.Ok P gl){all:List Oper}{base n:Nat}{st:St}{K:St→Prop}(hw:Fs P gl ch0 hs all base n st K):
  ∃(cb:Yr) (F:Zj) (s:St),cb.Ok P gl∧K s∧runI P gl cb (mdR all) F all base (List.range n) st=some s∧(mdR all=true→IH F all base n):=by
 unfold Fs at hw;split at hw
 ·rename_i hm;rw[List.range_eq_range'] at hw ⊢;obtain⟨cb,G,s,h4,h5,h6,h7,h8⟩:=Aj h0 n 0 _ st hw;exact⟨cb,G,s,h4,h5,by simp_all,fun _ i j o p h1 h2=>h8 i j o p h1 (Nat.zero_le _) (by omega)⟩
 ·rename_i hm;obtain⟨cb,s,h4,h5,h6⟩:=MH h0 (F:=fun _=>none) _ _ List.nodup_range hw
  exact⟨cb,_,s,h4,h5,by rw[hm];exact h6 cb fun _ _=>rfl,fun e=>by simp_all⟩
theorem Qac(h0:ch0.Ok P gl){all:List Oper}{base lo n:Nat}{st:St}{K:St→Prop}(hw:Bf P gl ch0 hs all base lo n st K):
  ∃(cb:Yr) (F:Zj) (s:St),cb.Ok P gl∧K s∧runI P gl cb (mdR all) F all base (List.range' lo n) st=some s∧(mdR all=true→PairL F all base lo (lo+n)):=by
 unfold Bf at hw;split at hw
 ·rename_i hm;obtain⟨cb,G,s,h4,h5,h6,h7,h8⟩:=Aj h0 n lo _ st hw;exact⟨cb,G,s,h4,h5,by simp_all,fun _ i j o p h1 h2 h3=>h8 i j o p h1 h2 h3⟩
 ·rename_i hm;obtain⟨cb,s,h4,h5,h6⟩:=MH h0 (F:=fun _=>none) _ _ List.nodup_range' hw
  exact⟨cb,_,s,h4,h5,by rw[hm];exact h6 cb fun _ _=>rfl,fun e=>by simp_all⟩
end
abbrev WF:=Nat→QH→List AV→Tr Box→Nat→(AV→Tr Box→Nat→Prop)→Prop
def CallW(P:Program)(gl:Nat→AV)(f:FuncId)(args:List AV)(hp:Tr Box)(nx:Nat)(K:AV→Tr Box→Nat→Prop):Prop:=
 ∀(m:Nat→Lc) (H:HV) (B:Nat→Prop) (H0:HV) (rest:List (AV×Value)) (w:World) (vs:Array Value),RelH m H B H0 gl (lkb hp) nx w→args.length=vs.size→
  (∀(j:Nat) (x:AV) (v:Value),args[j]? =some x→vs[j]? =some v→RV H (Q6 (lkb hp) m) x v)→(∀p∈rest,RV H (Q6 (lkb hp) m) p.1 p.2)→
  Ans P f vs w fun e w'=>∃v m' H' r hp' nx',K r hp' nx'∧e= .returned v∧Qa B w w'∧RelH m' H' B H0 gl (lkb hp') nx' w'∧RV H' (Q6 (lkb hp') m') r v∧∀p∈rest,RV H' (Q6 (lkb hp') m') p.1 p.2
def WF.Ok(P:Program)(gl:Nat→AV)(wf:WF):Prop:=∀f hs args hp nx K,wf f hs args hp nx K→CallW P gl f args hp nx K
def Q12(P:Program)(gl:Nat→AV)(bid f:Nat)(h:Hint)(K:Res→Prop)(a3:Bool)(ts:List AV):Prop:=
 match a3 with
 |true=>T2 P gl bid f h K true ts
 |false=>match h with
  | .cc r=>Pu P gl f ts r∧K (r,none)
  | .c sh=>∃x,Pu P gl f ts (sh x)∧K (sh x,none)
  | .cb=>∃u,Pu P gl f ts (.bool u)∧(u=true→K (.bool true,none))∧(u=false→K (.bool false,none))
  |_=>False
def wseqC(P:Program)(gl:Nat→AV)(ch0:Qq)(wf:WF)(o:Oper)(st:St)(K:St→Prop)(f:Nat)(args:List AV)(h:Option Hint):Prop:=
 match h with
 |none=>match ch0 f args st.hp st.nx with
  |some (r,hp',nx')=>K ((st.setHp hp' nx').putO o.dst r)
  |none=>False
 |some h=>match h with
  | .i sub=>wf f sub args st.hp st.nx (fun r hp' nx'=>K ((st.setHp hp' nx').putO o.dst r))
  | .h kb r bs=>Be kb args st.hp st.nx (fun a3 a4 ids sc=>∃x,PuH P gl f a3 a4 (r x) (bs x)∧Fj ids sc (bs x) (r x) (fun rr hp' nx'=>K ((st.setHp hp' nx').putO o.dst rr)))
  | .hb kb bs=>Be kb args st.hp st.nx (fun a3 a4 ids sc=>∃x u,PuH P gl f a3 a4 (.bool u) (bs x)∧(u=true→Fj ids sc (bs x) (.bool true) (fun rr hp' nx'=>K ((st.setHp hp' nx').putO o.dst rr)))∧(u=false→Fj ids sc (bs x) (.bool false) (fun rr hp' nx'=>K ((st.setHp hp' nx').putO o.dst rr))))
  |h=>wans (lkb st.hp) args (Q12 P gl st.nx f h (fun r=>K ((st.bump 1).eff o.dst r)))
def wown(P:Program)(dst:Option Nat)(op:Op)(ev:Operand→AV)(st:St)(K:St→Prop):Prop:=
 match op with
 | .call c=>match c.callee with
  | .builtin .append=>match c.argTypes.toList,c.args.toList.map ev with
   | [t,t'],[s,x]=>match elG P t with
    |some (sz,by_,_)=>match B4 s&&Nat.beq t' t with
     |true=>wels sz x (lkb st.hp) (fun ys=>(ys.length*by_≤140737488355328∧ys.length≤9223372036854775807)∧K (St.eff ⟨st.n,st.sl,pt st.hp st.nx (.own 0 sz []),st.nx+1⟩ dst (.ow st.nx 4096 sz ys.length,some (st.nx,.own 4096 sz ys))))
     |false=>False
    |none=>False
   |_,_=>False
  |_=>False
 |_=>False
def zle1(z x:AV):Bool:=match z with
 | .nil=>match x with
  | .sl _ []=>true
  |_=>false
 | .bool false=>match x with
  | .bool false=>true
  |_=>false
 |_=>false
def zleL:List AV→List AV→Bool
 | [],[]=>true
 |z::zs,x::xs=>match zle1 z x with
  |true=>zleL zs xs
  |false=>false
 |_,_=>false
def wmk(P:Program)(dst:Option Nat)(op:Op)(ev:Operand→AV)(st:St)(x:AV)(K:St→Prop):Prop:=
 match op with
 | .makeSlice t l c=>match ev l with
  | .int _ n=>match ev c with
   | .int _ k=>match elG P t with
    |some (sz,by_,zs)=>match zleL zs x.cells&&Nat.ble 1 by_ with
     |true=>n=k∧(0≤n∧by_*n.toNat≤140737488355328)∧K (St.eff ⟨st.n,st.sl,pt st.hp st.nx (.own 0 sz []),st.nx+1⟩ dst (.ow st.nx 4096 sz n.toNat,some (st.nx,.own 4096 sz (List.replicate n.toNat x))))
     |false=>False
    |none=>False
   |_=>False
  |_=>False
 |_=>False
def wnil(P:Program)(dst:Option Nat)(op:Op)(ev:Operand→AV)(st:St)(K:St→Prop):Prop:=
 match op with
 | .binOp o t x y _=>match ev x with
  | .sl _ xs=>match ev y with
   | .nil=>match Th P t with
    |true=>match o with
     | .eql=>(xs=[]→K (st.putO dst (.bool true)))∧K (st.putO dst (.bool false))
     | .neq=>(xs=[]→K (st.putO dst (.bool false)))∧K (st.putO dst (.bool true))
     |_=>False
    |false=>False
   |_=>False
  |_=>False
 |_=>False
def isM(op:Op)(ev:Operand→AV):Bool:=match op with
 | .makeMap _ _=>true
 | .mapUpdate _ _ _ _=>true
 | .call c=>match c.callee with
  | .builtin .delete=>true
  | .builtin .len=>match c.args.toList.map ev with
   | [.mp _]=>true
   |_=>false
  |_=>false
 |_=>false
def wM(P:Program)(o:Oper)(gl:Nat→AV)(st:St)(K:St→Prop):Prop:=
 match xopM P st.nx o.dst o.op (st.ev gl) (lkb st.hp) with
 |some r=>K ((st.bump 1).eff o.dst r)
 |none=>False
def rI32(n:Int):AV:=.int .i32 n
def LN(l:List Int):List UInt8:=(runesBytes l).data.toList
def isR(P:Program)(op:Op)(ev:Operand→AV):Option (List AV):=match op with
 | .convert src to x=>match ev x with
  | .sl sz xs=>match Id P src&& (V6 P to&&Nat.beq sz 1) with
   |true=>some xs
   |false=>none
  |_=>none
 |_=>none
def Fu(P:Program)(gl:Nat→AV)(ch0:Qq)(wf:WF)(o:Oper)(st:St)(K:St→Prop)(h:Option Hint):Prop:=
  match VQ o.op with
  |true=>match YH (st.ev gl) o.op with
    |some (f,args)=>wseqC P gl ch0 wf o st K f args h
    |none=>False
  |false=>match isR P o.op (st.ev gl) with
   |some xs=>∃l:List Int,List.map rI32 l=xs∧K (st.putO o.dst (.str (LN l)))
   |none=>match isM o.op (st.ev gl) with
   |true=>wM P o gl st K
   |false=>match h with
    |some .o=>wown P o.dst o.op (st.ev gl) st K
    |some .nn=>wnil P o.dst o.op (st.ev gl) st K
    |some (.cc x)=>wmk P o.dst o.op (st.ev gl) st x K
    |h=>wask P st.nx o.dst o.op (st.ev gl) (lkb st.hp) h (fun r=>match r with
      | (v,some b)=>K ((st.bump 1).eff o.dst (v,some b))
      | (v,none)=>K (st.putO o.dst v))
def Ft(P:Program)(gl:Nat→AV)(ch0:Qq)(wf:WF)(o:Oper)(st:St)(K:St→Prop)(h:Option Hint):Prop:=
 match h with
 |some (.n sh s h)=>Fu P gl ch0 wf o st (fun st=>wnrm sh s st K) h
 |h=>Fu P gl ch0 wf o st K h
def TC(P:Program)(gl:Nat→AV)(ch0:Qq)(wf:WF)(hs:QH)(o:Oper)(st:St)(K:St→Prop):Prop:=
 match lkH hs (B5 o.dst o.op) with
 |some (.z kb h)=>KG kb st (fun s=>Ft P gl ch0 wf o s K h)
 |some (.fl sh s h)=>wfill sh s st (fun s=>Ft P gl ch0 wf o s K h)
 |h=>Ft P gl ch0 wf o st K h
def wseq(P:Program)(gl:Nat→AV)(ch0:Qq)(wf:WF)(hs:QH)(all:List Oper):List Oper→St→(St→Prop)→Prop
 | [],st,K=>K st
 |o::l,st,K=>match Z2 o.dst st.n with
  |true=>match M2 o (gval all o st) with
   |some true=>TC P gl ch0 wf hs o st (fun s=>wseq P gl ch0 wf hs all l s K)
   |some false=>wseq P gl ch0 wf hs all l (st.putO o.dst (.tup [])) K
   |none=>False
  |false=>False
def NV(P:Program)(r:Option Nat)(n:Nat)(B:Nat→Prop)(H0:HV)(gl:Nat→AV)(rest:List (AV×Value))(a:Act)(w:World)(o:Oper)(K:St→Prop):Prop:=
 ∀(next:Act→World→Prop) (Q:Exit→Act→World→Prop),
  (∀a' w' m' H' st',K st'→a'.defers=a.defers→Qa B w w'→RelS m' H' B H0 gl rest st' a'.tmps w'→next a' w')→o.wpIn (FW r) n P a w next Q
section
variable {P : Program} {gl : Nat → AV} {ch0 : Qq} {hs : QH} {wf : WF} {m : Nat → Lc} {H : HV} {B : Nat → Prop} {H0 : HV} {rest : List (AV × Value)} {st : St} {a : Act} {w : World}
theorem JV.toW{ro:Option Nat}{n:Nat}{o:Oper}{st':St}{K:St→Prop}(h:JV P ro n B H0 gl rest a w o st')(hk:K st'):NV P ro n B H0 gl rest a w o K:=
 fun next Q hn=>h next Q fun a' w' m' H' hd hb hr=>hn a' w' m' H' st' hk hd hb hr
theorem CI(h:RelS m H B H0 gl rest st a.tmps w){o:Oper}{f:Nat}{args:List AV}(hc:YH (st.ev gl) o.op=some (f,args)){K:St→Prop}(ro:Option Nat)(n:Nat)
  (a3:∀vs:Array Value,args.length=vs.size→(∀(j:Nat) (x:AV) (v:Value),args[j]? =some x→vs[j]? =some v→RV H (st.env m) x v)→
   Ans P f vs w fun e w'=>∃st' v m' H',K st'∧e= .returned v∧Qa B w w'∧RelS m' H' B H0 gl rest st' (a.put o.dst v).tmps w'):NV P ro n B H0 gl rest a w o K:=by
 intro next Q hn;obtain⟨vs,a6,hl,hr⟩:=SP h hc;obtain⟨c,x,a8,ho,_⟩:=GH hc;refine⟨fun _ _=>trivial,?_⟩
 rw[Oper.semAt_eq _ _ _ (fun c e=>by simp_all),a6]
 rcases a3 vs hl hr with⟨a5,a7⟩ | ⟨v,w',hv,hq⟩
 ·rw[a5 vs w];refine⟨(fun hh=>by grind [FW]),NZ (a7.mono fun e w' hp=> ?_)⟩
  obtain⟨st',v,m',H',hk,rfl,hb,a4⟩:=hp
  grind [hk,Xw]
 ·rw[hv];obtain⟨st',v',m',H',hk,he,hb,a4⟩:=hq;cases he;exact hn _ _ _ _ _ hk (Xw _ _ _) hb a4
theorem wown_ok(h:RelS m H B H0 gl rest st a.tmps w){o:Oper}(hd:Z2 o.dst st.n=true){K:St→Prop}(hw:wown P o.dst o.op (st.ev gl) st K):∃st',K st'∧OpOk P B H0 gl rest a w o.dst st' (execOp a.eval o)∧∀c,o.op≠ .defer c:=by
 unfold wown at hw;split at hw
 ·rename_i c ho;split at hw
  ·rename_i hb;split at hw
   ·rename_i t t' s x ht hx;split at hw
    ·rename_i sz ai zs aa;split at hw
     ·rename_i hc;rw[cqb] at hc;obtain rfl:=cqa hc.2;obtain⟨ys,a3,⟨h1,h2⟩,hK⟩:=Pv hw;refine⟨_,hK,?_,fun c' e=>by simp_all⟩
      obtain⟨e,i,z,ax,hi,hz,az,a7,af,ao,au,rfl⟩:=Dh aa;obtain⟨a8,args,a5⟩:=c;dsimp only at hb;subst hb;obtain⟨y,z,rfl,rfl,rfl⟩:=Ni hx;obtain rfl:=IX ht;obtain⟨hN,hE⟩:=h.newOwn sz a7;obtain⟨ad,an⟩:=RJ (h.ev y) hc.1;have hs:RV H (Q6 (lkb (pt st.hp st.nx (.own 0 sz []))) (updF m st.nx ⟨0,0,0⟩)) (.ow st.nx 0 sz 0) (a.eval y):=by simp_all [Q06]
      have ag:=(h.ev z).mono (.refl _) hE;have ap:=h.heap.fresh st.nx (Nat.le_refl _);have aq:lkb (pt st.hp st.nx (.own 0 sz [])) st.nx=some (.own 0 sz []):=by rw[QV,Qn]
      have ah:xels sz (st.ev gl z) (lkb (pt st.hp st.nx (.own 0 sz [])))=some ys:=by
       revert a3;unfold xels;split;·exact id
       ·rename_i id _ _ _ _ _;intro a3;split at a3
        ·rename_i v cs a6;have ab:id≠st.nx:=fun e=>by simp_all
         simp_all [QV,Qz]
        ·cases a3
       ·rename_i id _ _ _ _;intro a3;split at a3
        ·rename_i v z' xs a6;have ab:id≠st.nx:=fun e=>by simp_all
         simp_all [QV,Qz]
        ·cases a3
       ·exact id
       ·exact id
       ·exact id
      have hk:CJ P t' t' (.ow st.nx 0 sz 0) (st.ev gl z) (lkb (pt st.hp st.nx (.own 0 sz [])))=some (.ow st.nx 4096 sz ys.length,some (st.nx,.own 4096 sz ys)):=by
       simp_all [CJ,Nat.beq_refl]
      have ae:=Q18 (ty:=o.type) (P:=P) (st:=⟨st.n,st.sl,pt st.hp st.nx (.own 0 sz []),st.nx+1⟩) hN hd hs ag hk;unfold execOp;simp only[ho,resolve];simpa only[List.map_toArray,List.map_cons,List.map_nil,invoke,builtin,pure_bind] using ae
     ·cases hw
    ·cases hw
   ·cases hw
  ·cases hw
 ·cases hw
theorem zle1_ok{z x:AV}{u:Value}{H:HV}(h:zle1 z x=true)(hz:RelI H z u):RelI H x u:=by
 unfold zle1 at h;split at h
 ·split at h;·cases hz;exact .sl0 _ _ _ (Nat.zero_le _)
  ·cases h
 ·split at h;·exact hz
  ·cases h
 ·cases h
theorem Q4p:∀ {zs xs:List AV},zleL zs xs=true→zs.length=xs.length∧∀(j:Nat) (z x:AV),zs[j]? =some z→xs[j]? =some x→zle1 z x=true
 | [],[],_=>⟨rfl,fun j z x h=>by simp at h⟩
 | [],_::_,h=>by cases h
 |_::_,[],h=>by cases h
 |z::zs,x::xs,h=>by
  simp only[zleL] at h;split at h
  ·rename_i h1;obtain⟨h2,h3⟩:=Q4p h;refine⟨by simp[h2],fun j a b ha hb=> ?_⟩
   cases j with
   |zero=>simp at ha hb;subst ha;subst hb;exact h1
   |succ j=>exact h3 j a b (by simpa using ha) (by simpa using hb)
  ·cases h
theorem Qb4{H:HV}{sz n:Nat}{z:Value}{x:AV}(hz:Z9 (RelI H) x.cells z.cells.toList)(hs:z.cells.size=sz)(a5:0<sz):
  Z9 (RelI H) ((List.replicate n x).flatMap AV.cells) ((Array.range (n*sz)).map (z.cells[· %z.cells.size]!)).toList:=by
 have a6:x.cells.length=sz:=by rw[hz.1];simp[hs]
 have a3:∀y∈List.replicate n x,y.cells.length=sz:=fun y hy=>by
  obtain rfl:=(List.mem_replicate.1 hy).2;exact a6
 refine⟨by rw[Kc a3];simp,fun j c hj=> ?_⟩
 have a4:=(cqd.1 hj).1;rw[Kc a3,List.length_replicate] at a4;have hd:j/sz<n:=Nat.div_lt_of_lt_mul (by rw[Nat.mul_comm];exact a4)
 have ae:j%sz<sz:=Nat.mod_lt _ a5;have hf:=Nc a3 (j/sz) x (j%sz) (x.cells[j%sz]'(by omega)) (by simp[hd]) (cqc _)
 have e:j/sz*sz+j%sz=j:=by rw[Nat.mul_comm];exact Nat.div_add_mod _ _
 rw[e,hj] at hf;cases hf;obtain⟨u,h1,h2,h3⟩:=hz.2 (j%sz) _ (cqc (by omega))
 refine⟨u,?_,h2,h3⟩;subst hs;simp only[Array.toList_map,Array.toList_range,cqs,List.getElem?_range a4,Option.map_some];rw[Array.getElem?_toList] at h1;simp[getElem!_def,h1]
theorem run_mk{t e:TypeId}{i:TypeInfo}{z:Value}{sz:Nat}{n:Int}{k k':IntKind}(a6:P.underlying t=some (.slice e))(hi:P.info? e=some i)(hz:i.zero=some z)(a3:i.size=sz)(h0:0≤n)(h2:n≤140737488355328)(h1:i.bytes*n.toNat≤140737488355328):
  (do pure (.value (← Instr.makeSlice t (.int k n) (.int k' n))):Sem Next).run P w= .ok (.value (.slice (some ⟨w.heap.size,0,none⟩) n.toNat n.toNat)) (w.alloc (.cells ((Array.range (n.toNat*sz)).map (z.cells[· %z.cells.size]!)) e)):=by
 have wl:IntKind.i64.wrap n=n:=IntWalk.i64_in _ (by omega)
 have a8:(i.bytes:Int)*n≤140737488355328:=by
  have hn:((n.toNat:Nat):Int)=n:=Int.toNat_of_nonneg h0;have a4:((i.bytes*n.toNat:Nat):Int)≤140737488355328:=by omega
  rw[Int.natCast_mul,hn] at a4;exact a4
 rw[cqv];simp only[Instr.makeSlice,asInt,asIntOf,cqv,run_underlying a6,cqw,Sem.run_pure,typeInfo,run_program,hi,wl];rw[if_neg (by simp;omega)]
 simp only[cqv,Sem.run_pure,cqw,Sv,Go.sizeOf,typeInfo,run_program,hi,a3];by_cases hz0:n.toNat*sz=0
 ·rw[if_pos hz0];have e0:(Array.range (n.toNat*sz)).map (fun x=>(#[]:Array Value)[x% (#[]:Array Value).size]!)=(Array.range (n.toNat*sz)).map (z.cells[· %z.cells.size]!):=by simp_all
  simp only[cqv,Sem.run_pure,cqw];rw[e0];simp[newRow]
 ·rw[if_neg hz0];simp only[zeroValue,typeInfo,cqv,Sem.run_pure,cqw,run_program,hi,hz];rfl
theorem wmk_ok(h:RelS m H B H0 gl rest st a.tmps w){o:Oper}(hd:Z2 o.dst st.n=true){x:AV}{K:St→Prop}(hw:wmk P o.dst o.op (st.ev gl) st x K):∃st',K st'∧OpOk P B H0 gl rest a w o.dst st' (execOp a.eval o)∧∀c,o.op≠ .defer c:=by
 unfold wmk at hw;split at hw
 ·rename_i t l c ho;split at hw
  ·rename_i kn n hl;split at hw
   ·rename_i kk k hc;split at hw
    ·rename_i sz b4 zs au;split at hw
     ·rename_i a9;rw[cqb] at a9;obtain⟨rfl,⟨h0,h1⟩,hK⟩:=hw;have ab:=cqe a9.2;refine⟨_,hK,?_,fun c' e=>by simp_all⟩
      obtain⟨e,i,z,az,hi,hz,ak,a3,a8,ap,ax,rfl⟩:=Dh au;subst ap;obtain⟨hN,hE⟩:=h.newOwn sz a3;have ah:lkb (pt st.hp st.nx (.own 0 sz [])) st.nx=some (.own 0 sz []):=by rw[QV,Qn]
      have ai:=h.ev l;have ae:=h.ev c;rw[hl] at ai;rw[hc] at ae;have aw:=ai.int_inv;have aq:=ae.int_inv;have a6:=(RV.imm (E:=st.env m) _ _ (Nu H z)).cellsRel ax;obtain⟨b1,b2⟩:=Q4p a9.1;have af:Z9 (RelI H) x.cells z.cells.toList:=by
       refine⟨by rw[← b1];exact a6.1,fun j c hj=> ?_⟩
       have bc:=(cqd.1 hj).1;have aj:(ofV z).cells[j]? =some ((ofV z).cells[j]'(by omega)):=cqc _
       obtain⟨u,h1,h2,h3⟩:=a6.2 j _ aj;have a7:=b2 j _ _ aj hj;refine⟨u,h1,h2,zle1_ok a7 ?_⟩;generalize (ofV z).cells[j]'(by omega)=y at*
       cases h3 with
       |imm _ _ h=>exact h
       |_=>simp[zle1] at a7
      have ar:=Qb4 (n:=n.toNat) af ak a3;have ad:n.toNat≤maxLen:=by
       have:1*n.toNat≤i.bytes*n.toNat:=cqp _ ab;simp only[maxLen];omega
      have a5:(do pure (.value (← Instr.makeSlice t (a.eval l) (a.eval c))):Sem Next).run P w= .ok (.value (.slice (some ⟨w.heap.size,0,none⟩) n.toNat n.toNat)) (w.alloc (.cells ((Array.range (n.toNat*sz)).map (z.cells[· %z.cells.size]!)) e)):=by
       rw[aw,aq];exact run_mk az hi hz a8 h0 (by
        have:1*n.toNat≤i.bytes*n.toNat:=cqp _ ab;omega) h1
      have ag:∀y∈List.replicate n.toNat x,y.cells.length=sz:=fun y hy=>by
       obtain rfl:=(List.mem_replicate.1 hy).2;rw[af.1];simp[ak]
      have ay:OpOk P B H0 gl rest a w o.dst (St.eff ⟨st.n,st.sl,pt st.hp st.nx (.own 0 sz []),st.nx+1⟩ o.dst (.ow st.nx 4096 sz n.toNat,some (st.nx,.own 4096 sz (List.replicate n.toNat x)))) (do pure (.value (← Instr.makeSlice t (a.eval l) (a.eval c)))):=by
       by_cases hn0:n.toNat=0
       ·rw[hn0] at a5 ⊢;have hb:=Wx hN (.cells ((Array.range (0*sz)).map (z.cells[· %z.cells.size]!)) e);have an:RelS (updF m st.nx ⟨0,0,0⟩) H B H0 gl rest ⟨st.n,st.sl,pt st.hp st.nx (.own 0 sz []),st.nx+1⟩ a.tmps (w.alloc (.cells ((Array.range (0*sz)).map (z.cells[· %z.cells.size]!)) e)):=⟨hN.heap.ext ⟨rfl,rfl,rfl,by simp,fun k hk=>Below.heap_alloc _ _ _ hk⟩,hN.size,hN.slot,hN.rest⟩
        obtain⟨nx',v',w',m',H',hs,hx,ao,hr⟩:=A1 (P:=P) (n:=0) (ys:=[]) (cap:=0) (oa:=some ⟨w.heap.size,0,none⟩) (s:=pure (.value (.slice (some ⟨w.heap.size,0,none⟩) 0 0))) an hd ah (w':=w.alloc (.cells ((Array.range (0*sz)).map (z.cells[· %z.cells.size]!)) e)) (fun _ _ _=>rfl) rfl ⟨rfl,rfl,rfl⟩ (fun _ C _ fr h=>⟨C,fr,h,rfl⟩) (fun E' hE=>⟨a3,fun y hy=>by simp at hy,.inl ⟨by simp[Qn],rfl⟩⟩) (Nat.le_refl _) (Nat.zero_le _) (fun _=>rfl) (.inl ⟨by simp[Qn],rfl⟩) rfl
        rw[Sem.run_pure] at hs;cases hs;exact⟨_,v',_,m',H',a5,hx,hb.trans ao,hr⟩
       ·exact Pi hN hd ah a3 ag (w1:=w) (Below.refl _ _) rfl _ e (by rw[List.length_replicate,List.take_of_length_le (by simp)];exact ar) (by simp) (by simp) (Nat.le_refl _) ad hn0 a5
      unfold execOp;simp only[ho,resolve];exact ay
     ·cases hw
    ·cases hw
   ·cases hw
  ·cases hw
 ·cases hw
theorem Q9e(d:Nat){t:TypeId}{sz:Nat}{xs:List AV}{u:Value}(hx:RelI H (.sl sz xs) u)(ht:Th P t=true):∃b,(b=true→xs=[])∧(∃a n c,u= .slice a n c)∧(Op.equalIn (d+1) t u (.slice none 0 0)).run P w= .ok b w:=by
 unfold Th at ht;split at ht<;>first | cases ht | skip
 rename_i e he;cases hx with
 |sl0 _ a cap _=>exact⟨a.isNone,fun _=>rfl,⟨_,_,_,rfl⟩,by cases a<;>simp[Op.equalIn,run_underlying he]⟩
 |sl=>exact⟨false,(fun e=>by cases e),⟨_,_,_,rfl⟩,by simp[Op.equalIn,run_underlying he]⟩
theorem wnil_ok(h:RelS m H B H0 gl rest st a.tmps w){o:Oper}(hd:Z2 o.dst st.n=true){K:St→Prop}(hw:wnil P o.dst o.op (st.ev gl) st K):∃st',K st'∧OpOk P B H0 gl rest a w o.dst st' (execOp a.eval o)∧∀c,o.op≠ .defer c:=by
 unfold wnil at hw;split at hw
 ·rename_i op t x y p ho;split at hw
  ·rename_i sz xs hx;split at hw
   ·rename_i hy;split at hw
    ·rename_i ht;have a5:=h.ev x;rw[hx] at a5;have a6:=h.ev y;rw[hy] at a6;have a9:=a6.nil_inv;obtain⟨b,hb,⟨ad,n,c,hu⟩,he⟩:=Q9e (P:=P) (w:=w) 9999 a5.sl_inv ht;have hg:∀op,(eqGuard op t x y (a.eval x) (a.eval y)).run P w= .ok () w:=fun op=>by rw[hu,a9];cases op<;>rfl
     have a4:∀c,o.op≠ .defer c:=fun c e=>by simp_all
     split at hw
     ·obtain⟨r,h5,h6⟩:=GQ (P:=P) (w:=w) (t:=t) (op:=.eql) (u:=.slice ad n c) (v:=.slice none 0 0) (b:=b) (av:=.bool b) rfl (by rw[← hu];exact he) (fun _=>rfl) (fun e=>by cases e)
      refine⟨st.putO o.dst (.bool b),?_,?_,a4⟩
      ·cases b with
       |true=>simp_all
       |false=>exact hw.2
      ·unfold execOp;simp only[ho];exact OpOk.val h hd (v:=r) (by simp_all) (.imm _ _ (h6 _))
     ·obtain⟨r,h5,h6⟩:=GQ (P:=P) (w:=w) (t:=t) (op:=.neq) (u:=.slice ad n c) (v:=.slice none 0 0) (b:=b) (av:=.bool (!b)) rfl (by rw[← hu];exact he) (fun e=>by cases e) (fun _=>rfl)
      refine⟨st.putO o.dst (.bool (!b)),?_,?_,a4⟩
      ·cases b with
       |true=>simp_all
       |false=>exact hw.2
      ·unfold execOp;simp only[ho];exact OpOk.val h hd (v:=r) (by simp_all) (.imm _ _ (h6 _))
     ·cases hw
    ·cases hw
   ·cases hw
  ·cases hw
 ·cases hw
theorem NV.of{ro:Option Nat}{n:Nat}{o:Oper}{K:St→Prop}{st':St}(h:OpOk P B H0 gl rest a w o.dst st' (execOp a.eval o))(a3:∀c,o.op≠ .defer c)(hk:K st'):NV P ro n B H0 gl rest a w o K:=JV.toW (h.step a3) hk
theorem callees{o:Oper}{f:Nat}{args:List AV}(h:RelS m H B H0 gl rest st a.tmps w)(hd:Z2 o.dst st.n=true){K:St→Prop}{hh:Hint}{vs:Array Value}(hl:args.length=vs.size)(hv:∀(j:Nat) (x:AV) (v:Value),args[j]? =some x→vs[j]? =some v→RV H (st.env m) x v)
  (hw:wans (lkb st.hp) args (Q12 P gl st.nx f hh (fun r=>K ((st.bump 1).eff o.dst r)))):Ans P f vs w fun e w'=>∃st' v m' H',K st'∧e= .returned v∧Qa B w w'∧RelS m' H' B H0 gl rest st' (a.put o.dst v).tmps w':=by
 have ad:∀r:AV,(st.bump 1).eff o.dst (r,none)=(st.bump 1).putO o.dst r:=fun _=>rfl
 have a5:∀ts:List AV,ts.length=args.length→(∀(j:Nat) (t:AV) (v:Value),ts[j]? =some t→vs[j]? =some v→RelI (snap H (lkb st.hp) m w) t v)→T2 P gl st.nx f hh (fun r=>K ((st.bump 1).eff o.dst r)) true ts→
   Ans P f vs w fun e w'=>∃st' v m' H',K st'∧e= .returned v∧Qa B w w'∧RelS m' H' B H0 gl rest st' (a.put o.dst v).tmps w':=fun ts a6 a3 aa=>by
  obtain⟨ch,x,h1,h2,h3⟩:=O6 aa;refine(FE (st:=st.bump 1) h1 (h.bump 1) hd (h.heap.fresh _ (Nat.le_refl _)) (Nat.lt_succ_self _) true (lkb st.hp) ts (fun _ _ hh=>hh) (fun e=>by cases e) (by omega) a3 h2).mono fun e w' a8=> ?_
  grind
 unfold wans at hw;split at hw
 ·rename_i ts a3;obtain⟨ae,ab⟩:=Eu (R':=RelI (snap H (fun _=>none) m w)) hl hv a3 fun x t v hx ht=>MF (H1:=H) false (fun id ver cs hh=>by cases hh) (fun id ver cs hh=>by cases hh) (fun id bx hh=>by cases hh) (fun _=>rfl) 12 x t v hx ht
  have af:snap H (fun _=>none) m w=H:=by
   funext b o;simp_all [snap,if_neg]
  rw[af] at ab;have ao:∀r,Pu P gl f ts r→K ((st.bump 1).putO o.dst r)→Ans P f vs w fun e w'=>∃st' v m' H',K st'∧e= .returned v∧Qa B w w'∧RelS m' H' B H0 gl rest st' (a.put o.dst v).tmps w':=fun r hp hK=>by
   refine(Q8n (h.bump 1) hd ae ab hp).mono fun e w' a8=> ?_
   grind
  simp only[Q12] at hw;split at hw
  ·grind
  ·grind
  ·obtain⟨u,hp,h1,h2⟩:=hw;cases u with
   |true=>grind
   |false=>grind
  ·cases hw
 ·obtain⟨ts,aa,a6,a3⟩:=Cf (R:=RV H (st.env m)) (R':=RelI (snap H (lkb st.hp) m w)) (fun x u K hx hk=>Ag (fun id b a7=>h.heap.box id b a7) (fun id bx a7 hr=>(h.heap.sepR id bx a7 hr).2.2) 12 x u K hx hk) args vs.toList _ (by simp[hl]) (fun j c u hc hu=>hv j c u hc (by simp_all)) hw
  exact a5 ts a6 (fun j t v ht ar=>a3 j t v ht (by simp_all)) aa
theorem isR_ok{P:Program}{H:HV}{w:World}(hs:HV.sat H w){op:Op}{ev:Operand→AV}{l:List Int}(hk:isR P op ev=some (List.map rI32 l)):
  ∃a3 to x,op= .convert a3 to x∧∃sz,ev x= .sl sz (List.map rI32 l)∧∀v,RelI H (.sl sz (List.map rI32 l)) v→(convert a3 to v).run P w= .ok (.string ⟨(LN l).toArray⟩) w:=by
 unfold isR at hk;split at hk<;>first | cases hk | skip
 rename_i a3 to x;split at hk<;>first | cases hk | skip
 rename_i sz xs hx;split at hk
 rotate_left
 ·cases hk
 rename_i hc;rw[cqb,cqb] at hc;obtain rfl:=cqa hc.2.2;obtain⟨e,h1,h2⟩:=Sl hc.1;have hd:=Ju hc.2.1;cases hk;refine⟨a3,to,x,rfl,_,hx,fun v hv=> ?_⟩
 have hu:∀b:ByteArray,(⟨(b.data.toList).toArray⟩:ByteArray)=b:=fun b=>by simp
 cases l with
 |nil=>
  rw[show(⟨(LN []).toArray⟩:ByteArray)= .empty from rfl];cases hv with
  |sl0 _ a cap _=>
   cases a with
   |none=>exact run_convert_runes_nil w a3 to e 0 cap h1 h2 hd
   |some a=>exact run_convert_runes w a3 to e a 0 cap [] (by simp) h1 h2 hd fun j hj=>by simp at hj
  |sl _ _ b o cap=>
   exact run_convert_runes (P:=P) w a3 to e ⟨b,o,none⟩ 0 cap [] (by simp) h1 h2 hd fun j hj=>by simp at hj
 |cons n l=>
  cases hv with
  |sl _ _ b o cap val g0 g1 g2 g3 g4 g5=>
   have:=run_convert_runes (P:=P) w a3 to e ⟨b,o,none⟩ (List.map rI32 (n::l)).length cap (n::l) (by simp) h1 h2 hd fun j hj=>by
    have a5:(List.map rI32 (n::l))[j]? =some (rI32 ((n::l).getD j 0)):=by
     rw[cqs,cqc hj,List.getD_eq_getElem?_getD,cqc hj];rfl
    obtain⟨k1,k2⟩:=g4 j _ 0 (rI32 ((n::l).getD j 0)) a5 rfl;have k3:=g5 j _ 0 (rI32 ((n::l).getD j 0)) a5 rfl;cases k4:val j 0<;>rw[k4] at k3 k1<;>cases k3
    have:=hs _ _ _ k1;simpa[Xj] using this
   rw[this];unfold LN;rw[hu,show(List.map rI32 (n::l)).length=(n::l).length from by simp,List.take_length]
theorem O8(h0:ch0.Ok P gl)(ap:WF.Ok P gl wf)(h:RelS m H B H0 gl rest st a.tmps w){o:Oper}(hd:Z2 o.dst st.n=true){K:St→Prop}{hh:Option Hint}(hw:Fu P gl ch0 wf o st K hh)(ro:Option Nat)(n:Nat):NV P ro n B H0 gl rest a w o K:=by
 unfold Fu at hw;split at hw
 ·rename_i hc;split at hw
  ·rename_i f args hf;unfold wseqC at hw;split at hw
   ·split at hw
    ·rename_i r hp' nx' hr;refine JV.toW (BN (ch:=ch0) (rd:=To) h0 Em h hd (st':=(st.setHp hp' nx').putO o.dst r) ?_ ro n) hw;unfold xinl;rw[hf];simp only[hr]
    ·cases hw
   ·rename_i hh;split at hw
    ·rename_i sub;refine CI h hf ro n fun vs hl hv=> ?_
     refine(ap _ _ _ _ _ _ hw m H B H0 _ w vs h.heap hl hv h.hold).mono fun e w' aa=> ?_
     obtain⟨v,m',H',r,hp',nx',hk,rfl,hb,hh,ao,ab⟩:=aa;exact⟨_,v,m',H',hk,rfl,hb,h.taken hd hh ao ab⟩
    ·rename_i kb r bs;refine CI h hf ro n fun vs hl hv=>By h hd hl hv (fun a7 ak ids sc hq=> ?_) hw
     obtain⟨x,h1,h2⟩:=hq;exact⟨_,_,h1,h2⟩
    ·rename_i kb bs;refine CI h hf ro n fun vs hl hv=>By h hd hl hv (fun a7 ak ids sc hq=> ?_) hw
     obtain⟨x,u,h1,h2,h3⟩:=hq;cases u with
     |true=>exact⟨_,_,h1,h2 rfl⟩
     |false=>exact⟨_,_,h1,h3 rfl⟩
    ·exact CI h hf ro n fun vs hl hv=>callees h hd hl hv hw
  ·cases hw
 ·rename_i hc;split at hw
  ·rename_i xs aq;obtain⟨l,rfl,hw⟩:=hw;obtain⟨az,to,x,ho,sz,hx,ah⟩:=isR_ok h.heap.sat aq;refine NV.of (OpOk.val h hd (av:=.str (LN l)) ?_ (.imm _ _ (.str _))) (fun c e=>by rw[ho] at e;cases e) hw
   unfold execOp;simp only[ho];have hv:=h.ev x;rw[hx] at hv;simp[ah _ hv.sl_inv]
  split at hw
  ·unfold wM at hw;split at hw
   ·rename_i r hr;exact JV.toW ((Px (st:=st.bump 1) (h.bump 1) hd (h.heap.fresh _ (Nat.le_refl _)) (Nat.lt_succ_self _) hr).step (ro:=ro) (n:=n) (Iw hr)) hw
   ·cases hw
  ·split at hw
   ·obtain⟨st',hK,a5,a4⟩:=wown_ok h hd hw;exact NV.of a5 a4 hK
   ·obtain⟨st',hK,a5,a4⟩:=wnil_ok h hd hw;exact NV.of a5 a4 hK
   ·obtain⟨st',hK,a5,a4⟩:=wmk_ok h hd hw;exact NV.of a5 a4 hK
   ·obtain⟨r,h1,h2⟩:=Q4b hw;obtain⟨v,b⟩:=r;have af:Qq.Ok P gl (fun _ _ _ _=>none):=fun _ _ _ _ _ _ _ hk=>by cases hk
    cases b with
    |some b=>
     refine JV.toW (EJ (ch:=fun _ _ _ _=>none) (rd:=To) af Em h hd (st':=(st.bump 1).eff o.dst (v,some b)) ?_ ro n) h2
     unfold H8;rw[if_neg (by rw[hc];simp),h1]
    |none=>
     refine JV.toW (EJ (ch:=fun _ _ _ _=>none) (rd:=To) af Em h hd (st':=st.putO o.dst v) ?_ ro n) h2
     unfold H8;rw[if_neg (by rw[hc];simp),h1]
theorem Ak(h0:ch0.Ok P gl)(a5:WF.Ok P gl wf)(h:RelS m H B H0 gl rest st a.tmps w){o:Oper}(hd:Z2 o.dst st.n=true){K:St→Prop}{hh:Option Hint}(hw:Ft P gl ch0 wf o st K hh)(ro:Option Nat)(n:Nat):NV P ro n B H0 gl rest a w o K:=by
 unfold Ft at hw;split at hw
 ·rename_i sh s hh;exact fun next Q hn=>O8 h0 a5 h hd hw ro n next Q fun a' w' m' H' st' hk a3 hb hr=>by
   obtain⟨a6,h2,e2⟩:=Q4f (gl:=gl) hk;exact hn a' w' m' H' a6 h2 a3 hb (e2.rel _ _ _ _ _ _ _ hr)
 grind [O8]
theorem It(h0:ch0.Ok P gl)(a5:WF.Ok P gl wf)(h:RelS m H B H0 gl rest st a.tmps w){o:Oper}(hd:Z2 o.dst st.n=true){K:St→Prop}(hw:TC P gl ch0 wf hs o st K)(ro:Option Nat)(n:Nat):NV P ro n B H0 gl rest a w o K:=by
 unfold TC at hw;split at hw
 ·rename_i kb hh _;obtain⟨s,a3,hw⟩:=Yk (gl:=gl) hw;obtain⟨m1,H1,hr⟩:=a3.2 _ _ _ _ _ _ _ h;exact Ak h0 a5 hr (by rw[a3.1];exact hd) hw ro n
 ·rename_i sh s hh _;obtain⟨s,a3,hw⟩:=Qa9 (gl:=gl) hw;obtain⟨m1,H1,hr⟩:=a3.2 _ _ _ _ _ _ _ h;exact Ak h0 a5 hr (by rw[a3.1];exact hd) hw ro n
 grind [Ak]
theorem XQ{all:List Oper}{o:Oper}{b:Bool}(h:RelS m H B H0 gl rest st a.tmps w)(hg:M2 o (gval all o st)=some b):Region.wanted o (yielded all.toArray a.tmps)=b:=by
 unfold M2 gval at hg;cases ho:o.guard with
 |none=>rw[ho] at hg;cases hg;simp[Region.wanted,ho]
 |some x=>
  obtain⟨j,a4⟩:=x;rw[ho] at hg;simp only at hg;cases hgs:M1 all j with
  |none=>simp_all
  |some g=>
   rw[hgs] at hg;exact Lj ho hgs hg (h.slot g)
theorem EG(h0:ch0.Ok P gl)(ah:WF.Ok P gl wf){all:List Oper}(ab:Vm all=true){nf:Nat}(a6:∀i,nf≤i→i<all.length→∀j,j<i→((Zx all []).getD i 0).testBit j=true){ro:Option Nat}{n:Nat}{d0:List Deferred}{w0:World}{K:St→Prop}{Q:Exit→Act→World→Prop}
  (hQ:∀(sF:St) (a:Act) (w:World) (m:Nat→Lc) (H:HV),K sF→a.defers=d0→Qa B w0 w→RelS m H B H0 gl rest sF a.tmps w→Q .normal a w):
  ∀(d k:Nat) (listed:Array Bool) (st:St) (a:Act) (w:World) (m:Nat→Lc) (H:HV),nf≤k→k+d=all.length→listed.size=all.length→(∀j,j<k→listed.getD j false=true)→(∀j,k≤j→listed.getD j false=false)→wseq P gl ch0 wf hs all (all.drop k) st K→a.defers=d0→Qa B w0 w→RelS m H B H0 gl rest st a.tmps w→wpAnyIn (FW ro) n P .any all.toArray Q d listed a w
 |0,k,listed,st,a,w,m,H,_,hkd,hs',h1,_,hk,hd,hb,hr=>by
  rw[List.drop_eq_nil_of_le (by omega)] at hk
  exact⟨Lf hs' fun j hj=>h1 j (by omega),hQ st a w m H hk hd hb hr⟩
 |d+1,k,listed,st,a,w,m,H,hnk,hkd,hs',h1,h2,hk,hd,hb,hr=>by
  have aw:k<all.length:=by omega
  obtain⟨o,ho⟩:∃o,all[k]? =some o:=⟨all[k],cqc aw⟩;have a9:all.drop k=o::all.drop (k+1):=by
   grind [List.drop_eq_getElem_cons,cqc]
  rw[a9] at hk;have ih:=EG h0 ah ab a6 (ro:=ro) (n:=n) hQ d (k+1) (listed.setIfInBounds k true);have a8:∀j,j<k+1→(listed.setIfInBounds k true).getD j false=true:=fun j hj=>by
   by_cases e:j=k
   ·simp_all
   ·rw[getD_set_ne false (Ne.symm e)];grind
  have a4:∀j,k+1≤j→(listed.setIfInBounds k true).getD j false=false:=fun j hj=>by
   rw[getD_set_ne false (by omega)];grind
  refine⟨fun aj=> ?_,fun i hi=> ?_⟩
  ·exfalso;have:k∈Region.ready .any all.toArray listed:=by
    rw[mem_ready];exact⟨by grind,o,by simp_all,fun e he am=>h1 e.on ((Yf ab _ o ho).before e he am)⟩
   simp_all
  ·rw[mem_ready] at hi;obtain⟨aq,o',a3,ag⟩:=hi;rw[cqi] at a3;have au:i<all.length:=(cqd.1 a3).1;rw[Vy true (by omega)] at aq
   have ar:i=k:=by
    rcases Nat.lt_trichotomy i k with b5 | ao | ap
    ·grind
    ·exact ao
    ·exfalso;have ae:Uj all fun q=>listed.getD q false || q==i:=fun q o2 aa a5 e he ad=>by
      by_cases hqi:q=i
      ·subst hqi;rw[a3] at aa;cases aa;simp only[ag e he ad,Bool.true_or]
      ·have ax:(q==i)=false:=by simpa using hqi
       have b6:q<k:=by
        rcases Nat.lt_or_ge q k with hl | hg
        ·exact hl
        ·have a5:(listed.getD q false || q==i)=true:=a5
         rw[h2 q hg,ax] at a5;cases a5
       have:=(Yf ab q o2 aa).before e he ad;simp only[h1 e.on (by omega),Bool.true_or]
     have:=VR ae i k (a6 i (by omega) au k ap) (by simp)
     grind
   subst ar;rw[ho] at a3;cases a3;simp only[wseq] at hk;split at hk
   ·rename_i a7;unfold wpOpIn;simp only[cqi,ho];split at hk
    ·rename_i hg;rw[if_pos (XQ hr hg)];exact It h0 ah hr a7 hk ro n _ _ fun a' w' m' H' s az an ak ay=>ih s a' w' m' H' (by omega) (by omega) (by simp[hs']) a8 a4 az (an.trans hd) (hb.trans ak) ay
    ·rename_i hg;rw[if_neg (by rw[XQ hr hg];simp)]
     exact⟨fun _ _=>trivial,ih _ _ w m H (by omega) (by omega) (by simp[hs']) a8 a4 hk ((Xw _ _ _).trans hd) hb (hr.putO a7 (.tup [] #[] rfl (fun j c v hj=>by simp at hj)))⟩
    ·cases hk
   ·cases hk
theorem O5(h0:ch0.Ok P gl)(b3:WF.Ok P gl wf){all:List Oper}(ae:Vm all=true){k d:Nat}{X L0:Nat→Bool}(ab:∀i,k<i→i<all.length→X i=false→L0 i=false→((Zx all []).getD i 0).testBit k=true){ro:Option Nat}{n:Nat}{d0:List Deferred}{w0:World}{K:St→Prop}{Q:Exit→Act→World→Prop}{listed:Array Bool}
  (hQ:∀(sF:St) (a:Act) (w:World) (m:Nat→Lc) (H:HV),(listed.setIfInBounds k true).size=all.length→(∀j,j<k+1→(listed.setIfInBounds k true).getD j false=true)→(∀j,k+1≤j→(listed.setIfInBounds k true).getD j false=L0 j)→K sF→a.defers=d0→Qa B w0 w→RelS m H B H0 gl rest sF a.tmps w→wpAnyIn (FW ro) n P .any all.toArray Q d (listed.setIfInBounds k true) a w)
  (ay:k<all.length) (ag:listed.size=all.length) (h1:∀j,j<k→listed.getD j false=true) (h2:∀j,k≤j→listed.getD j false=L0 j) (ax:L0 k=false) (bb:∀o,∀q,k≤q→all[q]? =some o→L0 q=true→∀e∈o.after,False) (hk:wseq P gl ch0 wf hs all ((all.drop k).take 1) st K) (hd:a.defers=d0) (hb:Qa B w0 w) (hr:RelS m H B H0 gl rest st a.tmps w):
  Region.ready .any all.toArray listed≠[]∧∀i∈Region.ready .any all.toArray listed,X i=false→wpOpIn (FW ro) n P all.toArray Q i (wpAnyIn (FW ro) n P .any all.toArray Q d (listed.setIfInBounds i true)) a w:=by
 obtain⟨o,ho⟩:∃o,all[k]? =some o:=⟨all[k],cqc ay⟩;have a8:all.drop k=o::all.drop (k+1):=by
  grind [List.drop_eq_getElem_cons,cqc]
 rw[a8] at hk;have a7:∀j,j<k+1→(listed.setIfInBounds k true).getD j false=true:=fun j hj=>by
  by_cases e:j=k
  ·simp_all
  ·rw[getD_set_ne false (Ne.symm e)];grind
 have a4:∀j,k+1≤j→(listed.setIfInBounds k true).getD j false=L0 j:=fun j hj=>by
  rw[getD_set_ne false (by omega)];grind
 refine⟨fun aj=> ?_,fun i hi hX=> ?_⟩
 ·have:k∈Region.ready .any all.toArray listed:=by
   rw[mem_ready];exact⟨by grind,o,by rw[cqi];exact ho,fun e he an=>h1 e.on ((Yf ae _ o ho).before e he an)⟩
  simp_all
 ·rw[mem_ready] at hi;obtain⟨a5,o',a3,af⟩:=hi;rw[cqi] at a3;have au:i<all.length:=(cqd.1 a3).1;rw[Vy true (by omega)] at a5
  have ar:i=k:=by
   rcases Nat.lt_trichotomy i k with az | ap | aq
   ·rw[h1 i az] at a5;cases a5
   ·exact ap
   ·exfalso;have ad:Uj all fun q=>listed.getD q false || q==i:=fun q o2 a9 b9 e he aa=>by
     by_cases hqi:q=i
     ·subst hqi;rw[a3] at a9;cases a9;simp only[af e he aa,Bool.true_or]
     ·have bc:(q==i)=false:=by simpa using hqi
      rcases Nat.lt_or_ge q k with hl | hg
      ·have:=(Yf ae q o2 a9).before e he aa;simp only[h1 e.on (by omega),Bool.true_or]
      grind
    have:=VR ad i k (ab i aq au hX ((h2 i (by omega)).symm.trans a5)) (by simp)
    have b0:(k==i)=false:=by simp;omega
    rw[b0,h2 k (Nat.le_refl _),ax] at this;cases this
  subst ar;rw[ho] at a3;cases a3;simp only[List.take_succ_cons,List.take_zero,wseq] at hk;split at hk
  ·rename_i a6;unfold wpOpIn;simp only[cqi,ho];split at hk
   ·rename_i hg;rw[if_pos (XQ hr hg)];exact It h0 b3 hr a6 hk ro n _ _ fun a' w' m' H' s b2 ao am b1=>hQ s a' w' m' H' (by simp[ag]) a7 a4 b2 (ao.trans hd) (hb.trans am) b1
   ·rename_i hg;rw[if_neg (by rw[XQ hr hg];simp)]
    exact⟨fun _ _=>trivial,hQ _ _ w m H (by simp[ag]) a7 a4 hk ((Xw _ _ _).trans hd) hb (hr.putO a6 (.tup [] #[] rfl (fun j c v hj=>by simp at hj)))⟩
   ·cases hk
  ·cases hk
theorem F7(h0:ch0.Ok P gl)(ap:WF.Ok P gl wf)(an:P.follows .mixedOrders=true){all:List Oper}(a4:Vm all=true){b:Nat}(am:B8 all b=true){ro:Option Nat}{n id:Nat}{K:St→Prop}{Q:Exit→Act→World→Prop}(hr:RelS m H B H0 gl rest st a.tmps w)
  (hk:Fs P gl ch0 hs all st.nx b (st.bump all.length) (fun s=>M8 hs (all.take b) s (fun s=>wseq P gl ch0 wf hs all ((all.drop b).take 1) s (fun s=>Bf P gl ch0 hs all st.nx (b+1) (QL all - (b+1)) s (fun s=>M8 hs ((all.take (QL all)).drop (b+1)) s (fun s=>wseq P gl ch0 wf hs all (all.drop (QL all)) s K))))))
  (hQ:∀(sF:St) (a':Act) (w':World) (m:Nat→Lc) (H:HV),K sF→a'.defers=a.defers→Qa B w w'→RelS m H B H0 gl rest sF a'.tmps w'→Q .normal a' w'):(Code.region id all.toArray true).wpIn (FW ro) n P Q a w:=by
 obtain⟨ba,ai,aw,ax⟩:=Q5e am;obtain⟨cb,F,s1,az,hk,ao,hF⟩:=Q17 h0 hk;obtain⟨bg,hk,ad⟩:=Nj (gl:=gl) hk;have a7:=(Dk (ms:=Zx all []) all.length).2;refine Ij az an a4 (id:=id) (nf:=b) (by omega) aw hr ao hF fun listed a' w' m' H' a8 a9 aa hd hb ab=> ?_
 rw[show all.length - b=(all.length - (b+1))+1 by omega]
 have a5:=O5 h0 ap a4 (d:=all.length - (b+1)) (ro:=ro) (n:=n) (Q:=Q) (X:=fun _=>false) (L0:=fun _=>false) (d0:=a.defers) (w0:=w) (fun i h1 h2 _ _=>ax i h1 h2 b (by omega)) (fun sF a2 w2 m2 H2 b3 af ag a3 b0 aj b1=> ?_) (by omega) a8 a9 aa rfl (fun o q _ _ h=>nomatch h) hk hd hb (ad.rel _ _ _ _ _ _ _ ab)
 ·exact⟨fun h=>absurd h a5.1,fun i hi=>a5.2 i hi rfl⟩
 obtain⟨b7,F2,s2,ak,a3,b2,ah⟩:=Qac h0 a3;obtain⟨b4,a3,a6⟩:=Nj (gl:=gl) a3;rw[show b+1+(QL all - (b+1))=QL all by omega] at ah
 have hp:=pendM (nf:=QL all) (lo:=b+1) (L:=fun j=>(listed.setIfInBounds b true).getD j false) (by omega) af ag
 have:=Ms (L0:=fun _=>false) (c:=all.length - QL all) (sF:=s2) (base:=st.nx) (lo:=b+1) (nf:=QL all) (ro:=ro) (n:=n) (d0:=a.defers) (w0:=w) (Q:=Q) ak a4 ah ai (fun i h1 h2 _ j hj=>a7 i h1 h2 j (by omega))
  (fun listed a' w' m' H' a8 a9 aa hd hb ab=>EG h0 ap a4 a7 (d0:=a.defers) (w0:=w) hQ _ (QL all) listed b4 a' w' m' H' (Nat.le_refl _) (Nat.add_sub_cancel' ai) a8 a9 aa a3 hd hb (a6.rel _ _ _ _ _ _ _ ab))
  (QL all - (b+1)) _ a2 w2 m2 H2 sF s2 b3 af (by simp_all) (fun j hj=>ag j (by omega)) (fun j o ho hL e he ay=>by
   have hj:j<b+1:=by
    grind
   have:=(Yf a4 j o ho).before e he ay
   grind) b0 aj b1 (by simp_all) (.refl _)
 rw[show QL all - (b+1)+(all.length - QL all)=all.length - (b+1) by omega] at this
 exact this
def Q15(P:Program)(gl:Nat→AV)(ch0:Qq)(wf:WF)(hs:QH)(all:List Oper)(base b:Nat)(l:List Nat)(s:St)(K:St→Prop):Prop:=
 M8 hs (all.take b) s (fun s=>wseq P gl ch0 wf hs all ((all.drop b).take 1) s (fun s=>IZ P gl ch0 hs all base l s (fun s=>M8 hs ((all.take (QL all)).drop (b+1)) s (fun s=>wseq P gl ch0 wf hs all (all.drop (QL all)) s K))))
def wflt(P:Program)(gl:Nat→AV)(ch0:Qq)(wf:WF)(hs:QH)(all:List Oper)(b f:Nat)(st:St)(K:St→Prop):Prop:=
 IZ P gl ch0 hs all st.nx (List.range b) (st.bump all.length) (fun s=>Both (Q15 P gl ch0 wf hs all st.nx b (List.range' (b+1) (QL all - (b+1))) s K)
  (IZ P gl ch0 hs all st.nx [f] s (fun s=>Q15 P gl ch0 wf hs all st.nx b ((List.range' (b+1) (QL all - (b+1))).filter fun j=> !Nat.beq j f) s K)))
theorem Q0f(h0:ch0.Ok P gl)(aj:WF.Ok P gl wf){all:List Oper}(a4:Vm all=true)(b0:mdR all=false){b d base:Nat}{X L0:Nat→Bool}{l:List Nat}(bb:b<QL all)(af:QL all≤all.length)(aq:∀i,b<i→i<all.length→X i=false→L0 i=false→((Zx all []).getD i 0).testBit b=true)(ad:L0 b=false)(ae:∀j,QL all≤j→L0 j=false)(ai:∀o,∀q,b≤q→all[q]? =some o→L0 q=true→∀e∈o.after,False)
  (hl:((List.range' (b+1) (QL all - (b+1))).filter fun j=> !L0 j)=l) (hd:d=l.length+(all.length - QL all)) {ro:Option Nat} {n:Nat} {d0:List Deferred} {w0:World} {K:St→Prop} {Q:Exit→Act→World→Prop} {listed:Array Bool}
  (hQ:∀(sF:St) (a':Act) (w':World) (m:Nat→Lc) (H:HV),K sF→a'.defers=d0→Qa B w0 w'→RelS m H B H0 gl rest sF a'.tmps w'→Q .normal a' w')
  (b4:listed.size=all.length) (h1:∀j,j<b→listed.getD j false=true) (h2:∀j,b≤j→listed.getD j false=L0 j) (hk:Q15 P gl ch0 wf hs all base b l st K) (aw:a.defers=d0) (hb:Qa B w0 w) (hr:RelS m H B H0 gl rest st a.tmps w):
  Region.ready .any all.toArray listed≠[]∧∀i∈Region.ready .any all.toArray listed,X i=false→wpOpIn (FW ro) n P all.toArray Q i (wpAnyIn (FW ro) n P .any all.toArray Q d (listed.setIfInBounds i true)) a w:=by
 obtain⟨bg,hk,a8⟩:=Nj (gl:=gl) hk;have a6:=(Dk (ms:=Zx all []) all.length).2;refine O5 h0 aj a4 (d:=d) (ro:=ro) (n:=n) (Q:=Q) (X:=X) (L0:=L0) (d0:=d0) (w0:=w0) aq (fun sF a2 w2 m2 H2 b5 aa ab a3 au ag b3=> ?_) (by omega) b4 h1 h2 ad ai hk aw hb (a8.rel _ _ _ _ _ _ _ hr)
 have b1:l.Nodup:=by grind [List.nodup_range']
 obtain⟨am,s2,ah,a3,a7⟩:=MH h0 (F:=fun _=>none) _ _ b1 a3
 obtain⟨b6,a3,a5⟩:=Nj (gl:=gl) a3;have hp:(pend (QL all) fun j=>(listed.setIfInBounds b true).getD j false)=l:=by
  rw[← hl];unfold pend;have e:List.range (QL all)=List.range (b+1)++List.range' (b+1) (QL all - (b+1)):=by
   have:=List.range'_append_1 (s:=0) (m:=b+1) (n:=QL all - (b+1));rw[Nat.zero_add,Nat.add_sub_cancel' (by omega)] at this
   simp_all [List.range_eq_range']
  rw[e,List.filter_append,List.filter_eq_nil_iff.2 (fun j hj=>by grind),List.nil_append]
  refine List.filter_congr fun j hj=> ?_
  simp_all
 have:=Ms (F:=fun _=>none) (L0:=fun _=>false) (c:=all.length - QL all) (sF:=s2) (base:=base) (lo:=b+1) (nf:=QL all) (ro:=ro) (n:=n) (d0:=d0) (w0:=w0) (Q:=Q) ah a4 (fun e=>by simp_all) af (fun i h1 h2 _ j hj=>a6 i h1 h2 j (by omega))
  (fun listed a' w' m' H' ax ay az hd hb b2=>EG h0 aj a4 a6 (d0:=d0) (w0:=w0) hQ _ (QL all) listed b6 a' w' m' H' (Nat.le_refl _) (Nat.add_sub_cancel' af) ax ay az a3 hd hb (a5.rel _ _ _ _ _ _ _ b2))
  l.length _ a2 w2 m2 H2 sF s2 b5 aa (by rw[hp]) (fun j hj=>by rw[ab j (by omega)];exact ae j hj) (fun j o ho hL e he ar=>by
   have:=(Yf a4 j o ho).before e he ar;rcases Nat.lt_or_ge j (b+1) with hx | hx
   ·exact aa e.on (by omega)
   ·have hL:(listed.setIfInBounds b true).getD j false=true:=hL;rw[ab j hx] at hL;exact(ai o j (by omega) ho hL e he).elim) au ag b3 (by rw[hp,b0];exact a7 am fun _ _=>rfl) (.refl _)
 simp_all
theorem F6(h0:ch0.Ok P gl)(aq:WF.Ok P gl wf)(am:P.follows .mixedOrders=true){all:List Oper}(ab:Vm all=true){b f:Nat}(ak:midF all b f=true){ro:Option Nat}{n id:Nat}{K:St→Prop}{Q:Exit→Act→World→Prop}(hr:RelS m H B H0 gl rest st a.tmps w)
  (hk:wflt P gl ch0 wf hs all b f st K)
  (hQ:∀(sF:St) (a':Act) (w':World) (m:Nat→Lc) (H:HV),K sF→a'.defers=a.defers→Qa B w w'→RelS m H B H0 gl rest sF a'.tmps w'→Q .normal a' w'):(Code.region id all.toArray true).wpIn (FW ro) n P Q a w:=by
 obtain⟨a4,aw,be,ap,bb,au,ai⟩:=Q73 ak;have bc:f<all.length:=by omega
 obtain⟨cb,s1,ax,⟨b3,a9⟩,ao⟩:=MH h0 (F:=fun _=>none) _ _ List.nodup_range hk
 obtain⟨cf,s2,ay,a9,af⟩:=MH h0 (F:=fun _=>none) _ _ (List.nodup_cons.2 ⟨List.not_mem_nil,List.nodup_nil⟩) a9
 refine wpIn_region_any am ?_;have hb:Below w.heap.size w {w with drawn:=w.drawn+1}:=⟨rfl,rfl,rfl,Nat.le_refl _,fun _ _=>rfl⟩
 have b4:RelS m H B H0 gl rest (st.bump all.length) a.tmps {w with drawn:=w.drawn+1}:=by
  have hh:=hr.heap.ext hb;exact⟨{hh with fresh:=fun id b0=>hh.fresh id (Nat.le_trans (Nat.le_add_right _ _) b0)},hr.size,hr.slot,hr.rest⟩
 let ch:Yr:=fun k=>if k=st.nx+f then cf k else cb k
 have az:ch.Ok P gl:=fun k=>by
  show HS P gl (if k=st.nx+f then cf k else cb k)
  split;·exact ay k
  ·exact ax k
 have a5:=ao ch fun i hi=>by
  grind
 have ae:=af ch fun i hi=>by
  grind
 have aa:((List.range' (b+1) (QL all - (b+1))).filter fun j=> !Nat.beq j f).length+(all.length - QL all)+1=all.length - (b+1):=by
  have b5:List.range' (b+1) (QL all - (b+1))=List.range' (b+1) (f - (b+1))++f::List.range' (f+1) (QL all - (f+1)):=by
   have h1:=List.range'_append_1 (s:=b+1) (m:=f - (b+1)) (n:=QL all - f);rw[Nat.add_sub_cancel' (by omega),show f - (b+1)+(QL all - f)=QL all - (b+1) by omega] at h1
   rw[← h1,show QL all - f=(QL all - (f+1))+1 by omega,List.range'_succ]
  have e1:∀j,j≠f→(!Nat.beq j f)=true:=fun j hj=>by grind [Rt]
  rw[b5,List.filter_append,List.filter_cons_of_neg (by simp),List.filter_eq_self.2 (fun j hj=>e1 j (by grind)),List.filter_eq_self.2 (fun j hj=>e1 j (by grind)),List.length_append,List.length_range',List.length_range']
  omega
 have:=Q8q (F:=fun _=>none) (base:=st.nx) (b:=b) (f:=f) (c:=all.length - (b+1)) (ro:=ro) (n:=n) (d0:=a.defers) (w0:=w) (sA:=s2) (sB:=s1) (Q:=Q) az ab a4 (by omega) aw au
  (fun listed a' w' m' H' ag h1 h2 hd a8 ad=>by
   have a3:=Q0f h0 aq ab a4 (X:=fun _=>false) (L0:=fun j=>j==f) (by omega) ap (fun i h1 h2 _ h3=>ai i h1 h2 (by simp_all)) (by simp;omega) (fun j hj=>by simp;omega) (fun o q _ ho hq e he=>by
    simp_all) (l:=(List.range' (b+1) (QL all - (b+1))).filter fun j=> !Nat.beq j f) (List.filter_congr fun j _=>by
     by_cases e:j=f;·subst e;simp
     simp_all [Rt]) rfl (ro:=ro) (n:=n) hQ ag h1 h2 a9 hd a8 ad
   rw[← aa];exact⟨fun h=>absurd h a3.1,fun i hi=>a3.2 i hi rfl⟩)
  (fun listed a' w' m' H' ag h1 h2 hd a8 ad=>by
   have a3:=Q0f h0 aq ab a4 (X:=fun j=>j==f) (L0:=fun _=>false) (d:=all.length - (b+1)) (by omega) ap (fun i h1 h2 h3 _=>ai i h1 h2 (by simpa using h3)) rfl (fun _ _=>rfl) (fun o q _ _ hq=>nomatch hq) (l:=List.range' (b+1) (QL all - (b+1))) (by rw[List.filter_eq_self];intro j _;rfl) (by grind) (ro:=ro) (n:=n) hQ ag h1 h2 b3 hd a8 ad
   exact⟨a3.1,fun i hi b1=>a3.2 i hi (by simpa using b1)⟩)
  b (Array.replicate all.toArray.size false) a _ m H (st.bump all.length) s1 s2 (by simp) (by rw[CC,List.length_range]) (fun j _=>Ct j) (fun j o ho hL=>by have hL:(Array.replicate all.toArray.size false).getD j false=true:=hL;rw[Ct] at hL;cases hL) rfl (Qa.of hb hr.heap.low) b4 (by rw[CC,a4];exact a5) (.refl _) (by rw[CC,a4,Di,a5];exact ae) (.refl _)
 grind
theorem Q4h(h0:ch0.Ok P gl)(a5:WF.Ok P gl wf){all:List Oper}{ro:Option Nat}{n:Nat}{d0:List Deferred}{w0:World}{K:St→Prop}{Q:Exit→Act→World→Prop}
  (hQ:∀(sF:St) (a:Act) (w:World) (m:Nat→Lc) (H:HV),K sF→a.defers=d0→Qa B w0 w→RelS m H B H0 gl rest sF a.tmps w→Q .normal a w):
  ∀(a3 l:List Oper) (st:St) (a:Act) (w:World) (m:Nat→Lc) (H:HV),all=a3++l→wseq P gl ch0 wf hs all l st K→a.defers=d0→Qa B w0 w→RelS m H B H0 gl rest st a.tmps w→wpOpsIn (FW ro) n P all.toArray Q (List.range' a3.length l.length) a w
 |a3,[],st,a,w,m,H,_,hk,hd,hb,hr=>hQ st a w m H hk hd hb hr
 |a3,o::l,st,a,w,m,H,he,hk,hd,hb,hr=>by
  simp only[List.length_cons,List.range'_succ,wpOpsIn];have ho:all.toArray[a3.length]? =some o:=by simp_all
  simp only[ho];have ih:=Q4h h0 a5 (all:=all) (ro:=ro) (n:=n) hQ (a3++[o]) l;simp only[List.length_append,List.length_cons,List.length_nil,Nat.zero_add,List.append_assoc,List.singleton_append] at ih;simp only[wseq] at hk;split at hk
  ·rename_i a4;split at hk
   ·rename_i hg;rw[if_pos (XQ hr hg)];exact It h0 a5 hr a4 hk ro n _ _ fun a' w' m' H' s hs a7 a6 a8=>ih s a' w' m' H' he hs (a7.trans hd) (hb.trans a6) a8
   ·rename_i hg;rw[if_neg (by grind [XQ])]
    exact⟨fun _ _=>trivial,ih _ _ w m H he hk ((Xw _ _ _).trans hd) hb (hr.putO a4 (.tup [] #[] rfl (fun j c v hj=>by simp at hj)))⟩
   ·cases hk
  ·cases hk
def memN(i:Nat):List Nat→Bool
 | []=>false
 |j::l=>Nat.beq j i || memN i l
def edOk(L:List Nat):List Edge→Bool
 | []=>true
 |e::l=>(!Region.binds .any e || memN e.on L)&&edOk L l
def rdyL(all:List Oper)(L:List Nat):List Nat:=(List.range all.length).filter fun i=>match memN i L with
 |true=>false
 |false=>match all[i]? with
  |some o=>edOk L o.after.toList
  |none=>false
def wBoth:List Prop→Prop
 | []=>True
 |p::l=>match l with
  | []=>p
  |_::_=>Both p (wBoth l)
def wany(P:Program)(gl:Nat→AV)(ch0:Qq)(wf:WF)(hs:QH)(all:List Oper):Nat→List Nat→St→(St→Prop)→Prop
 |0,L,st,K=>match rdyL all L with
  | []=>K st
  |_::_=>False
 |d+1,L,st,K=>match rdyL all L with
  | []=>K st
  |i::l=>wBoth ((i::l).map fun i=>match all[i]? with
   |some o=>wseq P gl ch0 wf hs all [o] st (fun s=>wany P gl ch0 wf hs all d (i::L) s K)
   |none=>False)
theorem SR{L:List Nat}:∀ {l:List Edge},edOk L l=true↔∀e∈l,Region.binds .any e=true→memN e.on L=true
 | []=>by simp[edOk]
 |e::l=>by
  rw[edOk,cqb,SR (l:=l)];simp only[List.mem_cons,forall_eq_or_imp];refine and_congr ?_ Iff.rfl;cases Region.binds .any e<;>simp
theorem O4:∀ {l:List Prop},wBoth l→∀p∈l,p
 | [],_,p,hp=>by simp at hp
 | [q],h,p,hp=>by rw[List.mem_singleton] at hp;subst hp;exact h
 |q::r::l,h,p,hp=>by
  rcases List.mem_cons.1 hp with rfl | hp
  ·exact h.a
  ·exact O4 (l:=r::l) h.b p hp
theorem A7{all:List Oper}{L:List Nat}{listed:Array Bool}(hs:listed.size=all.length)(hl:∀j,listed.getD j false=memN j L){i:Nat}:i∈Region.ready .any all.toArray listed↔i∈rdyL all L:=by
 rw[mem_ready,rdyL,List.mem_filter,List.mem_range,cqi];constructor
 ·rintro⟨h1,o,ho,h2⟩;have a3:i<all.length:=(cqd.1 ho).1;rw[Vy true (by omega),hl] at h1
  refine⟨a3,?_⟩;simp only[h1,ho];exact SR.2 fun e he hb=>by rw[← hl];exact h2 e (by simpa using he) hb
 ·rintro⟨a3,h⟩;split at h;·cases h
  ·rename_i h1;split at h
   ·rename_i o ho;exact⟨by rw[Vy true (by omega),hl];exact h1,o,ho,fun e he hb=>by rw[hl];exact SR.1 h e (by simpa using he) hb⟩
   ·cases h
theorem Pt(h0:ch0.Ok P gl)(a7:WF.Ok P gl wf){all:List Oper}{ro:Option Nat}{n:Nat}{d0:List Deferred}{w0:World}{K:St→Prop}{Q:Exit→Act→World→Prop}
  (hQ:∀(sF:St) (a:Act) (w:World) (m:Nat→Lc) (H:HV),K sF→a.defers=d0→Qa B w0 w→RelS m H B H0 gl rest sF a.tmps w→Q .normal a w):
  ∀(d:Nat) (L:List Nat) (listed:Array Bool) (st:St) (a:Act) (w:World) (m:Nat→Lc) (H:HV),listed.size=all.length→(∀j,listed.getD j false=memN j L)→wany P gl ch0 wf hs all d L st K→a.defers=d0→Qa B w0 w→RelS m H B H0 gl rest st a.tmps w→wpAnyIn (FW ro) n P .any all.toArray Q d listed a w
 |0,L,listed,st,a,w,m,H,hs',hl,hk,hd,hb,hr=>by
  rw[wany] at hk;split at hk
  ·rename_i he;refine⟨List.eq_nil_iff_forall_not_mem.2 fun i hi=> ?_,hQ st a w m H hk hd hb hr⟩
   rw[A7 hs' hl,he] at hi;cases hi
  ·cases hk
 |d+1,L,listed,st,a,w,m,H,hs',hl,hk,hd,hb,hr=>by
  rw[wany] at hk;refine⟨fun he=> ?_,fun i hi=> ?_⟩
  ·split at hk;·exact hQ st a w m H hk hd hb hr
   ·rename_i i l a3;have:i∈Region.ready .any all.toArray listed:=(A7 hs' hl).2 (by rw[a3];simp)
    rw[he] at this;cases this
  ·have a4:=(A7 hs' hl).1 hi;split at hk;·rename_i a3;rw[a3] at a4;cases a4
   ·rename_i i0 l0 a3;rw[a3] at a4;have hk:=O4 hk _ (List.mem_map.2 ⟨i,a4,rfl⟩);split at hk
    ·rename_i o ho;have a6:∀j,(listed.setIfInBounds i true).getD j false=memN j (i::L):=fun j=>by
      rw[memN];by_cases e:j=i
      ·subst e;have aj:j<all.length:=(cqd.1 ho).1;rw[show Nat.beq j j=true from Nat.beq_refl j,Bool.true_or];simp[cqj,show j<listed.size by omega]
      ·rw[getD_set_ne false (Ne.symm e),hl,show Nat.beq i j=false from Rt (Ne.symm e),Bool.false_or]
     simp only[wseq] at hk;split at hk
     ·rename_i a5;unfold wpOpIn;simp only[cqi,ho];split at hk
      ·rename_i hg;rw[if_pos (XQ hr hg)];exact It h0 a7 hr a5 hk ro n _ _ fun a' w' m' H' s ag ad ab af=>Pt h0 a7 hQ d (i::L) _ s a' w' m' H' (by simp[hs']) a6 ag (ad.trans hd) (hb.trans ab) af
      ·rename_i hg;rw[if_neg (by rw[XQ hr hg];simp)]
       exact⟨fun _ _=>trivial,Pt h0 a7 hQ d (i::L) _ _ _ w m H (by simp[hs']) a6 hk ((Xw _ _ _).trans hd) hb (hr.putO a5 (.tup [] #[] rfl (fun j c v hj=>by simp at hj)))⟩
      ·cases hk
     ·cases hk
    ·cases hk
theorem F4(h0:ch0.Ok P gl)(a6:WF.Ok P gl wf)(a3:P.follows .mixedOrders=true){all:List Oper}{ro:Option Nat}{n id:Nat}{K:St→Prop}{Q:Exit→Act→World→Prop}(hr:RelS m H B H0 gl rest st a.tmps w)
  (hk:wany P gl ch0 wf hs all all.length [] st K)
  (hQ:∀(sF:St) (a':Act) (w':World) (m:Nat→Lc) (H:HV),K sF→a'.defers=a.defers→Qa B w w'→RelS m H B H0 gl rest sF a'.tmps w'→Q .normal a' w'):(Code.region id all.toArray true).wpIn (FW ro) n P Q a w:=by
 refine wpIn_region_any a3 ?_;have hb:Below w.heap.size w {w with drawn:=w.drawn+1}:=⟨rfl,rfl,rfl,Nat.le_refl _,fun _ _=>rfl⟩
 have:=Pt (ro:=ro) (n:=n) (d0:=a.defers) (w0:=w) (Q:=Q) h0 a6 hQ all.length [] (Array.replicate all.toArray.size false) st a {w with drawn:=w.drawn+1} m H (by simp) (fun j=>by rw[Ct];rfl) hk rfl (Qa.of hb hr.heap.low) ⟨hr.heap.ext hb,hr.size,hr.slot,hr.rest⟩
 simpa using this
end
inductive LeVs:List AV→List AV→Prop
 |nil:LeVs [] []
 |cons {x t:AV} {xs ts:List AV}:LeV x t→LeVs xs ts→LeVs (x::xs) (t::ts)
theorem LeV.refl(x:AV):LeV x x:=⟨fun _ _ _ h=>h⟩
theorem LeV.of_eq{x t:AV}(h:x=t):LeV x t:=h▸ .refl x
theorem LeV.undef(x:AV):LeV x .undef:=⟨fun _ _ _ _=>.imm _ _ (.undef _)⟩
theorem LeVs.refl:∀(xs:List AV),LeVs xs xs
 | []=>.nil
 |x::xs=>.cons (.refl x) (LeVs.refl xs)
theorem LeVs.get:∀ {xs ts:List AV},LeVs xs ts→xs.length=ts.length∧∀(j:Nat) (t:AV),ts[j]? =some t→∃x,xs[j]? =some x∧LeV x t
 |_,_,.nil=>⟨rfl,fun j t h=>by simp at h⟩
 |_,_,.cons h r=>⟨by simp[r.get.1],fun j t' hj=>by
  cases j with
  |zero=>simp at hj;subst hj;exact⟨_,rfl,h⟩
  |succ j=>simpa using r.get.2 j t' (by simpa using hj)⟩
theorem LeV.nil(sz:Nat):LeV .nil (.sl sz []):=⟨fun H E v h=>by rw[h.nil_inv];exact .imm _ _ (.sl0 _ _ _ (Nat.zero_le _))⟩
theorem LeV.agg{xs ts:List AV}(h:LeVs xs ts):LeV (.agg xs) (.agg ts):=⟨fun H E v hv=>by
 obtain⟨h1,h2⟩:=h.get;obtain⟨vs,rfl,a,b,c⟩:=hv.agg_inv;exact .agg _ vs (by rw[← h1];exact a) b fun j t u hj hu=>by
  obtain⟨x,hx,a3⟩:=h2 j t hj;exact a3.ok H E u (c j x u hx hu)⟩
inductive LeEs:List AV→List AV→Prop
 |nil:LeEs [] []
 |cons {x t:AV} {xs ts:List AV}:LeL x.cells t.cells→LeEs xs ts→LeEs (x::xs) (t::ts)
theorem LeEs.get:∀ {xs ts:List AV},LeEs xs ts→xs.length=ts.length∧∀(j:Nat) (t:AV),ts[j]? =some t→∃x,xs[j]? =some x∧LeL x.cells t.cells
 |_,_,.nil=>⟨rfl,fun j t h=>by simp at h⟩
 |_,_,.cons h r=>⟨by simp[r.get.1],fun j t' hj=>by
  cases j with
  |zero=>simp at hj;subst hj;exact⟨_,rfl,h⟩
  |succ j=>simpa using r.get.2 j t' (by simpa using hj)⟩
theorem LeT.sl{sz:Nat}{xs ts:List AV}(h:LeEs xs ts):LeT (.sl sz xs) (.sl sz ts):=⟨fun H v hv=>by
 obtain⟨h1,h2⟩:=h.get;cases hv with
 |sl0 _ a cap hc=>
  have:ts=[]:=cqn (by rw[← h1];rfl)
  subst this;exact .sl0 _ _ _ hc
 |sl _ _ b o cap val a0 a1 a2 a3 a4 a5=>
  rw[h1] at a1 ⊢;refine .sl sz ts b o cap val a0 a1 a2 (fun i t ht=> ?_) (fun i t j c ht hc=> ?_) (fun i t j c ht hc=> ?_)
  ·obtain⟨x,hx,hl⟩:=h2 i t ht;rw[← hl.get.1];exact a3 i x hx
  ·obtain⟨x,hx,hl⟩:=h2 i t ht;obtain⟨c',a6,_⟩:=hl.get.2 j c hc;exact a4 i x j c' hx a6
  ·obtain⟨x,hx,hl⟩:=h2 i t ht;obtain⟨c',a6,ae⟩:=hl.get.2 j c hc;exact ae.ok _ _ (a5 i x j c' hx a6)⟩
theorem LeV.sl{sz:Nat}{xs ts:List AV}(h:LeEs xs ts):LeV (.sl sz xs) (.sl sz ts):=⟨fun H E v hv=>.imm _ _ ((LeT.sl h).ok H v hv.sl_inv)⟩
theorem LeEs.flat:∀ {xs ts:List AV},LeEs xs ts→LeL (xs.flatMap AV.cells) (ts.flatMap AV.cells)
 |_,_,.nil=>.nil
 |_,_,.cons (x:=x) (t:=t) h r=>by
  simp only[List.flatMap_cons];have:=r.flat;revert h;generalize x.cells=a;generalize t.cells=b;intro h
  induction h with
  |nil=>exact this
  |cons h _ ih=>exact .cons h ih
inductive LeB:Box→Box→Prop
 |refl (b:Box):LeB b b
 |cells (v:Nat) {cs ts:List AV}:LeVs cs ts→LeB (.cells v cs) (.cells v ts)
 |own (v sz:Nat) {xs ts:List AV}:LeEs xs ts→LeB (.own v sz xs) (.own v sz ts)
 |hol (v sz:Nat) (xs:List AV) (i c:Nat) {r t:AV}:LeV r t→LeB (.hol v sz xs i c r) (.hol v sz xs i c t)
inductive LeBs:List Box→List Box→Prop
 |nil:LeBs [] []
 |cons {x t:Box} {xs ts:List Box}:LeB x t→LeBs xs ts→LeBs (x::xs) (t::ts)
theorem LeBs.refl:∀(xs:List Box),LeBs xs xs
 | []=>.nil
 |x::xs=>.cons (.refl x) (LeBs.refl xs)
theorem LeBs.get:∀ {xs ts:List Box},LeBs xs ts→xs.length=ts.length∧∀(j:Nat) (t:Box),ts[j]? =some t→∃x,xs[j]? =some x∧LeB x t
 |_,_,.nil=>⟨rfl,fun j t h=>by simp at h⟩
 |_,_,.cons h r=>⟨by simp[r.get.1],fun j t' hj=>by
  cases j with
  |zero=>simp at hj;subst hj;exact⟨_,rfl,h⟩
  |succ j=>simpa using r.get.2 j t' (by simpa using hj)⟩
theorem LeB.ver{b t:Box}(h:LeB b t):b.ver? =t.ver? ∧(∀l,Real t l↔Real b l):=by
 cases h with
 |refl=>exact⟨rfl,fun _=>Iff.rfl⟩
 |cells v h=>exact⟨rfl,fun _=>Iff.rfl⟩
 |own v sz h=>exact⟨rfl,fun _=>Iff.rfl⟩
 |hol v sz xs i c h=>exact⟨rfl,fun _=>Iff.rfl⟩
theorem LeB.ok{b t:Box}(h:LeB b t){H:HV}{E:Env}{l:Lc}{w:World}(hb:Yq H E b l w):Yq H E t l w:=by
 cases h with
 |refl=>exact hb
 |cells v h=>
  obtain⟨h1,h2⟩:=h.get;obtain⟨C,e,c1,c2,c3,c4⟩:=hb;refine⟨C,e,c1,c2,by rw[← h1];exact c3,fun j t ht=> ?_⟩
  obtain⟨x,hx,a4⟩:=h2 j t ht;obtain⟨u,a1,a2,a3⟩:=c4 j x hx;exact⟨u,a1,a2,a4.ok _ _ _ a3⟩
 |own v sz h=>
  obtain⟨h1,h2⟩:=h.get;obtain⟨h3,h4⟩:=h.flat.get;obtain⟨a0,a1,a2⟩:=hb;refine⟨a0,fun t ht=> ?_,?_⟩
  ·obtain⟨j,hj⟩:=List.getElem?_of_mem ht;obtain⟨x,hx,hl⟩:=h2 j t hj;rw[← hl.get.1];exact a1 x (cqr hx)
  ·rcases a2 with⟨b0,b1⟩ | ⟨b0,C,e,c1,c2,c3,c4⟩
   ·subst b1;exact .inl ⟨b0,cqn (by rw[← h1];rfl)⟩
   ·refine .inr ⟨b0,C,e,c1,c2,by rw[← h3];exact c3,fun j c hj=> ?_⟩
    obtain⟨x,hx,a4⟩:=h4 j c hj;obtain⟨u,d1,d2,d3⟩:=c4 j x hx;exact⟨u,d1,d2,a4.ok _ _ d3⟩
 |hol v sz xs i c h=>
  obtain⟨d1,d2,d3,d4,d5,C,e,c1,c2,c3,c4,u,b1,b2,b3⟩:=hb;exact⟨d1,d2,d3,d4,d5,C,e,c1,c2,c3,c4,u,b1,b2,h.ok _ _ _ b3⟩
def HpLe(hp hp':Hp):Prop:=∀id,(hp id=none∧hp' id=none)∨∃b t,hp id=some b∧hp' id=some t∧LeB b t
theorem HpLe.inv{hp hp':Hp}(h:HpLe hp hp'){id:Nat}{t:Box}(ht:hp' id=some t):∃b,hp id=some b∧LeB b t:=by
 rcases h id with⟨_,h2⟩ | ⟨b,t',h1,h2,h3⟩
 ·rw[ht] at h2;cases h2
 ·rw[ht] at h2;cases h2;exact⟨b,h1,h3⟩
theorem LeB.lp{b t:Box}(h:LeB b t){m:Nat→Lc}{hp hp':Hp}{id:Nat}(h1:hp id=some b)(h2:hp' id=some t):(Q6 hp m).lp id=(Q6 hp' m).lp id:=by
 cases h with
 |refl=>simp only[Q6,h1,h2]
 |cells v h=>simp only[Q6,h1,h2]
 |own v sz h=>simp only[Q6,h1,h2]
 |hol v sz xs i c h=>simp only[Q6,h1,h2]
theorem HpLe.env{hp hp':Hp}(h:HpLe hp hp')(m:Nat→Lc):Env.le (Q6 hp m) (Q6 hp' m):=by
 refine⟨fun id ver ⟨b,h1,h2⟩=> ?_,fun id ver l _ hl=> ?_,fun id l hl=> ?_⟩
 ·rcases h id with⟨h3,_⟩ | ⟨b',t,h3,h4,h5⟩
  ·rw[h1] at h3;cases h3
  ·rw[h1] at h3;cases h3;exact⟨t,h4,fun v hv=>h2 v (by rw[h5.ver.1];exact hv)⟩
 ·rcases h id with⟨_,h4⟩ | ⟨b',t,h3,h4,h5⟩
  ·simp only[Q6,h4] at hl;cases hl
  ·simp only[Q6,h4] at hl;simp only[Q6,h3,h5.ver.1];exact hl
 ·rcases h id with⟨h3,_⟩ | ⟨b',t,h3,h4,h5⟩
  ·simp only[Q6,h3] at hl;cases hl
  ·rw[← h5.lp h3 h4];exact hl
section
variable {m : Nat → Lc} {H : HV} {B : Nat → Prop} {H0 : HV} {gl : Nat → AV} {w : World}
theorem RelH.le{hp hp':Hp}{nx:Nat}(h:RelH m H B H0 gl hp nx w)(a3:HpLe hp hp')(a8:∀id v cs,hp' id=some (.cells v cs)→∃a5,hp id=some (.cells v a5)):RelH m H B H0 gl hp' nx w where
 sat:=h.sat
 old:=h.old
 low:=h.low
 fresh id hid:=by
  rcases a3 id with⟨_,h2⟩ | ⟨b,t,h1,h2,_⟩
  ·exact h2
  ·rw[h.fresh id hid] at h1;cases h1
 box id t ht:=by
  obtain⟨b,hb,a4⟩:=a3.inv ht;exact a4.ok ((h.box id b hb).mono (.refl _) (a3.env m) rfl)
 sepR id t ht hr:=by
  obtain⟨b,hb,a4⟩:=a3.inv ht;exact h.sepR id b hb ((a4.ver.2 _).1 hr)
 injR i j b1 b2 h1 h2 r1 r2 he:=by
  obtain⟨c1,e1,l1⟩:=a3.inv h1;obtain⟨c2,e2,l2⟩:=a3.inv h2;exact h.injR i j c1 c2 e1 e2 ((l1.ver.2 _).1 r1) ((l2.ver.2 _).1 r2) he
 gv:=h.gv
 gl:=h.gl
 ty id v cs hid:=by
  obtain⟨a5,h0⟩:=a8 id v cs hid;exact h.ty id v a5 h0
theorem LeB.cellsInv{b:Box}{v:Nat}{cs:List AV}(h:LeB b (.cells v cs)):∃a3,b= .cells v a3:=by
 cases h with
 |refl=>exact⟨_,rfl⟩
 |cells _ _=>exact⟨_,rfl⟩
theorem LeBs.hp{bs a3:List Box}(h:LeBs bs a3):HpLe (lkb (hpOf 0 bs)) (lkb (hpOf 0 a3)):=fun id=>by
 obtain⟨h1,h2⟩:=h.get;rw[Nf,Nf];simp only[Nat.zero_le,if_true,Nat.sub_zero];cases ht:a3[id]? with
 |none=>
  rw[List.getElem?_eq_none_iff] at ht;exact .inl ⟨by rw[List.getElem?_eq_none_iff];omega,rfl⟩
 |some t=>
  obtain⟨b,hb,a4⟩:=h2 id t ht;exact .inr ⟨b,t,hb,rfl,a4⟩
theorem RelH.leBs{bs a3:List Box}{nx:Nat}(h:RelH m H B H0 gl (lkb (hpOf 0 bs)) nx w)(a4:LeBs bs a3):RelH m H B H0 gl (lkb (hpOf 0 a3)) nx w:=
 h.le a4.hp fun id v cs a6=>by
  obtain⟨b,hb,hl⟩:=a4.hp.inv a6;obtain⟨a5,rfl⟩:=hl.cellsInv;exact⟨a5,hb⟩
theorem LeBs.pins:∀ {bs a3:List Box},LeBs bs a3→∀j,KH j bs=KH j a3
 |_,_,.nil,_=>rfl
 |_,_,.cons (x:=x) (t:=t) h r,j=>by
  have ih:=r.pins (j+1);cases h with
  |refl=>cases x<;>simp only[KH,ih]
  |cells v h=>simp only[KH,ih]
  |own v sz h=>simp only[KH,ih]
  |hol v sz xs i c h=>simp only[KH,ih]
theorem Q40:∀ {ks:List Nat} {vs a3:List AV},LeVs vs a3→∀k,LeV (lk .undef (slOf ks vs) k) (lk .undef (slOf ks a3) k)
 | [],vs,a3,h,k=>by
  cases vs<;>cases a3<;>exact .refl _
 |a::ks,_,_,.nil,k=>.refl _
 |a::ks,_,_,.cons h r,k=>by
  simp only[slOf];rw[UX,UX];by_cases e:a=k;·rw[if_pos e,if_pos e];exact h
  ·rw[if_neg e,if_neg e];exact Q40 r k
theorem Cu{n:Nat}{ks:List Nat}{vs a4:List AV}{bs a3:List Box}(hv:LeVs vs a4)(hb:LeBs bs a3):Conv gl (ZX n ks vs bs) (ZX n ks a4 a3):=⟨rfl,fun m H B H0 rest tmps w h=>by
 have hE:=hb.hp.env m;refine⟨m,H,?_,h.size,fun k=> ?_,fun p hp=>(h.rest p hp).mono (.refl _) hE⟩
 ·have:=h.heap.leBs hb;show RelH m H B H0 gl (lkb (hpOf 0 a3)) a3.length w;rw[← hb.get.1];exact this
 ·exact((Q40 hv k).ok _ _ _ (h.slot k)).mono (.refl _) hE⟩
end
theorem PuH.le{P:Program}{gl:Nat→AV}{f:Nat}{args a3:List AV}{bs a5 bt a6:List Box}{r r':AV}(h:PuH P gl f a3 a5 r bt)(ha:LeVs args a3)(hb:LeBs bs a5)(hr:LeV r r')(ht:LeBs bt a6):PuH P gl f args bs r' a6:=⟨fun m H B H0 rest w vs hh hl hv a4 a9=>by
 have hE:=hb.hp.env m;obtain⟨h1,h2⟩:=ha.get;refine(h.ok m H B H0 rest w vs (by rw[← hb.get.1];exact hh.leBs hb) (by rw[← h1];exact hl) (fun j x v hx ab=> ?_) (by rw[a4,hb.pins]) (fun p hp=>(a9 p hp).mono (.refl _) hE)).mono fun e w' ⟨v,m',H',a,b,c,d,g⟩=> ?_
 ·obtain⟨y,hy,a8⟩:=h2 j x hx;exact(a8.ok _ _ _ (hv j y v hy ab)).mono (.refl _) hE
 ·have a7:=ht.hp.env m';exact⟨v,m',H',a,b,by rw[← ht.get.1];exact c.leBs ht,(hr.ok _ _ _ d).mono (.refl _) a7,fun p hp=>(g p hp).mono (.refl _) a7⟩⟩
def BO(O:Nat→Prop)(w:World):Nat→Prop:=fun b=>b<w.heap.size∧¬O b
def Ez(O:Nat→Prop)(w w':World):Nat→Prop:=fun b=>O b∨(w.heap.size≤b∧b<w'.heap.size)
def unH(Hc H:HV):HV:=fun b o=>match Hc b o with
 |some v=>some v
 |none=>H b o
def Tj(O:Nat→Prop)(H:HV):Nat→Prop:=fun b=>O b∧∀o,H b o=none
abbrev JT:=Option Nat→(Nat→Prop)→HV→World→Prop
structure JOk (P:Program) (gl:Nat→AV) (l:Nat) (xs:List (List AV)) (J:JT):Prop where
 sat:∀p O Hc w,J p O Hc w→HV.sat Hc w
 low:∀p O Hc w,J p O Hc w→∀b,O b→b<w.heap.size
 dis:∀p O Hc w,J p O Hc w→∀b,O b→∀o,Hc b o=none
 gls:∀p O Hc w,J p O Hc w→∀g,RelI Hc (gl g) (.pointer (some ⟨g,0,none⟩))
 gv:∀p O Hc w,J p O Hc w→GvOk gl (BO O w) w
 own:∀p O Hc w w',J p O Hc w→Qa (BO O w) w w'→J p (Ez O w w') Hc w'
 pub:∀p O Hc w H,J p O Hc w→HV.sat H w→(∀b o v,H b o=some v→O b∨Hc b o=some v)→J p (Tj O H) (unH Hc H) w
 round:∀k O Hc w x (vs:Array Value),J (some k) O Hc w→xs[k]? =some x→x.length=vs.size→(∀(j:Nat) (c:AV) (v:Value),x[j]? =some c→vs[j]? =some v→RelI Hc c v)→
  ∃fn tmps azz bd,(Instr.yield l vs).run P w= .ok (.round l fn tmps azz bd) w∧∀ro n,RoundIn (FW ro) n P l fn tmps azz bd w fun e w'=>∃b,e= .returned (.bool b)∧Qa O w w'∧J (if b then some (k+1) else none) O Hc w'
structure ItOk (P:Program) (gl:Nat→AV) (f:Nat) (caps:List AV) (xs:List (List AV)):Prop where
 ok:∀l J,JOk P gl l xs J→∀Hc w (us:Array Value),J (some 0) (fun _=>False) Hc w→caps.length=us.size→(∀(j:Nat) (c:AV) (v:Value),caps[j]? =some c→us[j]? =some v→RelI Hc c v)→
  Calls P f (#[.func (.yield l) #[] #[]]++us) w fun e w'=>∃v p' O' Hc',e= .returned v∧(p'=some xs.length∨p'=none)∧J p' O' Hc' w'
section
variable {m : Nat → Lc} {H : HV} {B : Nat → Prop} {H0 : HV} {gl : Nat → AV} {hp : Nat → Option Box} {nx : Nat} {w : World} {rest : List (AV × Value)} {st : St} {tmps : Array Value}
theorem Tz{Hc H:HV}:HV.le Hc (unH Hc H):=fun b o v h=>by simp[unH,h]
theorem Bd{Hc H:HV}{b o:Nat}{v:Value}(h:unH Hc H b o=some v):Hc b o=some v∨(Hc b o=none∧H b o=some v):=by
 unfold unH at h;split at h;·rename_i h1;cases h;exact .inl h1
 ·rename_i h1;exact .inr ⟨h1,h⟩
theorem unH_sat{Hc H:HV}(h1:HV.sat Hc w)(h2:HV.sat H w):HV.sat (unH Hc H) w:=fun b o v h=>by
 rcases Bd h with h | ⟨_,h⟩
 ·exact h1 b o v h
 ·exact h2 b o v h
theorem unH_le{Hc H:HV}(h1:HV.sat Hc w)(h2:HV.sat H w):HV.le H (unH Hc H):=fun b o v h=>by
 unfold unH;split
 ·rename_i u hu;have e1:=h1 b o u hu;have e2:=h2 b o v h;rw[e1] at e2;exact e2
 ·exact h
theorem Qa.cell{B:Nat→Prop}{w w':World}(h:Qa B w w'){b o:Nat}(hb:B b):w'.cell? ⟨b,o,none⟩=w.cell? ⟨b,o,none⟩:=by
 unfold World.cell?;rw[h.block b hb]
theorem RelH.base(h:RelH m H B H0 gl hp nx w){B':Nat→Prop}{H0':HV}(old:∀b o,B' b→H b o=H0' b o)(low:∀b,B' b→b<w.heap.size)(sep:∀id b,hp id=some b→Real b (m id)→¬B' (m id).g)(gv:GvOk gl B' w):RelH m H B' H0' gl hp nx w where
 sat:=h.sat
 old:=old
 low:=low
 fresh:=h.fresh
 box:=h.box
 sepR id b hid hr:=⟨sep id b hid hr,(h.sepR id b hid hr).2⟩
 injR:=h.injR
 gv:=gv
 gl:=h.gl
 ty:=h.ty
theorem RelS.base(h:RelS m H B H0 gl rest st tmps w){B':Nat→Prop}{H0':HV}(old:∀b o,B' b→H b o=H0' b o)(low:∀b,B' b→b<w.heap.size)(sep:∀id b,lkb st.hp id=some b→Real b (m id)→¬B' (m id).g)(gv:GvOk gl B' w):RelS m H B' H0' gl rest st tmps w:=
 ⟨h.heap.base old low sep gv,h.size,h.slot,h.rest⟩
theorem RelS.down(h:RelS m H B H0 gl rest st tmps w){B':Nat→Prop}{H0':HV}(hs:∀b,B' b→B b)(ho:∀b o,B' b→H0 b o=H0' b o)(gv:GvOk gl B' w):RelS m H B' H0' gl rest st tmps w:=
 h.base (fun b o hb=>(h.heap.old b o (hs b hb)).trans (ho b o hb)) (fun b hb=>h.heap.low b (hs b hb)) (fun id b a3 hr hb=>(h.heap.sepR id b a3 hr).1 (hs _ hb)) gv
theorem RelS.know(h:RelS m H B H0 gl rest st tmps w){H':HV}{H0':HV}(a4:HV.le H H')(sat:HV.sat H' w)(old:∀b o,B b→H' b o=H0' b o)(sep:∀id b,lkb st.hp id=some b→Real b (m id)→∀o,H' (m id).g o=none):RelS m H' B H0' gl rest st tmps w:=
 ⟨{sat:=sat,old:=old,low:=h.heap.low,fresh:=h.heap.fresh,box:=(fun id b a3=>(h.heap.box id b a3).mono' a4 (.refl _) fun _=>rfl),sepR:=(fun id b a3 hr=>⟨(h.heap.sepR id b a3 hr).1,(h.heap.sepR id b a3 hr).2.1,sep id b a3 hr⟩),injR:=h.heap.injR,gv:=h.heap.gv,gl:=(fun g=>(h.heap.gl g).mono a4),ty:=h.heap.ty},h.size,fun k=>(h.slot k).mono a4 (.refl _),fun p hp=>(h.rest p hp).mono a4 (.refl _)⟩
theorem RelS.obj(h:RelS m H B H0 gl rest st tmps w){g:Nat}{o1 o2:Obj}(hb:B g)(h1:w.heap[g]? =some o1)(hn:∀C e fr,o1≠ .cells C e fr):RelS m H B H0 gl rest st tmps (w.putObj g o2):=by
 have a6:∀o v,H g o≠some v:=fun o v hv=>by
  have:=h.heap.sat g o v hv;unfold World.cell? at this;rw[h1] at this;cases o1 with
  |cells C e fr=>exact hn C e fr rfl
  |_=>cases this
 have oth:∀k,k≠g→(w.putObj g o2).heap[k]? =w.heap[k]? :=fun k hk=>World.putObj_heap_other hk
 refine⟨{sat:=(fun b o v hv=> ?_),old:=h.heap.old,low:=(fun b hb=>by rw[World.putObj_size];exact h.heap.low b hb),fresh:=h.heap.fresh,box:=(fun id b a3=>(h.heap.box id b a3).mono' (.refl _) (.refl _) fun hr=>oth _ fun e=>(h.heap.sepR id b a3 hr).1 (e▸hb)),sepR:=(fun id b a3 hr=>let⟨x,y,z⟩:=h.heap.sepR id b a3 hr;⟨x,by rw[World.putObj_size];exact y,z⟩),injR:=h.heap.injR,gv:=(fun k sz cs hk=> ?_),gl:=h.heap.gl,ty:=(fun id v cs a3=>(h.heap.ty id v cs a3).mono (oth _ fun e=>(h.heap.sepR id _ a3 trivial).1 (e▸hb)))},h.size,h.slot,h.rest⟩
 ·have a5:b≠g:=fun e=>by subst e;exact a6 o v hv
  have:=h.heap.sat b o v hv;unfold World.cell? at this ⊢;simp only at this ⊢;rw[oth b a5];exact this
 ·obtain⟨x,C,e,fr,y,z⟩:=h.heap.gv k sz cs hk;exact⟨x,C,e,fr,by rw[oth k (fun hk=>by subst hk;rw[h1] at y;cases y;exact hn _ _ _ rfl)];exact y,z⟩
theorem Qa.obj{B':Nat→Prop}{w0:World}(h:Qa B' w0 w){g:Nat}{o1 o2:Obj}(hb:¬B' g)(h1:w.heap[g]? =some o1)(hn:∀C e fr,o1≠ .cells C e fr):Qa B' w0 (w.putObj g o2):=
 h.trans ⟨rfl,rfl,rfl,by rw[World.putObj_size];exact Nat.le_refl _,fun k hk=>World.putObj_heap_other fun e=>hb (e▸hk),fun k C e fr hk=>⟨C,fr,by rw[World.putObj_heap_other fun e'=>by subst e';rw[h1] at hk;cases hk;exact hn _ _ _ rfl];exact hk,rfl⟩⟩
theorem GvOk.sup{B B':Nat→Prop}(h:GvOk gl B w)(hs:∀b,B b→B' b):GvOk gl B' w:=fun g sz cs hg=>let⟨a,b⟩:=h g sz cs hg;⟨hs g a,b⟩
theorem GvOk.to{B B':Nat→Prop}{w w':World}{B1:Nat→Prop}(h:GvOk gl B w)(hb:Qa B1 w w')(hs:∀b,b<w.heap.size→B b→B' b):GvOk gl B' w':=fun g sz cs hg=>by
 obtain⟨a,C,e,fr,h1,h2⟩:=h g sz cs hg;obtain⟨C',a3,h3,h4⟩:=hb.rows g C e fr h1;refine⟨hs g ?_ a,C',e,a3,h3,by rw[h4,h2]⟩
 rcases Nat.lt_or_ge g w.heap.size with a6 | a5
 ·exact a6
 ·rw[Array.getElem?_eq_none a5] at h1;cases h1
end
def QF:Code→Bool
 | .seq a b=>QF a || QF b
 | .cond _ a b=>QF a || QF b
 | .block _ c=>QF c
 | .loop c=>QF c
 | .scope c=>QF c
 | .rangeFunc .. =>true
 |_=>false
def RM(D:List Nat):List Deferred:=D.map fun g=> {target:=.collected g,args:= #[]}
structure Fin' (B:Nat→Prop) (H0:HV) (a:Act) (w:World) (hr:Bool) (B':Nat→Prop) (H0':HV) (D:List Nat) (a':Act) (w':World):Prop where
 sub:∀b,B b→B' b
 old:∀b o,B b→H0' b o=H0 b o
 dfr:a'.defers=RM D++a.defers
 nod:D.Nodup
 opn:∀g∈D,B' g∧w.heap.size≤g∧w'.heap[g]? =some (.deferred (some []))
 non:hr=false→D=[]
 bel:Qa B w w'
section
variable {B : Nat → Prop} {H0 : HV} {a : Act} {w : World}
theorem Fin'.of{hr:Bool}{a':Act}{w':World}(hd:a'.defers=a.defers)(hb:Qa B w w'):Fin' B H0 a w hr B H0 [] a' w':=⟨fun _ h=>h,fun _ _ _=>rfl,hd,List.nodup_nil,fun g hg=>by simp at hg,fun _=>rfl,hb⟩
theorem Fin'.trans{h1 h2 h3:Bool}{B1 B2:Nat→Prop}{H1 H2:HV}{D1 D2:List Nat}{a1 a2:Act}{w1 w2:World}(k1:Fin' B H0 a w h1 B1 H1 D1 a1 w1)(k2:Fin' B1 H1 a1 w1 h2 B2 H2 D2 a2 w2)(hh:h3=false→h1=false∧h2=false):Fin' B H0 a w h3 B2 H2 (D2++D1) a2 w2 where
 sub b hb:=k2.sub b (k1.sub b hb)
 old b o hb:=(k2.old b o (k1.sub b hb)).trans (k1.old b o hb)
 dfr:=by rw[k2.dfr,k1.dfr,← List.append_assoc];simp[RM]
 nod:=by
  rw[List.nodup_append];refine⟨k2.nod,k1.nod,fun x hx y hy e=> ?_⟩
  subst e;have h:=(k1.opn x hy).2.2;have h2:=(k2.opn x hx).2.1;rw[Array.getElem?_eq_none h2] at h;cases h
 opn g hg:=by
  rcases cqu.1 hg with hg | hg
  ·obtain⟨x,y,z⟩:=k2.opn g hg;exact⟨x,Nat.le_trans k1.bel.size y,z⟩
  ·obtain⟨x,y,z⟩:=k1.opn g hg;exact⟨k2.sub g x,y,by rw[k2.bel.block g x];exact z⟩
 non h:=by obtain⟨e1,e2⟩:=hh h;rw[k1.non e1,k2.non e2];rfl
 bel:=k1.bel.trans (k2.bel.mono k1.sub)
theorem Fin'.up{h1 h3:Bool}{B1:Nat→Prop}{H1:HV}{D1:List Nat}{a1:Act}{w1:World}(k:Fin' B H0 a w h1 B1 H1 D1 a1 w1)(hh:h3=false→h1=false):Fin' B H0 a w h3 B1 H1 D1 a1 w1:= {k with non:=fun h=>k.non (hh h)}
end
def Post(gl:Nat→AV)(B:Nat→Prop)(H0:HV)(rest:List (AV×Value))(hr:Bool)(a:Act)(w:World)(K:Exit→St→Prop):Exit→Act→World→Prop:=fun e a' w'=>
 ∃st' m' H' B' H0' D,K e st'∧Fin' B H0 a w hr B' H0' D a' w'∧RelS m' H' B' H0' gl rest st' a'.tmps w'
theorem Post.of{gl:Nat→AV}{B:Nat→Prop}{H0:HV}{rest:List (AV×Value)}{hr:Bool}{a:Act}{w:World}{K:Exit→St→Prop}{e:Exit}{st':St}{m':Nat→Lc}{H':HV}{a':Act}{w':World}(hk:K e st')(hd:a'.defers=a.defers)(hb:Qa B w w')(h:RelS m' H' B H0 gl rest st' a'.tmps w'):Post gl B H0 rest hr a w K e a' w':=
 ⟨st',m',H',B,H0,[],hk,.of hd hb,h⟩
def Wk(P:Program)(gl:Nat→AV)(pins:Option (List AV))(c:Code)(st:St)(K:Exit→St→Prop):Prop:=
 ∀(ro:Option Nat) (d:Nat),(QF c=true→ro=none)→∀(B:Nat→Prop) (H0:HV) (rest:List (AV×Value)) (m:Nat→Lc) (H:HV) (a:Act) (w:World),(∀ps,pins=some ps→rest.map (·.1)=ps)→RelS m H B H0 gl rest st a.tmps w→
  c.wpIn (FW ro) d P (Post gl B H0 rest (QF c) a w K) a w
def wpL(P:Program)(ro:Option Nat)(d:Nat)(c:Code)(Q:Exit→Act→World→Prop)(a:Act)(w:World):Prop:=
 ∀(b:Frame) (k:List Item) (cs:List Frame),b.roundOf=(FW ro).round→(FW ro).fn b.fn→(FW ro).room (cs.length+1+d)→
  ∃e a' w',Q e a' w'∧ArrivesIn (Machine.fenced P (FW ro)) P (lone (b.atR a (.code c:: .inLoop c::k)) cs w) b k cs e a' w'
section
variable {P : Program} {ro : Option Nat} {d : Nat} {c : Code} {Q : Exit → Act → World → Prop} {a : Act} {w : World}
theorem wpL.loop(h:wpL P ro d c Q a w):(Code.loop c).wpIn (FW ro) d P Q a w:=fun b k cs a3 hb hr=>
 let⟨e,a',w',hq,harr⟩:=h b k cs a3 hb hr
 ⟨e,a',w',hq,.of_steps (.one (fenced_calm hb hr rfl) stepR_loop) harr⟩
theorem wpL.round(h:c.wpIn (FW ro) d P (Exit.then (wpL P ro d c Q) Q) a w):wpL P ro d c Q a w:=by
 intro b k cs a7 hb hr;obtain⟨e,a₁,w₁,hq,a3⟩:=h b (.inLoop c::k) cs a7 hb hr;cases e with
 |normal=>
  obtain⟨e₂,a₂,w₂,a9,a4⟩:=hq b k cs a7 hb hr;exact⟨e₂,a₂,w₂,a9,.of_steps (StepsIn.trans a3 (.one (fenced_calm hb hr rfl) stepR_inLoop)) a4⟩
 |exit id=>exact⟨_,a₁,w₁,hq,.pass (x:=.inLoop c) rfl (fun _ _=>.inl (by simp)) a3⟩
 |goto l=>exact⟨_,a₁,w₁,hq,.pass (x:=.inLoop c) rfl (fun _ _=>.inl (by simp)) a3⟩
 |ret=>exact⟨_,a₁,w₁,hq,.pass (x:=.inLoop c) rfl (fun _ _=>.inl (by simp)) a3⟩
 |panic ch=>exact⟨_,a₁,w₁,hq,.pass (x:=.inLoop c) rfl (fun _ _=>.inl (by simp)) a3⟩
 |outgrown=>exact⟨_,a₁,w₁,hq,.pass (x:=.inLoop c) rfl (fun _ _=>.inl (by simp)) a3⟩
theorem wpL.mono{Q':Exit→Act→World→Prop}(h:wpL P ro d c Q a w)(hq:∀e a w,Q e a w→Q' e a w):wpL P ro d c Q' a w:=fun b k cs a3 hb hr=>
 let⟨e,a',w',q,r⟩:=h b k cs a3 hb hr
 ⟨e,a',w',hq _ _ _ q,r⟩
end
structure Zu (P:Program) (gl:Nat→AV) (ps:List AV) (n:Nat) (c:Code) (ks:List Nat) (vs:List AV) (bs:List Box) (kx:List Nat) (alts:List Alt):Prop where
 ok:∀(ro:Option Nat) (d:Nat),(QF c=true→ro=none)→∀(B:Nat→Prop) (H0:HV) (rest:List (AV×Value)) (m:Nat→Lc) (H:HV) (a:Act) (w:World),rest.map (·.1)=ps→RelS m H B H0 gl rest (ZX n ks vs bs) a.tmps w→
  wpL P ro d c (Post gl B H0 rest (QF c) a w (fun e st'=>∃alt∈alts,∃x,alt.φ x∧e=alt.ex∧st'=ZX n kx (alt.vs x) (alt.bs x))) a w
structure Out (alts:List Alt) (e:Exit) (vs:List AV) (bs:List Box):Prop where
 ok:∃alt∈alts,∃x,alt.φ x∧e=alt.ex∧LeVs vs (alt.vs x)∧LeBs bs (alt.bs x)
theorem Out.here{α:Type}{φ:α→Prop}{e:Exit}{vs:List AV}{a4:α→List AV}{bs:List Box}{a3:α→List Box}{r:List Alt}(x:α)(h:φ x)(hv:LeVs vs (a4 x))(hb:LeBs bs (a3 x)):Out (⟨φ,e,a4,a3⟩::r) e vs bs:=⟨⟨_,List.mem_cons_self,x,h,rfl,hv,hb⟩⟩
theorem Out.next{a:Alt}{r:List Alt}{e:Exit}{vs:List AV}{bs:List Box}(h:Out r e vs bs):Out (a::r) e vs bs:=by
 obtain⟨a3,h1,h2⟩:=h.ok;exact⟨a3,List.mem_cons_of_mem _ h1,h2⟩
def LW(ks:List Nat)(vs:List AV):Bool:=nodN ks&&Nat.beq ks.length vs.length
def Turn(gl:Nat→AV)(n:Nat)(ks:List Nat)(vs ps:List AV)(s:St)(a3:List Box):Prop:=
 ∀(m:Nat→Lc) (H:HV) (B:Nat→Prop) (H0:HV) (rest:List (AV×Value)) (tmps:Array Value) (w:World),rest.map (·.1)=ps→RelS m H B H0 gl rest ⟨n,slOf ks vs,s.hp,s.nx⟩ tmps w→∃m' H',RelS m' H' B H0 gl rest (ZX n ks vs a3) tmps w
def GF(P:Program)(gl:Nat→AV)(ps:List AV)(n:Nat)(a6:Array Tmp)(a4 bd:Code)(ks:List Nat)(vs:List AV)(alts:List Alt):List (List AV)→List Box→Prop
 | [],bs=>LW ks vs=true∧Out alts .normal vs bs
 |x::xs,bs=>LW ks vs=true∧∃s0,Tt a6.toList x (ZX n ks vs bs)=some s0∧Wk P gl (some (vs++ps)) a4 s0 (fun e s1=>e= .normal∧Wk P gl (some (vs++ps)) bd s1 (fun e2 s2=>
   ∃j a3,ED e2=some j∧Turn gl n ks vs ps s2 a3∧match j with
    |none=>∃a5,LeBs a3 a5∧GF P gl ps n a6 a4 bd ks vs alts xs a5
    |some _=>Out alts e2 vs a3))
theorem Q3z:∀ {ks:List Nat} {vs:List AV},nodN ks=true→∀ {j k:Nat} {v:AV},ks[j]? =some k→vs[j]? =some v→lk .undef (slOf ks vs) k=v
 | [],vs,_,j,k,v,h,_=>by simp at h
 |a::ks,[],_,j,k,v,_,h=>by simp at h
 |a::ks,x::vs,hn,j,k,v,hk,hv=>by
  simp only[slOf];rw[UX];cases j with
  |zero=>simp_all
  |succ j=>
   have a3:a≠k:=fun e=>by
    subst e;have:=Eo (ids:=a::ks) hn (i:=0) (j:=j+1) rfl hk;omega
   rw[if_neg a3];refine Q3z (ks:=ks) (vs:=vs) ?_ (by simpa using hk) (by simp_all)
   grind [nodN]
def kvs:List Nat→List AV→Array Value→List (AV×Value)
 |k::ks,v::vs,t=>(v,t.getD k Go.undef)::kvs ks vs t
 |_,_,_=>[]
theorem Q3e:∀ {ks:List Nat} {vs:List AV} {t:Array Value},ks.length=vs.length→(kvs ks vs t).map (·.1)=vs
 | [],[],_,_=>rfl
 | [],_::_,_,h=>by simp at h
 |_::_,[],_,h=>by simp at h
 |k::ks,v::vs,t,h=>by simp only[kvs,List.map_cons];rw[Q3e (by simp_all)]
theorem Q3f:∀ {ks:List Nat} {vs:List AV} {t:Array Value} {p:AV×Value},p∈kvs ks vs t→∃(j k:Nat),ks[j]? =some k∧vs[j]? =some p.1∧p.2=t.getD k Go.undef
 | [],[],_,_,h=>by simp[kvs] at h
 | [],_::_,_,_,h=>by simp[kvs] at h
 |_::_,[],_,_,h=>by simp[kvs] at h
 |k::ks,v::vs,t,p,h=>by
  simp only[kvs,List.mem_cons] at h;rcases h with rfl | h
  ·exact⟨0,k,rfl,rfl,rfl⟩
  ·obtain⟨j,k',h1,h2,h3⟩:=Q3f h;exact⟨j+1,k',by simp_all,by simp_all,h3⟩
theorem kvs_at:∀ {ks:List Nat} {vs:List AV} {t:Array Value} {j k:Nat} {v:AV},ks[j]? =some k→vs[j]? =some v→(v,t.getD k Go.undef)∈kvs ks vs t
 | [],_,_,j,k,v,h,_=>by simp at h
 |_::_,[],_,j,k,v,_,h=>by simp at h
 |a::ks,x::vs,t,j,k,v,h1,h2=>by
  cases j with
  |zero=>simp at h1 h2;subst h1;subst h2;exact List.mem_cons_self
  |succ j=>exact List.mem_cons_of_mem _ (kvs_at (by simpa using h1) (by simp_all))
theorem Q41:∀(ks:List Nat) (vs:List AV) (k:Nat),lk .undef (slOf ks vs) k= .undef∨∃(j:Nat),ks[j]? =some k∧vs[j]? =some (lk .undef (slOf ks vs) k)
 | [],vs,k=>.inl (BR _ _)
 |a::ks,[],k=>.inl (BR _ _)
 |a::ks,x::vs,k=>by
  simp only[slOf];rw[UX];by_cases h:a=k;·subst h;rw[if_pos rfl];exact .inr ⟨0,rfl,rfl⟩
  ·rw[if_neg h];rcases Q41 ks vs k with e | ⟨j,h1,h2⟩
   ·grind
   ·exact .inr ⟨j+1,by simp_all,by simp_all⟩
theorem Q2o{ks:List Nat}{vs:List AV}(h:LW ks vs=true):nodN ks=true∧ks.length=vs.length:=by
 simp_all [LW,cqb,cqa]
section
variable {P : Program} {m : Nat → Lc} {H : HV} {B : Nat → Prop} {H0 : HV} {gl : Nat → AV} {rest : List (AV × Value)} {w : World} {ks : List Nat} {vs : List AV} {bs : List Box} {n : Nat} {tmps : Array Value}
theorem RelS.hold2(h:RelS m H B H0 gl rest (ZX n ks vs bs) tmps w)(hk:nodN ks=true):RelS m H B H0 gl (kvs ks vs tmps++rest) (ZX n ks vs bs) tmps w:=
 ⟨h.heap,h.size,h.slot,fun p hp=>by
  rcases cqu.1 hp with hp | hp
  ·obtain⟨j,k,h1,h2,h3⟩:=Q3f hp;have:=h.slot k;rw[show(ZX n ks vs bs).get k=p.1 from Q3z hk h1 h2,← h3] at this;exact this
  ·exact h.rest p hp⟩
theorem RelS.back2{st:St}{t:Array Value}(h:RelS m H B H0 gl (kvs ks vs tmps++rest) st t w)(a3:tmps.size=n):RelS m H B H0 gl rest ⟨n,slOf ks vs,st.hp,st.nx⟩ tmps w:=
 ⟨h.heap,a3,fun k=>by
  show RV H _ (lk .undef (slOf ks vs) k) _;rcases Q41 ks vs k with e | ⟨j,h1,h2⟩
  ·rw[e];exact .imm _ _ (.undef _)
  ·exact h.rest _ (List.mem_append_left _ (kvs_at h1 h2)),fun p hp=>h.rest p (List.mem_append_right _ hp)⟩
theorem RelS.world{st:St}(h:RelS m H B H0 gl rest st tmps w){w':World}{K:Nat→Prop}(hb:Qa K w w')(hH:∀b o v,H b o=some v→K b)(a4:∀id b,lkb st.hp id=some b→Real b (m id)→K (m id).g){B':Nat→Prop}{H0':HV}(old:∀b o,B' b→H b o=H0' b o)(low:∀b,B' b→b<w'.heap.size)
  (sep:∀id b,lkb st.hp id=some b→Real b (m id)→¬B' (m id).g) (gv:GvOk gl B' w'):RelS m H B' H0' gl rest st tmps w':=
 ⟨{sat:=(fun b o v hv=>by rw[hb.cell (hH b o v hv)];exact h.heap.sat b o v hv),old:=old,low:=low,fresh:=h.heap.fresh,box:=(fun id b a3=>(h.heap.box id b a3).mono' (.refl _) (.refl _) fun hr=>hb.block _ (a4 id b a3 hr)),sepR:=(fun id b a3 hr=>⟨sep id b a3 hr,Nat.lt_of_lt_of_le (h.heap.sepR id b a3 hr).2.1 hb.size,(h.heap.sepR id b a3 hr).2.2⟩),injR:=h.heap.injR,gv:=gv,gl:=h.heap.gl,ty:=(fun id v cs a3=>(h.heap.ty id v cs a3).mono (hb.block _ (a4 id _ a3 trivial)))},h.size,h.slot,h.rest⟩
theorem HP{w:World}{g:Nat}{o:Obj}(h:w.heap[g]? =some o):g<w.heap.size:=(Array.getElem?_eq_some_iff.1 h).1
end
section
variable {P : Program} {gl : Nat → AV}
structure JJ (P:Program) (gl:Nat→AV) (ps:List AV) (n:Nat) (ks:List Nat) (vs:List AV) (alts:List Alt) (xs:List (List AV)) (B:Nat→Prop) (H:HV) (rest:List (AV×Value)) (tmps:Array Value) (w:World) (l dg:Nat) (r0:Loop) (B1:Nat→Prop) (p:Option Nat) (O:Nat→Prop) (Hc:HV) (w':World):Prop where
 ex:∃(C:Nat→Prop) (m':Nat→Lc) (H' H0':HV) (bs':List Box) (r:Loop),w'.heap[l]? =some (.loop r)∧
  (match p with
   |some k=>r=r0∧GF P gl ps n r0.params r0.assign r0.body ks vs alts (xs.drop k) bs'
   |none=>∃e c,ED e=some (some c)∧r= {r0 with state:=.done,pending:=some c}∧Out alts e vs bs')∧
  (∀b,O b∨C b→dg+2≤b∧b<w'.heap.size)∧(∀b,O b→∀o,H' b o=none)∧HV.le Hc H'∧(∀b o v,Hc b o=some v→B1 b∨C b)∧(∀b o,B1 b→H0' b o=H b o)∧
  RelS m' H' (fun b=>B1 b∨O b∨C b) H0' gl rest (ZX n ks vs bs') tmps w'
 dgo:w'.heap[dg]? =some (.deferred (some []))
 bel:Qa B w w'
 leH:HV.le H Hc
variable {ps : List AV} {n : Nat} {ks : List Nat} {vs : List AV} {alts : List Alt} {xs : List (List AV)} {B : Nat → Prop} {H : HV} {rest : List (AV × Value)} {tmps : Array Value} {w : World} {l dg : Nat} {r0 : Loop} {B1 : Nat → Prop}
theorem HV.dom{H:HV}{b:Nat}(h:¬ ∃o v,H b o=some v)(o:Nat):H b o=none:=by
 cases hh:H b o with
 |none=>rfl
 |some v=>simp_all
theorem dropAt{α:Type}{xs:List α}{k:Nat}{x:α}(h:xs[k]? =some x):xs.drop k=x::xs.drop (k+1):=by
 grind [cqd,List.drop_eq_getElem_cons]
theorem JJ.own(hl:l=dg+1)(hB:∀b,B b→B1 b)(af:∀b,B b→b<w.heap.size)(ad:∀b,B1 b→b<dg+2){p:Option Nat}{O:Nat→Prop}{Hc:HV}{w' a9:World}(h:JJ P gl ps n ks vs alts xs B H rest tmps w l dg r0 B1 p O Hc w')(a3:Qa (BO O w') w' a9):JJ P gl ps n ks vs alts xs B H rest tmps w l dg r0 B1 p (Ez O w' a9) Hc a9:=by
 obtain⟨⟨C,m',H',H0',ab,r,h1,h2,h3,h4,h5,h6,h7,h8⟩,hd,ae,ak⟩:=h;have a7:∀b,b<dg+2→¬O b:=fun b hb hO=>by grind
 have aj:BO O w' l:=⟨HP h1,a7 l (by omega)⟩
 have ai:BO O w' dg:=⟨HP hd,a7 dg (by omega)⟩
 have ar:dg+2≤w'.heap.size:=by grind
 have ag:∀b o v,H' b o=some v→BO O w' b:=fun b o v hv=>⟨Jh h8.heap.sat hv,fun hO=>by simp_all⟩
 have a6:∀id b,lkb (ZX n ks vs ab).hp id=some b→Real b (m' id)→(m' id).g<w'.heap.size∧¬(B1 (m' id).g∨O (m' id).g∨C (m' id).g):=fun id b a4 hr=>⟨(h8.heap.sepR id b a4 hr).2.1,(h8.heap.sepR id b a4 hr).1⟩
 refine⟨⟨C,m',H',H',ab,r,by rw[a3.block l aj];exact h1,h2,fun b hb=> ?_,fun b hb o=> ?_,h5,h6,fun b o hb=> ?_,?_⟩,by rw[a3.block dg ai];exact hd,ae.trans (a3.mono fun b hb=>⟨Nat.lt_of_lt_of_le (af b hb) ae.size,a7 b (ad b (hB b hb))⟩),ak⟩
 ·rcases hb with(hb | hb) | hb
  ·exact⟨(h3 b (.inl hb)).1,Nat.lt_of_lt_of_le (h3 b (.inl hb)).2 a3.size⟩
  ·omega
  ·exact⟨(h3 b (.inr hb)).1,Nat.lt_of_lt_of_le (h3 b (.inr hb)).2 a3.size⟩
 ·rcases hb with hb | hb
  ·simp_all
  ·cases hh:H' b o with
   |none=>rfl
   |some v=>have:=Jh h8.heap.sat hh;omega
 ·rw[← h7 b o hb];exact h8.heap.old b o (.inl hb)
 ·refine h8.world a3 ag (fun id b a4 hr=>⟨(a6 id b a4 hr).1,fun hO=>(a6 id b a4 hr).2 (.inr (.inl hO))⟩) (fun _ _ _=>rfl) (fun b hb=> ?_) (fun id b a4 hr hb=> ?_) (h8.heap.gv.to a3 fun b _ hb=> ?_)
  ·rcases hb with hb | (hb | hb) | hb
   ·have:=ad b hb;have:=a3.size;omega
   ·exact Nat.lt_of_lt_of_le (h3 b (.inl hb)).2 a3.size
   ·exact hb.2
   ·exact Nat.lt_of_lt_of_le (h3 b (.inr hb)).2 a3.size
  ·obtain⟨x,y⟩:=a6 id b a4 hr;rcases hb with hb | (hb | hb) | hb
   ·simp_all
   ·simp_all
   ·omega
   simp_all
  ·rcases hb with hb | hb | hb
   ·simp_all
   ·exact .inr (.inl (.inl hb))
   simp_all
theorem JJ.pub(am:∀b,B1 b→b<dg+2){p:Option Nat}{O:Nat→Prop}{Hc:HV}{w':World}{H2:HV}(h:JJ P gl ps n ks vs alts xs B H rest tmps w l dg r0 B1 p O Hc w')(hs:HV.sat H2 w')(hk:∀b o v,H2 b o=some v→O b∨Hc b o=some v):JJ P gl ps n ks vs alts xs B H rest tmps w l dg r0 B1 p (Tj O H2) (unH Hc H2) w':=by
 obtain⟨⟨C,m',H',H0',a6,r,h1,h2,h3,h4,h5,h6,h7,h8⟩,hd,a8,ab⟩:=h;have ao:∀b o v,unH H' H2 b o=some v→H' b o=some v∨(O b∧H2 b o=some v):=fun b o v hv=>by
  rcases Bd hv with e | ⟨e1,e2⟩
  ·grind
  ·rcases hk b o v e2 with hO | hc
   ·simp_all
   ·rw[h5 b o v hc] at e1;cases e1
 have a9:∀id b,lkb (ZX n ks vs a6).hp id=some b→Real b (m' id)→∀o,unH H' H2 (m' id).g o=none:=fun id b a4 hr o=>by
  obtain⟨x,y,z⟩:=h8.heap.sepR id b a4 hr;cases hh:unH H' H2 (m' id).g o with
  |none=>rfl
  |some v=>
   grind
 have aa:=h8.know (H':=unH H' H2) (H0':=unH H' H2) Tz (unH_sat h8.heap.sat hs) (fun _ _ _=>rfl) a9
 have af:∀b,b<dg+2→¬O b:=fun b hb hO=>by grind
 have split:∀b,O b→Tj O H2 b∨(O b∧∃o v,H2 b o=some v):=fun b hO=>by
  by_cases hx:∃o v,H2 b o=some v
  ·simp_all
  ·exact .inl ⟨hO,HV.dom hx⟩
 refine⟨⟨fun b=>C b∨(O b∧∃o v,H2 b o=some v),m',unH H' H2,unH H' H2,a6,r,h1,h2,fun b hb=> ?_,fun b hb o=> ?_,fun b o v hv=> ?_,fun b o v hv=> ?_,fun b o hb=> ?_,?_⟩,hd,a8,fun b o v hv=>Tz b o v (ab b o v hv)⟩
 ·rcases hb with hb | hb | hb
  ·exact h3 b (.inl hb.1)
  ·simp_all
  simp_all
 ·simp[unH,h4 b hb.1 o,hb.2 o]
 ·rcases Bd hv with e | ⟨_,e2⟩
  ·exact Tz b o v (h5 b o v e)
  grind [hk,unH,Tz]
 ·grind [Bd,hk]
 ·have e1:H' b o=H b o:=(h8.heap.old b o (.inl hb)).trans (h7 b o hb);cases hh:unH H' H2 b o with
  |none=>
   cases h9:H' b o with
   |none=>simp_all
   |some v=>rw[Tz b o v h9] at hh;cases hh
  |some v=>
   grind
 ·refine aa.base (fun _ _ _=>rfl) (fun b hb=> ?_) (fun id b a4 hr hb=> ?_) (h8.heap.gv.sup fun b hb=> ?_)
  ·refine h8.heap.low b ?_;rcases hb with hb | hb | hb | hb
   ·simp_all
   ·exact .inr (.inl hb.1)
   ·simp_all
   simp_all
  ·refine(h8.heap.sepR id b a4 hr).1 ?_;rcases hb with hb | hb | hb | hb
   ·exact .inl hb
   ·exact .inr (.inl hb.1)
   ·grind
   simp_all
  grind
theorem JJ.round(hl:l=dg+1)(cm:dg=w.heap.size)(hB:∀b,B b→B1 b)(cj:∀b,B b→b<w.heap.size)(ci:∀b,B1 b→b<dg+2)(b3:B1 l)(bm:B1 dg)(au:rest.map (·.1)=ps)(bz:r0.state= .ready)(co:r0.pending=none)(c2:r0.tmps=tmps)(c0:tmps.size=n)
  (ha:QF r0.assign=false) (hb:QF r0.body=false) {k:Nat} {O:Nat→Prop} {Hc:HV} {w':World} {x:List AV} {us:Array Value} (h:JJ P gl ps n ks vs alts xs B H rest tmps w l dg r0 B1 (some k) O Hc w') (hx:xs[k]? =some x) (cr:x.length=us.size) (c3:∀(j:Nat) (c:AV) (v:Value),x[j]? =some c→us[j]? =some v→RelI Hc c v):
  ∃fn tm b0 bd,(Instr.yield l us).run P w'= .ok (.round l fn tm b0 bd) w'∧∀ro i,RoundIn (FW ro) i P l fn tm b0 bd w' fun e w2=>∃b,e= .returned (.bool b)∧Qa O w' w2∧JJ P gl ps n ks vs alts xs B H rest tmps w l dg r0 B1 (if b then some (k+1) else none) O Hc w2:=by
 obtain⟨⟨C,m',H',H0',bh,r,h1,⟨rfl,hR⟩,h3,h4,h5,h6,h7,h8⟩,hd,bo,ba⟩:=h;rw[dropAt hx] at hR;obtain⟨bx,s0,be,hW⟩:=hR;obtain⟨bc,c9⟩:=Q2o bx;have bl:RelS m' H' (fun b=>B1 b∨O b∨C b) H' gl (kvs ks vs tmps++rest) (ZX n ks vs bh) tmps w':=(h8.base (fun _ _ _=>rfl) h8.heap.low (fun id b ao hr=>(h8.heap.sepR id b ao hr).1) h8.heap.gv).hold2 bc
 obtain⟨cp,bf,e1,e2⟩:=A6 r.params.toList x us.toList _ tmps s0 bl be (by omega) (fun j c v hc hv=>.imm _ _ ((c3 j c v hc (by simp_all)).mono h5))
 have an:(r.params.zip us).foldl (fun tm (q:Nat×Value)=>tm.setIfInBounds q.1 q.2) r.tmps=(r.params.toList.zip us.toList).foldl (fun tm (q:Nat×Value)=>tm.setIfInBounds q.1 q.2) tmps:=by
  rw[← Array.foldl_toList,Array.toList_zip,c2]
 rw[← an] at bf;have bu:(kvs ks vs tmps++rest).map (·.1)=vs++ps:=by simp_all [List.map_append,Q3e]
 have cn:l<dg+2:=by omega
 refine⟨r.fn,_,r.assign,r.body,run_yield h1 (by simp_all),fun ro i=> ?_⟩
 refine roundIn_of_wpIn trivial ?_;have hA:=(hW (some l) i (fun e=>by simp_all) _ _ _ m' H' {tmps:=_,defers:=[]} w' (fun c4 e=>by simp_all) bf)
 refine wpIn_mono hA fun e a1 w1 hq=> ?_
 obtain⟨s1,m1,H1,B1',H01,D1,⟨rfl,bn⟩,a3,aq⟩:=hq;have ap:B1' l:=a3.sub l (.inl b3);have a4:w1.heap[l]? =some (.loop r):=by rw[a3.bel.block l (.inl b3)];exact h1
 refine⟨_,run_beginRound a4 bz,?_⟩;have ai:=aq.obj (o2:=.loop {r with state:=.busy}) ap a4 (fun _ _ _ q=>by cases q)
 have b2:=(bn (some l) i (fun e=>by simp_all) _ _ _ m1 H1 a1 _ (fun c4 e=>by simp_all) ai)
 refine wpIn_mono b2 fun e a2 w2 hq=> ?_
 obtain⟨s2,m2,H2,B2',H02,D2,⟨j,b1,hj,aw,ab⟩,a6,ar⟩:=hq;have bp:B2' l:=a6.sub l ap;have a5:w2.heap[l]? =some (.loop {r with state:=.busy}):=by rw[a6.bel.block l ap];exact World.putObj_heap_same (HP a4)
 have a9:=run_endRound (P:=P) j a5;have am:=ar.back2 (n:=n) c0;obtain⟨m3,H3,af⟩:=aw m2 H2 B2' H02 rest tmps w2 au am;have a7:=af.obj (o2:=.loop {r with state:=if j.isNone then .ready else .done,pending:=j}) bp a5 (fun _ _ _ q=>by cases q)
 have hK:Qa (fun b=>(B1 b∨O b∨C b)∧b≠l) w' (w2.putObj l (.loop {r with state:=if j.isNone then .ready else .done,pending:=j})):=by
  have c1:=(a3.bel.mono (B':=fun b=>(B1 b∨O b∨C b)∧b≠l) fun b hb=>hb.1).obj (g:=l) (o2:=.loop {r with state:=.busy}) (fun hb=>hb.2 rfl) a4 (fun _ _ _ q=>by cases q)
  exact(c1.trans (a6.bel.mono fun b hb=>a3.sub b hb.1)).obj (g:=l) (fun hb=>hb.2 rfl) a5 (fun _ _ _ q=>by cases q)
 have hold:∀b o,(B1 b∨O b∨C b)→H3 b o=H' b o:=fun b o hb=>(af.heap.old b o (a6.sub b (a3.sub b hb))).trans ((a6.old b o (a3.sub b hb)).trans (a3.old b o hb))
 have bq:∀b,O b∨C b→b≠l:=fun b hb e=>by grind
 have ag:RelS m3 H3 (fun b=>B1 b∨O b∨C b) H3 gl rest (ZX n ks vs b1) tmps (w2.putObj l (.loop {r with state:=if j.isNone then .ready else .done,pending:=j})):=
  a7.base (fun _ _ _=>rfl) (fun b hb=>a7.heap.low b (a6.sub b (a3.sub b hb))) (fun id b ao hr hb=>(a7.heap.sepR id b ao hr).1 (a6.sub _ (a3.sub _ hb))) (h8.heap.gv.to hK fun b _ hb=>hb)
 have aa:∃b,Ending.returned (.bool j.isNone)= .returned (.bool b)∧Qa O w' (w2.putObj l (.loop {r with state:=if j.isNone then .ready else .done,pending:=j}))∧JJ P gl ps n ks vs alts xs B H rest tmps w l dg r B1 (if b then some (k+1) else none) O Hc (w2.putObj l (.loop {r with state:=if j.isNone then .ready else .done,pending:=j})):=by
  refine⟨j.isNone,rfl,hK.mono fun b hb=>⟨.inr (.inl hb),bq b (.inl hb)⟩,?_⟩
  have ak:(w2.putObj l (.loop {r with state:=if j.isNone then .ready else .done,pending:=j})).heap[dg]? =some (.deferred (some [])):=by rw[hK.block dg ⟨.inl bm,by omega⟩];exact hd
  have ad:(w2.putObj l (.loop {r with state:=if j.isNone then .ready else .done,pending:=j})).heap[l]? =some (.loop {r with state:=if j.isNone then .ready else .done,pending:=j}):=World.putObj_heap_same (HP a5)
  have aj:Qa B w (w2.putObj l (.loop {r with state:=if j.isNone then .ready else .done,pending:=j})):=bo.trans (hK.mono fun b hb=>⟨.inl (hB b hb),fun e=>by grind⟩)
  have b8:∀b,O b∨C b→dg+2≤b∧b< (w2.putObj l (.loop {r with state:=if j.isNone then .ready else .done,pending:=j})).heap.size:=fun b hb=>⟨(h3 b hb).1,Nat.lt_of_lt_of_le (h3 b hb).2 hK.size⟩
  have b7:∀b,O b→∀o,H3 b o=none:=fun b hb o=>(hold b o (.inr (.inl hb))).trans (h4 b hb o)
  have b5:HV.le Hc H3:=fun b o v hv=>by
   rw[hold b o (by rcases h6 b o v hv with q | q;exact .inl q;grind)];exact h5 b o v hv
  have b4:∀b o,B1 b→H3 b o=H b o:=fun b o hb=>(hold b o (.inl hb)).trans ((h8.heap.old b o (.inl hb)).trans (h7 b o hb))
  cases j with
  |none=>
   obtain⟨bk,bb,br⟩:=ab;obtain⟨m4,H4,ah⟩:=(Cu (gl:=gl) (n:=n) (ks:=ks) (.refl vs) bb).2 _ _ _ _ _ _ _ ag;have ae:∀b o,(B1 b∨O b∨C b)→H4 b o=H3 b o:=fun b o hb=>ah.heap.old b o hb
   refine⟨⟨C,m4,H4,H3,bk,r,?_,⟨rfl,br⟩,b8,fun b hb o=>(ae b o (.inr (.inl hb))).trans (b7 b hb o),fun b o v hv=> ?_,h6,b4,ah⟩,ak,aj,ba⟩
   ·rw[ad];have:({r with state:=if(none:Option Code).isNone then .ready else .done,pending:=none}:Loop)=r:=by
     cases r;grind
    rw[this]
   ·rw[ae b o (by rcases h6 b o v hv with q | q;exact .inl q;grind)];exact b5 b o v hv
  |some c=>
   exact⟨⟨C,m3,H3,H3,b1,_,ad,⟨e,c,hj,rfl,ab⟩,b8,b7,b5,h6,b4,ag⟩,ak,aj,ba⟩
 cases e with
 |normal=>cases hj;exact⟨_,_,a9,aa⟩
 |ret=>cases hj;exact⟨_,_,a9,aa⟩
 |exit i=>cases hj;exact⟨_,_,a9,aa⟩
 |_=>cases hj
theorem JJ.ok(hl:l=dg+1)(ai:dg=w.heap.size)(hB:∀b,B b→B1 b)(a8:∀b,B b→b<w.heap.size)(a4:∀b,B1 b→b<dg+2)(ah:B1 l)(ag:B1 dg)(aj:∀g,RelI H (gl g) (.pointer (some ⟨g,0,none⟩)))(au:∀g sz cs,gl g= .ip sz [.agg cs] 0 0→B g)(a5:rest.map (·.1)=ps)(am:r0.state= .ready)(ak:r0.pending=none)(ao:r0.tmps=tmps)(an:tmps.size=n)
  (ha:QF r0.assign=false) (hb:QF r0.body=false):JOk P gl l xs (JJ P gl ps n ks vs alts xs B H rest tmps w l dg r0 B1) where
 sat p O Hc w' h:=by
  obtain⟨⟨C,m',H',H0',a3,r,h1,h2,h3,h4,h5,h6,h7,h8⟩,_,_,_⟩:=h;exact fun b o v hv=>h8.heap.sat b o v (h5 b o v hv)
 low p O Hc w' h b hb:=by
  obtain⟨⟨C,m',H',H0',a3,r,h1,h2,h3,h4,h5,h6,h7,h8⟩,_,_,_⟩:=h
  simp_all
 dis p O Hc w' h b hb o:=by
  obtain⟨⟨C,m',H',H0',a3,r,h1,h2,h3,h4,h5,h6,h7,h8⟩,_,_,_⟩:=h;cases hh:Hc b o with
  |none=>rfl
  |some v=>rw[← h4 b hb o,h5 b o v hh]
 gls p O Hc w' h g:=(aj g).mono h.leH
 gv p O Hc w' h:=by
  obtain⟨⟨C,m',H',H0',a3,r,h1,h2,h3,h4,h5,h6,h7,h8⟩,hd,_,_⟩:=h;refine fun g sz cs hg=> ?_
  obtain⟨a,D,e,fr,x,y⟩:=h8.heap.gv g sz cs hg;exact⟨⟨HP x,fun hO=>by grind⟩,D,e,fr,x,y⟩
 own p O Hc w' w'' h hbl:=h.own hl hB a8 a4 hbl
 pub p O Hc w' H2 h hs hk:=h.pub a4 hs hk
 round k O Hc w' x us h hx hxl hxr:=h.round hl ai hB a8 a4 ah ag a5 am ak ao an ha hb hx hxl hxr
set_option maxHeartbeats 1000000 in
theorem Q9n{m:Nat→Lc}{H0:HV}{bs:List Box}{a:Act}{g:Operand}{a4:Array Tmp}{a3 bd:Code}{f:Nat}{ab:List AV}{us:Array Value}(hr:RelS m H B H0 gl rest (ZX n ks vs bs) a.tmps w)(b7:a.eval g= .func (.func f) #[] us)(b4:ab.length=us.size)(b5:∀(j:Nat) (c:AV) (v:Value),ab[j]? =some c→us[j]? =some v→RelI H c v)
  (ap:NF P f) (b9:ItOk P gl f ab xs) (aw:GF P gl ps n a4 a3 bd ks vs alts xs bs) (bb:rest.map (·.1)=ps) (ha:QF a3=false) (hb:QF bd=false) (d:Nat):
  (Code.rangeFunc g a4 a3 bd).wpIn (FW none) d P (Post gl B H0 rest true a w (fun e st'=>∃a5∈alts,∃x,a5.φ x∧e=a5.ex∧st'=ZX n ks (a5.vs x) (a5.bs x))) a w:=by
 refine wpIn_rangeFunc fun fn _=> ?_
 have af:(Instr.enterLoop fn a.tmps a4 a3 bd (FW none).round).run P w= .ok (w.heap.size+1,[{target:=.collected w.heap.size,args:= #[]}]) ((w.alloc (.deferred (some []))).alloc (.loop {state:=.ready,pending:=none,fn:=fn,tmps:=a.tmps,params:=a4,assign:=a3,body:=bd,defers:=w.heap.size})):=run_enterLoop_outer fn a.tmps a4 a3 bd;have ad:Qa (fun b=>b<w.heap.size) w ((w.alloc (.deferred (some []))).alloc (.loop {state:=.ready,pending:=none,fn:=fn,tmps:=a.tmps,params:=a4,assign:=a3,body:=bd,defers:=w.heap.size})):=
  ((Qa.refl _ w).alloc (fun _ h=>h) _).alloc (fun k hk=>by simp;omega) _
 have ar:((w.alloc (.deferred (some []))).alloc (.loop {state:=.ready,pending:=none,fn:=fn,tmps:=a.tmps,params:=a4,assign:=a3,body:=bd,defers:=w.heap.size})).heap[w.heap.size+1]? =some (.loop {state:=.ready,pending:=none,fn:=fn,tmps:=a.tmps,params:=a4,assign:=a3,body:=bd,defers:=w.heap.size}):=by
  have:=Xn (w.alloc (.deferred (some []))) (.loop {state:=.ready,pending:=none,fn:=fn,tmps:=a.tmps,params:=a4,assign:=a3,body:=bd,defers:=w.heap.size})
  rwa [World.size_alloc] at this
 have ao:((w.alloc (.deferred (some []))).alloc (.loop {state:=.ready,pending:=none,fn:=fn,tmps:=a.tmps,params:=a4,assign:=a3,body:=bd,defers:=w.heap.size})).heap[w.heap.size]? =some (.deferred (some [])):=by
  rw[Jz _ _ _ (by simp)];exact Xn w _
 have ax:((w.alloc (.deferred (some []))).alloc (.loop {state:=.ready,pending:=none,fn:=fn,tmps:=a.tmps,params:=a4,assign:=a3,body:=bd,defers:=w.heap.size})).heap.size=w.heap.size+2:=by simp
 generalize ((w.alloc (.deferred (some []))).alloc (.loop {state:=.ready,pending:=none,fn:=fn,tmps:=a.tmps,params:=a4,assign:=a3,body:=bd,defers:=w.heap.size}))=W2 at*;have au:(resolve a.eval (rangeCall g (w.heap.size+1)) 0).run P W2= .ok {target:=.fn (.func f) us,args:= #[.func (.yield (w.heap.size+1)) #[] #[]]} W2:=by
  show(Deferred.ofValue (a.eval g) (#[Operand.const (.func (.yield (w.heap.size+1)) #[] #[])].map a.eval)).run P W2=_;rw[b7];simp[Deferred.ofValue,Act.eval]
 have aq:(invoke (.fn (.func f) us) #[.func (.yield (w.heap.size+1)) #[] #[]]).run P W2= .ok (.enter f (#[.func (.yield (w.heap.size+1)) #[] #[]]++us)) W2:=by
  simp only[invoke];exact ap _ _
 generalize hB1:(fun b=>b<w.heap.size+2∧∀id b0,lkb (ZX n ks vs bs).hp id=some b0→Real b0 (m id)→b≠(m id).g)=B1
 have ae:∀b,B b→B1 b:=fun b hb=>by subst hB1;exact⟨by have:=hr.heap.low b hb;omega,fun id b0 a6 a7 e=>(hr.heap.sepR id b0 a6 a7).1 (e▸hb)⟩
 have ah:∀b,B1 b→b<w.heap.size+2:=fun b hb=>by subst hB1;exact hb.1
 have a9:∀b,w.heap.size≤b→b<w.heap.size+2→B1 b:=fun b h1 h2=>by subst hB1;exact⟨h2,fun id b0 a6 a7 e=>by have:=(hr.heap.sepR id b0 a6 a7).2.1;omega⟩
 have am:∀id b0,lkb (ZX n ks vs bs).hp id=some b0→Real b0 (m id)→¬B1 (m id).g:=fun id b0 a6 a7 hb=>by subst hB1;exact hb.2 id b0 a6 a7 rfl
 have an:∀b o v,H b o=some v→B1 b:=fun b o v hv=>by
  have bq:=Jh hr.heap.sat hv;subst hB1;exact⟨by omega,fun id b0 a6 a7 e=>by have:=(hr.heap.sepR id b0 a6 a7).2.2 o;rw[← e,hv] at this;cases this⟩
 have hj:=JJ.ok (P:=P) (gl:=gl) (ps:=ps) (n:=n) (ks:=ks) (vs:=vs) (alts:=alts) (xs:=xs) (B:=B) (H:=H) (rest:=rest) (tmps:=a.tmps) (w:=w) (l:=w.heap.size+1) (dg:=w.heap.size) (r0:= {state:=.ready,pending:=none,fn:=fn,tmps:=a.tmps,params:=a4,assign:=a3,body:=bd,defers:=w.heap.size}) (B1:=B1)
  rfl rfl ae hr.heap.low ah (a9 _ (by omega) (by omega)) (a9 _ (by omega) (by omega)) hr.heap.gl (fun g sz cs hg=>(hr.heap.gv g sz cs hg).1) bb rfl rfl rfl hr.size ha hb
 have h0:JJ P gl ps n ks vs alts xs B H rest a.tmps w (w.heap.size+1) w.heap.size {state:=.ready,pending:=none,fn:=fn,tmps:=a.tmps,params:=a4,assign:=a3,body:=bd,defers:=w.heap.size} B1 (some 0) (fun _=>False) H W2:=by
  refine⟨⟨fun _=>False,m,H,H,bs,_,ar,⟨rfl,aw⟩,fun b hb=>by rcases hb with h | h<;>exact h.elim,fun b hb=>hb.elim,.refl _,fun b o v hv=>.inl (an b o v hv),fun _ _ _=>rfl,?_⟩,ao,ad.mono hr.heap.low,.refl _⟩
  refine hr.world ad (fun b o v hv=>Jh hr.heap.sat hv) (fun id b a6 a7=>(hr.heap.sepR id b a6 a7).2.1) (fun _ _ _=>rfl) (fun b hb=> ?_) (fun id b a6 a7 hb=> ?_) (hr.heap.gv.to ad fun b _ hb=>.inl (ae b hb))
  ·rw[ax];rcases hb with h | h | h
   ·exact ah b h
   ·exact h.elim
   ·exact h.elim
  ·rcases hb with h | h | h
   ·exact am id b a6 a7 h
   ·exact h.elim
   ·exact h.elim
 refine⟨_,_,_,_,_,_,_,_,af,au,fun _ _=>trivial,aq,(fun hh=>by simp[FW] at hh),NZ ((b9.ok _ _ hj H W2 us h0 b4 b5).mono fun e w3 ai=> ?_)⟩
 obtain⟨v,p',O',Hc',rfl,hp',⟨⟨C,m',H',H0',az,r,h1,h2,h3,h4,h5,h6,h7,h8⟩,b6,b2,bp⟩⟩:=ai;have ak:∀(e:Exit) (r:Loop),w3.heap[w.heap.size+1]? =some (.loop r)→Out alts e vs az→Post gl B H0 rest true a w (fun e st'=>∃a5∈alts,∃x,a5.φ x∧e=a5.ex∧st'=ZX n ks (a5.vs x) (a5.bs x)) e {a with defers:=[{target:=.collected w.heap.size,args:= #[]}]++a.defers} (w3.putObj (w.heap.size+1) (.loop {r with state:=.exhausted})):=fun e r h1 ho=>by
  obtain⟨a5,b1,x,hφ,rfl,lv,lb⟩:=ho.ok;have bc:=h8.obj (o2:=.loop {r with state:=.exhausted}) (.inl (a9 _ (by omega) (by omega))) h1 (fun _ _ _ q=>by cases q)
  obtain⟨m4,H4,be⟩:=(Cu (gl:=gl) (n:=n) (ks:=ks) lv lb).2 _ _ _ _ _ _ _ bc;refine⟨_,m4,H4,_,H0',[w.heap.size],⟨a5,b1,x,hφ,rfl,rfl⟩,⟨fun b hb=>.inl (ae b hb),fun b o hb=> ?_,rfl,by simp,fun k hk=> ?_,fun hh=>(by cases hh),?_⟩,be⟩
  ·rw[h7 b o (ae b hb)];exact hr.heap.old b o hb
  ·simp only[List.mem_singleton] at hk;subst hk;exact⟨.inl (a9 _ (by omega) (by omega)),Nat.le_refl _,by rw[World.putObj_heap_other (by omega)];exact b6⟩
  ·exact b2.obj (fun hb=>by have:=hr.heap.low _ hb;omega) h1 (fun _ _ _ q=>by cases q)
 cases p' with
 |some k=>
  obtain⟨rfl,hR⟩:=h2;obtain rfl:k=xs.length:=by rcases hp' with e | e<;>cases e;rfl
  rw[List.drop_length] at hR;exact⟨none,_,run_endLoop (P:=P) h1 (by simp),ak .normal _ h1 hR.2⟩
 |none=>
  obtain⟨e,c,hc,rfl,ho⟩:=h2;refine⟨some c,_,run_endLoop (P:=P) h1 (by simp),?_⟩
  have:=ak e _ h1 ho;cases e with
  |ret=>cases hc;exact wpIn_ret this
  |exit i=>cases hc;exact wpIn_exit this
  |_=>cases hc
end
def Fi:List Alt→(Exit→List AV→List Box→Prop)→Prop
 | [],_=>True
 | [a],K=>∀x,a.φ x→K a.ex (a.vs x) (a.bs x)
 |a::b::r,K=>(∀x,a.φ x→K a.ex (a.vs x) (a.bs x))∧Fi (b::r) K
theorem EF:∀ {l:List Alt} {K:Exit→List AV→List Box→Prop},Fi l K→∀a∈l,∀x,a.φ x→K a.ex (a.vs x) (a.bs x)
 | [],K,_,a,ha,_,_=>by simp at ha
 | [b],K,h,a,ha,x,hp=>by simp at ha;subst ha;exact h x hp
 |b::c::r,K,h,a,ha,x,hp=>by
  rcases List.mem_cons.1 ha with rfl | ha
  ·exact h.1 x hp
  ·exact EF (l:=c::r) h.2 a ha x hp
def U6:Code→Nat
 | .region id _ _=>id+1
 | .seq a b=>match U6 a with
  |0=>U6 b
  |k+1=>k+1
 | .cond _ a b=>match U6 a with
  |0=>U6 b
  |k+1=>k+1
 | .block _ c=>U6 c
 | .loop c=>U6 c
 | .scope c=>U6 c
 | .rangeFunc _ _ a b=>match U6 a with
  |0=>U6 b
  |k+1=>k+1
 |_=>0
def JW(e:Exit):Bool:=match e with | .normal=>true | _=>false
def exGo(e:Exit):Bool:=match e with | .goto _=>true | _=>false
def exIs(e:Exit)(id:Nat):Bool:=match e with | .exit i=>Nat.beq i id | _=>false
def jKey:Code→Nat
 | .region id _ _=>5000000+id
 | .cond _ a b=>6000000+U6 (.cond (.tmp 0) a b)
 | .block id _=>7000000+id
 | .seq _ (.cond _ a b)=>6000000+U6 (.cond (.tmp 0) a b)
 | .seq _ (.block id _)=>7000000+id
 |_=>8000000
def Jn(a3:Nat)(p:Prop):Prop:=p
def wjoin(ps:List AV)(kx:List Nat)(kbx:List KB)(n:Nat)(alts:List Alt)(e:Exit)(s:St):Prop:=
 match JW e with
 |true=>match Nat.beq s.n n with
  |true=>KG kbx s (fun s=>UE ps kx kbx s (Out alts .normal))
  |false=>False
 |false=>False
def wpre(hs:QH)(id:Nat)(st:St)(K:St→Prop):Prop:=match lkH hs (7500000+id) with
 |some (.z kb _)=>KG kb st K
 |_=>K st
theorem TB{gl:Nat→AV}{hs:QH}{id:Nat}{st:St}{K:St→Prop}(h:wpre hs id st K):∃st',Conv gl st st'∧K st':=by
 unfold wpre at h;split at h;·exact Yk h
 ·exact⟨st,.refl,h⟩
def YT(P:Program)(gl:Nat→AV)(ch0:Qq)(wf:WF)(hs:QH)(pins:Option (List AV)):Nat→Code→St→(Exit→St→Prop)→Prop
 |0,_,_,_=>False
 |k+1,c,st,K=>match c with
  | .skip=>K .normal st
  | .label _=>K .normal st
  | .exit id=>K (.exit id) st
  | .ret=>K .ret st
  | .region id ops draw=>match draw with
   |true=>match lkH hs (7600000+id) with
    |some (.z (q::l) _)=>match l with
     | []=>match B8 ops.toList q.slot with
      |true=>wpre hs id st (fun st=>Fs P gl ch0 hs ops.toList st.nx q.slot (st.bump ops.toList.length) (fun s=>M8 hs (ops.toList.take q.slot) s (fun s=>wseq P gl ch0 wf hs ops.toList ((ops.toList.drop q.slot).take 1) s (fun s=>Bf P gl ch0 hs ops.toList st.nx (q.slot+1) (QL ops.toList - (q.slot+1)) s (fun s=>M8 hs ((ops.toList.take (QL ops.toList)).drop (q.slot+1)) s (fun s=>wseq P gl ch0 wf hs ops.toList (ops.toList.drop (QL ops.toList)) s (K .normal)))))))
      |false=>False
     |g::_=>match midF ops.toList q.slot g.slot with
      |true=>wpre hs id st (fun st=>wflt P gl ch0 wf hs ops.toList q.slot g.slot st (K .normal))
      |false=>False
    |some .ac=>wpre hs id st (fun st=>wany P gl ch0 wf hs ops.toList ops.toList.length [] st (K .normal))
    |_=>match QL ops.toList with
    |nf=>wpre hs id st (fun st=>Fs P gl ch0 hs ops.toList st.nx nf (st.bump ops.toList.length) (fun s=>M8 hs (ops.toList.take nf) s (fun s=>wseq P gl ch0 wf hs ops.toList (ops.toList.drop nf) s (K .normal))))
   |false=>wseq P gl ch0 wf hs ops.toList ops.toList st (K .normal)
  | .seq a b=>match lkH hs (jKey a) with
   |some (.l _ _ _ kx kbx alts)=>match pins with
    |some ps=>∃u o,Jn (jKey a) (YT P gl ch0 wf hs pins k a st (wjoin ps kx kbx st.n (alts u o)))∧Fi (alts u o) (fun _ vs bs=>YT P gl ch0 wf hs pins k b (ZX st.n kx vs bs) K)
    |none=>False
   |_=>YT P gl ch0 wf hs pins k a st (fun e s=>match JW e with
    |true=>YT P gl ch0 wf hs pins k b s K
    |false=>K e s)
  | .cond c a b=>match st.ev gl c with
   | .bool t=>match t with
    |true=>YT P gl ch0 wf hs pins k a st K
    |false=>YT P gl ch0 wf hs pins k b st K
   |_=>False
  | .block id c=>YT P gl ch0 wf hs pins k c st (fun e s=>match exIs e id with
   |true=>K .normal s
   |false=>K e s)
  | .loop c=>match lkH hs (3000000+U6 c) with
   |some (.l gs ks kb kx _ alts)=>match pins with
    |some ps=>KG gs st (fun s=>KG kb s (fun s=>UE ps ks kb s (fun vs bs=>∃u o,Zu P gl ps st.n c ks vs bs kx (alts u o)∧Fi (alts u o) (fun e a4 a3=>K e (ZX st.n kx a4 a3)))))
    |none=>False
   |_=>YT P gl ch0 wf hs pins k c st (fun e s=>match JW e with
    |true=>YT P gl ch0 wf hs pins k (.loop c) s K
    |false=>K e s)
  | .rangeFunc g prm azz bd=>match lkH hs (4000000+U6 (.seq azz bd)) with
   |some (.l gs ks kb _ _ alts)=>match pins with
    |some ps=>match QF azz || QF bd with
     |true=>False
     |false=>KG gs st (fun s=>KG kb s (fun s=>match s.ev gl g with
      | .fn f caps=>match Ru P f,optL (tree (fun _=>none) false 12) caps with
       |true,some ts=>UE ps ks kb s (fun vs bs=>∃xs u o,ItOk P gl f ts xs∧GF P gl ps st.n prm azz bd ks vs (alts u o) xs bs∧Fi (alts u o) (fun e a4 a3=>K e (ZX st.n ks a4 a3)))
       |_,_=>False
      |_=>False))
    |none=>False
   |_=>False
  | .scope c=>YT P gl ch0 wf hs pins k c st (fun e s=>match exGo e with
   |true=>False
   |false=>K e s)
  |_=>False
section
variable {P : Program} {gl : Nat → AV} {ch0 : Qq} {wf : WF} {hs : QH}
theorem Wk.mono{pins:Option (List AV)}{c:Code}{st:St}{K K':Exit→St→Prop}(h:Wk P gl pins c st K)(hq:∀e s,K e s→K' e s):Wk P gl pins c st K':=fun ro d a3 B H0 rest m H a w ht hr=>
 wpIn_mono (h ro d a3 B H0 rest m H a w ht hr) fun _ _ _ ⟨s,m',H',B',H0',D,q,f,r⟩=>⟨s,m',H',B',H0',D,hq _ _ q,f,r⟩
theorem Nb{e:Exit}(h:JW e=true):e= .normal:=by cases e<;>first | rfl | cases h
theorem Ib{e:Exit}(h:JW e=false):e≠ .normal:=fun he=>by subst he;cases h
theorem exIs_t{e:Exit}{id:Nat}(h:exIs e id=true):e= .exit id:=by
 cases e with
 |exit i=>rw[cqa h]
 |_=>cases h
theorem exIs_f{i id:Nat}(h:exIs (.exit i) id=false):i≠id:=fun e=>by
 subst e;have:Nat.beq i i=true:=Nat.beq_refl i;simp only[exIs,this] at h;cases h
theorem Q13(h0:ch0.Ok P gl)(an:WF.Ok P gl wf)(ad:P.follows .mixedOrders=true)(pins:Option (List AV)):∀(J k:Nat),k≤J→∀(c:Code) (st:St) (K:Exit→St→Prop),QN c=true→YT P gl ch0 wf hs pins k c st K→Wk P gl pins c st K
 |_,0,_,_,_,_,_,h=>h.elim
 |0,k+1,hJ,_,_,_,_,_=>by omega
 |J+1,k+1,hJ,c,st,K,hok,h=>by
  have bn:=Q13 h0 an ad pins J;have ih:=bn k (by omega)
  intro ro dp aa B H0 rest m H a w a4 hr;cases c with
  |skip=>exact wpIn_skip (.of h rfl (Qa.refl _ _) hr)
  |label l=>exact wpIn_label (.of h rfl (Qa.refl _ _) hr)
  |exit id=>exact wpIn_exit (.of h rfl (Qa.refl _ _) hr)
  |ret=>exact wpIn_ret (.of h rfl (Qa.refl _ _) hr)
  |region id ops draw=>
   simp only[YT] at h;cases draw with
   |true=>
    simp only[QN,Bool.not_true,Bool.false_or,cqb] at hok;simp only at h;split at h
    ·rename_i q l _ _;cases l with
     |nil=>
      simp only at h;split at h
      ·rename_i aw;obtain⟨ba,a6,h⟩:=TB (gl:=gl) h;obtain⟨m,H,hr⟩:=a6.2 _ _ _ _ _ _ _ hr;have:=F7 h0 an ad hok.1 aw (id:=id) (ro:=ro) (n:=dp) (Q:=Post gl B H0 rest false a w K) hr h (fun sF a2 w2 m2 H2 ah ag af a3=>.of ah ag af a3)
       simpa[QF] using this
      ·cases h
     |cons g _=>
      simp only at h;split at h
      ·rename_i aw;obtain⟨ba,a6,h⟩:=TB (gl:=gl) h;obtain⟨m,H,hr⟩:=a6.2 _ _ _ _ _ _ _ hr;have:=F6 h0 an ad hok.1 aw (id:=id) (ro:=ro) (n:=dp) (Q:=Post gl B H0 rest false a w K) hr h (fun sF a2 w2 m2 H2 ah ag af a3=>.of ah ag af a3)
       simpa[QF] using this
      ·cases h
    ·obtain⟨ba,a6,h⟩:=TB (gl:=gl) h;obtain⟨m,H,hr⟩:=a6.2 _ _ _ _ _ _ _ hr;have:=F4 h0 an ad (id:=id) (ro:=ro) (n:=dp) (Q:=Post gl B H0 rest false a w K) hr h (fun sF a2 w2 m2 H2 ah ag af a3=>.of ah ag af a3)
     simpa[QF] using this
    ·obtain⟨bk,b4⟩:=Dk (ms:=Zx ops.toList []) ops.toList.length;obtain⟨ba,a6,h⟩:=TB (gl:=gl) h;obtain⟨m,H,hr⟩:=a6.2 _ _ _ _ _ _ _ hr;obtain⟨cb,F,s,br,hK,bm,hF⟩:=Q17 h0 h;obtain⟨s1,hK,b9⟩:=Nj (gl:=gl) hK;have:=Ij br ad hok.1 (id:=id) (nf:=QL ops.toList) (ro:=ro) (n:=dp) (Q:=Post gl B H0 rest false a w K) bk (fun i h1 h2 j hj=>b4 i h1 h2 j (by omega)) hr bm hF fun listed a' w' m' H' c0 c1 c2 hd hb a5=>
      EG h0 an hok.1 b4 (d0:=a.defers) (w0:=w) (fun sF a2 w2 m2 H2 ah ag af a3=>.of ah ag af a3) _ (QL ops.toList) listed s1 a' w' m' H' (Nat.le_refl _) (Nat.add_sub_cancel' bk) c0 c1 c2 hK hd hb (b9.rel _ _ _ _ _ _ _ a5)
     simpa[QF] using this
   |false=>
    refine wpIn_region ?_;have:=Q4h h0 an (all:=ops.toList) (ro:=ro) (n:=dp) (d0:=a.defers) (w0:=w) (Q:=Post gl B H0 rest false a w K) (fun s a' w' m' H' hk hd hb a5=>.of hk hd hb a5) [] ops.toList st a w m H rfl h rfl (Qa.refl _ _) hr
    simpa[List.range_eq_range',QF] using this
  |seq x y=>
   simp only[YT] at h;simp only[QN,cqb] at hok;have b0:QF x=true→ro=none:=fun e=>aa (by simp[QF,e])
   have b1:QF y=true→ro=none:=fun e=>aa (by simp[QF,e])
   have am:QF (.seq x y)=false→QF x=false∧QF y=false:=fun e=>by simpa[QF] using e
   split at h
   ·rename_i kx kbx alts _;split at h
    ·rename_i ps;obtain⟨u,o,h,aq⟩:=h;refine wpIn_seq (wpIn_mono (ih x st _ hok.1 h ro dp b0 B H0 rest m H a w a4 hr) fun e a' w' hp=> ?_)
     obtain⟨s,m',H',B',H0',D,hq,hf,a5⟩:=hp;unfold wjoin at hq;split at hq
     ·rename_i he;obtain rfl:=Nb he;split at hq
      ·rename_i hn;have hn:=cqa hn;obtain⟨s2,hc,hq⟩:=Yk (gl:=gl) hq;obtain⟨m3,H3,c4⟩:=hc.2 _ _ _ _ _ _ _ a5;obtain⟨cu,cm,m4,ho,bl⟩:=UL c4 (a4 ps rfl) hq;rw[hc.1,hn] at bl;obtain⟨ap,h1,x0,h2,_,lv,lb⟩:=ho.ok;obtain⟨m5,H5,c5⟩:=(Cu (gl:=gl) (n:=st.n) (ks:=kx) lv lb).2 _ _ _ _ _ _ _ bl;refine wpIn_mono (ih y _ K hok.2 (EF aq ap h1 x0 h2) ro dp b1 B' H0' rest m5 H5 a' w' a4 c5) fun e a2 w2 b8=> ?_
       obtain⟨s2,m2,H2,B2,H02,D2,ai,a9,a3⟩:=b8;exact⟨s2,m2,H2,B2,H02,_,ai,hf.trans a9 am,a3⟩
      ·cases hq
     ·cases hq
    ·cases h
   ·refine wpIn_seq (wpIn_mono (ih x st _ hok.1 h ro dp b0 B H0 rest m H a w a4 hr) fun e a' w' hp=> ?_)
    obtain⟨s,m',H',B',H0',D,hq,hf,a5⟩:=hp;split at hq
    ·rename_i he;obtain rfl:=Nb he;refine wpIn_mono (ih y s K hok.2 hq ro dp b1 B' H0' rest m' H' a' w' a4 a5) fun e a2 w2 b8=> ?_
     obtain⟨s2,m2,H2,B2,H02,D2,ai,a9,a3⟩:=b8;exact⟨s2,m2,H2,B2,H02,_,ai,hf.trans a9 am,a3⟩
    ·rename_i he;have:=Ib he;cases e with
     |normal=>exact absurd rfl this
     |_=>exact⟨s,m',H',B',H0',D,hq,hf.up fun e=>(am e).1,a5⟩
  |cond c x y=>
   simp only[YT] at h;simp only[QN,cqb] at hok;have b0:QF x=true→ro=none:=fun e=>aa (by simp[QF,e])
   have b1:QF y=true→ro=none:=fun e=>aa (by simp[QF,e])
   have am:QF (.cond c x y)=false→QF x=false∧QF y=false:=fun e=>by simpa[QF] using e
   split at h
   ·rename_i t ht;have hv:=hr.ev c;rw[ht] at hv;cases t with
    |true=>exact wpIn_cond hv.bool_inv (wpIn_mono (ih x st K hok.1 h ro dp b0 B H0 rest m H a w a4 hr) fun e a2 w2 ⟨s2,m2,H2,B2,H02,D2,ai,a9,a3⟩=>⟨s2,m2,H2,B2,H02,D2,ai,a9.up fun e=>(am e).1,a3⟩)
    |false=>exact wpIn_cond hv.bool_inv (wpIn_mono (ih y st K hok.2 h ro dp b1 B H0 rest m H a w a4 hr) fun e a2 w2 ⟨s2,m2,H2,B2,H02,D2,ai,a9,a3⟩=>⟨s2,m2,H2,B2,H02,D2,ai,a9.up fun e=>(am e).2,a3⟩)
   ·cases h
  |block id c=>
   simp only[YT] at h;simp only[QN] at hok;refine wpIn_block (wpIn_mono (ih c st _ hok h ro dp aa B H0 rest m H a w a4 hr) fun e a' w' hp=> ?_)
   obtain⟨s,m',H',B',H0',D,hq,hf,a5⟩:=hp;split at hq
   ·rename_i he;obtain rfl:=exIs_t he;simp only[Exit.inBlock,if_true];exact⟨s,m',H',B',H0',D,hq,hf,a5⟩
   ·rename_i he;cases e with
    |exit i=>
     simp only[Exit.inBlock,if_neg (exIs_f he)];exact⟨s,m',H',B',H0',D,hq,hf,a5⟩
    |_=>exact⟨s,m',H',B',H0',D,hq,hf,a5⟩
  |loop c=>
   have cl:=hok;simp only[QN] at hok;have b3:∀j,j≤k+1→∀(s:St) (m1:Nat→Lc) (H1:HV) (B1:Nat→Prop) (H01:HV) (D1:List Nat) (a1:Act) (w1:World),Fin' B H0 a w (QF c) B1 H01 D1 a1 w1→RelS m1 H1 B1 H01 gl rest s a1.tmps w1→
     (∃υ ω gs ks kb kx kbx,∃alts:υ→ω→List Alt,lkH hs (3000000+U6 c)=some (.l gs ks kb kx kbx alts))∨(YT P gl ch0 wf hs pins j (.loop c) s K→(Code.loop c).wpIn (FW ro) dp P (Post gl B H0 rest (QF c) a w K) a1 w1):=by
    intro j hj s m1 H1 B1 H01 D1 a1 w1 az ae;by_cases hl:∃υ ω gs ks kb kx kbx,∃alts:υ→ω→List Alt,lkH hs (3000000+U6 c)=some (.l gs ks kb kx kbx alts);·exact .inl hl
    refine .inr fun h=> ?_
    refine Sy (j:=j) (fun i a' w'=>i≤k+1∧∃b2 m1 H1 B1 H01 D1,YT P gl ch0 wf hs pins i (.loop c) b2 K∧Fin' B H0 a w (QF c) B1 H01 D1 a' w'∧RelS m1 H1 B1 H01 gl rest b2 a'.tmps w') (fun i a1 w1 hI=> ?_) ⟨hj,s,m1,H1,B1,H01,D1,h,az,ae⟩
    obtain⟨hi,b2,m1,H1,B1,H01,D1,hx,az,ae⟩:=hI;cases i with
    |zero=>exact hx.elim
    |succ i=>
     simp only[YT] at hx;split at hx;·rename_i hh;exact absurd ⟨_,_,_,_,_,_,_,_,hh⟩ hl
     ·refine wpIn_mono (bn i (by omega) c b2 _ hok hx ro dp aa B1 H01 rest m1 H1 a1 w1 a4 ae) fun e a2 w2 hp=> ?_
      obtain⟨s2,m2,H2,B2,H02,D2,hq,a9,a3⟩:=hp;split at hq
      ·rename_i he;obtain rfl:=Nb he;exact⟨i,Nat.lt_succ_self _,by omega,s2,m2,H2,B2,H02,_,hq,az.trans a9 fun e=>⟨e,e⟩,a3⟩
      ·rename_i he;have:=Ib he;cases e with
       |normal=>exact absurd rfl this
       |_=>exact⟨s2,m2,H2,B2,H02,_,hq,az.trans a9 fun e=>⟨e,e⟩,a3⟩
   rcases b3 (k+1) (Nat.le_refl _) st m H B H0 [] a w (.of rfl (Qa.refl _ _)) hr with⟨υ,ω,gs,ks,kb,kx,kbx,alts,hl⟩ | bv
   ·simp only[YT,hl] at h;split at h
    ·rename_i ps;obtain⟨s1,ar,h⟩:=Yk (gl:=gl) h;obtain⟨s2,au,h⟩:=Yk (gl:=gl) h;obtain⟨m1,H1,ae⟩:=(ar.trans au).2 _ _ _ _ _ _ _ hr;obtain⟨vs,bs,m',hq,a5⟩:=UL ae (a4 ps rfl) h;rw[(ar.trans au).1] at a5;obtain⟨u,o,hq⟩:=hq;refine wpIn_mono (hq.1.ok ro dp aa B H0 rest m' H1 a w (a4 ps rfl) a5).loop fun e a' w' hp=> ?_
     obtain⟨s,m2,H2,B2,H02,D2,⟨ap,aq,x,hφ,rfl,rfl⟩,hf,a3⟩:=hp;exact⟨_,m2,H2,B2,H02,D2,EF hq.2 ap aq x hφ,hf,a3⟩
    ·cases h
   ·exact bv h
  |rangeFunc g prm azz bd=>
   simp only[YT] at h;obtain rfl:=aa rfl;split at h
   ·rename_i gs ks kb kx kbx alts hl;split at h
    ·rename_i ps;split at h;·cases h
     ·rename_i ax;rw[Bool.or_eq_false_iff] at ax;obtain⟨s1,ar,h⟩:=Yk (gl:=gl) h;obtain⟨s2,au,h⟩:=Yk (gl:=gl) h;obtain⟨m1,H1,ae⟩:=(ar.trans au).2 _ _ _ _ _ _ _ hr;split at h
      ·rename_i f ci bu;split at h
       ·rename_i ts bf c9;have bg:=ae.ev g;rw[bu] at bg;obtain⟨us,hu,ca,cd⟩:=bg.fn_inv;obtain⟨vs,bs,m',hq,a5⟩:=UL ae (a4 ps rfl) h;rw[(ar.trans au).1] at a5;obtain⟨xs,u,o,bw,c6,aq⟩:=hq;obtain⟨bz,a3⟩:=Eu (R':=RelI (snap H1 (fun _=>none) m1 w)) ca cd c9 fun x t v hx ht=>MF (H1:=H1) false (fun id ver cs hh=>by cases hh) (fun id ver cs hh=>by cases hh) (fun id bx hh=>by cases hh) (fun _=>rfl) 12 x t v hx ht
        have c7:snap H1 (fun _=>none) m1 w=H1:=by
         funext b o;unfold snap;rw[if_neg];rintro⟨_,_,_,e,_⟩;cases e
        rw[c7] at a3;refine wpIn_mono (Q9n a5 hu bz a3 (Ve bf) bw c6 (a4 ps rfl) ax.1 ax.2 dp) fun e a' w' hp=> ?_
        obtain⟨s,m2,H2,B2,H02,D2,⟨ap,be,x,hφ,rfl,rfl⟩,hf,a3⟩:=hp;exact⟨_,m2,H2,B2,H02,D2,EF aq ap be x hφ,hf,a3⟩
       ·cases h
      ·cases h
    ·cases h
   ·cases h
  |scope c=>
   simp only[YT] at h;simp only[QN] at hok;refine Fo (wpIn_mono (ih c st _ hok h ro dp aa B H0 rest m H a w a4 hr) fun e a' w' hp=> ?_)
   obtain⟨s,m',H',B',H0',D,hq,hf,a5⟩:=hp;cases e with
   |goto _=>exact hq.elim
   |_=>exact⟨s,m',H',B',H0',D,hq,hf,a5⟩
  |_=>exact h.elim
end
structure Nxt (P:Program) (gl:Nat→AV) (ps:List AV) (n:Nat) (c:Code) (ks:List Nat) (kx:List Nat) (alts:List Alt) (vs:List AV) (bs:List Box):Prop where
 ok:∃vs' bs',LeVs vs vs'∧LeBs bs bs'∧Zu P gl ps n c ks vs' bs' kx alts
def Fp(P:Program)(gl:Nat→AV)(ch0:Qq)(wf:WF)(hs:QH)(ps:List AV)(k n:Nat)(c:Code)(ks:List Nat)(kb:List KB)(kx:List Nat)(kbx:List KB)(alts:List Alt)(vs:List AV)(bs:List Box)(N:List AV→List Box→Prop):Prop:=
 YT P gl ch0 wf hs (some ps) k c (ZX n ks vs bs) (fun e s=>match Nat.beq s.n n with
  |true=>match JW e with
   |true=>KG kb s (fun s=>UE ps ks kb s N)
   |false=>KG kbx s (fun s=>UE ps kx kbx s (Out alts e))
  |false=>False)
section
variable {P : Program} {gl : Nat → AV} {ch0 : Qq} {wf : WF} {hs : QH}
theorem MG{pins:Option (List AV)}(h0:ch0.Ok P gl)(a5:WF.Ok P gl wf)(a3:P.follows .mixedOrders=true){k:Nat}{c:Code}{st:St}{K:Exit→St→Prop}(a4:QN c=true)(h:YT P gl ch0 wf hs pins k c st K):Wk P gl pins c st K:=
 Q13 h0 a5 a3 pins k k (Nat.le_refl _) c st K a4 h
theorem Zu.step{P:Program}{gl:Nat→AV}{ch0:Qq}{wf:WF}{hs:QH}(h0:ch0.Ok P gl)(ao:WF.Ok P gl wf)(ae:P.follows .mixedOrders=true){ps:List AV}{n:Nat}{c:Code}{ks:List Nat}{kb:List KB}{kx:List Nat}{kbx:List KB}{alts:List Alt}(am:QN c=true){k:Nat}{vs:List AV}{bs:List Box}
  (hw:Fp P gl ch0 wf hs ps k n c ks kb kx kbx alts vs bs (Nxt P gl ps n c ks kx alts)):Zu P gl ps n c ks vs bs kx alts:=by
 refine⟨fun ro dp ag B H0 rest m H a w a4 hr=>wpL.round ?_⟩
 refine wpIn_mono (MG h0 ao ae am hw ro dp ag B H0 rest m H a w (fun b6 e=>by cases e;exact a4) hr) fun e a2 w2 hp=> ?_
 obtain⟨s,m2,H2,B2,H02,D2,hq,ad,af⟩:=hp;split at hq
 ·rename_i hn;have hn:=cqa hn;split at hq
  ·rename_i he;obtain rfl:=Nb he;obtain⟨s2,hc,hq⟩:=Yk (gl:=gl) hq;obtain⟨m3,H3,a8⟩:=hc.2 _ _ _ _ _ _ _ af;obtain⟨au,ai,m4,a7,a5⟩:=UL a8 a4 hq;rw[hc.1,hn] at a5;obtain⟨b9,aw,lv,lb,a7⟩:=a7.ok;obtain⟨m5,H5,a9⟩:=(Cu (gl:=gl) (n:=n) (ks:=ks) lv lb).2 _ _ _ _ _ _ _ a5;refine wpL.mono (a7.ok ro dp ag B2 H02 rest m5 H5 a2 w2 a4 a9) fun e a3 w3 an=> ?_
   obtain⟨s3,m6,H6,B3,H03,D3,h1,ak,h4⟩:=an;exact⟨s3,m6,H6,B3,H03,_,h1,ad.trans ak fun e=>⟨e,e⟩,h4⟩
  ·rename_i he;have:=Ib he;obtain⟨s2,hc,hq⟩:=Yk (gl:=gl) hq;obtain⟨m3,H3,a8⟩:=hc.2 _ _ _ _ _ _ _ af;obtain⟨au,ai,m4,ho,a5⟩:=UL a8 a4 hq;rw[hc.1,hn] at a5;obtain⟨aa,h1,x,h2,rfl,lv,lb⟩:=ho.ok;obtain⟨m5,H5,a9⟩:=(Cu (gl:=gl) (n:=n) (ks:=kx) lv lb).2 _ _ _ _ _ _ _ a5;cases e':aa.ex with
   |normal=>exact absurd e' this
   |_=>exact⟨_,m5,H5,B2,H02,D2,⟨aa,h1,x,h2,e'.symm,rfl⟩,ad,a9⟩
 ·cases hq
end
structure NxtR (P:Program) (gl:Nat→AV) (ps:List AV) (n:Nat) (prm:Array Tmp) (azz bd:Code) (ks:List Nat) (vs:List AV) (alts:List Alt) (xs:List (List AV)) (bs:List Box):Prop where
 ok:∃bs2,LeBs bs bs2∧GF P gl ps n prm azz bd ks vs alts xs bs2
def wrng(P:Program)(gl:Nat→AV)(ch0:Qq)(wf:WF)(hs:QH)(ps:List AV)(k n:Nat)(a7:Array Tmp)(a6 bd:Code)(ks:List Nat)(kb kbx:List KB)(vs:List AV)(alts:List Alt)(x:List AV)(bs:List Box)(N:List Box→Prop):Prop:=
 match LW ks vs with
 |true=>match Tt a7.toList x (ZX n ks vs bs) with
  |some s0=>YT P gl ch0 wf hs (some (vs++ps)) k a6 s0 (fun e s1=>match JW e with
   |true=>YT P gl ch0 wf hs (some (vs++ps)) k bd s1 (fun e s2=>match ED e with
    |some j=>match j with
     |none=>KG kb ⟨n,slOf ks vs,s2.hp,s2.nx⟩ (fun s=>UE ps ks kb s (fun a4 a3=>LeVs a4 vs∧N a3))
     |some _=>KG kbx ⟨n,slOf ks vs,s2.hp,s2.nx⟩ (fun s=>UE ps ks kbx s (fun a4 a3=>LeVs a4 vs∧Out alts e vs a3))
    |none=>False)
   |false=>False)
  |none=>False
 |false=>False
section
variable {P : Program} {gl : Nat → AV} {ch0 : Qq} {wf : WF} {hs : QH}
theorem Q48{ps:List AV}{n:Nat}{ks:List Nat}{vs:List AV}{kb:List KB}{s:St}{N:List Box→Prop}(h:KG kb ⟨n,slOf ks vs,s.hp,s.nx⟩ (fun s=>UE ps ks kb s (fun a5 a3=>LeVs a5 vs∧N a3))):∃a3,Turn gl n ks vs ps s a3∧N a3:=by
 obtain⟨s2,hc,hw⟩:=Yk (gl:=gl) h;have a4:=hw;unfold UE at a4;split at a4
 ·split at a4
  ·rename_i a8 _ bs a7;refine⟨bs,fun m H B H0 rest tmps w a9 hr=> ?_,a4.2⟩
   obtain⟨m1,H1,aa⟩:=hc.2 _ _ _ _ _ _ _ hr;have ab:UE ps ks kb s2 (fun a5 a3=>LeVs a5 vs∧a3=bs):=by
    unfold UE;rw[a8,a7];exact⟨a4.1,rfl⟩
   obtain⟨a5,a3,m2,⟨lv,rfl⟩,a6⟩:=UL aa a9 ab;rw[show s2.n=n from hc.1] at a6;exact(Cu (gl:=gl) (n:=n) (ks:=ks) lv (.refl _)).2 _ _ _ _ _ _ _ a6
  ·cases a4
 ·cases a4
theorem GF.step(h0:ch0.Ok P gl)(a9:WF.Ok P gl wf)(a4:P.follows .mixedOrders=true){ps:List AV}{k n:Nat}{a6:Array Tmp}{a3 bd:Code}{ks:List Nat}{kb kbx:List KB}{vs:List AV}{alts:List Alt}{x:List AV}{xs:List (List AV)}{bs:List Box}(ha:QN a3=true)(hb:QN bd=true)
  (hw:wrng P gl ch0 wf hs ps k n a6 a3 bd ks kb kbx vs alts x bs (NxtR P gl ps n a6 a3 bd ks vs alts xs)):GF P gl ps n a6 a3 bd ks vs alts (x::xs) bs:=by
 unfold wrng at hw;split at hw
 ·rename_i ae;split at hw
  ·rename_i s0 ad;refine⟨ae,s0,ad,(MG h0 a9 a4 ha hw).mono fun e s1 h1=> ?_⟩
   split at h1
   ·rename_i he;refine⟨Nb he,(MG h0 a9 a4 hb h1).mono fun e s2 h2=> ?_⟩
    split at h2
    ·rename_i j hj;split at h2
     ·obtain⟨a5,ht,hN⟩:=Q48 (gl:=gl) h2;exact⟨none,a5,hj,ht,hN.ok⟩
     ·rename_i c;obtain⟨a5,ht,hN⟩:=Q48 (gl:=gl) h2;exact⟨some c,a5,hj,ht,hN⟩
    ·cases h2
   ·cases h1
  ·cases hw
 ·cases hw
end
def Fm(P:Program)(gl:Nat→AV)(ch0:Qq)(wf:WF)(gd:Nat→Bool)(pins:Option (List AV))(fl f:Nat)(hs:QH)(args:List AV)(hp:Tr Box)(nx:Nat)(K:AV→St→Prop):Prop:=
 match gd f with
 |true=>match P.funcs[f]? with
  |some fn=>match fn.body with
   |some c=>match Nat.ble args.length fn.ntmps with
    |true=>YT P gl ch0 wf hs pins fl c ⟨fn.ntmps,Kw 0 args,hp,nx⟩ (fun e s=>match WA e with
     |true=>match LL P s fn.results.toList with
      |some r=>K r s
      |none=>False
     |false=>False)
    |false=>False
   |none=>False
  |none=>False
 |false=>False
def wlev(P:Program)(gl:Nat→AV)(ch0:Qq)(gd:Nat→Bool)(fl:Nat)(ex:WF):Nat→WF
 |0=>ex
 |k+1=>fun f hs args hp nx K=>match gd f with
  |true=>Fm P gl ch0 (wlev P gl ch0 gd fl ex k) gd none fl f hs args hp nx (fun r s=>K r s.hp s.nx)
  |false=>ex f hs args hp nx K
section
variable {P : Program} {gl : Nat → AV} {ch0 : Qq} {wf : WF} {hs : QH} {gd : Nat → Bool} {fl : Nat}
theorem Sq{F:Fence}{n:Nat}{fn:Func}{tmps:Array Value}{R:Ending→World→Prop}{I:World→Prop}:∀(D:List Nat) (w:World),D.Nodup→I w→(∀g∈D,w.heap[g]? =some (.deferred (some [])))→(∀g∈D,∀w,I w→w.heap[g]? =some (.deferred (some []))→I (w.putObj g (.deferred none)))→
  (∀w',I w'→∃v,(results fn tmps).run P w'= .ok v w'∧R (.returned v) w')→LeavesInM F n P fn tmps R (RM D) .returning w
 | [],w,_,hI,_,_,hQ=>hQ w hI
 |g::D,w,hn,hI,ho,hs,hQ=>by
  rw[List.nodup_cons] at hn;have hg:=ho g (by simp)
  refine⟨by simp,.inl ⟨g,_,rfl,run_takeDeferred hg,?_⟩⟩
  refine Sq D _ hn.2 (hs g (by simp) w hI hg) (fun k hk=> ?_) (fun k hk=>hs k (List.mem_cons_of_mem _ hk)) hQ
  rw[World.putObj_heap_other (fun e:k=g=>by subst e;exact hn.1 hk)]
  exact ho k (List.mem_cons_of_mem _ hk)
theorem Ai(h0:ch0.Ok P gl)(ap:WF.Ok P gl wf)(hp:UA P gd){pins:Option (List AV)}{f:Nat}{args:List AV}{a5:Tr Box}{nx:Nat}{K:AV→St→Prop}(hw:Fm P gl ch0 wf gd pins fl f hs args a5 nx K)
  (m:Nat→Lc) (H:HV) (B:Nat→Prop) (H0:HV) (rest:List (AV×Value)) (w:World) (vs:Array Value) (ah:∀ps,pins=some ps→rest.map (·.1)=ps) (hh:RelH m H B H0 gl (lkb a5) nx w) (hl:args.length=vs.size)
  (a7:∀(j:Nat) (x:AV) (v:Value),args[j]? =some x→vs[j]? =some v→RV H (Q6 (lkb a5) m) x v) (a9:∀p∈rest,RV H (Q6 (lkb a5) m) p.1 p.2):
  Ans P f vs w fun e w'=>∃v m' H' r s tmps,K r s∧e= .returned v∧Qa B w w'∧RelS m' H' B H0 gl rest s tmps w'∧RV H' (s.env m') r v:=by
 unfold Fm at hw;split at hw
 ·rename_i hg;have a4:=hp.fn f hg;unfold okFn at a4;split at hw
  ·rename_i fn hf;rw[hf] at a4;simp only[cqb,bne_iff_ne] at a4;obtain⟨a8,a4⟩:=a4;split at hw
   ·rename_i c hb;rw[hb] at a4;simp only at a4;split at hw
    ·rename_i ae;have ae:=cqe ae;refine .inl ⟨Gu hf (by simpa using a8) (by rw[hb];rfl),?_⟩
     have af:RelS m H B H0 gl rest ⟨fn.ntmps,Kw 0 args,a5,nx⟩ (Act.mk (vs++Array.replicate (fn.ntmps - vs.size) Go.undef) []).tmps w:=by
      refine⟨hh,by simp;omega,fun k=> ?_,a9⟩
      show RV H _ (lk .undef (Kw 0 args) k) _;rw[Nd,if_pos (Nat.zero_le _),Nat.sub_zero];cases hx:args[k]? with
      |none=>exact .imm _ _ (.undef _)
      |some x=>
       have hk:k<vs.size:=by rw[← hl];exact(cqd.1 hx).1
       have hv:(vs++Array.replicate (fn.ntmps - vs.size) Go.undef).getD k Go.undef=vs[k]:=by
        rw[cqj,Array.getElem?_append_left hk,cqh hk];rfl
       rw[hv];exact a7 k x _ hx (cqh hk)
     refine CallsIn.calls (F:=FW none) (n:=0) (callsIn_of_wp_marks hf hb trivial (wpIn_mono (MG h0 ap hp.mix a4 hw none 0 (fun _=>rfl) B H0 rest m H _ w ah af) fun e a' w' hq=> ?_)) (fun k d hd=>by simp[FW] at hd)
     obtain⟨s,m',H',B',H0',D,hK,a3,hr⟩:=hq;split at hK
     ·rename_i ak;split at hK
      ·rename_i r ag;have ad:LeavesInM (FW none) 0 P fn a'.tmps (fun e w'=>∃v m' H' r s tmps,K r s∧e= .returned v∧Qa B w w'∧RelS m' H' B H0 gl rest s tmps w'∧RV H' (s.env m') r v) a'.defers .returning w':=by
        rw[a3.dfr];show LeavesInM _ _ _ _ _ _ (RM D++[]) _ _;rw[List.append_nil];refine Sq (I:=fun w2=>Qa B w w2∧RelS m' H' B' H0' gl rest s a'.tmps w2) D w' a3.nod ⟨a3.bel,hr⟩ (fun g hg=>(a3.opn g hg).2.2) (fun g hg w2 hI ho=>⟨hI.1.obj (fun hB=>by have:=af.heap.low g hB;have:=(a3.opn g hg).2.1;omega) ho (fun _ _ _ q=>by cases q),hI.2.obj (a3.opn g hg).1 ho (fun _ _ _ q=>by cases q)⟩) fun w2 hI=> ?_
        obtain⟨v,hv,an⟩:=MD hI.2 ag;exact⟨v,hv,v,m',H',r,s,a'.tmps,hK,rfl,hI.1,hI.2.down a3.sub (fun b o hb=>a3.old b o hb) (hh.gv.to hI.1 fun _ _ hb=>hb),an⟩
       cases e with
       |normal=>exact ad
       |ret=>exact ad
       |_=>cases ak
      ·cases hK
     ·cases hK
    ·cases hw
   ·cases hw
  ·cases hw
 ·cases hw
theorem Q4e{ex:WF}(h0:ch0.Ok P gl)(hp:UA P gd)(a4:WF.Ok P gl ex):∀k,WF.Ok P gl (wlev P gl ch0 gd fl ex k)
 |0=>a4
 |k+1=>fun f hs args a6 nx K h=>by
  simp only[wlev] at h;split at h
  ·intro m H B H0 rest w vs hh hl a3 a5;refine(Ai h0 (Q4e h0 hp a4 k) hp h m H B H0 rest w vs (fun _ e=>nomatch e) hh hl a3 a5).mono fun e w' hq=> ?_
   obtain⟨v,m',H',r,s,tmps,hK,rfl,hb,hr,a7⟩:=hq;exact⟨v,m',H',r,s.hp,s.nx,hK,rfl,hb,hr.heap,a7,hr.rest⟩
  ·exact a4 f hs args a6 nx K h
def endP(r:AV)(r0:AV)(s:St):Prop:=LM (lkb s.hp) 12 r0 (fun t=>LeT t r)
def endH(ps:List AV)(kb:List KB)(r:AV)(a3:List Box)(r0:AV)(s:St):Prop:=
 KG kb ⟨ps.length+1,Kw 0 (r0::ps),s.hp,s.nx⟩ (fun s=>UE ps [0] kb s (fun vs bs=>LeVs vs [r]∧LeBs bs a3))
def wpure(P:Program)(gl:Nat→AV)(ch0:Qq)(wf:WF)(gd:Nat→Bool)(fl f:Nat)(hs:QH)(args:List AV)(r:AV):Prop:=
 Fm P gl ch0 wf gd (some []) fl f hs args .nil 0 (endP r)
def Q16(P:Program)(gl:Nat→AV)(ch0:Qq)(wf:WF)(gd:Nat→Bool)(fl f:Nat)(hs:QH)(kb:List KB)(args:List AV)(bs:List Box)(r:AV)(a3:List Box):Prop:=
 Fm P gl ch0 wf gd (some (KH 0 bs)) fl f hs args (hpOf 0 bs) bs.length (endH (KH 0 bs) kb r a3)
theorem Q0n{m:Nat→Lc}{H:HV}{B:Nat→Prop}{H0:HV}{hp:Tr Box}{nx:Nat}{w:World}(h:RelH m H B H0 gl (lkb hp) nx w):RelH m (snap H (lkb hp) m w) B H0 gl (lkb .nil) 0 w where
 sat:=Ad h.sat
 old b o hlt:=by
  unfold snap;rw[if_neg ?_];·exact h.old b o hlt
  ·rintro⟨id,bx,ver,h1,_,h3,rfl⟩;exact(h.sepR id _ h1 h3).1 hlt
 low:=h.low
 fresh _ _:=ZD _
 box _ _ hh:=by rw[ZD] at hh;cases hh
 sepR _ _ hh:=by rw[ZD] at hh;cases hh
 injR _ _ _ _ hh:=by rw[ZD] at hh;cases hh
 gl g:=(h.gl g).mono (HO fun id bx hh hr=>(h.sepR id bx hh hr).2.2)
 ty _ _ _ hh:=by rw[ZD] at hh;cases hh
 gv:=h.gv
theorem Pu.of(h0:ch0.Ok P gl)(a9:WF.Ok P gl wf)(hp:UA P gd){f:Nat}{args:List AV}{r:AV}(hw:wpure P gl ch0 wf gd fl f hs args r):Pu P gl f args r:=by
 refine⟨fun m H B H0 w vs hh hl a3=> ?_⟩
 refine(Ai h0 a9 hp hw m H B H0 [] w vs (fun ps e=>by cases e;rfl) hh hl a3 (fun p hp=>by simp at hp)).mono fun e w' hq=> ?_
 obtain⟨v,m',H',r0,s,tmps,hK,rfl,hb,hr,a8⟩:=hq;obtain⟨t,ht,a5⟩:=Ag (fun id b a4=>hr.heap.box id b a4) (fun id bx a4 a7=>(hr.heap.sepR id bx a4 a7).2.2) 12 r0 v _ a8 hK
 exact⟨v,m',snap H' (lkb s.hp) m' w',rfl,hb,Q0n hr.heap,.imm _ _ (ht.ok _ _ a5)⟩
theorem Q38{m':Nat→Lc}{H':HV}{B:Nat→Prop}{H0:HV}{rest:List (AV×Value)}{w w':World}{kb:List KB}{bs a4:List Box}{r r0:AV}{s:St}{tmps:Array Value}{v:Value}(a3:rest.map (·.1)=KH 0 bs)(hK:endH (KH 0 bs) kb r a4 r0 s)(hr:RelS m' H' B H0 gl rest s tmps w')(aa:RV H' (s.env m') r0 v)(hb:Qa B w w'):
  ∃v1 m' H',Ending.returned v= .returned v1∧Qa B w w'∧RelH m' H' B H0 gl (lkb (hpOf 0 a4)) a4.length w'∧RV H' (Q6 (lkb (hpOf 0 a4)) m') r v1∧∀p∈rest,RV H' (Q6 (lkb (hpOf 0 a4)) m') p.1 p.2:=by
 unfold endH at hK;obtain⟨s2,hc,hK⟩:=Yk (gl:=gl) hK;have hs:RelS m' H' B H0 gl rest ⟨(KH 0 bs).length+1,Kw 0 (r0::KH 0 bs),s.hp,s.nx⟩ (v::rest.map (·.2)).toArray w':=by
  refine⟨hr.heap,by simp[← a3],fun k=> ?_,hr.rest⟩
  show RV H' _ (lk .undef (Kw 0 (r0::KH 0 bs)) k) _;rw[Nd,if_pos (Nat.zero_le _),Nat.sub_zero];cases k with
  |zero=>exact aa
  |succ k=>
   rw[List.getElem?_cons_succ,← a3,cqs];cases hk:rest[k]? with
   |none=>exact .imm _ _ (.undef _)
   |some p=>
    have:((v::rest.map (·.2)).toArray).getD (k+1) Go.undef=p.2:=by
     rw[cqj,cqi,List.getElem?_cons_succ,cqs,hk];rfl
    rw[this];exact hr.rest p (cqr hk)
 obtain⟨m2,H2,a8⟩:=hc.2 _ _ _ _ _ _ _ hs;obtain⟨aj,ae,m3,⟨lv,lb⟩,a9⟩:=UL a8 a3 hK;obtain⟨m4,H4,a5⟩:=(Cu (gl:=gl) (n:=s2.n) (ks:=[0]) lv lb).2 _ _ _ _ _ _ _ a9;refine⟨v,m4,H4,rfl,hb,a5.heap,?_,a5.rest⟩;have:=a5.slot 0;have e:St.get (ZX s2.n [0] [r] a4) 0=r:=by
  show lk .undef (pt (slOf [] []) 0 r) 0=r;rw[UX];simp
 rw[e] at this;exact this
theorem PuH.of(h0:ch0.Ok P gl)(a7:WF.Ok P gl wf)(hp:UA P gd){f:Nat}{kb:List KB}{args:List AV}{bs a6:List Box}{r:AV}(hw:Q16 P gl ch0 wf gd fl f hs kb args bs r a6):PuH P gl f args bs r a6:=by
 refine⟨fun m H B H0 rest w vs hh hl a4 a3 a5=> ?_⟩
 refine(Ai h0 a7 hp hw m H B H0 rest w vs (fun ps e=>by cases e;exact a3) hh hl a4 a5).mono fun e w' hq=> ?_
 obtain⟨v,m',H',r0,s,tmps,hK,rfl,hb,hr,a5⟩:=hq;exact Q38 a3 hK hr a5 hb
theorem Pu.ofCall{f:Nat}{args:List AV}{r0 r:AV}{hp':Tr Box}{nx':Nat}(h:Vr P gl f args r0 hp' nx')(ht:tree (lkb hp') false 12 r0=some r):Pu P gl f args r:=by
 refine⟨fun m H B H0 w vs hh hl a3=>(h m H B H0 w vs hh hl a3).mono fun e w' hq=> ?_⟩
 obtain⟨v,m',H',rfl,hb,hH,a6⟩:=hq;exact⟨v,m',snap H' (lkb hp') m' w',rfl,hb,Q0n hH,.imm _ _ (MF (H1:=H') false (fun id ver cs hh=>YN hh) (fun id ver cs hh=>hH.box id _ hh) (fun id bx hh hr=>(hH.sepR id bx hh hr).2.2) (fun _=>rfl) 12 r0 r v a6 ht)⟩
end
def GK(r:Nat):Code→Option Code
 | .loop c=>match Nat.beq (U6 c) r with
  |true=>some c
  |false=>GK r c
 | .seq a b=>match GK r a with
  |some c=>some c
  |none=>GK r b
 | .cond _ a b=>match GK r a with
  |some c=>some c
  |none=>GK r b
 | .block _ c=>GK r c
 | .scope c=>GK r c
 |_=>none
def KN(P:Program)(f r:Nat):Code:=match P.funcs[f]? with
 |some fn=>match fn.body with
  |some c=>match GK r c with
   |some c=>c
   |none=>.skip
  |none=>.skip
 |none=>.skip
def JQ(b:Bool)(m:Nat)(r:AV)(p:Option Nat):Prop:=match b with
  |true=>(r= .bool true∧p=some m)∨(r= .bool false∧p=none)
  |false=>r= .tup []∧(p=some m∨p=none)
structure JF (P:Program) (gl:Nat→AV) (l:Nat) (xs:List (List AV)) (f:Nat) (args:List AV) (p:Option Nat) (b:Bool) (m:Nat):Prop where
  ok:∀J,JOk P gl l xs J→∀Hc w (vs:Array Value),J p (fun _=>False) Hc w→args.length=vs.size→(∀(j:Nat) (c:AV) (v:Value),args[j]? =some c→vs[j]? =some v→RelI Hc c v)→
    Ans P f vs w fun e w'=>∃v r p' O' Hc',e= .returned v∧JQ b m r p'∧(∀H,RelI H r v)∧J p' O' Hc' w'
structure Fr (gl:Nat→AV) (J:JT) (p:Option Nat) (st:St) (tmps:Array Value) (w:World):Prop where
  ex:∃O Hc m H,RelS m H (BO O w) Hc gl [] st tmps w∧HV.le H Hc∧J p O Hc w
section
variable {P : Program} {gl : Nat → AV} {l : Nat} {xs : List (List AV)} {J : JT}
theorem Fr.moved(hJ:JOk P gl l xs J){p:Option Nat}{O:Nat→Prop}{Hc:HV}{w w':World}(hj:J p O Hc w)(hb:Qa (BO O w) w w'){m':Nat→Lc}{H':HV}{B':Nat→Prop}{H0':HV}{st':St}{a4:Array Value}(hs:∀b,BO O w b→B' b)(ho:∀b o,BO O w b→H0' b o=Hc b o)
    (hr:RelS m' H' B' H0' gl [] st' a4 w'):Fr gl J p st' a4 w':=by
  have a3:RelS m' H' (BO O w) Hc gl [] st' a4 w':=hr.down hs ho ((hJ.gv _ _ _ _ hj).to hb fun _ _ h=>h)
  have a5:=hJ.own _ _ _ _ _ hj hb;have a9:∀b,b<w'.heap.size→BO O w b∨Ez O w w' b:=fun b a6=>by
    by_cases hO:O b
    · exact .inr (.inl hO)
    · rcases Nat.lt_or_ge b w.heap.size with h | h
      · exact .inl ⟨h,hO⟩
      · exact .inr (.inr ⟨h,a6⟩)
  have hk:∀b o v,H' b o=some v→Ez O w w' b∨Hc b o=some v:=fun b o v hv=>by
    rcases a9 b (Jh a3.heap.sat hv) with h | h
    · exact .inr (by rw[← a3.heap.old b o h];exact hv)
    simp_all
  have aa:=hJ.pub _ _ _ _ H' a5 a3.heap.sat hk;have af:∀b o,b<w'.heap.size→unH Hc H' b o=H' b o:=fun b o a6=>by
    unfold unH;split
    · rename_i v hv
      rcases a9 b a6 with h | h
      · rw[a3.heap.old b o h,hv]
      · rw[hJ.dis _ _ _ _ a5 b h o] at hv;cases hv
    · rfl
  refine⟨_,_,m',H',a3.base (fun b o hb=>(af b o hb.1).symm) (fun b hb=>hb.1) (fun id b ad ae ab=> ?_) (hJ.gv _ _ _ _ aa),unH_le (hJ.sat _ _ _ _ a5) a3.heap.sat,aa⟩
  obtain⟨x,y,z⟩:=a3.heap.sepR id b ad ae;refine ab.2 ⟨?_,z⟩
  grind
theorem Fr.turned(hJ:JOk P gl l xs J){p:Option Nat}{O O':Nat→Prop}{Hc Hc':HV}{w w':World}{m:Nat→Lc}{H:HV}{st:St}{tmps:Array Value}(hr:RelS m H (BO O w) Hc gl [] st tmps w)(ae:HV.le H Hc)(hj:J p (fun b=>O b∨O' b) Hc' w')(hb:Qa O w w')(hO:∀b,O' b→w.heap.size≤b)(hh:∀b o,b<w.heap.size→Hc' b o=Hc b o)(hl:HV.le Hc Hc'):Fr gl J p st tmps w':=by
  have ab:=hJ.sat _ _ _ _ hj;have af:∀b o v,H b o=some v→b<w.heap.size:=fun b o v hv=>Jh hr.heap.sat hv
  have a8:HV.le H (fun b o=>if b<w.heap.size then H b o else Hc' b o):=fun b o v hv=>by
    grind
  have a9:HV.le (fun b o=>if b<w.heap.size then H b o else Hc' b o) Hc':=fun b o v hv=>by
    simp only at hv;split at hv
    · exact hl b o v (ae b o v hv)
    · exact hv
  have own:∀id b,lkb st.hp id=some b→Real b (m id)→O (m id).g:=fun id b a3 a4=>by
    obtain⟨x,y,_⟩:=hr.heap.sepR id b a3 a4;by_cases h:O (m id).g
    · exact h
    · exact absurd ⟨y,h⟩ x
  refine⟨_,_,m,_,⟨{sat:=fun b o v hv=>ab b o v (a9 b o v hv),old:=fun b o a6=> ?_,low:=fun b a6=>a6.1,fresh:=hr.heap.fresh,box:=fun id b a3=>(hr.heap.box id b a3).mono' a8 (.refl _) fun a4=>hb.block _ (own id b a3 a4),sepR:=fun id b a3 a4=>⟨fun a6=>a6.2 (.inl (own id b a3 a4)),Nat.lt_of_lt_of_le (hr.heap.sepR id b a3 a4).2.1 hb.size,fun o=> ?_⟩,injR:=hr.heap.injR,gv:=hJ.gv _ _ _ _ hj,gl:=fun g=>(hr.heap.gl g).mono a8,ty:=fun id v cs a3=>(hr.heap.ty id v cs a3).mono (hb.block _ (own id _ a3 trivial))},hr.size,fun k=>(hr.slot k).mono a8 (.refl _),fun p hp=>by simp at hp⟩,a9,hj⟩
  · show(if b<w.heap.size then H b o else Hc' b o)=Hc' b o
    split
    · rename_i aa
      rw[hr.heap.old b o ⟨aa,fun h=>a6.2 (.inl h)⟩,hh b o aa]
    · rfl
  · simp only[if_pos (hr.heap.sepR id b a3 a4).2.1]
    exact(hr.heap.sepR id b a3 a4).2.2 o
def JIn(J:JT)(O0:Nat→Prop)(Hc0:HV)(w0:World):JT:=fun p O Hc w=>J p (fun b=>O0 b∨O b) Hc w∧Qa O0 w0 w∧(∀b,O b→w0.heap.size≤b)∧(∀b o,b<w0.heap.size→Hc b o=Hc0 b o)∧HV.le Hc0 Hc
theorem JIn.ok(hJ:JOk P gl l xs J){O0:Nat→Prop}{Hc0:HV}{w0:World}(a9:∀b,O0 b→b<w0.heap.size):JOk P gl l xs (JIn J O0 Hc0 w0) where
  sat p O Hc w h:=hJ.sat _ _ _ _ h.1
  low p O Hc w h b hb:=hJ.low _ _ _ _ h.1 b (.inr hb)
  dis p O Hc w h b hb:=hJ.dis _ _ _ _ h.1 b (.inr hb)
  gls p O Hc w h:=hJ.gls _ _ _ _ h.1
  gv p O Hc w h:=(hJ.gv _ _ _ _ h.1).sup fun b hb=>⟨hb.1,fun h=>hb.2 (.inr h)⟩
  own p O Hc w w' h hb:=by
    obtain⟨h1,h2,h3,h4,h5⟩:=h;have:=hJ.own _ _ _ _ _ h1 (hb.mono fun b hb=>⟨hb.1,fun h=>hb.2 (.inr h)⟩)
    refine⟨?_,h2.trans (hb.mono fun b hb=>⟨Nat.lt_of_lt_of_le (a9 b hb) h2.size,fun h=>by grind⟩),fun b hb=> ?_,h4,h5⟩
    · have e:Ez (fun b=>O0 b∨O b) w w'=fun b=>O0 b∨Ez O w w' b:=by
        funext b;simp_all [Ez,eq_iff_iff,or_assoc]
      simp_all
    · rcases hb with hb | hb
      · simp_all
      · exact Nat.le_trans h2.size hb.1
  pub p O Hc w H h hs hk:=by
    obtain⟨h1,h2,h3,h4,h5⟩:=h;have hn:∀b o,O0 b→H b o=none:=fun b o hb=>by
      cases hv:H b o with
      |none=>rfl
      |some v=>
        rcases hk b o v hv with h | h
        · grind
        · rw[hJ.dis _ _ _ _ h1 b (.inl hb) o] at h;cases h
    have:=hJ.pub _ _ _ _ H h1 hs fun b o v hv=>(hk b o v hv).imp (fun h=>.inr h) id
    refine⟨?_,h2,fun b hb=>h3 b hb.1,fun b o hb=> ?_,fun b o v hv=>Tz b o v (h5 b o v hv)⟩
    · have e:Tj (fun b=>O0 b∨O b) H=fun b=>O0 b∨Tj O H b:=by
        funext b;simp only[Tj,eq_iff_iff]
        grind
      simp_all
    · rw[← h4 b o hb]
      unfold unH;split
      · simp_all
      · rename_i hv
        rw[hv];cases h6:H b o with
        |none=>rfl
        |some v=>
          grind
  round k O Hc w x vs h hx hl hr:=by
    obtain⟨h1,h2,h3,h4,h5⟩:=h;obtain⟨fn,tm,ab,bd,e,hR⟩:=hJ.round _ _ _ _ _ _ h1 hx hl hr;refine⟨fn,tm,ab,bd,e,fun ro n=>(hR ro n).mono fun e w' ⟨b,e1,e2,e3⟩=>⟨b,e1,e2.mono fun b hb=>.inr hb,?_,h2.trans (e2.mono fun b hb=>.inl hb),h3,h4,h5⟩⟩
    exact e3
end
theorem RV.val_inv{H:HV}{E:Env}{v u:Value}(h:RV H E (.val v) u):u=v:=by
  generalize hx:AV.val v=x at h;cases h with
  |imm _ _ h=>cases h with
    |val=>simp_all
    |_=>cases hx
  |_=>cases hx
def Mv(r:Nat):Code→Option (Array Tmp×Code×Code)
  | .seq a b=>match Mv r a with
    |some c=>some c
    |none=>Mv r b
  | .cond _ a b=>match Mv r a with
    |some c=>some c
    |none=>Mv r b
  | .block _ c=>Mv r c
  | .loop c=>Mv r c
  | .rangeFunc _ ps a b=>match Nat.beq (U6 (.seq a b)) r with
    |true=>some (ps,a,b)
    |false=>none
  |_=>none
def rng(P:Program)(f r:Nat):Array Tmp×Code×Code:=match P.funcs[f]? with
  |some fn=>match fn.body with
    |some c=>match Mv r c with
      |some x=>x
      |none=>(#[],.skip,.skip)
    |none=>(#[],.skip,.skip)
  |none=>(#[],.skip,.skip)
def yv:AV→Option Nat
  | .val v=>match v with
    | .func g a b=>match g with
      | .yield l=>match a.toList,b.toList with
        | [],[]=>some l
        |_,_=>none
      |_=>none
    |_=>none
  |_=>none
theorem yv_inv{x:AV}{l:Nat}(h:yv x=some l):x= .val (.func (.yield l) #[] #[]):=by
  unfold yv at h;split at h
  · split at h
    · rename_i g a b
      split at h
      · split at h
        · simp_all
        · cases h
      · cases h
    · cases h
  · cases h
def yld1(ev:Operand→AV)(op:Op):Option (Nat×List AV):=
  match op with
  | .call c=>match c.callee with
    | .value x=>match yv (ev x) with
      |some l=>some (l,c.args.toList.map ev)
      |none=>none
    |_=>none
  |_=>none
def isVal:AV→Bool
  | .val _=>true
  |_=>false
def hasRes(P:Program)(f:Nat):Bool:=match P.funcs[f]? with
  |some fn=>match fn.results.toList with
    | []=>false
    |_=>true
  |none=>false
def jstep(P:Program)(gl:Nat→AV)(ch0:Qq)(wf:WF)(hs:QH)(l:Nat)(xs:List (List AV))(o:Oper)(p:Option Nat)(st:St)(K:Option Nat→St→Prop):Prop:=
  match VQ o.op with
  |true=>match yld1 (st.ev gl) o.op with
    |some (l',args)=>match optL (tree (fun _=>none) false 12) args with
      |some ts=>match p with
        |some k=>l'=l∧xs[k]? =some ts∧K (some (k+1)) (st.putO o.dst (.bool true))∧K none (st.putO o.dst (.bool false))
        |none=>False
      |none=>False
    |none=>match YH (st.ev gl) o.op with
      |some (f,args)=>match args.any isVal with
        |true=>match optL (tree (fun _=>none) false 12) args with
          |some ts=>match hasRes P f with
            |true=>∃m,JF P gl l xs f ts p true m∧K (some m) (st.putO o.dst (.bool true))∧K none (st.putO o.dst (.bool false))
            |false=>∃m,JF P gl l xs f ts p false m∧K (some m) (st.putO o.dst (.tup []))∧K none (st.putO o.dst (.tup []))
          |none=>False
        |false=>TC P gl ch0 wf hs o st (K p)
      |none=>False
  |false=>TC P gl ch0 wf hs o st (K p)
def jseq(P:Program)(gl:Nat→AV)(ch0:Qq)(wf:WF)(hs:QH)(l:Nat)(xs:List (List AV))(all:List Oper):List Oper→Option Nat→St→(Option Nat→St→Prop)→Prop
  | [],p,st,K=>K p st
  |o::r,p,st,K=>match Z2 o.dst st.n with
    |true=>match M2 o (gval all o st) with
      |some true=>jstep P gl ch0 wf hs l xs o p st (fun p s=>jseq P gl ch0 wf hs l xs all r p s K)
      |some false=>jseq P gl ch0 wf hs l xs all r p (st.putO o.dst (.tup [])) K
      |none=>False
    |false=>False
structure JO (a b:Exit×List AV) (m:Nat) (e:Exit) (p:Option Nat) (vs:List AV) (bs:List Box):Prop where
  ok:bs=[]∧((e=a.1∧p=some m∧vs=a.2)∨(e=b.1∧p=none∧vs=b.2))
theorem JO.a{a b:Exit×List AV}{m:Nat}{e:Exit}{p:Option Nat}{vs:List AV}(h1:e=a.1)(h2:p=some m)(h3:vs=a.2):JO a b m e p vs []:=⟨rfl,.inl ⟨h1,h2,h3⟩⟩
theorem JO.b{a b:Exit×List AV}{m:Nat}{e:Exit}{p:Option Nat}{vs:List AV}(h1:e=b.1)(h2:p=none)(h3:vs=b.2):JO a b m e p vs []:=⟨rfl,.inr ⟨h1,h2,h3⟩⟩
def JQL(n:Nat)(kx:List Nat)(a b:Exit×List AV)(m:Nat)(e:Exit)(p:Option Nat)(s:St):Prop:=(e=a.1∧p=some m∧s=ZX n kx a.2 [])∨(e=b.1∧p=none∧s=ZX n kx b.2 [])
structure JL (P:Program) (gl:Nat→AV) (l:Nat) (xs:List (List AV)) (n:Nat) (c:Code) (ks:List Nat) (vs:List AV) (bs:List Box) (p:Option Nat) (kx:List Nat) (x y:Exit×List AV) (m:Nat):Prop where
  ok:∀J,JOk P gl l xs J→∀(a:Act) (w:World),Fr gl J p (ZX n ks vs bs) a.tmps w→wpL P none 0 c (fun e a' w'=>∃p' st',JQL n kx x y m e p' st'∧a'.defers=a.defers∧Fr gl J p' st' a'.tmps w') a w
structure JH where
  ks:List Nat
  kb:List KB
  kx:List Nat
  x:Exit×List AV
  y:Exit×List AV
def lkJ:List (Nat×JH)→Nat→Option JH
  | [],_=>none
  | (k,h)::r,n=>match Nat.beq k n with
    |true=>some h
    |false=>lkJ r n
def Cw(P:Program)(gl:Nat→AV)(ch0:Qq)(wf:WF)(hs:QH)(js:List (Nat×JH))(l:Nat)(xs:List (List AV)):Nat→Code→Option Nat→St→(Exit→Option Nat→St→Prop)→Prop
  |0,_,_,_,_=>False
  |k+1,c,p,st,K=>match c with
    | .skip=>K .normal p st
    | .label _=>K .normal p st
    | .exit id=>K (.exit id) p st
    | .ret=>K .ret p st
    | .region _ ops draw=>match draw with
      |true=>YT P gl ch0 wf hs (some []) (k+1) c st (fun e s=>K e p s)
      |false=>jseq P gl ch0 wf hs l xs ops.toList ops.toList p st (K .normal)
    | .seq a b => Cw P gl ch0 wf hs js l xs k a p st (fun e p s => match JW e with
        |true=>Cw P gl ch0 wf hs js l xs k b p s K
        |false=>K e p s)
    | .cond c a b=>match st.ev gl c with
      | .bool t=>match t with
        |true=>Cw P gl ch0 wf hs js l xs k a p st K
        |false=>Cw P gl ch0 wf hs js l xs k b p st K
      |_=>False
    | .block id c=>Cw P gl ch0 wf hs js l xs k c p st (fun e p s=>match exIs e id with
      |true=>K .normal p s
      |false=>K e p s)
    | .loop c=>match lkJ js (U6 c) with
      |some h=>match h with
        | ⟨ks,kb,kx,x,y⟩=>KG kb st (fun s=>UE [] ks kb s (fun vs bs=>∃m,JL P gl l xs st.n c ks vs bs p kx x y m∧K x.1 (some m) (ZX st.n kx x.2 [])∧K y.1 none (ZX st.n kx y.2 [])))
      |none=>False
    |_=>False
section
variable {P : Program} {gl : Nat → AV} {ch0 : Qq} {wf : WF} {hs : QH} {js : List (Nat × JH)} {l : Nat} {xs : List (List AV)} {J : JT}
theorem O3{H:HV}{E:Env}{args ts:List AV}{vs:Array Value}(hl:args.length=vs.size)(hv:∀(j:Nat) (x:AV) (v:Value),args[j]? =some x→vs[j]? =some v→RV H E x v)(h:optL (tree (fun _=>none) false 12) args=some ts):ts.length=vs.size∧∀(j:Nat) (t:AV) (v:Value),ts[j]? =some t→vs[j]? =some v→RelI H t v:=by
  have a5:snap H (fun _=>none) (fun _=>⟨0,0,0⟩) default=H:=by
    funext b o;simp_all [snap,if_neg]
  have:=Eu (R':=RelI (snap H (fun _=>none) (fun _=>⟨0,0,0⟩) default)) hl hv h fun x t v hx ht=>MF (H1:=H) false (fun id ver cs hh=>by cases hh) (fun id ver cs hh=>by cases hh) (fun id bx hh=>by cases hh) (fun _=>rfl) 12 x t v hx ht
  grind
theorem Q99(h0:ch0.Ok P gl)(bg:WF.Ok P gl wf)(hJ:JOk P gl l xs J){o:Oper}{p:Option Nat}{st:St}{K:Option Nat→St→Prop}{a:Act}{w:World}(hd:Z2 o.dst st.n=true)(hw:jstep P gl ch0 wf hs l xs o p st K)(hf:Fr gl J p st a.tmps w)(next:Act→World→Prop)(Q:Exit→Act→World→Prop)
    (hn:∀a' w' p' st',K p' st'→a'.defers=a.defers→Fr gl J p' st' a'.tmps w'→next a' w'):o.wpIn (FW none) 0 P a w next Q:=by
  obtain⟨O,Hc,m,H,hr,a9,hj⟩:=hf.ex;have bm:TC P gl ch0 wf hs o st (K p)→o.wpIn (FW none) 0 P a w next Q:=fun hw=>
    It h0 bg hr hd hw none 0 next Q fun a' w' m' H' st' hk b7 hb bc=>hn a' w' p st' hk b7 (Fr.moved hJ hj hb (fun _ h=>h) (fun _ _ _=>rfl) bc)
  unfold jstep at hw;split at hw
  · rename_i hc
    split at hw
    · rename_i l' args hy
      split at hw
      · rename_i ts an
        split at hw
        · rename_i k
          obtain⟨rfl,hx,bv,bw⟩:=hw;unfold yld1 at hy;split at hy
          · rename_i c ho
            split at hy
            · rename_i x b6
              split at hy
              · rename_i l1 bk
                cases hy;have bh:=yv_inv bk;have b0:=hr.ev x;rw[bh] at b0;have az:a.eval x= .func (.yield l') #[] #[]:=b0.val_inv;have ae:=Ie hr c.args.toList;obtain⟨ah,ak⟩:=O3 (vs:=c.args.map a.eval) (by simp) (fun j y v hy hv=>ae.2 j y v hy (by simp_all)) an
                obtain⟨fn,tm,b1,bd,a7,aa⟩:=hJ.round _ _ _ _ _ _ hj hx ah (fun j t v ht hv=>(ak j t v ht hv).mono a9)
                refine⟨fun _ _=>trivial,?_⟩
                have af:(execOp a.eval o).run P w= .ok (.round l' fn tm b1 bd) w:=by
                  unfold execOp;simp only[ho,resolve,b6,cqv,az,Deferred.ofValue,Sem.run_pure,cqw,invoke,Array.empty_append];exact a7
                rw[Oper.semAt_eq _ _ _ (fun c e=>by simp_all),af]
                refine⟨(fun hh=>by grind [FW]),(aa none (0 - 1)).mono fun e w' a4=> ?_⟩
                obtain⟨b,rfl,hb,c0⟩:=a4;have b8:Fr gl J (if b then some (k+1) else none) st a.tmps w':=Fr.turned (O':=fun _=>False) hJ hr a9 (by
                  simp_all) hb (fun _ h=>h.elim) (fun _ _ _=>rfl) (.refl _)
                have ad:∀u:Bool,u=b→K (if b then some (k+1) else none) (st.putO o.dst (.bool u))→next (a.put o.dst (.bool b)) w':=fun u hu hK=>by
                  subst hu;refine hn _ _ _ _ hK (Xw _ _ _) ?_;obtain⟨O2,Hc2,m2,H2,am,a6,ag⟩:=b8.ex;exact⟨O2,Hc2,m2,H2,am.putO hd (.imm _ _ (.bool _)),a6,ag⟩
                grind
              · cases hy
            · cases hy
          · cases hy
        · cases hw
      · cases hw
    · split at hw
      · rename_i f args ab
        split at hw
        · split at hw
          · rename_i ts an
            obtain⟨b,q,b3,hK⟩:∃b q,JF P gl l xs f ts p b q∧∀r p',JQ b q r p'→K p' (st.putO o.dst r):=by
              split at hw
              · obtain⟨q,h1,h2,h3⟩:=hw
                exact⟨true,q,h1,fun r p' hq=>by rcases hq with⟨rfl,rfl⟩ | ⟨rfl,rfl⟩<;>assumption⟩
              · obtain⟨q,h1,h2,h3⟩:=hw
                exact⟨false,q,h1,fun r p' hq=>by obtain⟨rfl,rfl | rfl⟩:=hq<;>assumption⟩
            obtain⟨vs,a7,hl,be⟩:=SP hr ab;obtain⟨c,x,bn,ho,_⟩:=GH ab;obtain⟨ah,ak⟩:=O3 hl be an;have ax:=hJ.low _ _ _ _ hj;have b9:JIn J O Hc w p (fun _=>False) Hc w:=⟨by
              simp_all,Qa.refl _ _,fun _ h=>h.elim,fun _ _ _=>rfl,.refl _⟩
            have au:=b3.ok _ (JIn.ok hJ (Hc0:=Hc) (w0:=w) ax) Hc w vs b9 ah (fun j t v ht hv=>(ak j t v ht hv).mono a9)
            have ad:∀(e:Ending) (w':World),(∃v r p' O' Hc',e=Ending.returned v∧JQ b q r p'∧(∀H,RelI H r v)∧JIn J O Hc w p' O' Hc' w')→∃v,e=Ending.returned v∧next (a.put o.dst v) w':=fun e w' a4=>by
              obtain⟨v,r,p',O',Hc',rfl,hq,ay,g1,g2,g3,g4,g5⟩:=a4;refine⟨v,rfl,hn _ _ _ _ (hK r p' hq) (Xw _ _ _) ?_⟩;obtain⟨O2,Hc2,m2,H2,am,a6,ag⟩:=(Fr.turned hJ hr a9 g1 g2 g3 g4 g5).ex;exact⟨O2,Hc2,m2,H2,am.putO hd (.imm _ _ (ay _)),a6,ag⟩
            refine⟨fun _ _=>trivial,?_⟩
            rw[Oper.semAt_eq _ _ _ (fun c e=>by simp_all),a7]
            rcases au with⟨aw,b5⟩ | ⟨v,w',hv,hq⟩
            · rw[aw vs w]
              refine⟨(fun hh=>by grind [FW]),NZ (b5.mono fun e w' hp=> ?_)⟩
              obtain⟨v,rfl,ai⟩:=ad e w' hp;exact ai
            · rw[hv]
              obtain⟨v',he,ai⟩:=ad _ w' hq;cases he;exact ai
          · cases hw
        simp_all
      · cases hw
  simp_all
theorem Q3d(h0:ch0.Ok P gl)(a7:WF.Ok P gl wf)(hJ:JOk P gl l xs J){all:List Oper}{d0:List Deferred}{K:Option Nat→St→Prop}{Q:Exit→Act→World→Prop}
    (hQ:∀(p:Option Nat) (sF:St) (a:Act) (w:World),K p sF→a.defers=d0→Fr gl J p sF a.tmps w→Q .normal a w):
    ∀(a3 r:List Oper) (p:Option Nat) (st:St) (a:Act) (w:World),all=a3++r→jseq P gl ch0 wf hs l xs all r p st K→a.defers=d0→Fr gl J p st a.tmps w→wpOpsIn (FW none) 0 P all.toArray Q (List.range' a3.length r.length) a w
  |a3,[],p,st,a,w,_,hk,hd,hf=>hQ p st a w hk hd hf
  |a3,o::r,p,st,a,w,he,hk,hd,hf=>by
    simp only[List.length_cons,List.range'_succ,wpOpsIn];have ho:all.toArray[a3.length]? =some o:=by simp_all
    simp only[ho];have ih:=Q3d h0 a7 hJ (all:=all) hQ (a3++[o]) r;simp only[List.length_append,List.length_cons,List.length_nil,Nat.zero_add,List.append_assoc,List.singleton_append] at ih;simp only[jseq] at hk;obtain⟨O,Hc,m,H,hr,a6,hj⟩:=hf.ex;split at hk
    · rename_i a4
      split at hk
      · rename_i hg
        rw[if_pos (XQ hr hg)]
        grind [Q99,hk]
      · rename_i hg
        rw[if_neg (by grind [XQ])]
        exact⟨fun _ _=>trivial,ih _ _ _ w he hk ((Xw _ _ _).trans hd) ⟨O,Hc,m,H,hr.putO a4 (.tup [] #[] rfl (fun j c v hj=>by simp at hj)),a6,hj⟩⟩
      · cases hk
    · cases hk
theorem SX(h0:ch0.Ok P gl)(aa:WF.Ok P gl wf)(a8:P.follows .mixedOrders=true)(hJ:JOk P gl l xs J):∀(k:Nat) (c:Code) (p:Option Nat) (st:St) (K:Exit→Option Nat→St→Prop),QN c=true→QF c=false→Cw P gl ch0 wf hs js l xs k c p st K→
    ∀(a:Act) (w:World),Fr gl J p st a.tmps w→c.wpIn (FW none) 0 P (fun e a' w'=>∃p' st',K e p' st'∧a'.defers=a.defers∧Fr gl J p' st' a'.tmps w') a w
  |0,_,_,_,_,_,_,h=>h.elim
  |k+1,c,p,st,K,hok,hrg,h=>by
    have ih:=SX h0 aa a8 hJ k;intro a w hf;cases c with
    |skip=>exact wpIn_skip ⟨p,st,h,rfl,hf⟩
    |label l=>exact wpIn_label ⟨p,st,h,rfl,hf⟩
    |exit id=>exact wpIn_exit ⟨p,st,h,rfl,hf⟩
    |ret=>exact wpIn_ret ⟨p,st,h,rfl,hf⟩
    |region id ops draw=>
      simp only[Cw] at h;cases draw with
      |true=>
        simp only at h;obtain⟨O,Hc,m,H,hr,ae,hj⟩:=hf.ex;refine wpIn_mono (MG h0 aa a8 hok h none 0 (fun _=>rfl) _ _ [] m H a w (fun ps e=>by grind) hr) fun e a' w' hp=> ?_
        obtain⟨s,m',H',B',H0',D,hk,a3,an⟩:=hp;have hD:=a3.non rfl;subst hD;exact⟨p,s,hk,by simpa[RM] using a3.dfr,Fr.moved hJ hj a3.bel a3.sub a3.old an⟩
      |false=>
        refine wpIn_region ?_;have:=Q3d h0 aa hJ (hs:=hs) (all:=ops.toList) (d0:=a.defers) (Q:=fun e a' w'=>∃p' st',K e p' st'∧a'.defers=a.defers∧Fr gl J p' st' a'.tmps w') (fun p s a' w' hk hd hf=>⟨p,s,hk,hd,hf⟩) [] ops.toList p st a w rfl h rfl hf
        simp_all [List.range_eq_range']
    |seq x y=>
      simp only[Cw] at h;simp only[QN,cqb] at hok;simp only[QF,Bool.or_eq_false_iff] at hrg;refine wpIn_seq (wpIn_mono (ih x p st _ hok.1 hrg.1 h a w hf) fun e a' w' hp=> ?_)
      obtain⟨p',s,hq,hd,a7⟩:=hp;split at hq
      · rename_i he
        obtain rfl:=Nb he;refine wpIn_mono (ih y p' s K hok.2 hrg.2 hq a' w' a7) fun e a2 w2 au=> ?_
        simp_all
      · rename_i he
        have:=Ib he;cases e with
        |normal=>simp_all
        |_=>exact⟨p',s,hq,hd,a7⟩
    |cond c x y=>
      simp only[Cw] at h;simp only[QN,cqb] at hok;simp only[QF,Bool.or_eq_false_iff] at hrg;obtain⟨O,Hc,m,H,hr,ae,hj⟩:=hf.ex;split at h
      · rename_i t ht
        have hv:=hr.ev c;rw[ht] at hv;cases t with
        |true=>exact wpIn_cond hv.bool_inv (ih x p st K hok.1 hrg.1 h a w hf)
        |false=>exact wpIn_cond hv.bool_inv (ih y p st K hok.2 hrg.2 h a w hf)
      · cases h
    |block id c=>
      simp only[Cw] at h;simp only[QN] at hok;simp only[QF] at hrg;refine wpIn_block (wpIn_mono (ih c p st _ hok hrg h a w hf) fun e a' w' hp=> ?_)
      obtain⟨p',s,hq,hd,a7⟩:=hp;split at hq
      · rename_i he
        obtain rfl:=exIs_t he;simp only[Exit.inBlock,if_true]
        grind
      · rename_i he
        cases e with
        |exit i=>
          simp only[Exit.inBlock,if_neg (exIs_f he)]
          grind
        |_=>exact⟨p',s,hq,hd,a7⟩
    |loop c=>
      simp only[Cw] at h;split at h
      · rename_i h2 _
        obtain⟨ks,kb,kx,x,y⟩:=h2;simp only at h;obtain⟨s1,ad,h⟩:=Yk (gl:=gl) h;obtain⟨O,Hc,m,H,hr,ae,hj⟩:=hf.ex;obtain⟨m1,H1,ao⟩:=ad.2 _ _ _ _ _ _ _ hr;obtain⟨vs,bs,m2,⟨q,hL,aj,ak⟩,ag⟩:=UL ao rfl h;rw[ad.1] at ag;have am:=Fr.moved hJ hj (Qa.refl _ w) (fun _ h=>h) (fun _ _ _=>rfl) ag
        refine(wpL.mono (hL.ok J hJ a w am) fun e a' w' ⟨p',s',hq,d,f⟩=>⟨p',s',?_,d,f⟩).loop
        rcases hq with⟨rfl,rfl,rfl⟩ | ⟨rfl,rfl,rfl⟩
        · exact aj
        · exact ak
      simp_all
    |_=>exact h.elim
structure NxtJ (P:Program) (gl:Nat→AV) (l:Nat) (xs:List (List AV)) (n:Nat) (c:Code) (ks:List Nat) (kx:List Nat) (x y:Exit×List AV) (m:Nat) (vs:List AV) (bs:List Box) (p:Option Nat):Prop where
  ok:∃vs' bs',LeVs vs vs'∧LeBs bs bs'∧JL P gl l xs n c ks vs' bs' p kx x y m
def jround(P:Program)(gl:Nat→AV)(ch0:Qq)(wf:WF)(hs:QH)(js:List (Nat×JH))(l:Nat)(xs:List (List AV))(k n:Nat)(c:Code)(ks:List Nat)(kb:List KB)(vs:List AV)(bs:List Box)(p:Option Nat)(kx:List Nat)(x y:Exit×List AV)(m:Nat)(N:List AV→List Box→Option Nat→Prop):Prop:=
  Cw P gl ch0 wf hs js l xs k c p (ZX n ks vs bs) (fun e p s=>match Nat.beq s.n n with
    |true=>match JW e with
      |true=>KG kb s (fun s=>UE [] ks kb s (fun vs bs=>N vs bs p))
      |false=>UE [] kx [] s (fun vs bs=>JO x y m e p vs bs)
    |false=>False)
theorem JL.step(h0:ch0.Ok P gl)(ap:WF.Ok P gl wf)(a9:P.follows .mixedOrders=true){k n:Nat}{c:Code}(ak:QN c=true)(ao:QF c=false){ks:List Nat}{kb:List KB}{vs:List AV}{bs:List Box}{p:Option Nat}{kx:List Nat}{x y:Exit×List AV}{m:Nat}(hx:JW x.1=false)(hy:JW y.1=false)
    (hw:jround P gl ch0 wf hs js l xs k n c ks kb vs bs p kx x y m (NxtJ P gl l xs n c ks kx x y m)):JL P gl l xs n c ks vs bs p kx x y m:=by
  refine⟨fun J hJ a w hf=>wpL.round ?_⟩
  refine wpIn_mono (SX h0 ap a9 hJ k c p _ _ ak ao hw a w hf) fun e a2 w2 hp=> ?_
  obtain⟨p2,s,hq,a7,aj⟩:=hp;split at hq
  · rename_i hn
    have hn:=cqa hn;obtain⟨O,Hc,m1,H,hr,b0,hj⟩:=aj.ex;split at hq
    · rename_i he
      obtain rfl:=Nb he;obtain⟨s2,hc,hq⟩:=Yk (gl:=gl) hq;obtain⟨m3,H3,am⟩:=hc.2 _ _ _ _ _ _ _ hr;obtain⟨aq,af,m4,hL,a4⟩:=UL am rfl hq;rw[hc.1,hn] at a4;obtain⟨b7,ax,lv,lb,hL⟩:=hL.ok;obtain⟨m5,H5,an⟩:=(Cu (gl:=gl) (n:=n) (ks:=ks) lv lb).2 _ _ _ _ _ _ _ a4;have a5:=Fr.moved hJ hj (Qa.refl _ w2) (fun _ h=>h) (fun _ _ _=>rfl) an
      exact wpL.mono (hL.ok J hJ a2 w2 a5) fun e a3 w3 ⟨p',s',q,d,f⟩=>⟨p',s',q,d.trans a7,f⟩
    · rename_i he
      have:=Ib he;obtain⟨aq,af,m4,⟨rfl,hL⟩,a4⟩:=UL hr rfl hq;rw[hn] at a4;have a5:=Fr.moved hJ hj (Qa.refl _ w2) (fun _ h=>h) (fun _ _ _=>rfl) a4
      have a8:∃p' st',JQL n kx x y m e p' st'∧a2.defers=a.defers∧Fr gl J p' st' a2.tmps w2:=by
        refine⟨p2,_,?_,a7,a5⟩;rcases hL with⟨h1,h2,h3⟩ | ⟨h1,h2,h3⟩
        · exact .inl ⟨h1,h2,by rw[h3]⟩
        · exact .inr ⟨h1,h2,by rw[h3]⟩
      cases e with
      |normal=>simp_all
      |_=>exact a8
  · cases hq
def jres:AV→Bool
  | .bool _=>true
  | .tup []=>true
  | .undef=>true
  |_=>false
theorem jres_ok{H:HV}{E:Env}{r:AV}{v:Value}(h:RV H E r v)(hr:jres r=true)(H':HV):RelI H' r v:=by
  unfold jres at hr;split at hr
  · rw[h.bool_inv];exact .bool _
  · obtain⟨vs,rfl,hl,_⟩:=h.tup_inv
    exact .tup [] vs hl (fun j c u hj=>by simp at hj)
  · exact .undef _
  · cases hr
def jfun(P:Program)(gl:Nat→AV)(ch0:Qq)(wf:WF)(gd:Nat→Bool)(fl f:Nat)(hs:QH)(js:List (Nat×JH))(l:Nat)(xs:List (List AV))(args:List AV)(p:Option Nat)(b:Bool)(m:Nat):Prop:=
  match gd f with
  |true=>match P.funcs[f]? with
    |some fn=>match fn.body with
      |some c=>match Nat.ble args.length fn.ntmps&& !QF c with
        |true=>Cw P gl ch0 wf hs js l xs fl c p ⟨fn.ntmps,Kw 0 args,.nil,0⟩ (fun e p s=>match WA e with
          |true=>match LL P s fn.results.toList with
            |some r=>match jres r with
              |true=>JQ b m r p
              |false=>False
            |none=>False
          |false=>False)
        |false=>False
      |none=>False
    |none=>False
  |false=>False
theorem JF.of{gd:Nat→Bool}(h0:ch0.Ok P gl)(aw:WF.Ok P gl wf)(hp:UA P gd){fl f:Nat}{args:List AV}{p:Option Nat}{b:Bool}{m:Nat}(hw:jfun P gl ch0 wf gd fl f hs js l xs args p b m):JF P gl l xs f args p b m:=by
  refine⟨fun J hJ Hc w vs hj hl a8=> ?_⟩
  unfold jfun at hw;split at hw
  · rename_i hg
    have a3:=hp.fn f hg;unfold okFn at a3;split at hw
    · rename_i fn hf
      rw[hf] at a3;simp only[cqb,bne_iff_ne] at a3;obtain⟨ao,a3⟩:=a3;split at hw
      · rename_i c a9
        rw[a9] at a3;simp only at a3;split at hw
        · rename_i a5
          rw[cqb,Bool.not_eq_true'] at a5;have ar:=a5.2;have a5:=cqe a5.1;refine .inl ⟨Gu hf (by simp_all) (by simp_all),?_⟩
          have ad:=hJ.sat _ _ _ _ hj;have hh:RelH (fun _=>⟨0,0,0⟩) Hc (BO (fun _=>False) w) Hc gl (lkb .nil) 0 w:=
            {sat:=ad,old:=fun _ _ _=>rfl,low:=fun _ hk=>hk.1,fresh:=fun _ _=>ZD _,box:=(fun _ _ hh=>by simp_all [ZD]),sepR:=(fun _ _ hh=>by simp_all [ZD]),injR:=(fun _ _ _ _ hh=>by simp_all [ZD]),gl:=hJ.gls _ _ _ _ hj,ty:=(fun _ _ _ hh=>by simp_all [ZD]),gv:=hJ.gv _ _ _ _ hj}
          have aq:RelS (fun _=>⟨0,0,0⟩) Hc (BO (fun _=>False) w) Hc gl [] ⟨fn.ntmps,Kw 0 args,.nil,0⟩ (Act.mk (vs++Array.replicate (fn.ntmps - vs.size) Go.undef) []).tmps w:=by
            refine⟨hh,by simp;omega,fun k=> ?_,fun p hp=>by simp at hp⟩
            show RV Hc _ (lk .undef (Kw 0 args) k) _;rw[Nd,if_pos (Nat.zero_le _),Nat.sub_zero];cases hx:args[k]? with
            |none=>exact .imm _ _ (.undef _)
            |some x=>
              have hk:k<vs.size:=by grind
              have hv:(vs++Array.replicate (fn.ntmps - vs.size) Go.undef).getD k Go.undef=vs[k]:=by
                rw[cqj,Array.getElem?_append_left hk,cqh hk];rfl
              rw[hv];exact .imm _ _ (a8 k x _ hx (cqh hk))
          refine CallsIn.calls (F:=FW none) (n:=0) (callsIn_of_wp hf a9 trivial (wpIn_mono (SX h0 aw hp.mix hJ fl c p _ _ a3 ar hw _ w ⟨_,_,_,_,aq,.refl _,hj⟩) fun e a' w' hq=> ?_)) (fun k d hd=>by grind [FW])
          obtain⟨p',s,hK,hd,ak⟩:=hq;obtain⟨O,Hc',m',H',ap,ax,am⟩:=ak.ex;split at hK
          · rename_i ai
            split at hK
            · rename_i r ab
              split at hK
              · rename_i an
                obtain⟨v,hv,au⟩:=MD ap ab;have a6:∃v0 r p' O' Hc',Ending.returned v= .returned v0∧JQ b m r p'∧(∀H,RelI H r v0)∧J p' O' Hc' w':=⟨v,r,p',O,Hc',rfl,hK,jres_ok au an,am⟩;cases e with
                |normal=>exact⟨hd,v,hv,a6⟩
                |ret=>exact⟨hd,v,hv,a6⟩
                |_=>cases ai
              · cases hK
            · cases hK
          · cases hK
        · cases hw
      · cases hw
    · cases hw
  · cases hw
theorem Q8o{H:HV}{y:Value}{a3:List AV}{us:Array Value}(hr:∀(j:Nat) (c:AV) (v:Value),a3[j]? =some c→us[j]? =some v→RelI H c v)(j:Nat)(c:AV)(v:Value)(hc:(AV.val y::a3)[j]? =some c)(hv:(#[y]++us)[j]? =some v):RelI H c v:=by
  cases j with
  |zero=>
    simp only[List.getElem?_cons_zero,cqf] at hc;subst hc;have:y=v:=by grind
    subst this;exact .val _
  |succ j=>
    grind
theorem JQ_end{b:Bool}{m:Nat}{r:AV}{p:Option Nat}(h:JQ b m r p):p=some m∨p=none:=by
  cases b with
  |true=>exact h.elim (fun h=>.inl h.2) fun h=>.inr h.2
  |false=>exact h.2
theorem ItOk.of{f:Nat}{a3:List AV}(a4:NF P f)(b:Bool)(h:∀l,JF P gl l xs f (.val (.func (.yield l) #[] #[])::a3) (some 0) b xs.length):ItOk P gl f a3 xs:=⟨fun l J hJ Hc w us hj hl hr=>by
  have hF:=h l;have a5:(AV.val (.func (.yield l) #[] #[])::a3).length=(#[Value.func (.yield l) #[] #[]]++us).size:=by grind
  have h1:=hF.ok J hJ Hc w (#[Value.func (.yield l) #[] #[]]++us) hj a5 (Q8o hr);exact(h1.calls a4).mono fun e w' ⟨v,r,p',O',Hc',e1,e2,e3,e4⟩=>⟨v,p',O',Hc',e1,JQ_end e2,e4⟩⟩
end
abbrev Str:=List UInt8
def ix{α:Type}(l:List α)(k:Int):Option α:=if 0≤k then l[k.toNat]? else none
@[reducible] def w6(n:Int):Int:=IntKind.u64.wrap n
@[reducible] def wr(n:Int):Int:=IntKind.i64.wrap n
@[reducible] def ii(n:Int):AV:=.int .i64 n
@[reducible] def kk(n:Nat):KB:= {slot:=n}
theorem lr{x:AV}:LeV x x:=.refl x
@[reducible] def jb(o:Bool)(v:Bool→List AV)(b:List Box):List Alt:=[⟨fun(_:Unit)=>true=o,.normal,fun _=>v true,fun _=>b⟩,⟨fun(_:Unit)=>false=o,.normal,fun _=>v false,fun _=>b⟩]
@[reducible] def lp{α β:Type}(o:α ⊕ β)(e:Exit)(v:α→List AV)(b:α→List Box)(e':Exit)(v':β→List AV)(b':β→List Box):List Alt:=[⟨fun x=>Sum.inl x=o,e,v,b⟩,⟨fun x=>Sum.inr x=o,e',v',b'⟩]
@[reducible] def l1{α:Type}(o:α)(e:Exit)(v:α→List AV)(b:α→List Box):List Alt:=[⟨fun x=>x=o,e,v,b⟩]
section
variable {ρ : Type} {r : ρ}
theorem kIf{c:Bool}{x y:Option ρ}{A B:Prop}(hA:x=some r→A)(hB:y=some r→B)(h:(if c=true then x else y)=some r):(c=true→A)∧(c=false→B):=by
 cases c with
 |true=>exact⟨fun _=>hA h,nofun⟩
 |false=>exact⟨nofun,fun _=>hB h⟩
theorem KM{x:Option ρ}{A B:Prop}(hA:x=some r→A)(hB:x=some r→B)(h:x=some r):Both A B:=⟨hA h,hB h⟩
theorem kBoS{x:Option ρ}{A:Prop}(hA:x=some r→A)(h:x=some r):Both A A:=⟨hA h,hA h⟩
theorem kIfD{p:Prop} [Decidable p] {x y:Option ρ} {A B:Prop} (hA:x=some r→A) (hB:y=some r→B) (h:(if p then x else y)=some r):(decide p=true→A)∧(decide p=false→B):=by
 by_cases hp:p;·rw[if_pos hp] at h;exact⟨fun _=>hA h,fun e=>absurd hp (of_decide_eq_false e)⟩
 ·rw[if_neg hp] at h;exact⟨fun e=>absurd (of_decide_eq_true e) hp,fun _=>hB h⟩
theorem kG{p:Prop} [Decidable p] {x:Option ρ} {A:Prop} (hA:x=some r→A) (h:(if p then x else none)=some r):p∧A:=by
 by_cases hp:p;·rw[if_pos hp] at h;exact⟨hp,hA h⟩
 ·rw[if_neg hp] at h;cases h
theorem kA{α:Type}{sh:α→AV}{l:List α}{q:Prop} [Decidable q] {x:Option ρ} {A:Prop} (hA:x=some r→A) (h:(if q then x else none)=some r):(l.length=(List.map sh l).length∧q)∧A:=by
 by_cases hp:q;·rw[if_pos hp] at h;exact⟨⟨by simp,hp⟩,hA h⟩
 ·rw[if_neg hp] at h;cases h
theorem kT{p:Prop}{x:Option ρ}{A:Prop}(hp:p)(hA:x=some r→A)(h:x=some r):p∧A:=⟨hp,hA h⟩
theorem kNone{A:Prop}(h:(none:Option ρ)=some r):A:=by cases h
theorem kIx{α:Type}{enc:α→AV}{l:List α}{k:Int}{f:α→Option ρ}{A:α→Prop}(hA:∀x,f x=some r→A x)(h:(ix l k>>=f)=some r):∃x,(0≤k∧(List.map enc l)[k.toNat]? =some (enc x))∧A x:=by
 unfold ix at h;split at h
 ·rename_i h0;cases hx:l[k.toNat]? with
  |none=>rw[hx] at h;cases h
  |some x=>rw[hx] at h;exact⟨x,⟨h0,by rw[cqs,hx];rfl⟩,hA x h⟩
 ·cases h
theorem kIxR{α τ:Type}{enc:α→AV}{sh:τ→AV}{un:α→τ}{l:List α}{k:Int}{f:τ→Option ρ}{A:τ→Prop}(hv:∀a,enc a=sh (un a))(hA:∀x,f x=some r→A x)(h:(Option.map un (ix l k)>>=f)=some r):∃x,(0≤k∧(List.map enc l)[k.toNat]? =some (sh x))∧A x:=by
 unfold ix at h;split at h
 ·rename_i h0;cases hx:l[k.toNat]? with
  |none=>rw[hx] at h;cases h
  |some x=>rw[hx] at h;exact⟨un x,⟨h0,by rw[cqs,hx,Option.map_some,hv]⟩,hA _ h⟩
 ·cases h
theorem kOx{α:Type}{enc:α→AV}{l:List α}{k:Nat}{f:α→Option ρ}{A:α→Prop}(hA:∀x,f x=some r→A x)(h:(l[k]? >>=f)=some r):∃x,(List.map enc l)[k]? =some (enc x)∧A x:=by
 cases hx:l[k]? with
 |none=>rw[hx] at h;cases h
 |some x=>rw[hx] at h;exact⟨x,by rw[cqs,hx];rfl,hA x h⟩
theorem kOxR{α τ:Type}{enc:α→AV}{sh:τ→AV}{un:α→τ}{l:List α}{k:Nat}{f:τ→Option ρ}{A:τ→Prop}(hv:∀a,enc a=sh (un a))(hA:∀x,f x=some r→A x)(h:(Option.map un l[k]? >>=f)=some r):∃x,(List.map enc l)[k]? =some (sh x)∧A x:=by
 cases hx:l[k]? with
 |none=>rw[hx] at h;cases h
 |some x=>rw[hx] at h;exact⟨un x,by rw[cqs,hx,Option.map_some,hv],hA _ h⟩
theorem kU{s:Str}{k:Int}{f:UInt8→Option ρ}{A:UInt8→Prop}(hA:∀x,f x=some r→A x)(h:(ix s k>>=f)=some r):∃x,(0≤k∧s[k.toNat]? =some x)∧A x:=by
 unfold ix at h;split at h
 ·rename_i h0;cases hx:s[k.toNat]? with
  |none=>rw[hx] at h;cases h
  |some x=>rw[hx] at h;exact⟨x,⟨h0,rfl⟩,hA x h⟩
 ·cases h
theorem kC{P:Program}{gl:Nat→AV}{g:Nat}{args:List AV}{τ:Type}{sh:τ→AV}{x:Option τ}{f:τ→Option ρ}{A:τ→Prop}(hP:∀y,x=some y→Pu P gl g args (sh y))(hA:∀y,f y=some r→A y)(h:(x>>=f)=some r):∃y,Pu P gl g args (sh y)∧A y:=by
 cases x with
 |none=>cases h
 |some y=>exact⟨y,hP y rfl,hA y h⟩
theorem kCb{P:Program}{gl:Nat→AV}{g:Nat}{args:List AV}{c:Option Bool}{x y:Option ρ}{A B:Prop}(hP:∀u,c=some u→Pu P gl g args (.bool u))(hA:x=some r→A)(hB:y=some r→B)(h:(c>>=fun u=>if u=true then x else y)=some r):∃u,Pu P gl g args (.bool u)∧(u=true→A)∧(u=false→B):=by
 cases c with
 |none=>cases h
 |some u=>exact⟨u,hP u rfl,kIf hA hB h⟩
theorem kN{α:Type}{m:α}{f:α→Option ρ}{A:α→Prop}(n:α)(e:n=m)(hA:∀n,f n=some r→A n)(h:(some n>>=f)=some r):∃n,n=m∧A n:=⟨n,e,hA n h⟩
theorem kW{α:Type}{sh:α→AV}{v:AV}{f:α→Option ρ}{A:α→Prop}(x:α)(e:LeV v (sh x))(hA:∀x,f x=some r→A x)(h:(some x>>=f)=some r):∃x,LeV v (sh x)∧A x:=⟨x,e,hA x h⟩
theorem kB{α:Type}{sh:α→AV}{xs:List AV}{f:List α→Option ρ}{A:List α→Prop}(l:List α)(e:List.map sh l=xs)(hA:∀l,f l=some r→A l)(h:(some l>>=f)=some r):∃l,List.map sh l=xs∧A l:=⟨l,e,hA l h⟩
theorem kBE{α:Type}{sh:α→AV}{xs:List AV}{f:List α→Option ρ}{A:List α→Prop}(l0:List α)(e:List.map sh l0=xs)(hA:∀l,l=l0→f l=some r→A l)(h:(some l0>>=f)=some r):∃l,List.map sh l=xs∧A l:=⟨l0,e,hA l0 rfl h⟩
theorem kO{α:Type}{sh:α→AV}{xs:List AV}{n:Nat}{f:List α→Option ρ}{A:List α→Prop}(l:List α)(e:List.map sh l=xs)(hn:l.length=n)(hA:∀l,f l=some r→A l)(h:(some l>>=f)=some r):∃l,(List.map sh l=xs∧l.length=n)∧A l:=⟨l,⟨e,hn⟩,hA l h⟩
theorem kL1{P:Program}{gl:Nat→AV}{ps:List AV}{n:Nat}{c:Code}{ks:List Nat}{vs:List AV}{bs:List Box}{kx:List Nat}{υ α:Type}{alts:υ→α→List Alt}{x:Option α}{f:υ→α→Option ρ}{A:υ→α→Prop}(u:υ)(hL:∀o,x=some o→Zu P gl ps n c ks vs bs kx (alts u o))(hA:∀u a,f u a=some r→A u a)(h:(some u>>=fun u=>x>>=f u)=some r):
  ∃u o,Zu P gl ps n c ks vs bs kx (alts u o)∧∀a,a=o→A u a:=by
 cases x with
 |none=>cases h
 |some o=>exact⟨u,o,hL o rfl,fun a e=>by subst e;exact hA u a h⟩
theorem kR1{P:Program}{gl:Nat→AV}{ps:List AV}{n f:Nat}{ts:List AV}{a4:Array Tmp}{a3 bd:Code}{ks:List Nat}{vs:List AV}{bs:List Box}{υ α:Type}{alts:υ→α→List Alt}{x:Option α}{k:υ→α→Option ρ}{A:υ→α→Prop}(u:υ)(hL:∀o,x=some o→∃xs,ItOk P gl f ts xs∧GF P gl ps n a4 a3 bd ks vs (alts u o) xs bs)(hA:∀u a,k u a=some r→A u a)(h:(some u>>=fun u=>x>>=k u)=some r):
  ∃xs u o,ItOk P gl f ts xs∧GF P gl ps n a4 a3 bd ks vs (alts u o) xs bs∧∀a,a=o→A u a:=by
 cases x with
 |none=>cases h
 |some o=>
  obtain⟨xs,h1,h2⟩:=hL o rfl;exact⟨xs,u,o,h1,h2,fun a e=>by subst e;exact hA u a h⟩
theorem kL2{P:Program}{gl:Nat→AV}{ps:List AV}{n:Nat}{c:Code}{ks:List Nat}{vs:List AV}{bs:List Box}{kx:List Nat}{υ α β:Type}{alts:υ→α ⊕ β→List Alt}{x:Option (α ⊕ β)}{f:υ→α→Option ρ}{g:υ→β→Option ρ}{A:υ→α→Prop}{B:υ→β→Prop}(u:υ){m:υ→α ⊕ β→Option ρ}(e1:∀u a,m u (.inl a)=f u a:=by intros;rfl)(e2:∀u a,m u (.inr a)=g u a:=by intros;rfl)(hL:∀o,x=some o→Zu P gl ps n c ks vs bs kx (alts u o))(hA:∀u a,f u a=some r→A u a)(hB:∀u b,g u b=some r→B u b)
  (h:(some u>>=fun u=>x>>=m u)=some r):∃u o,Zu P gl ps n c ks vs bs kx (alts u o)∧(∀a,Sum.inl a=o→A u a)∧∀b,Sum.inr b=o→B u b:=by
 cases x with
 |none=>cases h
 |some o=>exact⟨u,o,hL o rfl,fun a e=>by subst e;exact hA u a ((e1 u a).symm.trans h),fun b e=>by subst e;exact hB u b ((e2 u b).symm.trans h)⟩
theorem kL3{P:Program}{gl:Nat→AV}{ps:List AV}{n:Nat}{c:Code}{ks:List Nat}{vs:List AV}{bs:List Box}{kx:List Nat}{υ α β γ:Type}{alts:υ→α ⊕ β ⊕ γ→List Alt}{x:Option (α ⊕ β ⊕ γ)}{f:υ→α→Option ρ}{g:υ→β→Option ρ}{k:υ→γ→Option ρ}{A:υ→α→Prop}{B:υ→β→Prop}{C:υ→γ→Prop}(u:υ){m:υ→α ⊕ β ⊕ γ→Option ρ}(e1:∀u a,m u (.inl a)=f u a:=by intros;rfl)(e2:∀u a,m u (.inr (.inl a))=g u a:=by intros;rfl)(e3:∀u a,m u (.inr (.inr a))=k u a:=by intros;rfl)(hL:∀o,x=some o→Zu P gl ps n c ks vs bs kx (alts u o))(hA:∀u a,f u a=some r→A u a)(hB:∀u b,g u b=some r→B u b)(hC:∀u b,k u b=some r→C u b)
  (h:(some u>>=fun u=>x>>=m u)=some r):∃u o,Zu P gl ps n c ks vs bs kx (alts u o)∧(∀a,Sum.inl a=o→A u a)∧(∀b,Sum.inr (Sum.inl b)=o→B u b)∧∀b,Sum.inr (Sum.inr b)=o→C u b:=by
 cases x with
 |none=>cases h
 |some o=>exact⟨u,o,hL o rfl,fun a e=>by subst e;exact hA u a ((e1 u a).symm.trans h),fun b e=>by subst e;exact hB u b ((e2 u b).symm.trans h),fun b e=>by subst e;exact hC u b ((e3 u b).symm.trans h)⟩
theorem kJb{id:Nat}{υ:Type}{y:Option Bool}{f g:υ→Option ρ}{I:υ→Bool→Prop}{A B:υ→Prop}(u0:υ)(hI:∀u,u=u0→∀o,y=some o→I u o)(hA:∀u,f u=some r→A u)(hB:∀u,g u=some r→B u)(h:(some u0>>=fun u=>y>>=fun o=>if o=true then f u else g u)=some r):
  ∃u o,Jn id (I u o)∧(∀_:Unit,true=o→A u)∧∀_:Unit,false=o→B u:=by
 cases y with
 |none=>cases h
 |some o=>
  refine⟨u0,o,hI u0 rfl o rfl,fun _ e=> ?_,fun _ e=> ?_⟩
  ·subst e;exact hA u0 h
  ·subst e;exact hB u0 h
theorem kJ1{id:Nat}{υ α:Type}{y:Option α}{f:υ→α→Option ρ}{I:υ→α→Prop}{A:υ→α→Prop}(u0:υ)(hI:∀u,u=u0→∀o,y=some o→I u o)(hA:∀u a,f u a=some r→A u a)(h:(some u0>>=fun u=>y>>=f u)=some r):
  ∃u o,Jn id (I u o)∧∀a,a=o→A u a:=by
 cases y with
 |none=>cases h
 |some o=>exact⟨u0,o,hI u0 rfl o rfl,fun a e=>by subst e;exact hA u0 a h⟩
theorem kJ1E{id:Nat}{υ α:Type}{y:Option α}{f:υ→α→Option ρ}{I:υ→α→Prop}{A:υ→α→Prop}(u0:υ)(hI:∀u,u=u0→∀o,y=some o→I u o)(hA:∀u,u=u0→∀a,f u a=some r→A u a)(h:(some u0>>=fun u=>y>>=f u)=some r):
  ∃u o,Jn id (I u o)∧∀a,a=o→A u a:=by
 cases y with
 |none=>cases h
 |some o=>exact⟨u0,o,hI u0 rfl o rfl,fun a e=>by subst e;exact hA u0 rfl a h⟩
theorem kXj{υ:Type}{alts:υ→ρ→List Alt}{e:Exit}{vs:List AV}{bs:List Box}{u u0:υ}(he:u=u0)(o:ρ)(hO:Out (alts u0 o) e vs bs)(h:some o=some r):Out (alts u r) e vs bs:=by cases h;rw[he];exact hO
theorem kE{enc:ρ→AV}{t:AV}(v:ρ)(e:LeT t (enc v))(h:some v=some r):LeT t (enc r):=by cases h;exact e
theorem kEr{enc:ρ→AV}(v:ρ)(h:some v=some r):LeT (enc v) (enc r):=by cases h;exact⟨fun _ _ h=>h⟩
theorem kX{alts:ρ→List Alt}{e:Exit}{vs:List AV}{bs:List Box}(o:ρ)(hO:Out (alts o) e vs bs)(h:some o=some r):Out (alts r) e vs bs:=by cases h;exact hO
theorem kM{P:Program}{gl:Nat→AV}{ps:List AV}{n:Nat}{c:Code}{ks:List Nat}{vs a4:List AV}{bs a3:List Box}{kx:List Nat}{alts:ρ→List Alt}{x:Option ρ}(hv:LeVs vs a4)(hb:LeBs bs a3)(hL:∀o,x=some o→Zu P gl ps n c ks a4 a3 kx (alts o))(h:x=some r):Nxt P gl ps n c ks kx (alts r) vs bs:=⟨⟨a4,a3,hv,hb,hL r h⟩⟩
theorem kM0{P:Program}{gl:Nat→AV}{ps:List AV}{n:Nat}{c:Code}{ks:List Nat}{vs:List AV}{bs:List Box}{kx:List Nat}{alts:ρ→List Alt}{x:Option ρ}(hL:∀o,x=some o→Zu P gl ps n c ks vs bs kx (alts o))(h:x=some r):Nxt P gl ps n c ks kx (alts r) vs bs:=⟨⟨vs,bs,.refl _,.refl _,hL r h⟩⟩
end
theorem Zu.le{P:Program}{gl:Nat→AV}{ps:List AV}{n:Nat}{c:Code}{ks:List Nat}{vs a5:List AV}{bs a4:List Box}{kx:List Nat}{alts:List Alt}(hv:LeVs vs a5)(hb:LeBs bs a4)(h:Zu P gl ps n c ks a5 a4 kx alts):Zu P gl ps n c ks vs bs kx alts:=⟨fun ro d a7 B H0 rest m H a w a3 hr=>by
 obtain⟨m5,H5,a6⟩:=(Cu (gl:=gl) (n:=n) (ks:=ks) hv hb).2 _ _ _ _ _ _ _ hr;exact h.ok ro d a7 B H0 rest m5 H5 a w a3 a6⟩
section
variable {ρ : Type} {r : ρ}
theorem kH{P:Program}{gl:Nat→AV}{g:Nat}{args:List AV}{bs:List Box}{τ:Type}{sh:τ→AV}{bt:τ→List Box}{x:Option τ}{f:τ→Option ρ}{A:τ→Prop}(hP:∀y,x=some y→PuH P gl g args bs (sh y) (bt y))(hA:∀y,f y=some r→A y)(h:(x>>=f)=some r):∃y,PuH P gl g args bs (sh y) (bt y)∧A y:=by
 cases x with
 |none=>cases h
 |some y=>exact⟨y,hP y rfl,hA y h⟩
theorem leEnd{vs ts:List AV}{bs bt:List Box}(h:LeVs vs ts)(k:LeBs bs bt):LeVs vs ts∧LeBs bs bt:=⟨h,k⟩
theorem kEH{enc:ρ→AV}{bt:ρ→List Box}{vs:List AV}{bs:List Box}(v:ρ)(e:LeVs vs [enc v]∧LeBs bs (bt v))(h:some v=some r):LeVs vs [enc r]∧LeBs bs (bt r):=by cases h;exact e
end
theorem LeV.owl{id ver sz n n':Nat}(h:n=n'):LeV (.ow id ver sz n) (.ow id ver sz n'):=h▸ .refl _
theorem LeB.ownEq{v sz:Nat}{xs ys:List AV}(h:ys=xs):LeB (.own v sz xs) (.own v sz ys):=h▸ .refl _
section
variable {α : Type} {sh : α → AV}
theorem mZL{L l:List α}{z y:AV}(h:List.map sh L=List.map sh l++[y]):List.map sh L=(List.map sh l++[z]).set (Int.toNat (l.length:Int)) y:=by simp[h]
theorem mA(l:List α)(x:α):List.map sh (l++[x])=List.map sh l++[sh x]:=by simp
theorem mAp{l m:List α}{A B:List AV}(h:List.map sh l=A)(k:List.map sh m=B):List.map sh (l++m)=A++B:=by rw[List.map_append,h,k]
theorem mTD(l:List α)(h k:Nat):List.map sh ((l.take h).drop k)=((List.map sh l).take h).drop k:=by simp
theorem mT(l:List α)(h:Nat):List.map sh (l.take h)=(List.map sh l).take h:=by simp
theorem mD(l:List α)(k:Nat):List.map sh (l.drop k)=(List.map sh l).drop k:=by simp
theorem mS(l:List α)(k:Nat)(x:α):List.map sh (l.set k x)=(List.map sh l).set k (sh x):=by simp
theorem leSl{sz:Nat}{xs ys:List AV}(h:xs=ys):LeV (.sl sz ys) (.sl sz xs):=LeV.of_eq (by rw[h])
theorem mLen(l:List α):(l.length:Int)=((List.map sh l).length:Int):=by simp
theorem mAR{τ:Type}{hh:τ→AV}{mk:τ→α}(hm:∀x,sh (mk x)=hh x)(l:List α)(x:τ):List.map sh (l++[mk x])=List.map sh l++[hh x]:=by simp[hm]
theorem mSR{τ:Type}{hh:τ→AV}{mk:τ→α}(hm:∀x,sh (mk x)=hh x)(l:List α)(k:Nat)(x:τ):List.map sh (l.set k (mk x))=(List.map sh l).set k (hh x):=by simp[hm]
theorem nM(l:List α):l.length=(List.map sh l).length:=by simp
theorem nA(l:List α)(x:α):(l++[x]).length=l.length+1:=by simp
end
def eI(x:Int):AV:=.int .i64 x
def eB(x:Bool):AV:=.bool x
def eS(x:Str):AV:=.str x
def eU64(x:Int):AV:=.int .u64 x
def eI32(x:Int):AV:=.int .i32 x
def eLI(x:List Int):AV:=.sl 1 (List.map eI x)
def eLLI(x:List (List Int)):AV:=.sl 1 (List.map eLI x)
def LU(x:(List Int×Int)):AV:=.tup [eLI x.1,eI x.2]
def eLS(x:List Str):AV:=.sl 1 (List.map eS x)
def Wz(x:(Int×Bool)):AV:=.tup [eI x.1,eB x.2]
def Yj(x:(Bool×Int)):AV:=.tup [eB x.1,eI x.2]
def Ef(x:(Int×Int)):AV:=.tup [eU64 x.1,eU64 x.2]
def Vn(x:(Int×Int)):AV:=.tup [eI x.1,eI x.2]
structure Qb where
 fx:Int
 fA:Int
 fB:Int
 fy:Int
 fC:Int
 deriving Inhabited,DecidableEq
def Qm(x:Qb):AV:=.agg [.int .i64 x.fx,.int .i64 x.fA,.int .i64 x.fB,.int .i64 x.fy,.int .i64 x.fC]
structure Qr where
 fc:Str
 fb:Qb
 fJ:List Int
 fP:Int
 deriving Inhabited,DecidableEq
def Ql(x:Qr):AV:=.agg [.str x.fc,.int .i64 x.fb.fx,.int .i64 x.fb.fA,.int .i64 x.fb.fB,.int .i64 x.fb.fy,.int .i64 x.fb.fC,.sl 1 (List.map eI x.fJ),.int .i64 x.fP]
structure Qo where
 fc:Str
 fBy:Int
 deriving Inhabited,DecidableEq
def Q7(x:Qo):AV:=.agg [.str x.fc,.int .i64 x.fBy]
structure gLin where
 fK:Int
 fL:List Qo
 deriving Inhabited,DecidableEq
def Qi(x:gLin):AV:=.agg [.int .i64 x.fK,.sl 2 (List.map Q7 x.fL)]
structure Q5 where
 fm:gLin
 fF:Str
 fAt:List gLin
 deriving Inhabited,DecidableEq
def Q4(x:Q5):AV:=.agg [.int .i64 x.fm.fK,.sl 2 (List.map Q7 x.fm.fL),.str x.fF,.sl 2 (List.map Qi x.fAt)]
structure gVal where
 fN:Int
 fD:Int
 deriving Inhabited,DecidableEq
def Qd(x:gVal):AV:=.agg [.int .i64 x.fN,.int .i64 x.fD]
structure QO (α:Type) where
 fOp:Int
 fc:Str
 fp:gVal
 fb:Qb
 fm:gLin
 fg:List Q5
 fe:List α
inductive Qc where
 |mk (x:QO Qc)
abbrev Q3:=QO Qc
def Qc.f:Qc→Q3
 | .mk x=>x
@[simp] theorem Qc.mk_f(e:Qc):Qc.mk e.f=e:=by cases e;rfl
@[simp] theorem Qc.f_mk(x:Q3):(Qc.mk x).f=x:=rfl
theorem Qc.lt{x:Q3}{a:Qc}(h:a∈x.fe):sizeOf a<sizeOf (Qc.mk x):=by
 have:=List.sizeOf_lt_of_mem h;cases x;simp only[Qc.mk.sizeOf_spec,QO.mk.sizeOf_spec] at*;omega
def Qh:Qc→AV
 | .mk x=>.agg [.int .i64 x.fOp,.str x.fc,.int .i64 x.fp.fN,.int .i64 x.fp.fD,.int .i64 x.fb.fx,.int .i64 x.fb.fA,.int .i64 x.fb.fB,.int .i64 x.fb.fy,.int .i64 x.fb.fC,.int .i64 x.fm.fK,.sl 2 (List.map Q7 x.fm.fL),.sl 4 (List.map Q4 x.fg),.sl 13 (x.fe.attach.map fun a=>Qh a.1)]
 termination_by e=>sizeOf e
 decreasing_by exact Qc.lt a.2
def Q8(x:Q3):AV:=.agg [.int .i64 x.fOp,.str x.fc,.int .i64 x.fp.fN,.int .i64 x.fp.fD,.int .i64 x.fb.fx,.int .i64 x.fb.fA,.int .i64 x.fb.fB,.int .i64 x.fb.fy,.int .i64 x.fb.fC,.int .i64 x.fm.fK,.sl 2 (List.map Q7 x.fm.fL),.sl 4 (List.map Q4 x.fg),.sl 13 (List.map Qh x.fe)]
theorem Ia(e:Qc):Qh e=Q8 e.f:=by
 cases e with
 |mk x=>rw[Qh];simp[Q8,Qc.f]
structure Zq (α:Type) where
 fOp:Int
 fc:Str
 fE:Int
 fI:Int
 fH:Int
 fg:List Q5
 fo:Q3
 fd:List α
inductive Q0 where
 |mk (x:Zq Q0)
abbrev Qf:=Zq Q0
def Q0.f:Q0→Qf
 | .mk x=>x
@[simp] theorem Q0.mk_f(e:Q0):Q0.mk e.f=e:=by cases e;rfl
@[simp] theorem Q0.f_mk(x:Qf):(Q0.mk x).f=x:=rfl
theorem Q0.lt{x:Qf}{a:Q0}(h:a∈x.fd):sizeOf a<sizeOf (Q0.mk x):=by
 have:=List.sizeOf_lt_of_mem h;cases x;simp only[Q0.mk.sizeOf_spec,Zq.mk.sizeOf_spec] at*;omega
def Q9:Q0→AV
 | .mk x=>.agg [.int .i64 x.fOp,.str x.fc,.int .i64 x.fE,.int .i64 x.fI,.int .i64 x.fH,.sl 4 (List.map Q4 x.fg),.int .i64 x.fo.fOp,.str x.fo.fc,.int .i64 x.fo.fp.fN,.int .i64 x.fo.fp.fD,.int .i64 x.fo.fb.fx,.int .i64 x.fo.fb.fA,.int .i64 x.fo.fb.fB,.int .i64 x.fo.fb.fy,.int .i64 x.fo.fb.fC,.int .i64 x.fo.fm.fK,.sl 2 (List.map Q7 x.fo.fm.fL),.sl 4 (List.map Q4 x.fo.fg),.sl 13 (List.map Qh x.fo.fe),.sl 20 (x.fd.attach.map fun a=>Q9 a.1)]
 termination_by e=>sizeOf e
 decreasing_by exact Q0.lt a.2
def Qt(x:Qf):AV:=.agg [.int .i64 x.fOp,.str x.fc,.int .i64 x.fE,.int .i64 x.fI,.int .i64 x.fH,.sl 4 (List.map Q4 x.fg),.int .i64 x.fo.fOp,.str x.fo.fc,.int .i64 x.fo.fp.fN,.int .i64 x.fo.fp.fD,.int .i64 x.fo.fb.fx,.int .i64 x.fo.fb.fA,.int .i64 x.fo.fb.fB,.int .i64 x.fo.fb.fy,.int .i64 x.fo.fb.fC,.int .i64 x.fo.fm.fK,.sl 2 (List.map Q7 x.fo.fm.fL),.sl 4 (List.map Q4 x.fo.fg),.sl 13 (List.map Qh x.fo.fe),.sl 20 (List.map Q9 x.fd)]
theorem J2(e:Q0):Q9 e=Qt e.f:=by
 cases e with
 |mk x=>rw[Q9];simp[Qt,Q0.f]
structure Qp where
 fq:List Qr
 fd:List Q0
def Zf(x:Qp):AV:=.agg [.sl 8 (List.map Ql x.fq),.sl 20 (List.map Q9 x.fd)]
structure QE where
 fM:Int
 fAt:List Int
 deriving Inhabited,DecidableEq
def Qk(x:QE):AV:=.agg [.int .i64 x.fM,.sl 1 (List.map eI x.fAt),.undef,.undef,.undef,.undef,.undef,.undef,.undef,.undef,.undef,.undef,.undef,.undef,.undef,.undef,.undef,.undef,.undef,.undef,.undef,.undef]
structure Qg where
 fc:Str
 fp:Int
 deriving Inhabited,DecidableEq
def Qe(x:Qg):AV:=.agg [.str x.fc,.int .i64 x.fp]
structure Q2 where
 fk:Qp
 fv:List Str
 fi:List Str
 fw:List Int
def Rz(x:Q2):AV:=.agg [.sl 8 (List.map Ql x.fk.fq),.sl 20 (List.map Q9 x.fk.fd),.sl 1 (List.map eS x.fv),.sl 1 (List.map eS x.fi),.sl 1 (List.map eI x.fw)]
structure Qu where
 fO:gVal
 fG:Qb
 deriving Inhabited,DecidableEq
def Gh(x:Qu):AV:=.agg [.int .i64 x.fO.fN,.int .i64 x.fO.fD,.int .i64 x.fG.fx,.int .i64 x.fG.fA,.int .i64 x.fG.fB,.int .i64 x.fG.fy,.int .i64 x.fG.fC]
structure gTensor where
 fb:Qb
 fJ:List Int
 fU:List gVal
 deriving Inhabited,DecidableEq
structure HF where
 fc:Str
 fQ:gTensor
 deriving Inhabited,DecidableEq
def egNamed(x:HF):AV:=.agg [.str x.fc,.int .i64 x.fQ.fb.fx,.int .i64 x.fQ.fb.fA,.int .i64 x.fQ.fb.fB,.int .i64 x.fQ.fb.fy,.int .i64 x.fQ.fb.fC,.sl 1 (List.map eI x.fQ.fJ),.sl 2 (List.map Qd x.fQ.fU)]
structure QT where
 fR:Int
 fT:Int
 fS:Int
 deriving Inhabited,DecidableEq
def VE(x:QT):AV:=.agg [.int .u64 x.fR,.int .u64 x.fT,.int .u64 x.fS]
structure HE where
 f_0:Int
 f_1:Int
 deriving Inhabited,DecidableEq
def HC(x:HE):AV:=.agg [.int .u64 x.f_0,.int .u64 x.f_1]
structure Q1 where
 fj:List (Str×Int)
 ff:Int
 fh:List Qg
 fa:List Qc
 fu:List QE
theorem IJ(x:Q3):Qh (.mk x)=Q8 x:=Ia _
theorem Vf(x:Qf):Q9 (.mk x)=Qt x:=J2 _
theorem legStmt(x:Qf):LeL (AV.cells (Qt x)) (AV.cells (Q9 (.mk x))):=by rw[Vf];exact .refl _
def L5(x:List Qr):AV:=.sl 8 (List.map Ql x)
def Z7(x:List Q0):AV:=.sl 20 (List.map Q9 x)
def Q2b(x:List QE):AV:=.sl 22 (List.map Qk x)
def DB(x:(List QE×Int)):AV:=.tup [Q2b x.1,eI x.2]
def KP(x:List Q5):AV:=.sl 4 (List.map Q4 x)
def KY(x:List Qo):AV:=.sl 2 (List.map Q7 x)
def Cr(x:List Qc):AV:=.sl 13 (List.map Qh x)
def I9(x:List gLin):AV:=.sl 2 (List.map Qi x)
def Z3(x:List Qg):AV:=.sl 2 (List.map Qe x)
def Gg(x:(Qr×Bool)):AV:=.tup [Ql x.1,eB x.2]
def KL(x:(Q3×Int)):AV:=.tup [Q8 x.1,eI x.2]
def Kx(x:(gLin×Int)):AV:=.tup [Qi x.1,eI x.2]
def Yg(x:(List Q0×Int)):AV:=.tup [Z7 x.1,eI x.2]
def Q51(x:(Qf×Int)):AV:=.tup [Qt x.1,eI x.2]
def Gf(x:(List Q5×Int)):AV:=.tup [KP x.1,eI x.2]
def Xk(x:(Qb×Int)):AV:=.tup [Qm x.1,eI x.2]
def BD(x:List HF):AV:=.sl 8 (List.map egNamed x)
def GI(x:(Qu×Int)):AV:=.tup [Gh x.1,eI x.2]
def eLgVal(x:List gVal):AV:=.sl 2 (List.map Qd x)
def Mt(x:(Qu×Qu×Int)):AV:=.tup [Gh x.1,Gh x.2.1,eI x.2.2]
def Qs(x:(gVal×Int)):AV:=.tup [Qd x.1,eI x.2]
end HY
