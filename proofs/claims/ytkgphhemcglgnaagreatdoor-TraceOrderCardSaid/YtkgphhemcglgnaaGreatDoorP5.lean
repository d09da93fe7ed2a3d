/- Proved in the last of these texts: for every input the law returns true and its arguments read afterwards as they read before. This text: a part of the proof. -/
import Derived.Test.YtkgphhemcglgnaaGreatDoorP4
import Derived.Lib.Bytealg
import Derived.Test.YtkgphhemcglgnaaGreatDoorProg
set_option linter.unusedVariables false
set_option linter.unusedSimpArgs false
set_option linter.unusedSectionVars false
set_option linter.defProp false
namespace HY
open Go Go.RowKit
def defOp(o:Oper)(st:St)(gl:Nat→AV):Option (Nat×List AV):=
 match o.op with
 | .defer c=>match o.guard with
  |none=>match o.dst with
   |none=>match c.callee with
    | .value x=>match c.args.toList with
     | []=>match st.ev gl x with
      | .fn g caps=>some (g,caps)
      |_=>none
     |_=>none
    |_=>none
   |some _=>none
  |some _=>none
 |_=>none
def FF(P:Program)(gl:Nat→AV)(ch:Qq)(rd:Yb):List Oper→St→Option (St×Nat×List AV)
 | [],_=>none
 |o::l,st=>match l with
  | []=>match defOp o st gl with
   |some x=>some (st,x)
   |none=>none
  |o2::l2=>if Z2 o.dst st.n then(match o.guard with
   |none=>match H8 P gl ch rd o st with
    |some s=>FF P gl ch rd (o2::l2) s
    |none=>none
   |some _=>none) else none
def Iu(P:Program)(gl:Nat→AV)(ch:Qq)(rd:Yb)(fl:Nat):Code→St→Option (St×Nat×List AV×List Code)
 | .region _ ops false,st=>match FF P gl ch rd ops.toList st with
  |some (s,g,caps)=>some (s,g,caps,[])
  |none=>none
 | .seq a b,st=>match Iu P gl ch rd fl a st with
  |some (s,g,caps,r)=>some (s,g,caps,r++[b])
  |none=>match V8 P gl ch rd true fl a st with
   |some (.normal,s,[])=>Iu P gl ch rd fl b s
   |_=>none
 |_,_=>none
def Fy(P:Program)(gl:Nat→AV)(ch:Qq)(rd:Yb)(fl:Nat):List Code→St→Option (Exit×St×List Nat)
 | [],st=>some (.normal,st,[])
 |c::cs,st=>match V8 P gl ch rd true fl c st with
  |some (.normal,s,d)=>match Fy P gl ch rd fl cs s with
   |some (e,s',d')=>some (e,s',d'++d)
   |none=>none
  |r=>r
def M9(F:Fence)(n:Nat)(P:Program)(Q:Exit→Act→World→Prop):List Code→Act→World→Prop
 | [],a,w=>Q .normal a w
 |c::cs,a,w=>c.wpIn F n P (Exit.then (M9 F n P Q cs) Q) a w
theorem Fn{F:Fence}{n:Nat}{P:Program}{Q:Exit→Act→World→Prop}{y:Code}:∀(l:List Code) (a:Act) (w:World),M9 F n P Q (l++[y]) a w→M9 F n P (Exit.then (y.wpIn F n P Q) Q) l a w
 | [],a,w,h=>wpIn_mono (show y.wpIn F n P (Exit.then (M9 F n P Q []) Q) a w from h) fun e a' w' hq=>by cases e<;>exact hq
 |c::cs,a,w,h=>wpIn_mono (show c.wpIn F n P (Exit.then (M9 F n P Q (cs++[y])) Q) a w from h) fun e a' w' hq=>by
  cases e with
  |normal=>exact Fn cs a' w' hq
  |_=>exact hq
theorem Ma{F:Fence}{n:Nat}{P:Program}{Q Q':Exit→Act→World→Prop}:∀(l:List Code) (a:Act) (w:World),M9 F n P Q l a w→(∀e a w,Q e a w→Q' e a w)→M9 F n P Q' l a w
 | [],a,w,h,hq=>hq _ _ _ h
 |c::cs,a,w,h,hq=>wpIn_mono (show c.wpIn F n P (Exit.then (M9 F n P Q cs) Q) a w from h) fun e a' w' h'=>by
  cases e with
  |normal=>exact Ma cs a' w' h' hq
  |_=>exact hq _ _ _ h'
section
variable {P : Program} {H0 : HV} {B : Nat → Prop} {gl : Nat → AV} {rest : List (AV × Value)} {ch : Qq} {rd : Yb}
theorem Pm{ρ:Operand→Value}{c:Call}{x:Operand}{g:Nat}{vs:Array Value}{ty:TypeId}{w:World}(hc:c.callee= .value x)(ha:c.args.toList=[])(hx:ρ x= .func (.func g) #[] vs):
  (resolve ρ c ty).run P w= .ok {target:=.fn (.func g) vs,args:= #[]} w:=by
 have he:c.args= #[]:=by simp_all
 simp[resolve,hc,he,hx,Deferred.ofValue]
theorem Q1m(a8:ch.Ok P gl)(a9:rd.Ok P gl){all:List Oper}{n:Nat}{d0:List Deferred}{w0:World}{sF:St}{g:Nat}{a5:List AV}{Q:Exit→Act→World→Prop}
  (hQ:∀(a:Act) (w:World) (m:Nat→Lc) (H:HV) (vs:Array Value),a.defers= {target:=.fn (.func g) vs,args:= #[]}::d0→Qa B w0 w→RelS m H B H0 gl rest sF a.tmps w→a5.length=vs.size→
   (∀(j:Nat) (x:AV) (v:Value),a5[j]? =some x→vs[j]? =some v→RV H (sF.env m) x v)→Q .normal a w):
  ∀(a3 l:List Oper) (st:St) (a:Act) (w:World) (m:Nat→Lc) (H:HV),all=a3++l→FF P gl ch rd l st=some (sF,g,a5)→a.defers=d0→Qa B w0 w→RelS m H B H0 gl rest st a.tmps w→
   wpOpsIn (FW none) n P all.toArray Q (List.range' a3.length l.length) a w
 |a3,[],st,a,w,m,H,_,hk,_,_,_=>by cases hk
 |a3,[o],st,a,w,m,H,he,hk,hd,hb,hr=>by
  simp only[FF] at hk;split at hk
  ·rename_i x hx;cases hk;unfold defOp at hx;split at hx<;>first | cases hx | skip
   rename_i c ho;split at hx<;>first | cases hx | skip
   rename_i hg;split at hx<;>first | cases hx | skip
   rename_i a6;split at hx<;>first | cases hx | skip
   rename_i x hc;split at hx<;>first | cases hx | skip
   rename_i a7;split at hx<;>first | cases hx | skip
   rename_i ag;have ab:=hr.ev x;rw[ag] at ab;obtain⟨vs,hu,hl,aa⟩:=ab.fn_inv;have aj:all.toArray[a3.length]? =some o:=by simp_all
   simp only[List.length_cons,List.length_nil,List.range'_succ,List.range'_zero,wpOpsIn,aj];rw[if_pos (by simp[Region.wanted,hg])]
   refine⟨fun _ _=>trivial,?_⟩
   have ad:(o.semAt (FW none).round a.eval).run P w= .ok (.defer {target:=.fn (.func g) vs,args:= #[]}) w:=by
    show(execOp a.eval o).run P w=_;unfold execOp;simp only[ho,cqv,Pm hc a7 hu,cqw,Sem.run_pure]
   rw[ad,Oper.uponIn_defer,a6];exact hQ _ w m H vs (by show _::a.defers=_;rw[hd]) hb hr hl aa
  ·cases hk
 |a3,o::o2::l2,st,a,w,m,H,he,hk,hd,hb,hr=>by
  rw[List.length_cons,List.range'_succ];simp only[wpOpsIn];have ho:all.toArray[a3.length]? =some o:=by simp_all
  simp only[ho];have ih:=Q1m a8 a9 (all:=all) (n:=n) hQ (a3++[o]) (o2::l2);simp only[List.length_append,List.length_cons,List.length_nil,Nat.zero_add,List.append_assoc,List.singleton_append] at ih;simp only[FF] at hk;split at hk
  ·rename_i a6;split at hk
   ·rename_i hg;rw[if_pos (by simp[Region.wanted,hg])]
    split at hk
    ·rename_i s hs;exact EJ a8 a9 hr a6 hs none n _ _ fun a' w' m' H' af ae ak=>ih s a' w' m' H' he hk (af.trans hd) (hb.trans ae) ak
    ·cases hk
   ·cases hk
  ·cases hk
theorem H7(a6:ch.Ok P gl)(a7:rd.Ok P gl)(a4:P.follows .mixedOrders=true)(n fl:Nat):∀(c:Code) (st s1:St) (g:Nat) (a3:List AV) (r:List Code),QN c=true→Iu P gl ch rd fl c st=some (s1,g,a3,r)→
  (∀x∈r,QN x=true)∧∀(m:Nat→Lc) (H:HV) (a:Act) (w:World),RelS m H B H0 gl rest st a.tmps w→∀Q:Exit→Act→World→Prop,
   (∀(a':Act) (w':World) (m':Nat→Lc) (H':HV) (vs:Array Value),a'.defers= {target:=.fn (.func g) vs,args:= #[]}::a.defers→Qa B w w'→RelS m' H' B H0 gl rest s1 a'.tmps w'→a3.length=vs.size→
    (∀(j:Nat) (x:AV) (v:Value),a3[j]? =some x→vs[j]? =some v→RV H' (s1.env m') x v)→M9 (FW none) n P Q r a' w')→c.wpIn (FW none) n P Q a w
 | .region id ops false,st,s1,g,a3,r,hok,hk=>by
  simp only[Iu] at hk;split at hk
  ·rename_i s g' a8 hs;cases hk;refine⟨by simp,fun m H a w hr Q hQ=>wpIn_region ?_⟩
   have:=Q1m a6 a7 (all:=ops.toList) (n:=n) (d0:=a.defers) (w0:=w) (Q:=Q) (fun a' w' m' H' vs h1 h2 h3 h4 h5=>hQ a' w' m' H' vs h1 h2 h3 h4 h5) [] ops.toList st a w m H rfl hs rfl (Qa.refl _ _) hr
   simp_all [List.range_eq_range']
  ·cases hk
 | .seq x y,st,s1,g,a3,r,hok,hk=>by
  simp only[Iu] at hk;simp only[QN,cqb] at hok;split at hk
  ·rename_i s g' a8 r' hs;cases hk;obtain⟨o1,h1⟩:=H7 a6 a7 a4 n fl x st _ _ _ _ hok.1 hs;refine⟨fun z hz=>(cqu.1 hz).elim (o1 z) fun h=>by simp_all,fun m H a w hr Q hQ=>wpIn_seq (h1 m H a w hr _ fun a' w' m' H' vs q1 q2 q3 q4 q5=>Fn _ _ _ (hQ a' w' m' H' vs q1 q2 q3 q4 q5))⟩
  ·split at hk
   ·rename_i s hs;obtain⟨o1,h1⟩:=H7 a6 a7 a4 n fl y s _ _ _ _ hok.2 hk;refine⟨o1,fun m H a w hr Q hQ=>wpIn_seq (wpIn_mono (MI a6 a7 a4 true none (fun _=>rfl) n fl x st .normal s [] hok.1 hs B H0 rest m H a w hr) fun e a' w' hq=> ?_)⟩
    obtain⟨rfl,m',H',D,hD,hd,aq,hb,ad⟩:=hq;have:D=[]:=by simp_all
    subst this;exact h1 m' H' a' w' ad Q fun a2 w2 m2 H2 vs q1 q2 q3 q4 q5=>hQ a2 w2 m2 H2 vs (by rw[q1,hd];rfl) (hb.trans q2) q3 q4 q5
   ·cases hk
 | .skip,_,_,_,_,_,_,hk=>by cases hk
 | .label _,_,_,_,_,_,_,hk=>by cases hk
 | .exit _,_,_,_,_,_,_,hk=>by cases hk
 | .ret,_,_,_,_,_,_,hk=>by cases hk
 | .region _ _ true,_,_,_,_,_,_,hk=>by cases hk
 | .cond ..,_,_,_,_,_,_,hk=>by cases hk
 | .block ..,_,_,_,_,_,_,hk=>by cases hk
 | .loop _,_,_,_,_,_,_,hk=>by cases hk
 | .rangeFunc ..,_,_,_,_,_,_,hk=>by cases hk
 | .scope _,_,_,_,_,_,_,hk=>by cases hk
 | .goto _,_,_,_,_,_,_,hk=>by cases hk
 | .refuse _,_,_,_,_,_,_,hk=>by cases hk
theorem Od(a5:ch.Ok P gl)(a6:rd.Ok P gl)(a3:P.follows .mixedOrders=true)(n fl:Nat):∀(l:List Code) (st:St) (ex:Exit) (st':St) (ds:List Nat),(∀x∈l,QN x=true)→Fy P gl ch rd fl l st=some (ex,st',ds)→
  ∀(rest:List (AV×Value)) (m:Nat→Lc) (H:HV) (a:Act) (w:World),RelS m H B H0 gl rest st a.tmps w→M9 (FW none) n P (fun e a' w'=>e=ex∧VS gl B H0 rest a w st' ds a' w') l a w
 | [],st,ex,st',ds,_,hk,rest,m,H,a,w,hr=>by cases hk;exact⟨rfl,.nil rfl (Qa.refl _ _) hr⟩
 |c::cs,st,ex,st',ds,hok,hk,rest,m,H,a,w,hr=>by
  simp only[Fy] at hk;have hx:=fun e s d h=>MI a5 a6 a3 true none (fun _=>rfl) n fl c st e s d (hok c (by simp)) h B H0 rest m H a w hr
  split at hk
  ·rename_i s d hs;split at hk
   ·rename_i e2 s2 d2 ab;cases hk;refine wpIn_mono (hx _ _ _ hs) fun e a' w' hq=> ?_
    obtain⟨rfl,m',H',D,hD,hd,a9,hb,aa⟩:=hq;have ih:=Od a5 a6 a3 n fl cs s _ _ _ (fun x hx=>hok x (by simp[hx])) ab _ m' H' a' w' (aa.more a9)
    exact Ma cs _ _ ih fun e a2 w2 hq=>⟨hq.1,VS.then (s1:=s) hD hd hb hq.2⟩
   ·cases hk
  ·rename_i ae;refine wpIn_mono (hx _ _ _ hk) fun e a' w' hq=> ?_
   obtain⟨rfl,hq⟩:=hq;cases e with
   |normal=>simp_all
   |_=>exact⟨rfl,hq⟩
def xdef(P:Program)(gl:Nat→AV)(gd:Nat→Bool)(fl:Nat)(ch:Qq)(rd:Yb)(g:Nat)(a3:List AV)(hp:Tr Box)(nx:Nat):Option (Tr Box×Nat):=
 bif gd g then(match P.funcs[g]? with
  |some fn=>match fn.body with
   |some c=>bif Nat.ble a3.length fn.ntmps then(match V8 P gl ch rd true fl c ⟨fn.ntmps,Kw 0 a3,hp,nx⟩ with
    |some (ex,s,[])=>bif WA ex then(match LL P s fn.results.toList with
     |some _=>some (s.hp,s.nx)
     |none=>none) else none
    |_=>none) else none
   |none=>none
  |none=>none) else none
def xfunD(P:Program)(gl:Nat→AV)(gd:Nat→Bool)(fl:Nat)(ch:Qq)(rd:Yb):Qq:=fun f args hp nx=>
 bif gd f then(match P.funcs[f]? with
  |some fn=>match fn.body with
   |some c=>bif Nat.ble args.length fn.ntmps then(match Iu P gl ch rd fl c ⟨fn.ntmps,Kw 0 args,hp,nx⟩ with
    |some (s1,g,caps,r)=>match Fy P gl ch rd fl r s1 with
     |some (ex,s,ds)=>bif WA ex then(match shut ds s.hp with
      |some hp1=>match xdef P gl gd fl ch rd g caps hp1 s.nx with
       |some (hp2,nx2)=>match LL P (s.setHp hp2 nx2) fn.results.toList with
        |some r=>some (r,hp2,nx2)
        |none=>none
       |none=>none
      |none=>none) else none
     |none=>none
    |none=>none) else none
   |none=>none
  |none=>none) else none
theorem Q0w{m:Nat→Lc}{H:HV}{F:Fence}{n:Nat}{fn:Func}{tmps:Array Value}{R:Ending→World→Prop}{nx:Nat}{hp':Tr Box}{T:List Deferred}:∀(D:List (Nat×Nat)) (hp:Tr Box) (w:World),RelH m H B H0 gl (lkb hp) nx w→(∀p∈D,(Q6 (lkb hp) m).lp p.1=some p.2)→shut (D.map (·.1)) hp=some hp'→
  (∀w',RelH m H B H0 gl (lkb hp') nx w'→Env.le (Q6 (lkb hp) m) (Q6 (lkb hp') m)→Qa B w w'→LeavesInM F n P fn tmps R T .returning w')→LeavesInM F n P fn tmps R (IN D++T) .returning w
 | [],hp,w,h,_,hk,hQ=>by
  cases hk;exact hQ w h (.refl _) (Qa.refl _ _)
 | (id,l)::D,hp,w,h,hD,hk,hQ=>by
  simp only[List.map_cons,shut] at hk;split at hk
  ·rename_i a6;have hl:(m id).g=l:=by
    have:=hD (id,l) (by simp)
    simp_all [Q3i]
   have a3:w.heap[(m id).g]? =some (.deferred (some [])):=h.box _ _ a6;obtain⟨a5,a4,a7⟩:=h.putObj a6 rfl (b':=.defb false) rfl (.deferred none) (fun C e fr q=>by simp_all) (fun E' ab=>World.putObj_heap_same (h.sep _ _ a6).2.1)
   rw[← QV] at a5 a4;rw[hl] at a3 a5 a7;refine⟨by simp,.inl ⟨l,_,rfl,run_takeDeferred a3,?_⟩⟩
   exact Q0w D _ _ a5 (fun p hp=>a4.lp _ _ (hD p (List.mem_cons_of_mem _ hp))) hk (fun w' h3 a8 a9=>hQ w' h3 (a4.trans a8) (a7.trans a9))
  ·cases hk
theorem RelS.frame{m:Nat→Lc}{H:HV}{hp:Tr Box}{nx:Nat}{w:World}(hh:RelH m H B H0 gl (lkb hp) nx w){n:Nat}{args:List AV}{vs:Array Value}(a6:args.length≤n)(hl:args.length=vs.size)(hv:∀(j:Nat) (x:AV) (v:Value),args[j]? =some x→vs[j]? =some v→RV H (Q6 (lkb hp) m) x v)
  (a3:∀p∈rest,RV H (Q6 (lkb hp) m) p.1 p.2):RelS m H B H0 gl rest ⟨n,Kw 0 args,hp,nx⟩ (vs++Array.replicate (n - vs.size) Go.undef) w:=by
 refine⟨hh,by simp;omega,fun k=> ?_,a3⟩
 show RV H _ (lk .undef (Kw 0 args) k) _;rw[Nd,if_pos (Nat.zero_le _),Nat.sub_zero];cases hx:args[k]? with
 |none=>exact .imm _ _ (.undef _)
 |some x=>
  have hk:k<vs.size:=by grind
  have a4:(vs++Array.replicate (n - vs.size) Go.undef).getD k Go.undef=vs[k]:=by
   rw[cqj,Array.getElem?_append_left hk,cqh hk];rfl
  rw[a4];exact hv k x _ hx (cqh hk)
theorem xdef_ok{gd:Nat→Bool}{fl:Nat}(hp:UA P gd)(af:ch.Ok P gl)(ai:rd.Ok P gl){g:Nat}{a4:List AV}{a6 a8:Tr Box}{nx ad:Nat}(hk:xdef P gl gd fl ch rd g a4 a6 nx=some (a8,ad)){m:Nat→Lc}{H:HV}{w:World}{us:Array Value}
  (hh:RelH m H B H0 gl (lkb a6) nx w) (hl:a4.length=us.size) (hv:∀(j:Nat) (x:AV) (v:Value),a4[j]? =some x→us[j]? =some v→RV H (Q6 (lkb a6) m) x v) (aa:∀p∈rest,RV H (Q6 (lkb a6) m) p.1 p.2):
  (callFunc g us).run P w= .ok (.enter g us) w∧CallsDIn (FW none) 0 P g us .returning w fun e u' w'=>u'= .returning∧∃v m' H',e= .returned v∧Qa B w w'∧RelH m' H' B H0 gl (lkb a8) ad w'∧∀p∈rest,RV H' (Q6 (lkb a8) m') p.1 p.2:=by
 unfold xdef at hk;cases hg:gd g with
 |false=>simp_all
 |true=>
 rw[hg] at hk;simp only[cond_true] at hk;have a3:=hp.fn g hg;unfold okFn at a3;split at hk<;>first | cases hk | skip
 rename_i fn hf;rw[hf] at a3;simp only[cqb,bne_iff_ne] at a3;obtain⟨ah,a3⟩:=a3;split at hk<;>first | cases hk | skip
 rename_i c hb;rw[hb] at a3;simp only at a3;cases a5:Nat.ble a4.length fn.ntmps with
 |false=>simp_all
 |true=>
 rw[a5] at hk;simp only[cond_true] at hk;have a5:=cqe a5;split at hk<;>first | cases hk | skip
 rename_i ex s hx;cases hex:WA ex with
 |false=>simp_all
 |true=>
 rw[hex] at hk;simp only[cond_true] at hk;split at hk<;>first | cases hk | skip
 rename_i r hr;refine⟨Gu hf (by simp_all) (by grind) us w,?_⟩
 have h0:=RelS.frame (rest:=rest) hh a5 hl hv aa;have a7:=MI af ai hp.mix true none (fun _=>rfl) 0 fl c _ ex s [] a3 hx B H0 rest m H {tmps:=us++Array.replicate (fn.ntmps - us.size) Go.undef,defers:=[]} w h0
 refine callsDIn_of_wp hf hb trivial (wpIn_mono a7 fun e a' w' hq=> ?_)
 obtain⟨rfl,m',H',D,hD,hd,ap,ae,a9⟩:=hq;have:D=[]:=by simp_all
 subst this;obtain⟨v,aj,_⟩:=MD a9 hr;have ab:a'.defers=[]∧∃v,(results fn a'.tmps).run P w'= .ok v w'∧∃v' m' H',Ending.returned v= .returned v'∧Qa B w w'∧RelH m' H' B H0 gl (lkb s.hp) s.nx w'∧∀p∈rest,RV H' (Q6 (lkb s.hp) m') p.1 p.2:=
  ⟨by rw[hd];rfl,v,aj,v,m',H',rfl,ae,a9.heap,a9.rest⟩
 cases e with
 |normal=>exact ab
 |ret=>exact ab
 |_=>cases hex
theorem Qal{gd:Nat→Bool}{fl:Nat}(hp:UA P gd)(ad:ch.Ok P gl)(ae:rd.Ok P gl):Qq.Ok P gl (xfunD P gl gd fl ch rd):=by
 intro f args bp nx r hp' nx' hk;unfold xfunD at hk;cases hg:gd f with
 |false=>simp_all
 |true=>
 rw[hg] at hk;simp only[cond_true] at hk;have a3:=hp.fn f hg;unfold okFn at a3;split at hk<;>first | cases hk | skip
 rename_i fn hf;rw[hf] at a3;simp only[cqb,bne_iff_ne] at a3;obtain⟨b3,a3⟩:=a3;split at hk<;>first | cases hk | skip
 rename_i c hb;rw[hb] at a3;simp only at a3;cases a7:Nat.ble args.length fn.ntmps with
 |false=>simp_all
 |true=>
 rw[a7] at hk;simp only[cond_true] at hk;have a7:=cqe a7;split at hk<;>first | cases hk | skip
 rename_i s1 g a4 l hx;split at hk<;>first | cases hk | skip
 rename_i ex s ds b8;cases hex:WA ex with
 |false=>simp_all
 |true=>
 rw[hex] at hk;simp only[cond_true] at hk;split at hk<;>first | cases hk | skip
 rename_i b4 ag;split at hk<;>first | cases hk | skip
 rename_i bo bu ai;split at hk<;>first | cases hk | skip
 rename_i b5;intro m H B H0 rest w vs hh hl ab af;refine .inl ⟨Gu hf (by simp_all) (by grind),?_⟩
 have h0:=RelS.frame (rest:=rest) hh a7 hl ab af;obtain⟨am,hD⟩:=H7 (B:=B) (H0:=H0) (rest:=rest) ad ae hp.mix 0 fl c _ s1 g a4 l a3 hx;refine CallsIn.calls (F:=FW none) (callsIn_of_wp_marks hf hb trivial (hD m H {tmps:=vs++Array.replicate (fn.ntmps - vs.size) Go.undef,defers:=[]} w h0 _ fun a1 w1 m1 H1 us ay ap a8 ax bl=> ?_)) (fun k d hd=>by grind [FW])
 have hz:∀p∈a4.zip us.toList,RV H1 (s1.env m1) p.1 p.2:=fun p hp=>by
  grind [List.getElem?_of_mem,List.getElem?_zip_eq_some]
 refine Ma _ _ _ (Od ad ae hp.mix 0 fl l s1 ex s ds am b8 (a4.zip us.toList++rest) m1 H1 a1 w1 ⟨a8.heap,a8.size,a8.slot,fun p hp=>(cqu.1 hp).elim (hz p) (a8.rest p)⟩) fun e a' w' hq=> ?_
 obtain⟨rfl,m',H',D,ao,hd,b1,au,a9⟩:=hq;subst ao;have aj:LeavesInM (FW none) 0 P fn a'.tmps (fun e w'=>∃v m' H',e= .returned v∧Qa B w w'∧RelH m' H' B H0 gl (lkb hp') nx' w'∧RV H' (Q6 (lkb hp') m') r v∧∀p∈rest,RV H' (Q6 (lkb hp') m') p.1 p.2) a'.defers .returning w':=by
  rw[hd,ay];refine Q0w D _ w' a9.heap b1 ag fun w3 h3 ah aq=> ?_
  have a6:RelS m' H' B H0 gl (a4.zip us.toList++rest) (s.setHp b4 s.nx) a'.tmps w3:=⟨h3,a9.size,fun k=>(a9.slot k).mono (.refl _) ah,fun p hp=>(a9.rest p hp).mono (.refl _) ah⟩
  obtain⟨ba,aw⟩:=xdef_ok (rest:=(List.range s.n).map (fun k=>(s.get k,a'.tmps.getD k Go.undef))++rest) hp ad ae ai h3 ax (fun j x v hx hv=>by
   refine a6.rest (x,v) (List.mem_append_left _ (cqr (i:=j) ?_))
   grind) (fun p hp=>by
   rcases cqu.1 hp with hp | hp
   ·obtain⟨k,_,rfl⟩:=List.mem_map.1 hp;exact a6.slot k
   ·exact a6.rest p (List.mem_append_right _ hp))
  refine⟨by simp,.inr ⟨fun h=>by simp[FW] at h,.func g,us,g,us,rfl,?_,fun _ _=>trivial,aw.mono fun e u' w4 ⟨hu,v,m2,H2,he,ar,ak,a5⟩=> ?_⟩⟩
  ·show(callFunc g (#[]++us)).run P w3=_
   simp_all
  ·subst hu;subst he;have an:RelS m2 H2 B H0 gl rest (s.setHp hp' nx') a'.tmps w4:=by
    refine⟨ak,a6.size,fun k=> ?_,fun p hp=>a5 p (List.mem_append_right _ hp)⟩
    rcases Nat.lt_or_ge k s.n with b2 | b0
    ·exact a5 (s.get k,a'.tmps.getD k Go.undef) (List.mem_append_left _ (List.mem_map.2 ⟨k,List.mem_range.2 b2,rfl⟩))
    ·have hu:a'.tmps.getD k Go.undef=Go.undef:=by rw[cqj,Array.getElem?_eq_none (by rw[a6.size];exact b0)];rfl
     have:=a6.slot k;rw[hu] at this ⊢;exact T1 this
   obtain⟨v,hv,b6⟩:=MD an b5;exact⟨v,hv,v,m2,H2,rfl,(ap.trans au).trans (aq.trans ar),ak,b6,an.rest⟩
 cases e with
 |normal=>exact aj
 |ret=>exact aj
 |_=>cases hex
def xcmp(nf:Nat):Qq:=fun f args hp nx=>bif Nat.beq f nf then(match args with
 | [.str a,.str b]=>some (.int .i64 (Lib.compareBytes a b),hp,nx)
 |_=>none) else none
theorem xcmp_ok{nf:Nat}{P:Program}{gl:Nat→AV}(h:∀(a b:ByteArray) (w:World),(callFunc nf #[.string a,.string b]).run P w= .ok (.value (.int .i64 (Lib.compareBytes a.data.toList b.data.toList))) w):Qq.Ok P gl (xcmp nf):=by
 intro f args hp nx r hp' nx' hk;unfold xcmp at hk;cases hf:Nat.beq f nf with
 |false=>simp_all
 |true=>
  rw[hf] at hk;obtain rfl:=cqa hf;simp only[cond_true] at hk;split at hk<;>first | cases hk | skip
  rename_i a b;intro m H B H0 rest w vs hh hl a3 a4;obtain⟨v0,v1,rfl⟩:∃v0 v1,vs= #[v0,v1]:=by
   rcases vs with⟨_ | ⟨a,_ | ⟨b,_ | ⟨c,r⟩⟩⟩⟩<;>simp at hl
   simp_all
  have h0:=(a3 0 _ v0 rfl rfl).str_inv;have h1:=(a3 1 _ v1 rfl rfl).str_inv;subst h0;subst h1;exact .inr ⟨_,w,h _ _ w,_,m,H,rfl,Qa.refl _ _,hh,.imm _ _ (.int _ _),a4⟩
end
abbrev Uy:=List (Nat×List AV×AV×Tr Box×Nat)
def El(f:Nat)(ts:List AV):Uy→Option (AV×Tr Box×Nat)
 | []=>none
 |e::r=>match Nat.beq e.1 f&&JX (avEq 12) e.2.1 ts with
  |true=>some e.2.2
  |false=>El f ts r
def memoHas(f:Nat)(T:Uy):Bool:=T.any fun e=>Nat.beq e.1 f
def memoCh(T:Uy):Qq:=fun f ts _ _=>El f ts T
def DX(P:Program)(gl:Nat→AV)(T:Uy):Prop:=∀e∈T,Vr P gl e.1 e.2.1 e.2.2.1 e.2.2.2.1 e.2.2.2.2
theorem Sr{P:Program}{gl:Nat→AV}{f:Nat}{ts:List AV}{r:AV}{hp':Tr Box}{nx':Nat}:∀ {T:Uy},DX P gl T→El f ts T=some (r,hp',nx')→Vr P gl f ts r hp' nx'
 | [],_,h=>by cases h
 | ⟨f',ts',r',hp2,nx2⟩::T,hT,h=>by
  simp only[El] at h;split at h
  ·rename_i hc;rw[cqb] at hc;have h1:=cqa hc.1;have h2:=KZ (Hz 12) hc.2;cases h;have:=hT _ (List.mem_cons_self ..);subst h1;subst h2;exact this
  ·exact Sr (fun e he=>hT e (by simp[he])) h
def Bg(hp:Tr Box)(nx:Nat)(o:Option (AV×Option (Nat×Box))):Option (AV×Tr Box×Nat):=match o with
 |some (v,some (id,b))=>some (v,pt hp id b,nx+1)
 |some (v,none)=>some (v,hp,nx+1)
 |none=>none
theorem Q1b{P:Program}{gl:Nat→AV}{ch:Qq}(aa:∀f ts r0 hp' nx',ch f ts .nil 0=some (r0,hp',nx')→Vr P gl f ts r0 hp' nx'){f:Nat}{args:List AV}{hp:Tr Box}{nx:Nat}{r:AV}{hp':Tr Box}{nx':Nat}
  (hk:Bg hp nx (CM ch (lkb hp) nx f args)=some (r,hp',nx')):R8 P gl f args hp nx r hp' nx':=by
 intro m H B H0 rest w vs hh hl a5 a7;have key:∀(v:AV) (ob:Option (Nat×Box)),CM ch (lkb hp) nx f args=some (v,ob)→v=r→(match ob with | some (id,b)=>pt hp id b | none=>hp)=hp'→nx+1=nx'→
   Ans P f vs w fun e w'=>∃v m' H',e= .returned v∧Qa B w w'∧RelH m' H' B H0 gl (lkb hp') nx' w'∧RV H' (Q6 (lkb hp') m') r v∧∀p∈rest,RV H' (Q6 (lkb hp') m') p.1 p.2:=by
  intro v ob hx e1 e2 e3
  let st:St:=⟨1,.nil,hp,nx+1⟩
  let a:Act:= {tmps:= #[Go.undef],defers:=[]}
  have hr:RelS m H B H0 gl rest st a.tmps w:=by
   refine⟨{hh with fresh:=fun id ad=>hh.fresh id (Nat.le_of_succ_le ad)},rfl,fun k=> ?_,a7⟩
   have:st.get k=AV.undef:=by show lk AV.undef .nil k=_;unfold lk;cases path k<;>rfl
   rw[this];exact .imm _ _ (.undef _)
  have:=Of (P:=P) (st:=st) (a:=a) (dst:=some 0) aa hr rfl (hh.fresh nx (Nat.le_refl _)) (Nat.lt_succ_self nx) hl a5 hx;refine this.mono fun e w' ⟨u,m',H',he,hb,a4⟩=> ?_
  have hs:=a4.slot 0;have a6:(st.eff (some 0) (v,ob)).hp=hp':=by
   rw[← e2];cases ob with
   |none=>rfl
   |some b=>rfl
  have ae:(st.eff (some 0) (v,ob)).nx=nx':=by rw[Ca,← e3]
  have hg:(st.eff (some 0) (v,ob)).get 0=r:=by rw[Vb,if_pos rfl,e1]
  rw[hg] at hs;unfold St.env at hs;rw[a6] at hs;have ht:(a.put (some 0) u).tmps.getD 0 Go.undef=u:=rfl;rw[ht] at hs;have a3:=a4.heap;rw[a6,ae] at a3;refine⟨u,m',H',he,hb,a3,hs,fun p hp=> ?_⟩
  have:=a4.rest p hp;unfold St.env at this
  rwa [a6] at this
 unfold Bg at hk;split at hk
 ·rename_i v id b hx;cases hk;exact key _ _ hx rfl rfl rfl
 ·rename_i v hx;cases hk;exact key _ _ hx rfl rfl rfl
 ·cases hk
def xmemo(T:Uy):Qq:=fun f args hp nx=>match memoHas f T with
 |true=>Bg hp nx (CM (memoCh T) (lkb hp) nx f args)
 |false=>none
theorem Qan{P:Program}{gl:Nat→AV}{T:Uy}(hT:DX P gl T):Qq.Ok P gl (xmemo T):=by
 intro f args hp nx r hp' nx' hk;unfold xmemo at hk;split at hk;·exact Q1b (fun f ts r0 hp' nx' h=>Sr hT h) hk
 ·cases hk
theorem La{P:Program}{gl:Nat→AV}{ch:Qq}(a3:ch.Ok P gl){f:Nat}{ts:List AV}{r:AV}{hp':Tr Box}{nx':Nat}(h:Bg .nil 0 (CM ch (lkb .nil) 0 f ts)=some (r,hp',nx')):Vr P gl f ts r hp' nx':=
 (Q1b (fun _ _ _ _ _ h=>(a3 _ _ _ _ _ _ _ h).zero) h).zero
def MU(P:Program)(gl:Nat→AV)(gd:Nat→Bool)(fl:Nat)(xe:Qq)(T:Uy):Nat→Qq×Yb
 |0=>(fun _ _ _ _=>none,fun _ _ _ _=>none)
 |k+1=>(fun f args hp nx=>match xmemo T f args hp nx with
  |some r=>some r
  |none=>bif gd f then(match xfun P gl gd fl (MU P gl gd fl xe T k).1 (MU P gl gd fl xe T k).2 f args hp nx with
   |some r=>some r
   |none=>xfunD P gl gd fl (MU P gl gd fl xe T k).1 (MU P gl gd fl xe T k).2 f args hp nx) else xe f args hp nx,fun id args hp nx=>Q1k P gl fl (MU P gl gd fl xe T k).1 (MU P gl gd fl xe T k).2 id args hp nx)
def xcallM(P:Program)(gl:Nat→AV)(gd:Nat→Bool)(fl:Nat)(xe:Qq)(T:Uy)(k:Nat):Qq:=(MU P gl gd fl xe T k).1
theorem Nk{P:Program}{gl:Nat→AV}{gd:Nat→Bool}{fl:Nat}{xe:Qq}{T:Uy}(hp:UA P gd)(he:xe.Ok P gl)(hT:DX P gl T):∀k,Qq.Ok P gl (MU P gl gd fl xe T k).1∧Yb.Ok P gl (MU P gl gd fl xe T k).2
 |0=>⟨fun _ _ _ _ _ _ _ h=>(by cases h),fun _ _ _ _ _ _ _ h=>(by cases h)⟩
 |k+1=>⟨fun f args a6 nx r hp' nx' h=>by
   simp only[MU] at h;split at h
   ·rename_i r0 hm;cases h;exact Qan hT _ _ _ _ _ _ _ hm
   ·cases hg:gd f with
    |false=>rw[hg] at h;exact he _ _ _ _ _ _ _ h
    |true=>
     rw[hg] at h;simp only[cond_true] at h;split at h;·rename_i r0 hr;cases h;exact xfun_ok hp (Nk hp he hT k).1 (Nk hp he hT k).2 _ _ _ _ _ _ _ hr
     ·exact Qal hp (Nk hp he hT k).1 (Nk hp he hT k).2 _ _ _ _ _ _ _ h,Q7z (Nk hp he hT k).1 (Nk hp he hT k).2 hp.mix fl⟩
theorem Nv{P:Program}{gl:Nat→AV}{gd:Nat→Bool}{fl:Nat}{xe:Qq}{T:Uy}(hp:UA P gd)(he:xe.Ok P gl)(hT:DX P gl T)(k:Nat):Qq.Ok P gl (xcallM P gl gd fl xe T k):=(Nk hp he hT k).1
def isTrue(r:Option (AV×Tr Box×Nat)):Bool:=match r with | some (.bool true,_)=>true | _=>false
end HY
namespace Go.Proofs.YtkgphhemcglgnaaGreatDoor
open Go HY
def spaces:List AV:=(List.replicate 9 (.int .u8 0))++(List.replicate 5 (.int .u8 1))++(List.replicate 18 (.int .u8 0))++[.int .u8 1]++(List.replicate 223 (.int .u8 0))
def gls:Nat→AV:=fun g=>bif Nat.beq g 0 then .ip 256 [.agg spaces] 0 0 else .undef
def gdMask:Nat:=1386335007159899871177539650738530515904954746129667442997097585808190759422965376564141270090081692417241154506698448224831668220
def gds:Nat→Bool:=fun f=>Nat.blt f 430&&Nat.testBit gdMask f
set_option maxRecDepth 1000000
theorem gds_all:((List.range 430).all fun f=> !gds f || okFn Tryz.prog f)=true:=by kernel_rfl
theorem WX:Tryz.prog.follows .mixedOrders=true:=by kernel_rfl
theorem Jg:UA Tryz.prog gds:=⟨WX,fun f hf=>by
 have h:f<430:=by
  unfold gds at hf;rw[cqb] at hf;exact cqe hf.1
 have:=cqt.1 gds_all f (List.mem_range.2 h);rw[hf] at this;simpa using this⟩
def ch0:Qq:=fun _ _ _ _=>none
theorem V5:Qq.Ok Tryz.prog gls ch0:=fun _ _ _ _ _ _ _ h=>by cases h
noncomputable def wf0:WF:=wlev Tryz.prog gls ch0 gds 2000 (fun _ _ _ _ _ _=>False) 4
theorem Vp:WF.Ok Tryz.prog gls wf0:=Q4e V5 Jg (fun _ _ _ _ _ _ h=>h.elim) 4
noncomputable def W(f:Nat)(hs:QH)(args:List AV)(r:AV):Prop:=wpure Tryz.prog gls ch0 wf0 gds 2000 f hs args r
noncomputable def WR(f r n:Nat)(hs:QH)(ks:List Nat)(kb:List KB)(kx:List Nat)(kbx:List KB)(alts:List Alt)(vs:List AV)(bs:List Box):Prop:=
 Fp Tryz.prog gls ch0 wf0 hs [] 2000 n (KN Tryz.prog f (r+1)) ks kb kx kbx alts vs bs (Nxt Tryz.prog gls [] n (KN Tryz.prog f (r+1)) ks kx alts)
theorem Pu1{φ:Prop}{f:Nat}{hs:QH}{args:List AV}{r:AV}(e:φ=W f hs args r)(h:φ):Pu Tryz.prog gls f args r:=Pu.of (hs:=hs) V5 Vp Jg (show W f hs args r from e▸h)
theorem Lp1{φ:Prop}{f r n:Nat}{hs:QH}{ks:List Nat}{kb:List KB}{kx:List Nat}{kbx:List KB}{alts:List Alt}{vs:List AV}{bs:List Box}(a3:QN (KN Tryz.prog f (r+1))=true)(e:φ=WR f r n hs ks kb kx kbx alts vs bs)(h:φ):Zu Tryz.prog gls [] n (KN Tryz.prog f (r+1)) ks vs bs kx alts:=
 Zu.step V5 Vp WX a3 (show WR f r n hs ks kb kx kbx alts vs bs from e▸h)
noncomputable def WH(f:Nat)(hs:QH)(kb:List KB)(args:List AV)(bs:List Box)(r:AV)(a3:List Box):Prop:=Q16 Tryz.prog gls ch0 wf0 gds 2000 f hs kb args bs r a3
theorem PuH1{φ:Prop}{f:Nat}{hs:QH}{kb:List KB}{args:List AV}{bs a3:List Box}{r:AV}(e:φ=WH f hs kb args bs r a3)(h:φ):PuH Tryz.prog gls f args bs r a3:=PuH.of (hs:=hs) V5 Vp Jg (show WH f hs kb args bs r a3 from e▸h)
abbrev PH(f:Nat)(args:List AV)(bs:List Box)(r:AV)(a3:List Box):Prop:=PuH Tryz.prog gls f args bs r a3
abbrev PU(f:Nat)(args:List AV)(r:AV):Prop:=Pu Tryz.prog gls f args r
abbrev LO(f r n:Nat)(ks:List Nat)(vs:List AV)(bs:List Box)(kx:List Nat)(alts:List Alt):Prop:=Zu Tryz.prog gls [] n (KN Tryz.prog f (r+1)) ks vs bs kx alts
theorem Lp2{φ:Prop}{f r n:Nat}{hs:QH}{ks:List Nat}{kb:List KB}{kx:List Nat}{kbx:List KB}{alts:List Alt}{vs:List AV}{bs:List Box}(h:φ)(a3:QN (KN Tryz.prog f (r+1))=true:=by kernel_rfl)(e:φ=WR f r n hs ks kb kx kbx alts vs bs:=by kernel_rfl):Zu Tryz.prog gls [] n (KN Tryz.prog f (r+1)) ks vs bs kx alts:=
 Zu.step V5 Vp WX a3 (show WR f r n hs ks kb kx kbx alts vs bs from e▸h)
theorem Pu2{φ:Prop}{f:Nat}{hs:QH}{args:List AV}{r:AV}(h:φ)(e:φ=W f hs args r:=by kernel_rfl):Pu Tryz.prog gls f args r:=Pu.of (hs:=hs) V5 Vp Jg (show W f hs args r from e▸h)
theorem PuH2{φ:Prop}{f:Nat}{hs:QH}{kb:List KB}{args:List AV}{bs a3:List Box}{r:AV}(h:φ)(e:φ=WH f hs kb args bs r a3:=by kernel_rfl):PuH Tryz.prog gls f args bs r a3:=PuH.of (hs:=hs) V5 Vp Jg (show WH f hs kb args bs r a3 from e▸h)
noncomputable def WJ(f:Nat)(hs:QH)(js:List (Nat×JH))(l:Nat)(xs:List (List AV))(args:List AV)(p:Option Nat)(b:Bool)(m:Nat):Prop:=jfun Tryz.prog gls ch0 wf0 gds 2000 f hs js l xs args p b m
theorem JF1{φ:Prop}{f:Nat}{hs:QH}{js:List (Nat×JH)}{l:Nat}{xs:List (List AV)}{args:List AV}{p:Option Nat}{b:Bool}{m:Nat}(e:φ=WJ f hs js l xs args p b m)(h:φ):JF Tryz.prog gls l xs f args p b m:=JF.of (hs:=hs) (js:=js) V5 Vp Jg (show WJ f hs js l xs args p b m from e▸h)
abbrev JLo(f r n:Nat)(l:Nat)(xs:List (List AV))(ks:List Nat)(vs:List AV)(bs:List Box)(p:Option Nat)(kx:List Nat)(x y:Exit×List AV)(m:Nat):Prop:=JL Tryz.prog gls l xs n (KN Tryz.prog f (r+1)) ks vs bs p kx x y m
noncomputable def WJR(f r n:Nat)(hs:QH)(js:List (Nat×JH))(l:Nat)(xs:List (List AV))(ks:List Nat)(kb:List KB)(vs:List AV)(bs:List Box)(p:Option Nat)(kx:List Nat)(x y:Exit×List AV)(m:Nat):Prop:=
 jround Tryz.prog gls ch0 wf0 hs js l xs 2000 n (KN Tryz.prog f (r+1)) ks kb vs bs p kx x y m (NxtJ Tryz.prog gls l xs n (KN Tryz.prog f (r+1)) ks kx x y m)
theorem JL1{φ:Prop}{f r n:Nat}{hs:QH}{js:List (Nat×JH)}{l:Nat}{xs:List (List AV)}{ks:List Nat}{kb:List KB}{vs:List AV}{bs:List Box}{p:Option Nat}{kx:List Nat}{x y:Exit×List AV}{m:Nat}(a3:(QN (KN Tryz.prog f (r+1))&& !QF (KN Tryz.prog f (r+1))&& !JW x.1&& !JW y.1)=true)(e:φ=WJR f r n hs js l xs ks kb vs bs p kx x y m)(h:φ):JLo f r n l xs ks vs bs p kx x y m:=by
 simp only[cqb,Bool.not_eq_true'] at a3;exact JL.step (hs:=hs) (js:=js) V5 Vp WX a3.1.1.1 a3.1.1.2 a3.1.2 a3.2 (show WJR f r n hs js l xs ks kb vs bs p kx x y m from e▸h)
abbrev RG(f r n:Nat)(ks:List Nat)(vs:List AV)(alts:List Alt)(xs:List (List AV))(bs:List Box):Prop:=GF Tryz.prog gls [] n (rng Tryz.prog f (r+1)).1 (rng Tryz.prog f (r+1)).2.1 (rng Tryz.prog f (r+1)).2.2 ks vs alts xs bs
noncomputable def WG(f r n:Nat)(hs:QH)(ks:List Nat)(kb kbx:List KB)(vs:List AV)(alts:List Alt)(x:List AV)(xs:List (List AV))(bs:List Box):Prop:=
 wrng Tryz.prog gls ch0 wf0 hs [] 2000 n (rng Tryz.prog f (r+1)).1 (rng Tryz.prog f (r+1)).2.1 (rng Tryz.prog f (r+1)).2.2 ks kb kbx vs alts x bs (NxtR Tryz.prog gls [] n (rng Tryz.prog f (r+1)).1 (rng Tryz.prog f (r+1)).2.1 (rng Tryz.prog f (r+1)).2.2 ks vs alts xs)
theorem Rg1{φ:Prop}{f r n:Nat}{hs:QH}{ks:List Nat}{kb kbx:List KB}{vs:List AV}{alts:List Alt}{x:List AV}{xs:List (List AV)}{bs:List Box}(a3:(QN (rng Tryz.prog f (r+1)).2.1&&QN (rng Tryz.prog f (r+1)).2.2)=true)(e:φ=WG f r n hs ks kb kbx vs alts x xs bs)(h:φ):RG f r n ks vs alts (x::xs) bs:=by
 rw[cqb] at a3;exact GF.step (hs:=hs) V5 Vp WX a3.1 a3.2 (show WG f r n hs ks kb kbx vs alts x xs bs from e▸h)
theorem Rg0{f r n:Nat}{ks:List Nat}{vs:List AV}{alts:List Alt}{bs:List Box}(h:LW ks vs=true)(ho:Out alts .normal vs bs):RG f r n ks vs alts [] bs:=⟨h,ho⟩
end Go.Proofs.YtkgphhemcglgnaaGreatDoor
namespace HY
open Go
def wp{α:Type}(x:Option α)(Q:α→Prop):Prop:=∃a,x=some a∧Q a
section
variable {α β : Type} {Q : β → Prop}
theorem QG{x:β}:wp (some x) Q↔Q x:=⟨fun⟨_,e,h⟩=>by cases e;exact h,fun h=>⟨x,rfl,h⟩⟩
theorem wp_none:wp (none:Option β) Q↔False:=⟨fun⟨_,e,_⟩=>(by cases e),False.elim⟩
theorem Zv{x:Option α}{f:α→Option β}:wp (x>>=f) Q↔wp x (fun a=>wp (f a) Q):=by
 cases x with
 |none=>exact⟨fun⟨_,e,_⟩=>(by cases e),fun⟨_,e,_⟩=>(by cases e)⟩
 |some x=>exact⟨fun h=>⟨x,rfl,h⟩,fun⟨_,e,h⟩=>by cases e;exact h⟩
theorem wp_ite{c:Prop} [Decidable c] {x y:Option β}:wp (if c then x else y) Q↔(c→wp x Q)∧(¬c→wp y Q):=by
 by_cases h:c;·rw[if_pos h];exact⟨fun k=>⟨fun _=>k,fun n=>absurd h n⟩,fun k=>k.1 h⟩
 ·rw[if_neg h];exact⟨fun k=>⟨fun n=>absurd n h,fun _=>k⟩,fun k=>k.2 h⟩
theorem wp_map{x:Option α}{f:α→β}:wp (Option.map f x) Q↔wp x (fun a=>Q (f a)):=by
 cases x with
 |none=>exact⟨fun⟨_,e,_⟩=>(by cases e),fun⟨_,e,_⟩=>(by cases e)⟩
 |some x=>exact⟨fun⟨_,e,h⟩=>by cases e;exact⟨x,rfl,h⟩,fun⟨_,e,h⟩=>by cases e;exact⟨_,rfl,h⟩⟩
theorem Qj{x:Option β}{Q':β→Prop}(h:wp x Q')(k:∀a,Q' a→Q a):wp x Q:=let⟨a,e,q⟩:=h;⟨a,e,k a q⟩
theorem wp_ix{l:List β}{k:Int}:wp (ix l k) Q↔∃(h0:0≤k) (h:k.toNat<l.length),Q (l[k.toNat]):=by
 unfold ix;constructor
 ·rintro⟨a,e,h⟩;split at e
  ·rename_i h0;obtain⟨h1,h2⟩:=cqd.1 e;exact⟨h0,h1,by rw[h2];exact h⟩
  ·cases e
 ·rintro⟨h0,h1,h⟩;exact⟨_,by rw[if_pos h0,cqc h1],h⟩
theorem WC{l:List β}{k:Int}(h0:0≤k)(h1:k<l.length)(h:∀x,x∈l→Q x):wp (ix l k) Q:=
 wp_ix.2 ⟨h0,by omega,h _ (List.getElem_mem _)⟩
theorem BS{F:α→Int→Option β}(n:Nat)(I:Int→α→Prop)(a3:∀a,I n a→wp (F a n) Q)(step:∀(i:Int) a,0≤i→i<n→I i a→(∀a',I (i+1) a'→wp (F a' (i+1)) Q)→wp (F a i) Q):
    ∀(i:Int) a,0≤i→i≤n→I i a→wp (F a i) Q:=by
  have key:∀(d:Nat) (i:Int) a,0≤i→i+d=n→I i a→wp (F a i) Q:=by
    intro d
    induction d with
    | zero => intro i a _ e hI; have : i = n := by omega
              subst this;exact a3 a hI
    |succ d ih=>intro i a h0 e hI;exact step i a h0 (by omega) hI (fun a' a6=>ih (i+1) a' (by omega) (by omega) a6)
  intro i a h0 h1 hI;exact key (n - i.toNat) i a h0 (by omega) hI
theorem HI{F:α→Int→Option β}(n:Nat)(a3:∀a,wp (F a n) Q)(step:∀(i:Int) a,0≤i→i<n→(∀a',wp (F a' (i+1)) Q)→wp (F a i) Q)(i:Int)(a:α)(h0:0≤i)(h1:i≤n):wp (F a i) Q:=
 BS n (fun _ _=>True) (fun a _=>a3 a) (fun i a h0 h1 _ h=>step i a h0 h1 (fun a'=>h a' trivial)) i a h0 h1 trivial
theorem Pf{F:Int→Option β}(n:Nat)(a3:wp (F n) Q)(step:∀(i:Int),0≤i→i<n→wp (F (i+1)) Q→wp (F i) Q):
  ∀(i:Int),0≤i→i≤n→wp (F i) Q:=fun i h0 h1=>by
 refine BS (F:=fun(_:Unit) i=>F i) n (fun _ _=>True) (fun _ _=>a3) (fun i a h0 h1 _ h=>step i h0 h1 (h () trivial)) i () h0 h1 trivial
theorem loopEq{γ:Type}{F:Int→Option β}{l:List γ}(S:List γ→β)(a3:F l.length=some (S []))(step:∀(i:Int) (x:γ) (t:List γ),0≤i→i<l.length→ix l i=some x→F (i+1)=some (S t)→F i=some (S (x::t))):F 0=some (S l):=by
  have key:∀(t p:List γ),l=p++t→F p.length=some (S t):=by
    intro t
    induction t with
    | nil => intro p e; have : p.length = l.length := by rw [e]; simp
             rw[this];exact a3
    |cons x t ih=>
      intro p e;refine step p.length x t (by omega) (by rw[e];simp;omega) ?_ ?_
      · unfold ix;rw[if_pos (by omega),cqm,e,cqq (Nat.le_refl _)];simp
      · have:=ih (p++[x]) (by rw[e];simp)
        rw[← this];simp
  exact key l [] rfl
theorem My{γ:Type}{F:α→Int→Option β}{l:List γ}(I:α→List γ→Prop)(S:α→List γ→β)(a3:∀a,I a []→F a l.length=some (S a []))(step:∀(i:Int) (x:γ) (t:List γ) a,0≤i→i<l.length→x∈l→ix l i=some x→I a (x::t)→(∀a,I a t→F a (i+1)=some (S a t))→F a i=some (S a (x::t)))(a:α)(hI:I a l):F a 0=some (S a l):=by
  have key:∀(t p:List γ),l=p++t→∀a,I a t→F a p.length=some (S a t):=by
    intro t
    induction t with
    | nil => intro p e a hI; have : p.length = l.length := by rw [e]; simp
             rw[this];exact a3 a hI
    |cons x t ih=>
      intro p e a hI;refine step p.length x t a (by omega) (by rw[e];simp;omega) (by rw[e];simp) ?_ hI ?_
      · unfold ix;rw[if_pos (by omega),cqm,e,cqq (Nat.le_refl _)];simp
      · intro a hI
        have:=ih (p++[x]) (by rw[e];simp) a hI
        rw[← this];simp
  exact key l [] rfl a hI
theorem Q3h{γ:Type}{F:α→Int→Option β}{l:List γ}(I:α→List γ→Prop)(a3:∀a,I a []→wp (F a l.length) Q)(step:∀(i:Int) (x:γ) (t:List γ) a,0≤i→i<l.length→x∈l→ix l i=some x→(∃p,l=p++x::t∧(p.length:Int)=i)→I a (x::t)→(∀a,I a t→wp (F a (i+1)) Q)→wp (F a i) Q)(a:α)(hI:I a l):wp (F a 0) Q:=by
  have key:∀(t p:List γ),l=p++t→∀a,I a t→wp (F a p.length) Q:=by
    intro t
    induction t with
    | nil => intro p e a hI; have : p.length = l.length := by rw [e]; simp
             rw[this];exact a3 a hI
    |cons x t ih=>
      intro p e a hI;refine step p.length x t a (by omega) (by rw[e];simp;omega) (by rw[e];simp) ?_ ⟨p,e,rfl⟩ hI ?_
      · unfold ix;rw[if_pos (by omega),cqm,e,cqq (Nat.le_refl _)];simp
      · intro a hI
        have:=ih (p++[x]) (by rw[e];simp) a hI
        rw[show((p++[x]).length:Int)=(p.length:Int)+1 by simp] at this
        exact this
  exact key l [] rfl a hI
end
theorem ZB{n:Int}(h: -9223372036854775808≤n∧n≤9223372036854775807):wr n=n:=by unfold wr;rw[IntKind.wrap_i64];omega
theorem wrapS{n:Int}{k:Nat}(h0:0≤n)(h1:n<k)(hk:k≤1099511627776):wr (n+1)=n+1:=ZB (by omega)
theorem wrapR(n:Int):-9223372036854775808≤wr n∧wr n≤9223372036854775807:=by unfold wr;rw[IntKind.wrap_i64];omega
theorem zz:(∀ {α β:Type} {Q:β→Prop} {x:Option α} {f:α→Option β},wp (x>>=f) Q↔wp x (fun a=>wp (f a) Q))∧(∀ {β:Type} {Q:β→Prop} {x:β},wp (some x) Q↔Q x)∧
  (∀ {β:Type} {Q:β→Prop} {c:Prop} [Decidable c] {x y:Option β},wp (if c then x else y) Q↔(c→wp x Q)∧(¬c→wp y Q))∧(∀ {α β:Type} {Q:β→Prop} {x:Option α} {f:α→β},wp (Option.map f x) Q↔wp x (fun a=>Q (f a)))∧
  (∀ {β:Type} {Q:β→Prop},wp (none:Option β) Q↔False)∧(∀(a:Int),¬a<a)∧(∀(a:Int),a≤a)∧((false=true)=False)∧(∀(α:Prop),(α→True)=True)∧(∀(p:Prop),(False→p)=True)∧(∀(p:Prop),(True→p)=p)∧
  ((¬True)=False)∧((¬False)=True)∧(∀(p:Prop),(p∧True)=p)∧(∀(p:Prop),(True∧p)=p)∧(∀(p:Prop),(p∧p)=p)∧(∀(a:Prop),(a→a)↔True)∧(∀ {α:Type} [BEq α] [LawfulBEq α] {a b:α},(a==b)=true↔a=b)∧
  (∀ {α:Type} [BEq α] [LawfulBEq α] {a b:α},(a !=b)=true↔a≠b)∧(∀ {α:Type} (a b:α),(a≠b)=¬(a=b))∧(∀ {p:Prop} [Decidable p],(decide p=true)=p)∧(∀ {α β:Type} {a3:List α} (f:α→β),(a3.map f).length=a3.length)∧(∀ {α:Type} (a b:α),(if True then a else b)=a)∧(∀ {α:Type} (a b:α),(if False then a else b)=b):=
 ⟨Zv,QG,wp_ite,wp_map,wp_none,Int.lt_irrefl,Int.le_refl,by simp,by simp,by simp,by simp,by simp,by simp,by simp,by simp,by simp,by simp,beq_iff_eq,bne_iff_ne,fun _ _=>rfl,by simp,fun _=>List.length_map ..,fun _ _=>if_pos trivial,fun _ _=>if_neg id⟩
section
variable {α : Type} {f : α → Nat}
end
theorem Qc.ind{P:Qc→Prop}(h:∀x:Q3,(∀a∈x.fe,P a)→P (.mk x)):∀e,P e
 | .mk x=>h x (fun a ha=>Qc.ind h a)
 termination_by e=>sizeOf e
 decreasing_by exact Qc.lt ha
theorem Q0.ind{P:Q0→Prop}(h:∀x:Qf,(∀a∈x.fd,P a)→P (.mk x)):∀e,P e
 | .mk x=>h x (fun a ha=>Q0.ind h a)
 termination_by e=>sizeOf e
 decreasing_by exact Q0.lt ha
def ZY:Qc→List Qc
 | .mk x=>.mk x::(x.fe.attach.map fun a=>ZY a.1).flatten
 termination_by e=>SizeOf.sizeOf e
 decreasing_by exact Qc.lt a.2
theorem Ep(x:Q3):ZY (.mk x)= .mk x::(x.fe.map ZY).flatten:=by rw[ZY];simp
def Lb(l:List Qc):List Qc:=(l.map ZY).flatten
theorem Hi(a:Qc)(l:List Qc):Lb (a::l)=ZY a++Lb l:=by simp[Lb]
end HY
namespace Go.Proofs.YtkgphhemcglgnaaGreatDoor
open Go HY
set_option maxRecDepth 1000000
inductive aE:Qc→Prop
 |mk (x:Q3):x.fe.length≤4611686018427387904→(∀a∈x.fe,aE a)→aE (.mk x)
theorem aE.of{x:Q3}(h:aE (.mk x)):x.fe.length≤4611686018427387904∧∀a∈x.fe,aE a:=by
 cases h with
 |mk _ h1 h2=>exact⟨h1,h2⟩
abbrev AO:= {x:Q3//aE (.mk x)}
def M3(x:AO):AV:=.fn 139 [.ip 13 [Q8 x.1] 0 0]
def yvl(l:Nat):AV:=.val (.func (.yield l) #[] #[])
theorem Q4d{l:Nat}{xs:List (List AV)}{m n:Nat}{a:List Qc}(hn:a.length=n)(a5:n≤4611686018427387904)
  (hF:∀e∈a,∀k,(∀(j:Nat) (y:Qc),(ZY e)[j]? =some y→xs[k+j]? =some [Q8 y.f])→JF Tryz.prog gls l xs 140 [Q8 e.f,yvl l] (some k) true (k+(ZY e).length)):
  ∀(t p:List Qc) (k:Nat),a=p++t→k+(Lb t).length=m→(∀(j:Nat) (y:Qc),(Lb t)[j]? =some y→xs[k+j]? =some [Q8 y.f])→
   JLo 140 4 23 l xs [1,12,13,14] [yvl l,.sl 13 (a.map Qh),ii n,ii p.length] [] (some k) [4] (.exit 0,[.undef]) (.ret,[.bool false]) m
 |t,p,k,ha,hm,hx=>by
  refine JL1 (φ:=(decide ((p.length:Int)<n)=true→∃x:Q3,((0:Int)≤p.length∧(a.map Qh)[Int.toNat p.length]? =some (Q8 x))∧∃q,JF Tryz.prog gls l xs 140 [Q8 x,yvl l] (some k) true q∧
   NxtJ Tryz.prog gls l xs 23 (KN Tryz.prog 140 (4+1)) [1,12,13,14] [4] (.exit 0,[.undef]) (.ret,[.bool false]) m [yvl l,.sl 13 (a.map Qh),ii n,ii (wr ((p.length:Int)+1))] [] (some q)∧JO (.exit 0,[.undef]) (.ret,[.bool false]) m .ret none [.bool false] [])∧
   (decide ((p.length:Int)<n)=false→JO (.exit 0,[.undef]) (.ret,[.bool false]) m (.exit 0) (some k) [.undef] [])) (hs:=[(15,.split),(16,.e Q8)]) (js:=[]) (kb:=[]) (by kernel_rfl) (by kernel_rfl) ⟨fun h=> ?_,fun h=> ?_⟩
  ·have h:=of_decide_eq_true h;cases t with
   |nil=>subst ha;simp at hn;omega
   |cons e t=>
    have a7:p.length<a.length:=by rw[ha];simp
    refine⟨e.f,⟨by omega,?_⟩,k+(ZY e).length,hF e (by rw[ha];simp) k (fun j y hj=>hx j y ?_),⟨_,_,?_,.refl _,Q4d hn a5 hF t (p++[e]) (k+(ZY e).length) (by rw[ha];simp) (by rw[← hm,Hi];simp;omega) (fun j y hj=> ?_)⟩,.b rfl rfl rfl⟩
    ·rw[cqs,ha,cqm,cqq (Nat.le_refl _)];simp[Ia]
    ·rw[Hi,List.getElem?_append_left (cqd.1 hj).1];exact hj
    ·rw[show wr ((p.length:Int)+1)=((p++[e]).length:Int) by rw[ZB (by omega)];simp]
     exact .refl _
    ·rw[Nat.add_assoc];exact hx _ y (by rw[Hi,cqq (Nat.le_add_right _ _),Nat.add_sub_cancel_left];exact hj)
  ·have h:=of_decide_eq_false h;cases t with
   |nil=>exact .a rfl (by rw[← hm];rfl) rfl
   |cons e t=>rw[ha] at hn;simp at hn;omega
theorem wk_walk(l:Nat)(xs:List (List AV)):∀(e:Qc),aE e→∀k,(∀(j:Nat) (y:Qc),(ZY e)[j]? =some y→xs[k+j]? =some [Q8 y.f])→JF Tryz.prog gls l xs 140 [Q8 e.f,yvl l] (some k) true (k+(ZY e).length):=
 Qc.ind fun x ih hw k hx=>by
  obtain⟨a3,a4⟩:=hw.of;have h0:=hx 0 (.mk x) (by rw[Ep];rfl)
  refine JF1 (φ:=l=l∧xs[k]? =some [Q8 x]∧(∃q,JLo 140 4 23 l xs [1,12,13,14] [yvl l,.sl 13 (x.fe.map Qh),ii ((x.fe.map Qh).length:Nat),ii 0] [] (some (k+1)) [4] (.exit 0,[.undef]) (.ret,[.bool false]) q∧JQ true (k+(ZY (.mk x)).length) (.bool true) (some q)∧JQ true (k+(ZY (.mk x)).length) (.bool false) none)∧JQ true (k+(ZY (.mk x)).length) (.bool false) none)
   (hs:=[]) (js:=[(5,⟨[1,12,13,14],[],[4],(.exit 0,[.undef]),(.ret,[.bool false])⟩)]) (by kernel_rfl) ⟨rfl,h0,⟨_,?_,.inl ⟨rfl,rfl⟩,.inr ⟨rfl,rfl⟩⟩,.inr ⟨rfl,rfl⟩⟩
  have:=Q4d (l:=l) (xs:=xs) (m:=k+(ZY (.mk x)).length) (n:=x.fe.length) (a:=x.fe) rfl a3 (fun e he=>ih e he (a4 e he)) x.fe [] (k+1) rfl (by rw[Ep];simp[Lb];omega) (fun j y hj=>by
   have:=hx (j+1) y (by rw[Ep];exact hj)
   rw[← this];congr 1;omega)
  rw[List.length_map];exact this
theorem T7(x:AO):ItOk Tryz.prog gls 139 [.ip 13 [Q8 x.1] 0 0] ((ZY (.mk x.1)).map fun y=>[Q8 y.f]):=
 ItOk.of (Ve (by kernel_rfl)) false fun l=>
  JF1 (φ:=∃q,JF Tryz.prog gls l ((ZY (.mk x.1)).map fun y=>[Q8 y.f]) 140 [Q8 x.1,yvl l] (some 0) true q∧JQ false (((ZY (.mk x.1)).map fun y=>[Q8 y.f]).length) (.tup []) (some q)∧JQ false (((ZY (.mk x.1)).map fun y=>[Q8 y.f]).length) (.tup []) none)
   (hs:=[]) (js:=[]) (by kernel_rfl) ⟨_,wk_walk l _ (.mk x.1) x.2 0 (fun j y hj=>by rw[Nat.zero_add,cqs,hj];rfl),⟨rfl,.inl (by simp)⟩,⟨rfl,.inr rfl⟩⟩
open Classical in
noncomputable def Js(x0:Q3):Option AO:=if h:aE (.mk x0) then some ⟨x0,h⟩ else none
theorem Hm(x:Q3)(h:aE (.mk x)):Js x=some ⟨x,h⟩:=dif_pos h
theorem MM(x0:Q3)(r:AO)(h:Js x0=some r):PU 98 [Q8 x0] (M3 r):=by
 unfold Js at h;split at h
 ·cases h;exact Pu1 (φ:=LeT (.fn 139 [.ip 13 [Q8 x0] 0 0]) (.fn 139 [.ip 13 [Q8 x0] 0 0])) (hs:=[]) (by kernel_rfl) (.refl _)
 ·cases h
theorem cmpRun(a b:ByteArray)(w:World):(callFunc 401 #[.string a,.string b]).run Tryz.prog w= .ok (.value (.int .i64 (Lib.compareBytes a.data.toList b.data.toList))) w:=by
 rw[run_callFunc_extern (fn:=Tryz.f401) (e:=Extern.BytealgCompare.compare) (by kernel_rfl) (by kernel_rfl) (by kernel_rfl) (by kernel_rfl) (by kernel_rfl) #[.string a,.string b] w]
 rw[Lib.run_compareString];rfl
def xe0:Qq:=xcmp 401
theorem Iv:Qq.Ok Tryz.prog gls xe0:=xcmp_ok cmpRun
def kws:List AV:=[.str [115,105,122,101],
 .str [119,104,101,114,101],
 .str [105,110],
 .str [100,101,102],
 .str [111,117,116],
 .str [115,117,109],
 .str [112,114,111,100],
 .str [109,105,110],
 .str [109,97,120],
 .str [115,99,97,110],
 .str [111,118,101,114],
 .str [105,102],
 .str [99,97,115,116],
 .str [102,114,97,99],
 .str [105,110,116],
 .str [102,105,120],
 .str [99,101,105,108],
 .str [102,108,111,111,114],
 .str [122,101,114,111],
 .str [101,118,101,110],
 .str [115,97,116],
 .str [119,114,97,112]]
def BZ:Uy:=[(192,[],.bs 0 0 1 0 22,pt .nil 0 (.cells 0 kws),1)]
theorem RN:DX Tryz.prog gls BZ:=fun e he=>by
 rw[BZ,List.mem_singleton] at he;subst he;exact La (Nv Jg Iv (T:=[]) (fun _ h=>by cases h) 40 (fl:=100000)) (by kernel_rfl)
noncomputable def Xm(x0:List Int):Option (List Int):=if x0.length*8≤140737488355328∧x0.length≤9223372036854775807 then some x0 else none
theorem Rn(x0:List Int)(r:List Int)(h:Xm x0=some r):PU 47 [eLI x0] (eLI r):=by
 unfold Xm at h;split at h
 ·rename_i hc;cases h;exact Pu1 (φ:=(List.map eI x0=[]→LeT .nil (.sl 1 (List.map eI x0)))∧(0=0∧(0+List.length (List.map eI x0))*8≤140737488355328∧0+List.length (List.map eI x0)≤9223372036854775807)∧∃l,(List.map eI l=[]++List.map eI x0∧List.length l=0+List.length (List.map eI x0))∧List.length l=List.length (List.map eI l)∧LeT (.sl 1 (List.map eI l)) (.sl 1 (List.map eI x0)))
   (hs:=[(4,.nn),(7,.z [{slot:=5,own:=1}] (some (.n eI 7 (some .a))))]) (by kernel_rfl)
   ⟨fun e=>by rw[e];exact .nil 1,⟨rfl,by simpa using hc⟩,x0,⟨rfl,by simp⟩,by simp,.refl _⟩
 ·cases h
end Go.Proofs.YtkgphhemcglgnaaGreatDoor
namespace HY
open Go
theorem kOc{ρ:Type}{r:ρ}{α:Type}{sh:α→AV}{xs:List AV}{n:Nat}{f:List α→Option ρ}{A:List α→Prop}(l:List α)(e:List.map sh l=xs)(hA:∀l,f l=some r→A l)(h:(if l.length=n then(some l>>=f) else none)=some r):∃l,(List.map sh l=xs∧l.length=n)∧A l:=by
 by_cases hn:l.length=n;·rw[if_pos hn] at h;exact⟨l,⟨e,hn⟩,hA l h⟩
 ·rw[if_neg hn] at h;cases h
end HY
namespace Go.Proofs.YtkgphhemcglgnaaGreatDoor
open Go HY
set_option maxRecDepth 1000000
noncomputable def WRp(ps:List AV)(f r n:Nat)(hs:QH)(ks:List Nat)(kb:List KB)(kx:List Nat)(kbx:List KB)(alts:List Alt)(vs:List AV)(bs:List Box):Prop:=
 Fp Tryz.prog gls ch0 wf0 hs ps 2000 n (KN Tryz.prog f (r+1)) ks kb kx kbx alts vs bs (Nxt Tryz.prog gls ps n (KN Tryz.prog f (r+1)) ks kx alts)
theorem Lp1p{φ:Prop}{ps:List AV}{f r n:Nat}{hs:QH}{ks:List Nat}{kb:List KB}{kx:List Nat}{kbx:List KB}{alts:List Alt}{vs:List AV}{bs:List Box}(a3:QN (KN Tryz.prog f (r+1))=true)(e:φ=WRp ps f r n hs ks kb kx kbx alts vs bs)(h:φ):Zu Tryz.prog gls ps n (KN Tryz.prog f (r+1)) ks vs bs kx alts:=
 Zu.step V5 Vp WX a3 (show WRp ps f r n hs ks kb kx kbx alts vs bs from e▸h)
abbrev LOp(ps:List AV)(f r n:Nat)(ks:List Nat)(vs:List AV)(bs:List Box)(kx:List Nat)(alts:List Alt):Prop:=Zu Tryz.prog gls ps n (KN Tryz.prog f (r+1)) ks vs bs kx alts
def kwL:List Str:=[[115,105,122,101],[119,104,101,114,101],[105,110],[100,101,102],[111,117,116],[115,117,109],[112,114,111,100],[109,105,110],[109,97,120],[115,99,97,110],[111,118,101,114],[105,102],[99,97,115,116],[102,114,97,99],[105,110,116],[102,105,120],[99,101,105,108],[102,108,111,111,114],[122,101,114,111],[101,118,101,110],[115,97,116],[119,114,97,112]]
theorem kwLe:∀(l:List AV) (s:List Str),l=s.map eS→LeEs (l.map fun x=>AV.agg [x]) (s.map eS)
 | [],[],_=>.nil
 |_::_,_::_,h=>by cases h;exact .cons (LeL.refl _) (kwLe _ _ rfl)
noncomputable def N4:Option (List Str):=some kwL
theorem SG(r:List Str)(h:N4=some r):PU 192 [] (eLS r):=by
 cases h;have h0:Vr Tryz.prog gls 192 [] (.bs 0 0 1 0 22) (pt .nil 0 (.cells 0 kws)) 1:=RN _ (List.mem_singleton.2 rfl);exact Pu.le (Pu.ofCall (r:=.sl 1 (U4 1 22 kws)) h0 (by kernel_rfl)) .nil (LeT.sl (show LeEs (U4 1 22 kws) (kwL.map eS) from(show U4 1 22 kws=kws.map (fun x=>AV.agg [x]) by kernel_rfl)▸kwLe kws kwL (by kernel_rfl)))
noncomputable def XV(x0:Str)(x1:Str):Option Int:=some (Lib.compareBytes x0 x1)
theorem UQ(x0:Str)(x1:Str)(r:Int)(h:XV x0 x1=some r):PU 401 [eS x0,eS x1] (eI r):=by
 cases h;exact Pu.ofCall (R8.zero (Iv _ _ _ _ _ _ _ rfl)) rfl
end Go.Proofs.YtkgphhemcglgnaaGreatDoor
namespace HY
open Go Go.RowKit
inductive Cx (ρ:Type):Type 1 where
 |e (enc:ρ→AV)
 |h (enc:ρ→AV) (bt:ρ→List Box)
 |x (alts:ρ→List Alt)
 |j {υ:Type} (alts:υ→ρ→List Alt) (u u0:υ)
def Cx.y{ρ:Type}:Cx ρ→Prop
 | .j _ u u0=>u=u0
 |_=>True
 class Q {ρ:Type} (c:Cx ρ) (x:Option ρ) (r:ρ) (φ:outParam Prop):Prop where
 k:c.y→x=some r→φ
 class En (α:Type) (enc:outParam (α→AV)):Prop where
 class Es (α:Type) (enc:outParam (α→AV)):Prop where
 class EnR {α τ:Type} (un:α→τ) (enc:outParam (α→AV)) (sh:outParam (τ→AV)):Prop where
 hv:∀a,enc a=sh (un a)
 class Pr (α:Type):Prop where
 class Nm {α:Type} (n:α) (m:outParam α):Prop where
 k:n=m
 class Tu {α:Type} (φ:α→Prop) (x:outParam α):Prop where
 k:φ x
 class Ot (l:List Alt) (e:outParam Exit) (vs:outParam (List AV)) (bs:outParam (List Box)):Prop where
 k:Out l e vs bs
 class Lw {τ:Type} (x:Option τ) (P:outParam Program) (gl:outParam (Nat→AV)) (g:outParam Nat) (args:outParam (List AV)) (sh:outParam (τ→AV)):Prop where
 k:∀y,x=some y→Pu P gl g args (sh y)
 class Ll {τ:Type} (x:Option τ) (P:outParam Program) (gl:outParam (Nat→AV)) (ps:outParam (List AV)) (n:outParam Nat) (c:outParam Code) (ks:outParam (List Nat)) (vs:outParam (List AV)) (bs:outParam (List Box)) (kx:outParam (List Nat)) {υ:outParam Type} (alts:outParam (υ→τ→List Alt)) (u:outParam υ):Prop where
 k:∀y,x=some y→Zu P gl ps n c ks vs bs kx (alts u y)
section
variable {ρ : Type} {r : ρ} {c : Cx ρ}
instance (priority:=2000) qG {p:Prop} [Decidable p] {x:Option ρ} {A:Prop} [hA:Q c x r A]:Q c (if p then x else none) r (p∧A):=⟨fun w=>kG (hA.k w)⟩
instance (priority:=1500) qIf {b:Bool} {x y:Option ρ} {A B:Prop} [hA:Q c x r A] [hB:Q c y r B]:Q c (if b=true then x else y) r ((b=true→A)∧(b=false→B)):=⟨fun w=>kIf (hA.k w) (hB.k w)⟩
instance (priority:=1400) qD {p:Prop} [Decidable p] {x y:Option ρ} {A B:Prop} [hA:Q c x r A] [hB:Q c y r B]:Q c (if p then x else y) r ((decide p=true→A)∧(decide p=false→B)):=⟨fun w=>kIfD (hA.k w) (hB.k w)⟩
theorem qA{α:Type}{sh:α→AV}(l:List α) [En α sh] {q:Prop} [Decidable q] {x:Option ρ} {A:Prop} [hA:Q c x r A]:Q c (if q then x else none) r ((l.length=(List.map sh l).length∧q)∧A):=⟨fun w=>kA (hA.k w)⟩
theorem qT{p:Prop}(hp:p){x:Option ρ}{A:Prop} [hA:Q c x r A]:Q c x r (p∧A):=⟨fun w h=>⟨hp,hA.k w h⟩⟩
instance (priority:=1500) qIx {α:Type} {enc:α→AV} {l:List α} {k:Int} {f:α→Option ρ} {A:α→Prop} [En α enc] [hA:∀x,Q c (f x) r (A x)]:Q c (ix l k>>=f) r (∃x,(0≤k∧(List.map enc l)[k.toNat]? =some (enc x))∧A x):=⟨fun w=>kIx fun x=>(hA x).k w⟩
instance (priority:=1500) qIxR {α τ:Type} {enc:α→AV} {sh:τ→AV} {un:α→τ} {l:List α} {k:Int} {f:τ→Option ρ} {A:τ→Prop} [hv:EnR un enc sh] [hA:∀x,Q c (f x) r (A x)]:Q c (Option.map un (ix l k)>>=f) r (∃x,(0≤k∧(List.map enc l)[k.toNat]? =some (sh x))∧A x):=⟨fun w=>kIxR hv.hv fun x=>(hA x).k w⟩
instance (priority:=1500) qOx {α:Type} {enc:α→AV} {l:List α} {k:Nat} {f:α→Option ρ} {A:α→Prop} [En α enc] [hA:∀x,Q c (f x) r (A x)]:Q c (l[k]? >>=f) r (∃x,(List.map enc l)[k]? =some (enc x)∧A x):=⟨fun w=>kOx fun x=>(hA x).k w⟩
instance (priority:=1500) qOxR {α τ:Type} {enc:α→AV} {sh:τ→AV} {un:α→τ} {l:List α} {k:Nat} {f:τ→Option ρ} {A:τ→Prop} [hv:EnR un enc sh] [hA:∀x,Q c (f x) r (A x)]:Q c (Option.map un l[k]? >>=f) r (∃x,(List.map enc l)[k]? =some (sh x)∧A x):=⟨fun w=>kOxR hv.hv fun x=>(hA x).k w⟩
instance (priority:=1600) qU {s:List UInt8} {k:Int} {f:UInt8→Option ρ} {A:UInt8→Prop} [hA:∀x,Q c (f x) r (A x)]:Q c (ix s k>>=f) r (∃x,(0≤k∧s[k.toNat]? =some x)∧A x):=⟨fun w=>kU fun x=>(hA x).k w⟩
instance (priority:=1200) qC {P:Program} {gl:Nat→AV} {g:Nat} {args:List AV} {τ:Type} {sh:τ→AV} {x:Option τ} {f:τ→Option ρ} {A:τ→Prop} [hP:Lw x P gl g args sh] [hA:∀x,Q c (f x) r (A x)]:Q c (x>>=f) r (∃y,Pu P gl g args (sh y)∧A y):=⟨fun w=>kC hP.k fun x=>(hA x).k w⟩
theorem qH{P:Program}{gl:Nat→AV}{g:Nat}{args:List AV}{bs:List Box}{τ:Type}{sh:τ→AV}{bt:τ→List Box}{x:Option τ}{f:τ→Option ρ}{A:τ→Prop}(hP:∀y,x=some y→PuH P gl g args bs (sh y) (bt y)) [hA:∀x,Q c (f x) r (A x)]:Q c (x>>=f) r (∃y,PuH P gl g args bs (sh y) (bt y)∧A y):=⟨fun w=>kH hP fun x=>(hA x).k w⟩
instance (priority:=1300) qN {α:Type} {n m:α} {f:α→Option ρ} {A:α→Prop} [Pr α] [e:Nm n m] [hA:∀x,Q c (f x) r (A x)]:Q c (some n>>=f) r (∃n,n=m∧A n):=⟨fun w=>kN n e.k fun x=>(hA x).k w⟩
instance (priority:=1100) qW {α:Type} {sh:α→AV} {x:α} {f:α→Option ρ} {A:α→Prop} [Es α sh] [hA:∀x,Q c (f x) r (A x)]:Q c (some x>>=f) r (∃y,LeV (sh x) (sh y)∧A y):=⟨fun w=>kW x (.refl _) fun x=>(hA x).k w⟩
theorem qW1{α:Type}{sh:α→AV}{v:AV}{x:α}{f:α→Option ρ}{A:α→Prop}(e:LeV v (sh x)) [hA:∀x,Q c (f x) r (A x)]:Q c (some x>>=f) r (∃y,LeV v (sh y)∧A y):=⟨fun w=>kW x e fun x=>(hA x).k w⟩
theorem qO{α:Type}{sh:α→AV}{xs:List AV}{n:Nat}{f:List α→Option ρ}{A:List α→Prop}{l:List α}(e:List.map sh l=xs)(hn:l.length=n) [hA:∀x,Q c (f x) r (A x)]:Q c (some l>>=f) r (∃l,(List.map sh l=xs∧l.length=n)∧A l):=⟨fun w=>kO l e hn fun x=>(hA x).k w⟩
instance (priority:=1700) qL3 {P:Program} {gl:Nat→AV} {ps:List AV} {n:Nat} {cd:Code} {ks:List Nat} {vs:List AV} {bs:List Box} {kx:List Nat} {υ α β γ:Type} {alts:υ→α ⊕ β ⊕ γ→List Alt} {x:Option (α ⊕ β ⊕ γ)} {u:υ} {m:υ→α ⊕ β ⊕ γ→Option ρ} {A:υ→α→Prop} {B:υ→β→Prop} {C:υ→γ→Prop} [hL:Ll x P gl ps n cd ks vs bs kx alts u] [hA:∀u a,Q c (m u (.inl a)) r (A u a)] [hB:∀u b,Q c (m u (.inr (.inl b))) r (B u b)] [hC:∀u b,Q c (m u (.inr (.inr b))) r (C u b)]:Q c (some u>>=fun u=>x>>=m u) r (∃u o,Zu P gl ps n cd ks vs bs kx (alts u o)∧(∀a,Sum.inl a=o→A u a)∧(∀b,Sum.inr (Sum.inl b)=o→B u b)∧∀b,Sum.inr (Sum.inr b)=o→C u b):=⟨fun w=>kL3 u (fun _ _=>rfl) (fun _ _=>rfl) (fun _ _=>rfl) hL.k (fun u a=>(hA u a).k w) (fun u a=>(hB u a).k w) fun u a=>(hC u a).k w⟩
instance (priority:=1600) qL2 {P:Program} {gl:Nat→AV} {ps:List AV} {n:Nat} {cd:Code} {ks:List Nat} {vs:List AV} {bs:List Box} {kx:List Nat} {υ α β:Type} {alts:υ→α ⊕ β→List Alt} {x:Option (α ⊕ β)} {u:υ} {m:υ→α ⊕ β→Option ρ} {A:υ→α→Prop} {B:υ→β→Prop} [hL:Ll x P gl ps n cd ks vs bs kx alts u] [hA:∀u a,Q c (m u (.inl a)) r (A u a)] [hB:∀u b,Q c (m u (.inr b)) r (B u b)]:Q c (some u>>=fun u=>x>>=m u) r (∃u o,Zu P gl ps n cd ks vs bs kx (alts u o)∧(∀a,Sum.inl a=o→A u a)∧∀b,Sum.inr b=o→B u b):=⟨fun w=>kL2 u (fun _ _=>rfl) (fun _ _=>rfl) hL.k (fun u a=>(hA u a).k w) fun u a=>(hB u a).k w⟩
instance (priority:=1500) qL1 {P:Program} {gl:Nat→AV} {ps:List AV} {n:Nat} {cd:Code} {ks:List Nat} {vs:List AV} {bs:List Box} {kx:List Nat} {υ α:Type} {alts:υ→α→List Alt} {x:Option α} {u:υ} {m:υ→α→Option ρ} {A:υ→α→Prop} [hL:Ll x P gl ps n cd ks vs bs kx alts u] [hA:∀u a,Q c (m u a) r (A u a)]:Q c (some u>>=fun u=>x>>=m u) r (∃u o,Zu P gl ps n cd ks vs bs kx (alts u o)∧∀a,a=o→A u a):=⟨fun w=>kL1 u hL.k fun u a=>(hA u a).k w⟩
theorem qB{υ:Type}{y:Option Bool}{f g:υ→Option ρ}{I:υ→Bool→Prop}{A B:υ→Prop}{u0:υ}(al:υ→Bool→List Alt) [hI:∀u o,Q (.j al u u0) y o (I u o)] [hA:∀u,Q c (f u) r (A u)] [hB:∀u,Q c (g u) r (B u)]:Q c (some u0>>=fun u=>y>>=fun o=>if o=true then f u else g u) r (∃u o,Jn 0 (I u o)∧(∀_:Unit,true=o→A u)∧∀_:Unit,false=o→B u):=
 ⟨fun w=>kJb u0 (fun u e o=>(hI u o).k e) (fun u=>(hA u).k w) fun u=>(hB u).k w⟩
theorem qJ{υ α:Type}{y:Option α}{f:υ→α→Option ρ}{I:υ→α→Prop}{A:υ→α→Prop}{u0:υ}(al:υ→α→List Alt) [hI:∀u o,Q (.j al u u0) y o (I u o)] [hA:∀u a,Q c (f u a) r (A u a)]:Q c (some u0>>=fun u=>y>>=f u) r (∃u o,Jn 0 (I u o)∧∀a,a=o→A u a):=
 ⟨fun w=>kJ1 u0 (fun u e o=>(hI u o).k e) fun u a=>(hA u a).k w⟩
instance qEe{enc:ρ→AV}{v:ρ}:Q (.e enc) (some v) r (LeT (enc v) (enc r)):=⟨fun w=>kEr v⟩
instance qEh{enc:ρ→AV}{bt:ρ→List Box}{v:ρ}:Q (.h enc bt) (some v) r (LeVs [enc v] [enc r]∧LeBs (bt v) (bt r)):=⟨fun w=>kEH v ⟨.refl _,.refl _⟩⟩
instance qEx{alts:ρ→List Alt}{o:ρ}{e:Exit}{vs:List AV}{bs:List Box} [hO:Ot (alts o) e vs bs]:Q (.x alts) (some o) r (Out (alts r) e vs bs):=⟨fun w=>kX o hO.k⟩
instance qEj{υ:Type}{alts:υ→ρ→List Alt}{u u0:υ}{o:ρ}{e:Exit}{vs:List AV}{bs:List Box} [hO:Ot (alts u0 o) e vs bs]:Q (.j alts u u0) (some o) r (Out (alts u r) e vs bs):=⟨fun w=>kXj w o hO.k⟩
instance (priority:=500) qM {P:Program} {gl:Nat→AV} {ps:List AV} {n:Nat} {cd:Code} {ks:List Nat} {vs:List AV} {bs:List Box} {kx:List Nat} {υ:Type} {alts:υ→ρ→List Alt} {u:υ} {x:Option ρ} [hL:Ll x P gl ps n cd ks vs bs kx alts u]:Q (.x (alts u)) x r (Nxt P gl ps n cd ks kx (alts u r) vs bs):=⟨fun w=>kM0 hL.k⟩
end
instance (priority:=500){α:Type}(n:α):Nm n n:=⟨rfl⟩
instance {α:Type}{sh:α→AV} [En α sh] (l:List α):Nm (l.length:Int) ((List.map sh l).length:Int):=⟨mLen l⟩
instance {α:Type}(a:α):Tu (fun x=>x=a) a:=⟨rfl⟩
instance {α β:Type}(a:α):Tu (fun x=>(Sum.inl x:α ⊕ β)=Sum.inl a) a:=⟨rfl⟩
instance {α β:Type}(a:β):Tu (fun x=>(Sum.inr x:α ⊕ β)=Sum.inr a) a:=⟨rfl⟩
instance {α β γ:Type}(a:β):Tu (fun x=>(Sum.inr (Sum.inl x):α ⊕ β ⊕ γ)=Sum.inr (Sum.inl a)) a:=⟨rfl⟩
instance {α β γ:Type}(a:γ):Tu (fun x=>(Sum.inr (Sum.inr x):α ⊕ β ⊕ γ)=Sum.inr (Sum.inr a)) a:=⟨rfl⟩
instance {α:Type}(a:α):Tu (fun _:Unit=>a=a) ():=⟨rfl⟩
instance (priority:=1500){α:Type}{φ:α→Prop}{e:Exit}{vs:α→List AV}{bs:α→List Box}{l:List Alt}{x:α} [h:Tu φ x]:Ot (⟨φ,e,vs,bs⟩::l) e (vs x) (bs x):=⟨.here x h.k (.refl _) (.refl _)⟩
instance {a:Alt}{l:List Alt}{e:Exit}{vs:List AV}{bs:List Box} [h:Ot l e vs bs]:Ot (a::l) e vs bs:=⟨.next h.k⟩
instance:Pr Int:=⟨⟩
instance:Pr Bool:=⟨⟩
instance:Pr (List UInt8):=⟨⟩
instance:Pr UInt8:=⟨⟩
instance ieI:En Int eI:=⟨⟩
instance ieB:En Bool eB:=⟨⟩
instance ieS:En Str eS:=⟨⟩
instance ieLI:En (List Int) eLI:=⟨⟩
instance iegType:En Qb Qm:=⟨⟩
instance jegType:Es Qb Qm:=⟨⟩
instance iegBuffer:En Qr Ql:=⟨⟩
instance iegMono:En Qo Q7:=⟨⟩
instance jegMono:Es Qo Q7:=⟨⟩
instance iegLin:En gLin Qi:=⟨⟩
instance jegLin:Es gLin Qi:=⟨⟩
instance iegIndex:En Q5 Q4:=⟨⟩
instance iegVal:En gVal Qd:=⟨⟩
instance jegVal:Es gVal Qd:=⟨⟩
instance iegInstance:En QE Qk:=⟨⟩
instance iegBinding:En Qg Qe:=⟨⟩
instance jegBinding:Es Qg Qe:=⟨⟩
instance jegeval_typed:Es Qu Gh:=⟨⟩
instance jegA2u64:Es HE HC:=⟨⟩
instance iegExpr:En Qc Qh:=⟨⟩
instance regExpr:EnR Qc.f Qh Q8:=⟨Ia⟩
instance iegStmt:En Q0 Q9:=⟨⟩
instance regStmt:EnR Q0.f Q9 Qt:=⟨J2⟩
end HY
namespace Go.Proofs.YtkgphhemcglgnaaGreatDoor
open Go HY
set_option maxRecDepth 1000000
theorem Pu4{ρ:Type}{φ:Prop}{f:Nat}{hs:QH}{args:List AV}{enc:ρ→AV}{x y:Option ρ}{r:ρ}(e:x=y)(h:x=some r) [q:Q (.e enc) y r φ] (k:φ=W f hs args (enc r):=by kernel_rfl):Pu Tryz.prog gls f args (enc r):=Pu.of (hs:=hs) V5 Vp Jg (show W f hs args (enc r) from k▸q.k trivial (e▸h))
theorem PuH4{ρ:Type}{φ:Prop}{f:Nat}{hs:QH}{kb:List KB}{args:List AV}{bs:List Box}{enc:ρ→AV}{bt:ρ→List Box}{x y:Option ρ}{r:ρ}(e:x=y)(h:x=some r) [q:Q (.h enc bt) y r φ] (k:φ=WH f hs kb args bs (enc r) (bt r):=by kernel_rfl):PuH Tryz.prog gls f args bs (enc r) (bt r):=PuH.of (hs:=hs) V5 Vp Jg (show WH f hs kb args bs (enc r) (bt r) from k▸q.k trivial (e▸h))
theorem Lp4{ρ:Type}{φ:Prop}{f r n:Nat}{hs:QH}{ks:List Nat}{kb:List KB}{kx:List Nat}{kbx:List KB}{alts:ρ→List Alt}{vs:List AV}{bs:List Box}{x y:Option ρ}{o:ρ}(e:x=y)(h:x=some o) [q:Q (.x alts) y o φ] (a3:QN (KN Tryz.prog f (r+1))=true:=by kernel_rfl) (k:φ=WR f r n hs ks kb kx kbx (alts o) vs bs:=by kernel_rfl):Zu Tryz.prog gls [] n (KN Tryz.prog f (r+1)) ks vs bs kx (alts o):=
 Zu.step V5 Vp WX a3 (show WR f r n hs ks kb kx kbx (alts o) vs bs from k▸q.k trivial (e▸h))
theorem Lp4p{ρ:Type}{φ:Prop}{ps:List AV}{f r n:Nat}{hs:QH}{ks:List Nat}{kb:List KB}{kx:List Nat}{kbx:List KB}{alts:ρ→List Alt}{vs:List AV}{bs:List Box}{x y:Option ρ}{o:ρ}(e:x=y)(h:x=some o) [q:Q (.x alts) y o φ] (a3:QN (KN Tryz.prog f (r+1))=true:=by kernel_rfl) (k:φ=WRp ps f r n hs ks kb kx kbx (alts o) vs bs:=by kernel_rfl):Zu Tryz.prog gls ps n (KN Tryz.prog f (r+1)) ks vs bs kx (alts o):=
 Zu.step V5 Vp WX a3 (show WRp ps f r n hs ks kb kx kbx (alts o) vs bs from k▸q.k trivial (e▸h))
end Go.Proofs.YtkgphhemcglgnaaGreatDoor
noncomputable section
namespace Go.Proofs.YtkgphhemcglgnaaGreatDoor
open Go HY
set_option maxRecDepth 1000000
def YY(x0:Qr):Option Qr:=
 Xm x0.fJ>>=fun v0=>
 some (Qr.mk x0.fc x0.fb v0 x0.fP)
theorem Hw(x0 r)(h:YY x0=some r):PU 72 [Ql x0] (Ql r):=
 Pu4 (hs:=[(5,.c eLI)]) (YY.eq_1 x0) h (q:=qC (hP:=⟨Rn x0.fJ⟩))
@[reducible,instance] def Q3b x0:=Lw.mk (Hw x0)
abbrev Gw(s:(Str×Qp))(u:Int)(o:Qr ⊕ (Qr×Bool)):List Alt:=[⟨fun(x:Qr)=>(Sum.inl x:Qr ⊕ (Qr×Bool))=o,.exit 0,fun x=>[.ptr 0 0 0,.undef],fun x=>[.cells 0 (Ql x).cells]⟩,⟨fun(x:(Qr×Bool))=>(Sum.inr x:Qr ⊕ (Qr×Bool))=o,.ret,fun x=>[.ptr 0 0 0,.bool x.2],fun x=>[.cells 0 (Ql x.1).cells]⟩]
def Xe(x1:Str)(x2:Qp)(x4:Qr)(x9:Int)(a3:Int):Option (Qr ⊕ (Qr×Bool)):=
 if a3<x9 then
 ix x2.fq a3>>=fun v0=>
 if v0.fc==x1 then
 ix x2.fq a3>>=fun v1=>
 YY v1>>=fun v2=>
 some (.inr (v2,true))
 else
 Xe x1 x2 x4 x9 (wr (a3+1))
 else
 some (.inl x4)
 partial_fixpoint
theorem HW(x1 x2 x4 x9 a3 o)(h:Xe x1 x2 x4 x9 a3=some o):LO 56 2 29 [1,2,4,9,10] [.str x1,.ptr 0 0 0,.ptr 1 0 0,ii x9,ii a3] [.cells 0 (Zf x2).cells,.cells 0 (Ql x4).cells] [4,5] (Gw (x1,x2) x9 o):=
 Xe.partial_correctness x1 x2 x4 x9 (fun a3 o=>LO 56 2 29 [1,2,4,9,10] [.str x1,.ptr 0 0 0,.ptr 1 0 0,ii x9,ii a3] [.cells 0 (Zf x2).cells,.cells 0 (Ql x4).cells] [4,5] (Gw (x1,x2) x9 o))
 (fun Xe Qd8 a3 o h=>
 have i0 a:=Ll.mk (Qd8 a);Lp4 (hs:=[(11,.split),(16,.e Ql),(20,.split),(24,.e Ql),(26,.c Ql)]) (kb:=[kk 2,kk 4]) (kbx:=[kk 4]) rfl h) a3 o h
def XZ(x0:Qp)(x1:Str):Option (Qr×Bool):=
 some (List.length x0.fq:Int)>>=fun v0=>
 some v0>>=fun v1=>
 Xe x1 x0 (Qr.mk [] (Qb.mk (0:Int) (0:Int) (0:Int) (0:Int) (0:Int)) [] (0:Int)) v0 (0:Int)>>=fun v2=>(match v2 with
 | (.inl v3)=>
 some ((Qr.mk [] (Qb.mk (0:Int) (0:Int) (0:Int) (0:Int) (0:Int)) [] (0:Int)))>>=fun v4=>
 some (v4,false)
 | (.inr v5)=>
 some (v5.fst,v5.snd))
theorem TR(x0 x1 r)(h:XZ x0 x1=some r):PU 56 [Zf x0,eS x1] (Gg r):=
 Pu4 (hs:=[(9,.n eI 9 none),(28,.n Ql 28 none),(3000003,.l [] [1,2,4,9,10] [kk 2,kk 4] [4,5] [kk 4] (Gw (x1,x0)))]) (XZ.eq_1 x0 x1) h (q:=qN (hA:=fun v0=>qL2 (hL:=⟨fun y hy=>Zu.le (.cons lr (.cons lr (.cons lr (.cons lr (.cons lr .nil))))) (.cons (LeB.refl (Box.cells (0:Nat) [AV.sl (8:Nat) (List.map Ql x0.fq),AV.sl (20:Nat) (List.map Q9 x0.fd)])) (.cons (LeB.cells (0:Nat) (.cons lr (.cons lr (.cons lr (.cons lr (.cons lr (.cons lr (.cons (LeV.nil 1) (.cons lr .nil))))))))) .nil)) (HW x1 x0 (Qr.mk [] (Qb.mk (0:Int) (0:Int) (0:Int) (0:Int) (0:Int)) [] (0:Int)) v0 (0:Int) y hy)⟩) (hA:=fun v1 v3=>qW1 (sh:=Ql) (LeV.agg (.cons lr (.cons lr (.cons lr (.cons lr (.cons lr (.cons lr (.cons (LeV.nil 1) (.cons lr .nil))))))))))))
@[reducible,instance] def Q8e x0 x1:=Lw.mk (TR x0 x1)
abbrev Gx(s:((List Q0)×Int))(u:Int)(o:Unit ⊕ Bool):List Alt:=[⟨fun(x:Unit)=>(Sum.inl x:Unit ⊕ Bool)=o,.exit 0,fun x=>[.undef],fun x=>[]⟩,⟨fun(x:Bool)=>(Sum.inr x:Unit ⊕ Bool)=o,.ret,fun x=>[.bool x],fun x=>[]⟩]
abbrev D0(s:((List Q0)×Int×Int))(u:Int)(o:Bool):List Alt:=jb o (fun b=>[.sl 20 (List.map Q9 (s.1)),ii (s.2.1),ii (s.2.2),ii u,.bool b]) []
mutual
def YI(x0:List Q0)(x1:Int):Option Bool:=
 some (List.length x0:Int)>>=fun v0=>
 some v0>>=fun v1=>
 Xf x0 x1 v0 0>>=fun v2=>(match v2 with
 | (.inl v3)=>
 some true
 | (.inr v4)=>
 some v4)
 partial_fixpoint
def Xf(x0:List Q0)(x1:Int)(x7:Int)(x8:Int):Option (Unit ⊕ Bool):=
 if x8<x7 then
 some x8>>=fun v0=>
 (if x1<1 then
 some true
 else
 Option.map Q0.f (ix x0 x8)>>=fun v2=>
 YI v2.fd (wr (x1 - (1:Int)))>>=fun v3=>if v3 then
 some false
 else
 some true)>>=fun v1=>if v1 then
 some (.inr false)
 else
 Xf x0 x1 x7 (wr (v0+1))
 else
 some (.inl ())
 partial_fixpoint
end
theorem Ra:(∀(x0:List Q0) (x1:Int) (r:Bool),YI x0 x1=some r→PU 73 [Z7 x0,eI x1] (eB r))∧(∀(x0:List Q0) (x1:Int) (x7:Int) (x8:Int) (o:Unit ⊕ Bool),Xf x0 x1 x7 x8=some o→LO 73 2 25 [0,1,7,8] [.sl 20 (List.map Q9 x0),ii x1,ii x7,ii x8] [] [4] (Gx (x0,x1) x7 o)):=
 YI.mutual_partial_correctness _ _
 (fun Xf Qdy x0 x1 r h=>
 have i0 a b c d:=Ll.mk (Qdy a b c d);Pu4 (hs:=[(7,.n eI 7 none),(3000003,.l [] [0,1,7,8] [] [4] [] (Gx (x0,x1)))]) rfl h)
 (fun YI Xf Qdx Qdy x0 x1 x7 x8 o h=>
 have i0 a b:=Lw.mk (Qdx a b);have i1 a b c d:=Ll.mk (Qdy a b c d);Lp4 (hs:=[(9,.split),(12,.split),(16,.e Qt),(21,.cb),(5000004,.l [] [] [] [0,1,7,8,23] [] (D0 (x0,x1,x7)))]) (kb:=[]) (kbx:=[]) rfl h (q:=qD (hA:=qB (D0 (x0,x1,x7)))))
theorem TU(x0 x1 r)(h:YI x0 x1=some r):PU 73 [Z7 x0,eI x1] (eB r):=(Ra).1 x0 x1 r h
@[reducible,instance] def Q8h x0 x1:=Lw.mk (TU x0 x1)
abbrev U9(s:((List Q0)×Int))(u:Int)(o:Int):List Alt:=[⟨fun(x:Int)=>x=o,.exit 0,fun x=>[ii x],fun x=>[]⟩]
mutual
def XJ(x0:List Q0)(x1:Int):Option Int:=
 some (List.length x0:Int)>>=fun v0=>
 some (v0:Int)>>=fun v1=>
 some (List.length x0:Int)>>=fun v2=>
 some v2>>=fun v3=>
 ZE x0 x1 v1 v2 0>>=fun v5=>
 some v5
 partial_fixpoint
def ZE(x0:List Q0)(x1:Int)(x5:Int)(a4:Int)(a3:Int):Option Int:=
 if a3<a4 then
 if x1<x5 then
 some x5
 else
 Option.map Q0.f (ix x0 a3)>>=fun v0=>
 XJ v0.fd (wr (x1 - x5))>>=fun v1=>
 some (wr (x5+v1):Int)>>=fun v2=>
 ZE x0 x1 v2 a4 (wr (a3+1))
 else
 some x5
 partial_fixpoint
end
theorem Hq:(∀(x0:List Q0) (x1:Int) (r:Int),XJ x0 x1=some r→PU 74 [Z7 x0,eI x1] (eI r))∧(∀(x0:List Q0) (x1:Int) (x5:Int) (a5:Int) (a6:Int) (o:Int),ZE x0 x1 x5 a5 a6=some o→LO 74 3 30 [0,1,5,10,11] [.sl 20 (List.map Q9 x0),ii x1,ii x5,ii a5,ii a6] [] [5] (U9 (x0,x1) a5 o)):=
 XJ.mutual_partial_correctness _ _
 (fun ZE Qdj x0 x1 r h=>
 have i0 a b c d e:=Ll.mk (Qdj a b c d e);Pu4 (hs:=[(8,.n eI 8 none),(10,.n eI 10 none),(5,.n eI 5 none),(3000004,.l [] [0,1,5,10,11] [] [5] [] (U9 (x0,x1)))]) rfl h)
 (fun XJ ZE Qdi Qdj x0 x1 x5 a5 a6 o h=>
 have i0 a b:=Lw.mk (Qdi a b);have i1 a b c d e:=Ll.mk (Qdj a b c d e);Lp4 (hs:=[(12,.split),(16,.split),(20,.e Qt),(26,.c eI),(5,.n eI 5 none)]) (kb:=[]) (kbx:=[]) rfl h)
theorem E0(x0 x1 r)(h:XJ x0 x1=some r):PU 74 [Z7 x0,eI x1] (eI r):=(Hq).1 x0 x1 r h
@[reducible,instance] def Q58 x0 x1:=Lw.mk (E0 x0 x1)
def Jw(x0:Int):Option Bool:=
 if 97≤x0 then
 some (decide (x0≤122))
 else
 some false
theorem FX(x0 r)(h:Jw x0=some r):PU 154 [eI32 x0] (eB r):=
 Pu4 (hs:=[(4,.split)]) (Jw.eq_1 x0) h
@[reducible,instance] def Qbr x0:=Lw.mk (FX x0)
def WU(x0:Int):Option Bool:=
 if 48≤x0 then
 some (decide (x0≤57))
 else
 some false
theorem Oy(x0 r)(h:WU x0=some r):PU 191 [eI32 x0] (eB r):=
 Pu4 (hs:=[(4,.split)]) (WU.eq_1 x0) h
@[reducible,instance] def Qca x0:=Lw.mk (Oy x0)
def G6(x0:Int):Option Bool:=
 Jw x0>>=fun v0=>if v0 then
 some true
 else
 WU x0>>=fun v1=>if v1 then
 some true
 else
 some (x0==95)
theorem FV(x0 r)(h:G6 x0=some r):PU 156 [eI32 x0] (eB r):=
 Pu4 (hs:=[(4,.cb),(7,.cb)]) (G6.eq_1 x0) h
@[reducible,instance] def Qbq x0:=Lw.mk (FV x0)
abbrev Gv(s:Str)(u:Unit)(o:Int):List Alt:=[⟨fun(x:Int)=>x=o,.exit 0,fun x=>[ii x],fun x=>[]⟩]
abbrev GR(s:Str)(u:Int)(o:Bool):List Alt:=jb o (fun b=>[.str s,.fn 156 [],ii u,.bool b]) []
def Xd(x0:Str)(x5:Int):Option Int:=
 some x5>>=fun v0=>
 (if x5< (↑(List.length x0):Int) then
 ix x0 x5>>=fun v2=>
 G6 (IntKind.i32.wrap (↑v2.toNat:Int))>>=fun v3=>if v3 then
 some true
 else
 some false
 else
 some false)>>=fun v1=>if v1 then
 Xd x0 (wr (v0+1))
 else
 some v0
 partial_fixpoint
theorem HU(x0 x5 o)(h:Xd x0 x5=some o):LO 155 2 21 [0,1,5] [.str x0,.fn 156 [],ii x5] [] [5] (Gv x0 () o):=
 Xd.partial_correctness x0 (fun x5 o=>LO 155 2 21 [0,1,5] [.str x0,.fn 156 [],ii x5] [] [5] (Gv x0 () o))
 (fun Xd Qd1 x5 o h=>
 have i0 a:=Ll.mk (Qd1 a);Lp4 (hs:=[(9,.split),(14,.u),(16,.cb),(5000002,.l [] [] [] [0,1,5,17] [] (GR x0))]) (kb:=[]) (kbx:=[]) rfl h (q:=qB (GR x0))) x5 o h
@[reducible,instance] def Q55 x0 x5:=Ll.mk (HU x0 x5)
def J8(x0:Str):Option Int:=
 some ()>>=fun v0=>
 Xd x0 0>>=fun v2=>
 some v2
theorem TO(x0 r)(h:J8 x0=some r):PU 155 [eS x0,.fn 156 []] (eI r):=
 Pu4 (hs:=[(3000003,.l [] [0,1,5] [] [5] [] (Gv x0))]) (J8.eq_1 x0) h
@[reducible,instance] def Q8b x0:=Lw.mk (TO x0)
abbrev JG(s:((List Str)×Str))(u:Int)(o:Unit ⊕ Int):List Alt:=[⟨fun(x:Unit)=>(Sum.inl x:Unit ⊕ Int)=o,.exit 0,fun x=>[.undef],fun x=>[]⟩,⟨fun(x:Int)=>(Sum.inr x:Unit ⊕ Int)=o,.ret,fun x=>[ii x],fun x=>[]⟩]
def ZA(x0:List Str)(x1:Str)(x7:Int)(x8:Int):Option (Unit ⊕ Int):=
 if x8<x7 then
 ix x0 x8>>=fun v0=>
 if x1==v0 then
 some (.inr x8)
 else
 ZA x0 x1 x7 (wr (x8+1))
 else
 some (.inl ())
 partial_fixpoint
theorem I6(x0 x1 x7 x8 o)(h:ZA x0 x1 x7 x8=some o):LO 141 2 19 [0,1,7,8] [.sl 1 (List.map eS x0),.str x1,ii x7,ii x8] [] [4] (JG (x0,x1) x7 o):=
 ZA.partial_correctness x0 x1 x7 (fun x8 o=>LO 141 2 19 [0,1,7,8] [.sl 1 (List.map eS x0),.str x1,ii x7,ii x8] [] [4] (JG (x0,x1) x7 o))
 (fun ZA Qen x8 o h=>
 have i0 a:=Ll.mk (Qen a);Lp4 (hs:=[(9,.split),(14,.e eS),(16,.split)]) (kb:=[]) (kbx:=[]) rfl h) x8 o h
@[reducible,instance] def BM x0 x1 x7 x8:=Ll.mk (I6 x0 x1 x7 x8)
def VU(x0:List Str)(x1:Str):Option Int:=
 some (List.length x0:Int)>>=fun v0=>
 some v0>>=fun v1=>
 ZA x0 x1 v0 0>>=fun v2=>(match v2 with
 | (.inl v3)=>
 some (-1:Int)
 | (.inr v4)=>
 some v4)
theorem Hx(x0 x1 r)(h:VU x0 x1=some r):PU 141 [eLS x0,eS x1] (eI r):=
 Pu4 (hs:=[(7,.n eI 7 none),(3000003,.l [] [0,1,7,8] [] [4] [] (JG (x0,x1)))]) (VU.eq_1 x0 x1) h
@[reducible,instance] def Q3c x0 x1:=Lw.mk (Hx x0 x1)
def ZS(x0:List Str)(x1:Str):Option Bool:=
 VU x0 x1>>=fun v0=>
 some (decide (0≤v0))
theorem I5(x0 x1 r)(h:ZS x0 x1=some r):PU 99 [eLS x0,eS x1] (eB r):=
 Pu4 (hs:=[(7,.c eI)]) (ZS.eq_1 x0 x1) h
@[reducible,instance] def BL x0 x1:=Lw.mk (I5 x0 x1)
def UR(x0:Str):Option Bool:=
 N4>>=fun v0=>
 ZS v0 x0>>=fun v1=>
 some v1
theorem TN(x0 r)(h:UR x0=some r):PU 157 [eS x0] (eB r):=
 Pu4 (hs:=[(3,.c eLS),(5,.c eB)]) (UR.eq_1 x0) h (q:=qC (hP:=⟨SG⟩))
@[reducible,instance] def Q8a x0:=Lw.mk (TN x0)
def KR(x0:Str):Option Bool:=
 if !x0==[] then
 if(↑(List.length x0):Int)≤16 then
 ix x0 (0:Int)>>=fun v0=>
 Jw (IntKind.i32.wrap (↑v0.toNat:Int))>>=fun v1=>if v1 then
 J8 x0>>=fun v2=>
 if v2==(↑(List.length x0):Int) then
 UR x0>>=fun v3=>
 some (!v3)
 else
 some false
 else
 some false
 else
 some false
 else
 some false
theorem FU(x0 r)(h:KR x0=some r):PU 115 [eS x0] (eB r):=
 Pu4 (hs:=[(4,.split),(8,.split),(12,.u),(14,.cb),(18,.c eI),(21,.split),(25,.c eB)]) (KR.eq_1 x0) h
@[reducible,instance] def Qbp x0:=Lw.mk (FU x0)
def V1(x0:Qr)(x1:Qr):Option Bool:=
 some (x0.fc==x1.fc)
theorem LA(x0 x1 r)(h:V1 x0 x1=some r):PU 117 [Ql x0,.ip 8 [.agg [.str x1.fc,ii x1.fb.fx,ii x1.fb.fA,ii x1.fb.fB,ii x1.fb.fy,ii x1.fb.fC,.sl 1 (List.map eI x1.fJ),ii x1.fP]] 0 0] (eB r):=
 Pu4 (hs:=[]) (V1.eq_1 x0 x1) h
@[reducible,instance] def OZ x0 x1:=Lw.mk (LA x0 x1)
abbrev YW(s:((List Qr)×Qr))(u:Int)(o:Unit ⊕ Int):List Alt:=[⟨fun(x:Unit)=>(Sum.inl x:Unit ⊕ Int)=o,.exit 0,fun x=>[.undef],fun x=>[]⟩,⟨fun(x:Int)=>(Sum.inr x:Unit ⊕ Int)=o,.ret,fun x=>[ii x],fun x=>[]⟩]
def QY(x0:List Qr)(x1:Qr)(x7:Int)(x8:Int):Option (Unit ⊕ Int):=
 if x8<x7 then
 ix x0 x8>>=fun v0=>
 V1 v0 x1>>=fun v1=>if v1 then
 some (.inr x8)
 else
 QY x0 x1 x7 (wr (x8+1))
 else
 some (.inl ())
 partial_fixpoint
theorem DI(x0 x1 x7 x8 o)(h:QY x0 x1 x7 x8=some o):LO 77 2 19 [0,1,7,8] [.sl 8 (List.map Ql x0),.fn 117 [.ip 8 [.agg [.str x1.fc,ii x1.fb.fx,ii x1.fb.fA,ii x1.fb.fB,ii x1.fb.fy,ii x1.fb.fC,.sl 1 (List.map eI x1.fJ),ii x1.fP]] 0 0],ii x7,ii x8] [] [4] (YW (x0,x1) x7 o):=
 QY.partial_correctness x0 x1 x7 (fun x8 o=>LO 77 2 19 [0,1,7,8] [.sl 8 (List.map Ql x0),.fn 117 [.ip 8 [.agg [.str x1.fc,ii x1.fb.fx,ii x1.fb.fA,ii x1.fb.fB,ii x1.fb.fy,ii x1.fb.fC,.sl 1 (List.map eI x1.fJ),ii x1.fP]] 0 0],ii x7,ii x8] [] [4] (YW (x0,x1) x7 o))
 (fun QY Qef x8 o h=>
 have i0 a:=Ll.mk (Qef a);Lp4 (hs:=[(9,.split),(14,.e Ql),(16,.cb)]) (kb:=[]) (kbx:=[]) rfl h) x8 o h
@[reducible,instance] def R7 x0 x1 x7 x8:=Ll.mk (DI x0 x1 x7 x8)
def Y2(x0:List Qr)(x1:Qr):Option Int:=
 some (List.length x0:Int)>>=fun v0=>
 some v0>>=fun v1=>
 QY x0 x1 v0 0>>=fun v2=>(match v2 with
 | (.inl v3)=>
 some (-1:Int)
 | (.inr v4)=>
 some v4)
theorem W5(x0 x1 r)(h:Y2 x0 x1=some r):PU 77 [L5 x0,.fn 117 [.ip 8 [.agg [.str x1.fc,ii x1.fb.fx,ii x1.fb.fA,ii x1.fb.fB,ii x1.fb.fy,ii x1.fb.fC,.sl 1 (List.map eI x1.fJ),ii x1.fP]] 0 0]] (eI r):=
 Pu4 (hs:=[(7,.n eI 7 none),(3000003,.l [] [0,1,7,8] [] [4] [] (YW (x0,x1)))]) (Y2.eq_1 x0 x1) h
@[reducible,instance] def S6 x0 x1:=Lw.mk (W5 x0 x1)
def ZI(x0:List Qr)(x1:Qr):Option Bool:=
 Y2 x0 x1>>=fun v0=>
 some (decide (0≤v0))
theorem DH(x0 x1 r)(h:ZI x0 x1=some r):PU 116 [L5 x0,.fn 117 [.ip 8 [.agg [.str x1.fc,ii x1.fb.fx,ii x1.fb.fA,ii x1.fb.fB,ii x1.fb.fy,ii x1.fb.fC,.sl 1 (List.map eI x1.fJ),ii x1.fP]] 0 0]] (eB r):=
 Pu4 (hs:=[(7,.c eI)]) (ZI.eq_1 x0 x1) h
@[reducible,instance] def R6 x0 x1:=Lw.mk (DH x0 x1)
def WV(x0:Qb):Option Bool:=
 some ((Qb.mk x0.fx (0:Int) (0:Int) (0:Int) (0:Int)))>>=fun v0=>
 some (x0.fx==v0.fx&& (x0.fA==v0.fA&& (x0.fB==v0.fB&& (x0.fy==v0.fy&& (x0.fC==v0.fC&&true)))))
theorem OF(x0 r)(h:WV x0=some r):PU 158 [Qm x0] (eB r):=
 Pu4 (hs:=[(6,.n Qm 6 none)]) (WV.eq_1 x0) h
@[reducible,instance] def Qck x0:=Lw.mk (OF x0)
abbrev UM(s:Qb)(u:Unit)(o:Bool):List Alt:=[⟨fun(x:Bool)=>x=o,.normal,fun x=>[.ptr 0 0 0,.bool x],fun x=>[.cells 0 (Qm s).cells]⟩]
abbrev UN(s:Unit)(u:Unit)(o:Bool):List Alt:=jb o (fun b=>[.bool b]) []
def Zy(x0:Qb):Option Int:=
 some ()>>=fun v0=>
 (if 1≤x0.fy then
 if x0.fy≤4 then
 if x0.fC==1 then
 some true
 else
 some (x0.fC==2)
 else
 some false
 else
 some false)>>=fun v2=>
 some ()>>=fun v3=>
 (if x0.fx !=2 then
 some true
 else
 if x0.fA<2 then
 some true
 else
 if 31<x0.fA then
 some true
 else
 if x0.fB<0 then
 some true
 else
 if 30<x0.fB then
 some true
 else
 if v2 then
 some false
 else
 some true)>>=fun v4=>if v4 then
 some (10:Int)
 else
 some (0:Int)
theorem HT(x0 r)(h:Zy x0=some r):PU 159 [Qm x0] (eI r):=
 Pu4 (hs:=[(6,.split),(10,.split),(15,.split),(24,.split),(28,.split),(33,.split),(38,.split),(43,.split),(46,.split),(5000001,.l [] [] [] [1,3] [kk 1] (UM x0)),(5000002,.l [] [] [] [48] [] (UN ()))]) (Zy.eq_1 x0) h (q:=qJ (UM x0) (hA:=fun v0 v2=>qB (UN ())))
@[reducible,instance] def Q54 x0:=Lw.mk (HT x0)
abbrev UP(s:Qb)(u:Int)(o:Bool):List Alt:=jb o (fun b=>[.ptr 0 0 0,ii u,.bool b]) [.cells 0 (Qm s).cells]
def Zo(x0:Qb):Option Int:=
 some x0.fx>>=fun v0=>
 (if x0.fx==1 then
 some true
 else
 if x0.fx==3 then
 some true
 else
 some false)>>=fun v1=>if v1 then
 WV x0>>=fun v3=>if v3 then
 some (0:Int)
 else
 some (10:Int)
 else
 if v0==2 then
 Zy x0>>=fun v5=>
 if v5==0 then
 some (0:Int)
 else
 some (10:Int)
 else
 some (10:Int)
theorem E7(x0 r)(h:Zo x0=some r):PU 118 [Qm x0] (eI r):=
 Pu4 (hs:=[(5,.split),(5,.split),(9,.cb),(11,.split),(13,.c eI),(14,.split),(6000004,.l [] [] [] [1,4,5] [kk 1] (UP x0))]) (Zo.eq_1 x0) h (q:=qB (UP x0))
@[reducible,instance] def Q5a x0:=Lw.mk (E7 x0)
abbrev Gy(s:Unit)(u:((List Int)×Int))(o:Unit ⊕ Int):List Alt:=[⟨fun(x:Unit)=>(Sum.inl x:Unit ⊕ Int)=o,.exit 2,fun x=>[.undef],fun x=>[]⟩,⟨fun(x:Int)=>(Sum.inr x:Unit ⊕ Int)=o,.ret,fun x=>[ii x],fun x=>[]⟩]
def Xg(x5:Int)(a4:List Int)(a5:Int)(a3:Int):Option (Unit ⊕ Int):=
 if a3<a5 then
 ix a4 a3>>=fun v0=>
 if x5≠0 then
 if wr (Int.tdiv (4096:Int) x5)<v0 then
 some (.inr (2:Int))
 else
 some (wr (x5*v0):Int)>>=fun v1=>
 Xg v1 a4 a5 (wr (a3+1))
 else none
 else
 some (.inl ())
 partial_fixpoint
theorem E3(x5 x20 x21 a3 o)(h:Xg x5 x20 x21 a3=some o):LO 119 11 34 [5,20,21,22] [ii x5,.sl 1 (List.map eI x20),ii x21,ii a3] [] [2] (Gy () (x20,x21) o):=
 Xg.partial_correctness x20 x21 (fun x5 a3 o=>LO 119 11 34 [5,20,21,22] [ii x5,.sl 1 (List.map eI x20),ii x21,ii a3] [] [2] (Gy () (x20,x21) o))
 (fun Xg Qe6 x5 a3 o h=>
 have i0 a b:=Ll.mk (Qe6 a b);Lp4 (hs:=[(23,.split),(24,.e eI),(28,.s),(29,.split),(5,.n eI 5 none)]) (kb:=[]) (kbx:=[]) rfl h) x5 a3 o h
@[reducible,instance] def Q59 x5 x20 x21 x22:=Ll.mk (E3 x5 x20 x21 x22)
abbrev U2(s:List Int)(u:((List Int)×Int))(o:Unit ⊕ Int):List Alt:=[⟨fun(x:Unit)=>(Sum.inl x:Unit ⊕ Int)=o,.exit 0,fun x=>[.sl 1 (List.map eI s),.undef],fun x=>[]⟩,⟨fun(x:Int)=>(Sum.inr x:Unit ⊕ Int)=o,.ret,fun x=>[.sl 1 (List.map eI s),ii x],fun x=>[]⟩]
def Xr(a4:List Int)(a5:Int)(a3:Int):Option (Unit ⊕ Int):=
 if a3<a5 then
 ix a4 a3>>=fun v0=>
 if v0<1 then
 some (.inr (1:Int))
 else
 Xr a4 a5 (wr (a3+1))
 else
 some (.inl ())
 partial_fixpoint
theorem R1(x0:List Int)(a3:List Int)(a4:Int)(a5:Int)(o:Unit ⊕ Int)(h:Xr a3 a4 a5=some o):LO 119 4 34 [0,11,12,13] [.sl 1 (List.map eI x0),.sl 1 (List.map eI a3),ii a4,ii a5] [] [0,2] (U2 x0 (a3,a4) o):=
 Xr.partial_correctness a3 a4 (fun a5 o=>∀(x0:List Int),LO 119 4 34 [0,11,12,13] [.sl 1 (List.map eI x0),.sl 1 (List.map eI a3),ii a4,ii a5] [] [0,2] (U2 x0 (a3,a4) o))
 (fun Xr Qe7 a5 o h x0=>
 Lp4 (hs:=[(14,.split),(15,.e eI),(18,.split)]) (kb:=[]) (kbx:=[]) rfl h (q:=qD (hA:=qIx (hA:=fun v0=>qD (hB:=⟨fun _=>kM0 (alts:=U2 x0 (a3,a4)) (fun y hy=>Qe7 (wr (a5+1)) y hy x0)⟩))))) a5 o h x0
def JS(x0:List Int):Option Int:=
 some (List.length x0:Int)>>=fun v0=>
 if 6<v0 then
 some (2:Int)
 else
 some (List.length x0:Int)>>=fun v1=>
 some (x0,v1)>>=fun v2=>
 Xr x0 v1 0>>=fun v3=>(match v3 with
 | (.inl v4)=>
 some ((1:Int):Int)>>=fun v5=>
 some (List.length x0:Int)>>=fun v6=>
 some (x0,v6)>>=fun v7=>
 Xg v5 x0 v6 0>>=fun v8=>(match v8 with
 | (.inl v9)=>
 some (0:Int)
 | (.inr v10)=>
 some v10)
 | (.inr v11)=>
 some v11)
theorem SM(x0 r)(h:JS x0=some r):PU 119 [eLI x0] (eI r):=
 Pu4 (hs:=[(9,.n eI 9 none),(10,.split),(12,.n eI 12 none),(21,.n eI 21 none),(5,.n eI 5 none),(3000012,.l [] [5,20,21,22] [] [2] [] (Gy ())),(3000005,.l [] [0,11,12,13] [] [0,2] [] (U2 x0))]) (JS.eq_1 x0) h (q:=qN (hA:=fun v0=>qD (hB:=qN (hA:=fun v1=>qL2 (hL:=⟨R1 x0 x0 v1 0⟩)))))
@[reducible,instance] def Q95 x0:=Lw.mk (SM x0)
abbrev VY(s:List Qr)(u:Int)(o:Unit ⊕ Int):List Alt:=[⟨fun(x:Unit)=>(Sum.inl x:Unit ⊕ Int)=o,.exit 0,fun x=>[.undef],fun x=>[]⟩,⟨fun(x:Int)=>(Sum.inr x:Unit ⊕ Int)=o,.ret,fun x=>[ii x],fun x=>[]⟩]
abbrev JC(s:((List Qr)×Int))(u:Int)(o:Bool):List Alt:=jb o (fun b=>[.sl 8 (List.map Ql (s.1)),ii (s.2),ii u,.bool b]) []
def Zm(x0:List Qr)(x7:Int)(x8:Int):Option (Unit ⊕ Int):=
 if x8<x7 then
 ix x0 x8>>=fun v0=>
 KR v0.fc>>=fun v1=>if v1 then
 if(0:Int)≤0∧0≤x8∧x8≤(↑(List.map Ql x0).length:Int) then
 some ((List.drop (0:Nat) (List.take x8.toNat x0)):List Qr)>>=fun v2=>
 ZI v2 v0>>=fun v3=>if v3 then
 some (.inr (8:Int))
 else
 Zo v0.fb>>=fun v4=>
 if v4 !=0 then
 some (.inr (10:Int))
 else
 JS v0.fJ>>=fun v5=>
 if v5 !=0 then
 some (.inr v5)
 else
 some x8>>=fun v6=>
 (if v0.fP<1 then
 some true
 else
 if 3<v0.fP then
 some true
 else
 some false)>>=fun v7=>if v7 then
 some (.inr (1:Int))
 else
 Zm x0 x7 (wr (v6+1))
 else none
 else
 some (.inr (7:Int))
 else
 some (.inl ())
 partial_fixpoint
theorem Lp(x0 x7 x8 o)(h:Zm x0 x7 x8=some o):LO 75 2 46 [0,7,8] [.sl 8 (List.map Ql x0),ii x7,ii x8] [] [2] (VY x0 x7 o):=
 Zm.partial_correctness x0 x7 (fun x8 o=>LO 75 2 46 [0,7,8] [.sl 8 (List.map Ql x0),ii x7,ii x8] [] [2] (VY x0 x7 o))
 (fun Zm Qdb x8 o h=>
 have i0 a:=Ll.mk (Qdb a);Lp4 (hs:=[(9,.split),(13,.e Ql),(18,.cb),(23,.n L5 23 (some .s)),(24,.z [{slot:=4,fz:=true}] none),(25,.cb),(29,.c eI),(30,.split),(33,.c eI),(35,.split),(39,.split),(43,.split),(5000014,.l [] [] [] [0,7,8,44] [] (JC (x0,x7)))]) (kb:=[]) (kbx:=[]) rfl h (q:=qD (hA:=qIx (hA:=fun v0=>qC (hA:=fun _=>qIf (hA:=qG (hA:=qW1 (sh:=L5) (leSl (mTD (sh:=Ql) x0 x8.toNat (0:Nat))) (hA:=fun v2=>qC (hA:=fun _=>qIf (hB:=qC (hA:=fun v4=>qIf (hB:=qC (hA:=fun v5=>qIf (hB:=qB (JC (x0,x7)))))))))))))))) x8 o h
@[reducible,instance] def OI x0 x7 x8:=Ll.mk (Lp x0 x7 x8)
def Kl(x0:List Qr):Option Int:=
 some (List.length x0:Int)>>=fun v0=>
 some v0>>=fun v1=>
 Zm x0 v0 0>>=fun v2=>(match v2 with
 | (.inl v3)=>
 some (0:Int)
 | (.inr v4)=>
 some v4)
theorem Iz(x0 r)(h:Kl x0=some r):PU 75 [L5 x0] (eI r):=
 Pu4 (hs:=[(7,.n eI 7 none),(3000003,.l [] [0,7,8] [] [2] [] (VY x0))]) (Kl.eq_1 x0) h
@[reducible,instance] def Q1s x0:=Lw.mk (Iz x0)
abbrev CP(s:Unit)(u:Unit)(o:Bool):List Alt:=jb o (fun b=>[.bool b]) []
def G7(x0:Str):Option Bool:=
 some ()>>=fun v0=>
 (if x0==[(115:UInt8),(105:UInt8),(122:UInt8),(101:UInt8)] then
 some true
 else
 if x0==[(119:UInt8),(104:UInt8),(101:UInt8),(114:UInt8),(101:UInt8)] then
 some true
 else
 if x0==[(105:UInt8),(110:UInt8)] then
 some true
 else
 if x0==[(100:UInt8),(101:UInt8),(102:UInt8)] then
 some true
 else
 if x0==[(111:UInt8),(117:UInt8),(116:UInt8)] then
 some true
 else
 if x0==[(115:UInt8),(117:UInt8),(109:UInt8)] then
 some true
 else
 if x0==[(112:UInt8),(114:UInt8),(111:UInt8),(100:UInt8)] then
 some true
 else
 if x0==[(109:UInt8),(105:UInt8),(110:UInt8)] then
 some true
 else
 if x0==[(109:UInt8),(97:UInt8),(120:UInt8)] then
 some true
 else
 if x0==[(115:UInt8),(99:UInt8),(97:UInt8),(110:UInt8)] then
 some true
 else
 if x0==[(111:UInt8),(118:UInt8),(101:UInt8),(114:UInt8)] then
 some true
 else
 if x0==[(105:UInt8),(102:UInt8)] then
 some true
 else
 if x0==[(99:UInt8),(97:UInt8),(115:UInt8),(116:UInt8)] then
 some true
 else
 if x0==[(102:UInt8),(114:UInt8),(97:UInt8),(99:UInt8)] then
 some true
 else
 if x0==[(105:UInt8),(110:UInt8),(116:UInt8)] then
 some true
 else
 if x0==[(102:UInt8),(105:UInt8),(120:UInt8)] then
 some true
 else
 if x0==[(99:UInt8),(101:UInt8),(105:UInt8),(108:UInt8)] then
 some true
 else
 if x0==[(102:UInt8),(108:UInt8),(111:UInt8),(111:UInt8),(114:UInt8)] then
 some true
 else
 if x0==[(122:UInt8),(101:UInt8),(114:UInt8),(111:UInt8)] then
 some true
 else
 if x0==[(101:UInt8),(118:UInt8),(101:UInt8),(110:UInt8)] then
 some true
 else
 if x0==[(115:UInt8),(97:UInt8),(116:UInt8)] then
 some true
 else
 if x0==[(119:UInt8),(114:UInt8),(97:UInt8),(112:UInt8)] then
 some true
 else
 some false)>>=fun v1=>if v1 then
 some true
 else
 some false
theorem FZ(x0 r)(h:G7 x0=some r):PU 186 [eS x0] (eB r):=
 Pu4 (hs:=[(4,.split),(4,.split),(4,.split),(4,.split),(4,.split),(4,.split),(4,.split),(4,.split),(4,.split),(4,.split),(4,.split),(4,.split),(4,.split),(4,.split),(4,.split),(4,.split),(4,.split),(4,.split),(4,.split),(4,.split),(4,.split),(4,.split),(6000004,.l [] [] [] [4] [] (CP ()))]) (G7.eq_1 x0) h (q:=qB (CP ()))
@[reducible,instance] def Qbt x0:=Lw.mk (FZ x0)
abbrev Dl(s:Str)(u:Int)(o:Unit ⊕ Bool):List Alt:=[⟨fun(x:Unit)=>(Sum.inl x:Unit ⊕ Bool)=o,.exit 0,fun x=>[.undef],fun x=>[]⟩,⟨fun(x:Bool)=>(Sum.inr x:Unit ⊕ Bool)=o,.ret,fun x=>[.bool x],fun x=>[]⟩]
abbrev Ds(s:(Str×Int))(u:Int)(o:Bool):List Alt:=jb o (fun b=>[.str (s.1),ii (s.2),ii u,.bool b]) []
def ZG(x0:Str)(a5:Int)(a4:Int):Option (Unit ⊕ Bool):=
 if a4<a5 then
 ix x0 a4>>=fun v0=>
 some a4>>=fun v1=>
 (if(↑v0.toNat:Int)<97 then
 if(↑v0.toNat:Int)<48 then
 if(↑v0.toNat:Int) !=95 then
 some true
 else
 some false
 else
 if 57< (↑v0.toNat:Int) then
 if(↑v0.toNat:Int) !=95 then
 some true
 else
 some false
 else
 some false
 else
 if 122< (↑v0.toNat:Int) then
 if(↑v0.toNat:Int)<48 then
 if(↑v0.toNat:Int) !=95 then
 some true
 else
 some false
 else
 if 57< (↑v0.toNat:Int) then
 if(↑v0.toNat:Int) !=95 then
 some true
 else
 some false
 else
 some false
 else
 some false)>>=fun v2=>if v2 then
 some (.inr false)
 else
 ZG x0 a5 (wr (v1+1))
 else
 some (.inl ())
 partial_fixpoint
theorem EX(x0 x28 a3 o)(h:ZG x0 x28 a3=some o):LO 147 4 54 [0,28,29] [.str x0,ii x28,ii a3] [] [2] (Dl x0 x28 o):=
 ZG.partial_correctness x0 x28 (fun a3 o=>LO 147 4 54 [0,28,29] [.str x0,ii x28,ii a3] [] [2] (Dl x0 x28 o))
 (fun ZG Qd6 a3 o h=>
 have i0 a:=Ll.mk (Qd6 a);Lp4 (hs:=[(30,.split),(34,.u),(36,.split),(39,.split),(43,.split),(46,.split),(51,.split),(5000007,.l [] [] [] [0,28,29,52] [] (Ds (x0,x28)))]) (kb:=[]) (kbx:=[]) rfl h (q:=qD (hA:=qU (hA:=fun v0=>qB (Ds (x0,x28)))))) a3 o h
@[reducible,instance] def Q6b x0 x28 x29:=Ll.mk (EX x0 x28 x29)
abbrev Dr(s:Str)(u:Unit)(o:Bool):List Alt:=jb o (fun b=>[.str s,.bool b]) []
def Vt(x0:Str):Option Bool:=
 some ()>>=fun v0=>
 (if(↑(List.length x0):Int)<1 then
 some true
 else
 if 16< (↑(List.length x0):Int) then
 some true
 else
 G7 x0>>=fun v2=>if v2 then
 some true
 else
 ix x0 (0:Int)>>=fun v3=>
 if(↑v3.toNat:Int)<97 then
 some true
 else
 ix x0 (0:Int)>>=fun v4=>
 if 122< (↑v4.toNat:Int) then
 some true
 else
 some false)>>=fun v1=>if v1 then
 some false
 else
 some (↑(List.length x0):Int)>>=fun v7=>
 ZG x0 (↑(List.length x0):Int) (0:Int)>>=fun v8=>(match v8 with
 | (.inl v9)=>
 some true
 | (.inr v10)=>
 some v10)
theorem SI(x0 r)(h:Vt x0=some r):PU 147 [eS x0] (eB r):=
 Pu4 (hs:=[(7,.split),(11,.split),(15,.cb),(19,.u),(20,.split),(24,.u),(25,.split),(3000005,.l [] [0,28,29] [] [2] [] (Dl x0)),(5000001,.l [] [] [] [0,26] [] (Dr x0))]) (Vt.eq_1 x0) h (q:=qB (Dr x0))
@[reducible,instance] def Q92 x0:=Lw.mk (SI x0)
abbrev CZ(s:gLin)(u:((List Qo)×Int))(o:Unit ⊕ Int):List Alt:=[⟨fun(x:Unit)=>(Sum.inl x:Unit ⊕ Int)=o,.exit 0,fun x=>[.undef],fun x=>[]⟩,⟨fun(x:Int)=>(Sum.inr x:Unit ⊕ Int)=o,.ret,fun x=>[ii x],fun x=>[]⟩]
abbrev CO(s:(gLin× (List Qo)×Int))(u:Int)(o:Bool):List Alt:=jb o (fun b=>[.ptr 0 0 0,.sl 2 (List.map Q7 (s.2.1)),ii (s.2.2),ii u,.bool b]) [.cells 0 (Qi (s.1)).cells]
def XY(x1:gLin)(x6:List Qo)(x7:Int)(x8:Int):Option (Unit ⊕ Int):=
 if x8<x7 then
 ix x6 x8>>=fun v0=>
 some x8>>=fun v1=>
 (Vt v0.fc>>=fun v3=>if v3 then
 if v0.fBy==0 then
 some true
 else
 if 0<x8 then
 ix x1.fL (wr (x8 - (1:Int)))>>=fun v4=>
 if !Op.bytesLess v4.fc v0.fc then
 some true
 else
 some false
 else
 some false
 else
 some true)>>=fun v2=>if v2 then
 some (.inr (1:Int))
 else
 XY x1 x6 x7 (wr (v1+1))
 else
 some (.inl ())
 partial_fixpoint
theorem TP(x1 x6 x7 x8 o)(h:XY x1 x6 x7 x8=some o):LO 146 2 39 [1,6,7,8] [.ptr 0 0 0,.sl 2 (List.map Q7 x6),ii x7,ii x8] [.cells 0 (Qi x1).cells] [2] (CZ x1 (x6,x7) o):=
 XY.partial_correctness x1 x6 x7 (fun x8 o=>LO 146 2 39 [1,6,7,8] [.ptr 0 0 0,.sl 2 (List.map Q7 x6),ii x7,ii x8] [.cells 0 (Qi x1).cells] [2] (CZ x1 (x6,x7) o))
 (fun XY Qd5 x8 o h=>
 have i0 a:=Ll.mk (Qd5 a);Lp4 (hs:=[(9,.split),(11,.e Q7),(15,.cb),(20,.split),(24,.split),(30,.e Q7),(35,.split),(5000004,.l [] [] [] [1,6,7,8,37] [kk 1] (CO (x1,x6,x7)))]) (kb:=[kk 1]) (kbx:=[]) rfl h (q:=qD (hA:=qIx (hA:=fun v0=>qB (CO (x1,x6,x7)))))) x8 o h
@[reducible,instance] def Q8c x1 x6 x7 x8:=Ll.mk (TP x1 x6 x7 x8)
def Y8(x0:gLin):Option Int:=
 some (List.length x0.fL:Int)>>=fun v0=>
 some (x0.fL,v0)>>=fun v1=>
 XY x0 x0.fL v0 0>>=fun v2=>(match v2 with
 | (.inl v3)=>
 some (0:Int)
 | (.inr v4)=>
 some v4)
theorem Ht(x0 r)(h:Y8 x0=some r):PU 146 [Qi x0] (eI r):=
 Pu4 (hs:=[(7,.n eI 7 none),(3000003,.l [] [1,6,7,8] [kk 1] [2] [] (CZ x0))]) (Y8.eq_1 x0) h
@[reducible,instance] def Qbs x0:=Lw.mk (Ht x0)
def Uk(x0:Int):Option Bool:=
 some (x0 !=x0)
theorem Aq(x0 r)(h:Uk x0=some r):PU 374 [eI x0] (eB r):=
 Pu4 (hs:=[]) (Uk.eq_1 x0) h
@[reducible,instance] def Qb6 x0:=Lw.mk (Aq x0)
def ZC(x0:Int)(x1:Int):Option Int:=
 Uk x0>>=fun v0=>
 Uk x1>>=fun v1=>
 if v0 then
 if v1 then
 some (0:Int)
 else
 some (-1:Int)
 else
 if v1 then
 some (1:Int)
 else
 if x0<x1 then
 some (-1:Int)
 else
 if x1<x0 then
 some (1:Int)
 else
 some (0:Int)
theorem TJ(x0 x1 r)(h:ZC x0 x1=some r):PU 330 [eI x0,eI x1] (eI r):=
 Pu4 (hs:=[(8,.c eB),(10,.c eB),(11,.split),(12,.split),(13,.split),(16,.split),(19,.split)]) (ZC.eq_1 x0 x1) h
@[reducible,instance] def Q87 x0 x1:=Lw.mk (TJ x0 x1)
def Yt(x0:Str)(x1:Str):Option Int:=
 XV x0 x1>>=fun v0=>
 some v0
theorem N6(x0 x1 r)(h:Yt x0 x1=some r):PU 375 [eS x0,eS x1] (eI r):=
 Pu4 (hs:=[(7,.c eI)]) (Yt.eq_1 x0 x1) h (q:=qC (hP:=⟨UQ x0 x1⟩))
@[reducible,instance] def SV x0 x1:=Lw.mk (N6 x0 x1)
def Ks(x0:Str)(x1:Str):Option Int:=
 Yt x0 x1>>=fun v0=>
 some v0
theorem S1(x0 x1 r)(h:Ks x0 x1=some r):PU 331 [eS x0,eS x1] (eI r):=
 Pu4 (hs:=[(7,.c eI)]) (Ks.eq_1 x0 x1) h
@[reducible,instance] def Q8j x0 x1:=Lw.mk (S1 x0 x1)
def J5(x0:Int):Option Bool:=
 some (x0 !=x0)
theorem TK(x0 r)(h:J5 x0=some r):PU 376 [eI x0] (eB r):=
 Pu4 (hs:=[]) (J5.eq_1 x0) h
@[reducible,instance] def Q88 x0:=Lw.mk (TK x0)
def Ky(x0:Int)(x1:Int):Option Int:=
 J5 x0>>=fun v0=>
 J5 x1>>=fun v1=>
 if v0 then
 if v1 then
 some (0:Int)
 else
 some (-1:Int)
 else
 if v1 then
 some (1:Int)
 else
 if x0<x1 then
 some (-1:Int)
 else
 if x1<x0 then
 some (1:Int)
 else
 some (0:Int)
theorem EU(x0 x1 r)(h:Ky x0 x1=some r):PU 332 [eI x0,eI x1] (eI r):=
 Pu4 (hs:=[(8,.c eB),(10,.c eB),(11,.split),(12,.split),(13,.split),(16,.split),(19,.split)]) (Ky.eq_1 x0 x1) h
@[reducible,instance] def Q69 x0 x1:=Lw.mk (EU x0 x1)
abbrev Ny(s:Unit)(u:(Int× (List Int)×Int))(o:Unit ⊕ Int):List Alt:=[⟨fun(x:Unit)=>(Sum.inl x:Unit ⊕ Int)=o,.exit 0,fun x=>[.undef,ii u.1],fun x=>[]⟩,⟨fun(x:Int)=>(Sum.inr x:Unit ⊕ Int)=o,.ret,fun x=>[ii x,ii u.1],fun x=>[]⟩]
def YO(x3:Int)(x6:List Int)(x7:Int)(x8:Int):Option (Unit ⊕ Int):=
 if x8<x7 then
 ix x6 x8>>=fun v0=>
 if v0 !=x3 then
 some (.inr v0)
 else
 YO x3 x6 x7 (wr (x8+1))
 else
 some (.inl ())
 partial_fixpoint
theorem Ap(x3 x6 x7 x8 o)(h:YO x3 x6 x7 x8=some o):LO 329 3 18 [3,6,7,8] [ii x3,.sl 1 (List.map eI x6),ii x7,ii x8] [] [2,3] (Ny () (x3,x6,x7) o):=
 YO.partial_correctness x3 x6 x7 (fun x8 o=>LO 329 3 18 [3,6,7,8] [ii x3,.sl 1 (List.map eI x6),ii x7,ii x8] [] [2,3] (Ny () (x3,x6,x7) o))
 (fun YO Qcm x8 o h=>
 have i0 a:=Ll.mk (Qcm a);Lp4 (hs:=[(9,.split),(10,.e eI),(14,.split)]) (kb:=[]) (kbx:=[]) rfl h) x8 o h
@[reducible,instance] def Qb5 x3 x6 x7 x8:=Ll.mk (Ap x3 x6 x7 x8)
def G2(x0:List Int):Option Int:=
 some (List.length x0:Int)>>=fun v0=>
 some ((0:Int),x0,v0)>>=fun v1=>
 YO 0 x0 v0 0>>=fun v2=>(match v2 with
 | (.inl v3)=>
 some v1.fst
 | (.inr v4)=>
 some v4)
theorem Rb(x0 r)(h:G2 x0=some r):PU 329 [eLI x0] (eI r):=
 Pu4 (hs:=[(7,.n eI 7 none),(3000004,.l [] [3,6,7,8] [] [2,3] [] (Ny ()))]) (G2.eq_1 x0) h
def Um(x0:Qb)(x1:Qb):Option Int:=
 ZC x0.fx x1.fx>>=fun v0=>
 ZC x0.fA x1.fA>>=fun v1=>
 ZC x0.fB x1.fB>>=fun v2=>
 ZC x0.fy x1.fy>>=fun v3=>
 ZC x0.fC x1.fC>>=fun v4=>
 G2 [v0,v1,v2,v3,v4]>>=fun v5=>
 some v5
theorem Rc(x0 x1 r)(h:Um x0 x1=some r):PU 333 [Qm x0,Qm x1] (eI r):=
 Pu4 (hs:=[(9,.c eI),(14,.c eI),(19,.c eI),(24,.c eI),(29,.c eI),(31,.c eI)]) (Um.eq_1 x0 x1) h (q:=qC (hA:=fun v0=>qC (hA:=fun v1=>qC (hA:=fun v2=>qC (hA:=fun v3=>qC (hA:=fun v4=>qC (hP:=⟨fun y hy=>Pu.le (Rb [v0,v1,v2,v3,v4] y hy) (.cons (LeT.sl (.cons (x:=AV.agg [ii v0]) (.refl _) (.cons (x:=AV.agg [ii v1]) (.refl _) (.cons (x:=AV.agg [ii v2]) (.refl _) (.cons (x:=AV.agg [ii v3]) (.refl _) (.cons (x:=AV.agg [ii v4]) (.refl _) .nil)))))) .nil) (LeT.refl _)⟩)))))))
@[reducible,instance] def Q6p x0 x1:=Lw.mk (Rc x0 x1)
def Dd(x0:Int)(x1:Int):Option Int:=
 if x0<x1 then
 some (-1:Int)
 else
 if x1<x0 then
 some (1:Int)
 else
 some (0:Int)
theorem Q25(x0 x1 r)(h:Dd x0 x1=some r):PU 379 [eI x0,eI x1] (eI r):=
 Pu4 (hs:=[(8,.split),(12,.split)]) (Dd.eq_1 x0 x1) h
@[reducible,instance] def i_lin_order x0 x1:=Lw.mk (Q25 x0 x1)
def NM(x0:Qo)(x1:Qo):Option Int:=
 if !x0.fc==x1.fc then
 Ks x0.fc x1.fc>>=fun v0=>
 some v0
 else
 Dd x0.fBy x1.fBy>>=fun v1=>
 some v1
theorem Aw(x0 x1 r)(h:NM x0 x1=some r):PU 378 [Q7 x0,Q7 x1] (eI r):=
 Pu4 (hs:=[(9,.split),(14,.c eI),(19,.c eI)]) (NM.eq_1 x0 x1) h
@[reducible,instance] def Qba x0 x1:=Lw.mk (Aw x0 x1)
abbrev XA(s:((List Qo)× (List Qo)))(u:((List Qo)×Int))(o:Unit ⊕ Int):List Alt:=[⟨fun(x:Unit)=>(Sum.inl x:Unit ⊕ Int)=o,.exit 0,fun x=>[.sl 2 (List.map Q7 s.1),.sl 2 (List.map Q7 s.2),.undef],fun x=>[]⟩,⟨fun(x:Int)=>(Sum.inr x:Unit ⊕ Int)=o,.ret,fun x=>[.sl 2 (List.map Q7 s.1),.sl 2 (List.map Q7 s.2),ii x],fun x=>[]⟩]
def QX(x1:List Qo)(a4:List Qo)(a5:Int)(a3:Int):Option (Unit ⊕ Int):=
 if a3<a5 then
 ix a4 a3>>=fun v0=>
 some (List.length x1:Int)>>=fun v1=>
 if v1≤a3 then
 some (.inr (1:Int))
 else
 ix x1 a3>>=fun v2=>
 NM v0 v2>>=fun v3=>
 if v3 !=0 then
 some (.inr v3)
 else
 QX x1 a4 a5 (wr (a3+1))
 else
 some (.inl ())
 partial_fixpoint
theorem DG(x0:List Qo)(x1:List Qo)(a3:List Qo)(a4:Int)(a5:Int)(o:Unit ⊕ Int)(h:QX x1 a3 a4 a5=some o):LO 377 2 39 [0,1,2,11,12,13] [.sl 2 (List.map Q7 x0),.sl 2 (List.map Q7 x1),.fn 378 [],.sl 2 (List.map Q7 a3),ii a4,ii a5] [] [0,1,6] (XA (x0,x1) (a3,a4) o):=
 QX.partial_correctness x1 a3 a4 (fun a5 o=>∀(x0:List Qo),LO 377 2 39 [0,1,2,11,12,13] [.sl 2 (List.map Q7 x0),.sl 2 (List.map Q7 x1),.fn 378 [],.sl 2 (List.map Q7 a3),ii a4,ii a5] [] [0,1,6] (XA (x0,x1) (a3,a4) o))
 (fun QX Qec a5 o h x0=>
 Lp4 (hs:=[(14,.split),(16,.e Q7),(20,.n eI 20 none),(21,.split),(24,.e Q7),(29,.c eI),(31,.split)]) (kb:=[]) (kbx:=[]) rfl h (q:=qD (hA:=qIx (hA:=fun v0=>qN (hA:=fun v1=>qD (hB:=qIx (hA:=fun v2=>qC (hA:=fun v3=>qIf (hB:=⟨fun _=>kM0 (alts:=XA (x0,x1) (a3,a4)) (fun y hy=>Qec (wr (a5+1)) y hy x0)⟩))))))))) a5 o h x0
def Y1(x0:List Qo)(x1:List Qo):Option Int:=
 some (List.length x0:Int)>>=fun v0=>
 some (x0,v0)>>=fun v1=>
 QX x1 x0 v0 0>>=fun v2=>(match v2 with
 | (.inl v3)=>
 some (List.length x0:Int)>>=fun v4=>
 some (List.length x1:Int)>>=fun v5=>
 if v4<v5 then
 some (-1:Int)
 else
 some (0:Int)
 | (.inr v6)=>
 some v6)
theorem W3(x0 x1 r)(h:Y1 x0 x1=some r):PU 377 [KY x0,KY x1,.fn 378 []] (eI r):=
 Pu4 (hs:=[(12,.n eI 12 none),(35,.n eI 35 none),(37,.n eI 37 none),(38,.split),(3000003,.l [] [0,1,2,11,12,13] [] [0,1,6] [] (XA (x0,x1)))]) (Y1.eq_1 x0 x1) h (q:=qN (hA:=fun v0=>qL2 (hL:=⟨DG x0 x1 x0 v0 0⟩)))
@[reducible,instance] def S4 x0 x1:=Lw.mk (W3 x0 x1)
def J0(x0:gLin)(x1:gLin):Option Int:=
 Y1 x0.fL x1.fL>>=fun v0=>
 if v0 !=0 then
 some v0
 else
 Dd x0.fK x1.fK>>=fun v1=>
 some v1
theorem Oz(x0 x1 r)(h:J0 x0 x1=some r):PU 334 [Qi x0,Qi x1] (eI r):=
 Pu4 (hs:=[(10,.c eI),(12,.split),(18,.c eI)]) (J0.eq_1 x0 x1) h
@[reducible,instance] def Qcb x0 x1:=Lw.mk (Oz x0 x1)
abbrev XG(s:((List gLin)× (List gLin)))(u:((List gLin)×Int))(o:Unit ⊕ Int):List Alt:=[⟨fun(x:Unit)=>(Sum.inl x:Unit ⊕ Int)=o,.exit 0,fun x=>[.sl 2 (List.map Qi s.1),.sl 2 (List.map Qi s.2),.undef],fun x=>[]⟩,⟨fun(x:Int)=>(Sum.inr x:Unit ⊕ Int)=o,.ret,fun x=>[.sl 2 (List.map Qi s.1),.sl 2 (List.map Qi s.2),ii x],fun x=>[]⟩]
def ZO(x1:List gLin)(a4:List gLin)(a5:Int)(a3:Int):Option (Unit ⊕ Int):=
 if a3<a5 then
 ix a4 a3>>=fun v0=>
 some (List.length x1:Int)>>=fun v1=>
 if v1≤a3 then
 some (.inr (1:Int))
 else
 ix x1 a3>>=fun v2=>
 J0 v0 v2>>=fun v3=>
 if v3 !=0 then
 some (.inr v3)
 else
 ZO x1 a4 a5 (wr (a3+1))
 else
 some (.inl ())
 partial_fixpoint
theorem DZ(x0:List gLin)(x1:List gLin)(a3:List gLin)(a4:Int)(a5:Int)(o:Unit ⊕ Int)(h:ZO x1 a3 a4 a5=some o):LO 402 2 39 [0,1,2,11,12,13] [.sl 2 (List.map Qi x0),.sl 2 (List.map Qi x1),.fn 334 [],.sl 2 (List.map Qi a3),ii a4,ii a5] [] [0,1,6] (XG (x0,x1) (a3,a4) o):=
 ZO.partial_correctness x1 a3 a4 (fun a5 o=>∀(x0:List gLin),LO 402 2 39 [0,1,2,11,12,13] [.sl 2 (List.map Qi x0),.sl 2 (List.map Qi x1),.fn 334 [],.sl 2 (List.map Qi a3),ii a4,ii a5] [] [0,1,6] (XG (x0,x1) (a3,a4) o))
 (fun ZO Qeb a5 o h x0=>
 Lp4 (hs:=[(14,.split),(16,.e Qi),(20,.n eI 20 none),(21,.split),(24,.e Qi),(29,.c eI),(31,.split)]) (kb:=[]) (kbx:=[]) rfl h (q:=qD (hA:=qIx (hA:=fun v0=>qN (hA:=fun v1=>qD (hB:=qIx (hA:=fun v2=>qC (hA:=fun v3=>qIf (hB:=⟨fun _=>kM0 (alts:=XG (x0,x1) (a3,a4)) (fun y hy=>Qeb (wr (a5+1)) y hy x0)⟩))))))))) a5 o h x0
def KC(x0:List gLin)(x1:List gLin):Option Int:=
 some (List.length x0:Int)>>=fun v0=>
 some (x0,v0)>>=fun v1=>
 ZO x1 x0 v0 0>>=fun v2=>(match v2 with
 | (.inl v3)=>
 some (List.length x0:Int)>>=fun v4=>
 some (List.length x1:Int)>>=fun v5=>
 if v4<v5 then
 some (-1:Int)
 else
 some (0:Int)
 | (.inr v6)=>
 some v6)
theorem Wt(x0 x1 r)(h:KC x0 x1=some r):PU 402 [I9 x0,I9 x1,.fn 334 []] (eI r):=
 Pu4 (hs:=[(12,.n eI 12 none),(35,.n eI 35 none),(37,.n eI 37 none),(38,.split),(3000003,.l [] [0,1,2,11,12,13] [] [0,1,6] [] (XG (x0,x1)))]) (KC.eq_1 x0 x1) h (q:=qN (hA:=fun v0=>qL2 (hL:=⟨DZ x0 x1 x0 v0 0⟩)))
@[reducible,instance] def Sg x0 x1:=Lw.mk (Wt x0 x1)
def KO(x0:List gLin)(x1:List gLin):Option Int:=
 some (List.length x0:Int)>>=fun v0=>
 some (List.length x1:Int)>>=fun v1=>
 ZC v0 v1>>=fun v2=>
 if v2 !=0 then
 some v2
 else
 KC x0 x1>>=fun v3=>
 some v3
theorem N5(x0 x1 r)(h:KO x0 x1=some r):PU 381 [I9 x0,I9 x1,.fn 334 []] (eI r):=
 Pu4 (hs:=[(9,.n eI 9 none),(11,.n eI 11 none),(12,.c eI),(14,.split),(19,.c eI)]) (KO.eq_1 x0 x1) h
@[reducible,instance] def SU x0 x1:=Lw.mk (N5 x0 x1)
def Dm(x0:Q5)(x1:Q5):Option Int:=
 Ks x0.fF x1.fF>>=fun v0=>
 if v0 !=0 then
 some v0
 else
 J0 x0.fm x1.fm>>=fun v1=>
 if v1 !=0 then
 some v1
 else
 KO x0.fAt x1.fAt>>=fun v2=>
 some v2
theorem EV(x0 x1 r)(h:Dm x0 x1=some r):PU 336 [Q4 x0,Q4 x1] (eI r):=
 Pu4 (hs:=[(11,.c eI),(13,.split),(19,.c eI),(21,.split),(27,.c eI)]) (Dm.eq_1 x0 x1) h
@[reducible,instance] def Q6a x0 x1:=Lw.mk (EV x0 x1)
abbrev Xq(s:((List Q5)× (List Q5)))(u:((List Q5)×Int))(o:Unit ⊕ Int):List Alt:=[⟨fun(x:Unit)=>(Sum.inl x:Unit ⊕ Int)=o,.exit 0,fun x=>[.sl 4 (List.map Q4 s.1),.sl 4 (List.map Q4 s.2),.undef],fun x=>[]⟩,⟨fun(x:Int)=>(Sum.inr x:Unit ⊕ Int)=o,.ret,fun x=>[.sl 4 (List.map Q4 s.1),.sl 4 (List.map Q4 s.2),ii x],fun x=>[]⟩]
def Zl(x1:List Q5)(a4:List Q5)(a5:Int)(a3:Int):Option (Unit ⊕ Int):=
 if a3<a5 then
 ix a4 a3>>=fun v0=>
 some (List.length x1:Int)>>=fun v1=>
 if v1≤a3 then
 some (.inr (1:Int))
 else
 ix x1 a3>>=fun v2=>
 Dm v0 v2>>=fun v3=>
 if v3 !=0 then
 some (.inr v3)
 else
 Zl x1 a4 a5 (wr (a3+1))
 else
 some (.inl ())
 partial_fixpoint
theorem Dn(x0:List Q5)(x1:List Q5)(a3:List Q5)(a4:Int)(a5:Int)(o:Unit ⊕ Int)(h:Zl x1 a3 a4 a5=some o):LO 380 2 39 [0,1,2,11,12,13] [.sl 4 (List.map Q4 x0),.sl 4 (List.map Q4 x1),.fn 336 [],.sl 4 (List.map Q4 a3),ii a4,ii a5] [] [0,1,6] (Xq (x0,x1) (a3,a4) o):=
 Zl.partial_correctness x1 a3 a4 (fun a5 o=>∀(x0:List Q5),LO 380 2 39 [0,1,2,11,12,13] [.sl 4 (List.map Q4 x0),.sl 4 (List.map Q4 x1),.fn 336 [],.sl 4 (List.map Q4 a3),ii a4,ii a5] [] [0,1,6] (Xq (x0,x1) (a3,a4) o))
 (fun Zl Qea a5 o h x0=>
 Lp4 (hs:=[(14,.split),(16,.e Q4),(20,.n eI 20 none),(21,.split),(24,.e Q4),(29,.c eI),(31,.split)]) (kb:=[]) (kbx:=[]) rfl h (q:=qD (hA:=qIx (hA:=fun v0=>qN (hA:=fun v1=>qD (hB:=qIx (hA:=fun v2=>qC (hA:=fun v3=>qIf (hB:=⟨fun _=>kM0 (alts:=Xq (x0,x1) (a3,a4)) (fun y hy=>Qea (wr (a5+1)) y hy x0)⟩))))))))) a5 o h x0
def XS(x0:List Q5)(x1:List Q5):Option Int:=
 some (List.length x0:Int)>>=fun v0=>
 some (x0,v0)>>=fun v1=>
 Zl x1 x0 v0 0>>=fun v2=>(match v2 with
 | (.inl v3)=>
 some (List.length x0:Int)>>=fun v4=>
 some (List.length x1:Int)>>=fun v5=>
 if v4<v5 then
 some (-1:Int)
 else
 some (0:Int)
 | (.inr v6)=>
 some v6)
theorem Cn(x0 x1 r)(h:XS x0 x1=some r):PU 380 [KP x0,KP x1,.fn 336 []] (eI r):=
 Pu4 (hs:=[(12,.n eI 12 none),(35,.n eI 35 none),(37,.n eI 37 none),(38,.split),(3000003,.l [] [0,1,2,11,12,13] [] [0,1,6] [] (Xq (x0,x1)))]) (XS.eq_1 x0 x1) h (q:=qN (hA:=fun v0=>qL2 (hL:=⟨Dn x0 x1 x0 v0 0⟩)))
@[reducible,instance] def Tb x0 x1:=Lw.mk (Cn x0 x1)
def X6(x0:List Q5)(x1:List Q5):Option Int:=
 some (List.length x0:Int)>>=fun v0=>
 some (List.length x1:Int)>>=fun v1=>
 ZC v0 v1>>=fun v2=>
 if v2 !=0 then
 some v2
 else
 XS x0 x1>>=fun v3=>
 some v3
theorem W1(x0 x1 r)(h:X6 x0 x1=some r):PU 335 [KP x0,KP x1,.fn 336 []] (eI r):=
 Pu4 (hs:=[(9,.n eI 9 none),(11,.n eI 11 none),(12,.c eI),(14,.split),(19,.c eI)]) (X6.eq_1 x0 x1) h
@[reducible,instance] def S3 x0 x1:=Lw.mk (W1 x0 x1)
abbrev Xz(s:((List Qc)× (List Qc)))(u:((List Qc)×Int))(o:Unit ⊕ Int):List Alt:=[⟨fun(x:Unit)=>(Sum.inl x:Unit ⊕ Int)=o,.exit 0,fun x=>[.sl 13 (List.map Qh s.1),.sl 13 (List.map Qh s.2),.undef],fun x=>[]⟩,⟨fun(x:Int)=>(Sum.inr x:Unit ⊕ Int)=o,.ret,fun x=>[.sl 13 (List.map Qh s.1),.sl 13 (List.map Qh s.2),ii x],fun x=>[]⟩]
mutual
def Vs(x0:Q3)(x1:Q3):Option Int:=
 ZC x0.fOp x1.fOp>>=fun v0=>
 Ks x0.fc x1.fc>>=fun v1=>
 Ky x0.fp.fN x1.fp.fN>>=fun v2=>
 Ky x0.fp.fD x1.fp.fD>>=fun v3=>
 Um x0.fb x1.fb>>=fun v4=>
 J0 x0.fm x1.fm>>=fun v5=>
 G2 [v0,v1,v2,v3,v4,v5]>>=fun v6=>
 if v6 !=0 then
 some v6
 else
 X6 x0.fg x1.fg>>=fun v7=>
 if v7 !=0 then
 some v7
 else
 Xl x0.fe x1.fe>>=fun v8=>
 some v8
 partial_fixpoint
def Xl(x0:List Qc)(x1:List Qc):Option Int:=
 some (List.length x0:Int)>>=fun v0=>
 some (List.length x1:Int)>>=fun v1=>
 ZC v0 v1>>=fun v2=>
 if v2 !=0 then
 some v2
 else
 Y0 x0 x1>>=fun v3=>
 some v3
 partial_fixpoint
def Y0(x0:List Qc)(x1:List Qc):Option Int:=
 some (List.length x0:Int)>>=fun v0=>
 some (x0,v0)>>=fun v1=>
 Zp x1 x0 v0 0>>=fun v2=>(match v2 with
 | (.inl v3)=>
 some (List.length x0:Int)>>=fun v4=>
 some (List.length x1:Int)>>=fun v5=>
 if v4<v5 then
 some (-1:Int)
 else
 some (0:Int)
 | (.inr v6)=>
 some v6)
 partial_fixpoint
def Zp(x1:List Qc)(a4:List Qc)(a5:Int)(a3:Int):Option (Unit ⊕ Int):=
 if a3<a5 then
 Option.map Qc.f (ix a4 a3)>>=fun v0=>
 some (List.length x1:Int)>>=fun v1=>
 if v1≤a3 then
 some (.inr (1:Int))
 else
 Option.map Qc.f (ix x1 a3)>>=fun v2=>
 Vs v0 v2>>=fun v3=>
 if v3 !=0 then
 some (.inr v3)
 else
 Zp x1 a4 a5 (wr (a3+1))
 else
 some (.inl ())
 partial_fixpoint
end
theorem An:(∀(x0:Q3) (x1:Q3) (r:Int),Vs x0 x1=some r→PU 271 [Q8 x0,Q8 x1] (eI r))∧(∀(x0:List Qc) (x1:List Qc) (r:Int),Xl x0 x1=some r→PU 337 [Cr x0,Cr x1,.fn 271 []] (eI r))∧(∀(x0:List Qc) (x1:List Qc) (r:Int),Y0 x0 x1=some r→PU 382 [Cr x0,Cr x1,.fn 271 []] (eI r))∧(∀(x1:List Qc) (a5:List Qc) (a6:Int) (a7:Int) (o:Unit ⊕ Int),Zp x1 a5 a6 a7=some o→∀(x0:List Qc),LO 382 2 39 [0,1,2,11,12,13] [.sl 13 (List.map Qh x0),.sl 13 (List.map Qh x1),.fn 271 [],.sl 13 (List.map Qh a5),ii a6,ii a7] [] [0,1,6] (Xz (x0,x1) (a5,a6) o)):=
 Vs.mutual_partial_correctness _ _ _ _
 (fun Xl Qct x0 x1 r h=>
 have i0 a b:=Lw.mk (Qct a b);Pu4 (hs:=[(11,.c eI),(16,.c eI),(23,.c eI),(30,.c eI),(35,.c eI),(40,.c eI),(42,.c eI),(44,.split),(50,.c eI),(52,.split),(58,.c eI)]) rfl h (q:=qC (hA:=fun v0=>qC (hA:=fun v1=>qC (hA:=fun v2=>qC (hA:=fun v3=>qC (hA:=fun v4=>qC (hA:=fun v5=>qC (hP:=⟨fun y hy=>Pu.le (Rb [v0,v1,v2,v3,v4,v5] y hy) (.cons (LeT.sl (.cons (x:=AV.agg [ii v0]) (.refl _) (.cons (x:=AV.agg [ii v1]) (.refl _) (.cons (x:=AV.agg [ii v2]) (.refl _) (.cons (x:=AV.agg [ii v3]) (.refl _) (.cons (x:=AV.agg [ii v4]) (.refl _) (.cons (x:=AV.agg [ii v5]) (.refl _) .nil))))))) .nil) (LeT.refl _)⟩)))))))))
 (fun Y0 Qe8 x0 x1 r h=>
 have i0 a b:=Lw.mk (Qe8 a b);Pu4 (hs:=[(9,.n eI 9 none),(11,.n eI 11 none),(12,.c eI),(14,.split),(19,.c eI)]) rfl h)
 (fun Zp Qe9 x0 x1 r h=>
 Pu4 (hs:=[(12,.n eI 12 none),(35,.n eI 35 none),(37,.n eI 37 none),(38,.split),(3000003,.l [] [0,1,2,11,12,13] [] [0,1,6] [] (Xz (x0,x1)))]) rfl h (q:=qN (hA:=fun v0=>qL2 (hL:=⟨fun y hy=>Qe9 x1 x0 v0 0 y hy x0⟩))))
 (fun Vs Zp Qcs Qe9 x1 a5 a6 a7 o h x0=>
 have i0 a b:=Lw.mk (Qcs a b);Lp4 (hs:=[(14,.split),(16,.e Q8),(20,.n eI 20 none),(21,.split),(24,.e Q8),(29,.c eI),(31,.split)]) (kb:=[]) (kbx:=[]) rfl h (q:=qD (hA:=qIxR (hA:=fun v0=>qN (hA:=fun v1=>qD (hB:=qIxR (hA:=fun v2=>qC (hA:=fun v3=>qIf (hB:=⟨fun _=>kM0 (alts:=Xz (x0,x1) (a5,a6)) (fun y hy=>Qe9 x1 a5 a6 (wr (a7+1)) y hy x0)⟩)))))))))
theorem FO(x0 x1 r)(h:Vs x0 x1=some r):PU 271 [Q8 x0,Q8 x1] (eI r):=(An).1 x0 x1 r h
@[reducible,instance] def Qbj x0 x1:=Lw.mk (FO x0 x1)
def MJ(x0:Q3)(x1:Q3):Option Bool:=
 Vs x0 x1>>=fun v0=>
 some (v0==0)
theorem Q1v(x0 x1 r)(h:MJ x0 x1=some r):PU 222 [Q8 x0,Q8 x1] (eB r):=
 Pu4 (hs:=[(7,.c eI)]) (MJ.eq_1 x0 x1) h
@[reducible,instance] def i_expr_Same x0 x1:=Lw.mk (Q1v x0 x1)
def Ja(x0:Q3):Option Bool:=
 some ((QO.mk (0:Int) [] (gVal.mk (0:Int) (0:Int)) (Qb.mk (0:Int) (0:Int) (0:Int) (0:Int) (0:Int)) (gLin.mk (0:Int) []) [] []:Q3))>>=fun v0=>
 MJ x0 v0>>=fun v1=>
 some v1
theorem TS(x0 r)(h:Ja x0=some r):PU 193 [Q8 x0] (eB r):=
 Pu4 (hs:=[(4,.n Q8 4 none),(5,.c eB)]) (Ja.eq_1 x0) h (q:=qW1 (sh:=Q8) (LeV.agg (.cons lr (.cons lr (.cons lr (.cons lr (.cons lr (.cons lr (.cons lr (.cons lr (.cons lr (.cons lr (.cons (LeV.nil 2) (.cons (LeV.nil 4) (.cons (LeV.nil 13) .nil)))))))))))))))
@[reducible,instance] def Q8f x0:=Lw.mk (TS x0)
abbrev GS(s:Qf)(u:Unit)(o:(Bool×Bool×Bool)):List Alt:=[⟨fun(x:(Bool×Bool×Bool))=>x=o,.normal,fun x=>[.ptr 0 0 0,.bool (x.1),.bool (x.2.1),.bool (x.2.2)],fun x=>[.cells 0 (Qt s).cells]⟩]
abbrev GU(s:Qf)(u:(Bool×Bool×Bool))(o:Bool):List Alt:=jb o (fun b=>[.ptr 0 0 0,.bool (u.1),.bool (u.2.1),.bool (u.2.2),.bool b]) [.cells 0 (Qt s).cells]
abbrev GV(s:Qf)(u:(Bool×Bool))(o:Bool):List Alt:=jb o (fun b=>[.ptr 0 0 0,.bool (u.1),.bool (u.2),.bool b]) [.cells 0 (Qt s).cells]
abbrev GW(s:Qf)(u:(Bool×Bool))(o:Bool):List Alt:=jb o (fun b=>[.ptr 0 0 0,.bool (u.1),.bool (u.2),.bool b]) [.cells 0 (Qt s).cells]
abbrev GX(s:Qf)(u:(Bool×Bool))(o:Bool):List Alt:=jb o (fun b=>[.ptr 0 0 0,.bool (u.1),.bool (u.2),.bool b]) [.cells 0 (Qt s).cells]
abbrev GY(s:Qf)(u:(Bool×Bool))(o:Bool):List Alt:=jb o (fun b=>[.ptr 0 0 0,.bool (u.1),.bool (u.2),.bool b]) [.cells 0 (Qt s).cells]
abbrev GZ(s:Qf)(u:Bool)(o:Bool):List Alt:=jb o (fun b=>[.ptr 0 0 0,.bool u,.bool b]) [.cells 0 (Qt s).cells]
def Jb(x0:Qf):Option Bool:=
 some ()>>=fun v0=>
 (if x0.fOp==2 then
 some ((x0.fOp==1),true,(x0.fOp==4))
 else
 some ((x0.fOp==1),(x0.fOp==3),(x0.fOp==4)))>>=fun v2=>
 some (v2.fst,v2.snd.fst,v2.snd.snd)>>=fun v3=>
 (if v2.fst then
 some false
 else
 if v2.snd.fst then
 some false
 else
 if v2.snd.snd then
 some false
 else
 some true)>>=fun v4=>if v4 then
 some false
 else
 some (v3.fst,v3.snd.fst)>>=fun v7=>
 (if v3.snd.snd then
 if !x0.fc==[] then
 some true
 else
 some false
 else
 some false)>>=fun v8=>if v8 then
 some false
 else
 some (v7.fst,v7.snd)>>=fun a6=>
 (if v7.fst then
 some false
 else
 if x0.fE !=0 then
 some true
 else
 if x0.fI !=0 then
 some true
 else
 some false)>>=fun a8=>if a8 then
 some false
 else
 some (a6.fst,a6.snd)>>=fun a4=>
 (if x0.fOp !=3 then
 if x0.fH !=0 then
 some true
 else
 some false
 else
 some false)>>=fun a9=>if a9 then
 some false
 else
 some (a4.fst,a4.snd)>>=fun a7=>
 (if a4.snd then
 some false
 else
 some (List.length x0.fg:Int)>>=fun ab=>
 if 0<ab then
 some true
 else
 some false)>>=fun aa=>if aa then
 some false
 else
 some a7.snd>>=fun ad=>
 (if a7.fst then
 Ja x0.fo>>=fun af=>if af then
 some false
 else
 some true
 else
 some false)>>=fun ae=>if ae then
 some false
 else
 if ad then
 some (List.length x0.fd:Int)>>=fun ag=>
 some (ag==0)
 else
 some true
theorem TT(x0 r)(h:Jb x0=some r):PU 160 [Qt x0] (eB r):=
 Pu4 (hs:=[(11,.split),(21,.split),(24,.split),(28,.split),(32,.split),(36,.split),(39,.split),(44,.split),(48,.split),(54,.split),(58,.split),(61,.split),(66,.n eI 66 none),(67,.split),(70,.split),(74,.cb),(77,.split),(82,.n eI 82 none),(5000001,.l [] [] [] [1,3,4,5] [kk 1] (GS x0)),(5000002,.l [] [] [] [1,3,4,5,20] [kk 1] (GU x0)),(5000004,.l [] [] [] [1,3,4,31] [kk 1] (GV x0)),(5000006,.l [] [] [] [1,3,4,38] [kk 1] (GW x0)),(5000008,.l [] [] [] [1,3,4,51] [kk 1] (GX x0)),(5000010,.l [] [] [] [1,3,4,60] [kk 1] (GY x0)),(5000012,.l [] [] [] [1,4,69] [kk 1] (GZ x0))]) (Jb.eq_1 x0) h (q:=qJ (GS x0) (hA:=fun v0 v2=>qB (GU x0) (hB:=fun v3=>qB (GV x0) (hB:=fun v7=>qB (GW x0) (hB:=fun a3=>qB (GX x0) (hB:=fun a4=>qB (GY x0) (hB:=fun a5=>qB (GZ x0))))))))
@[reducible,instance] def Q8g x0:=Lw.mk (TT x0)
abbrev JD(s:Qf)(u:Unit)(o:Bool):List Alt:=jb o (fun b=>[.ptr 0 0 0,.bool b]) [.cells 0 (Qt s).cells]
abbrev JE(s:Unit)(u:Unit)(o:Bool):List Alt:=jb o (fun b=>[.bool b]) []
def Km(x0:Q2)(x1:Qf):Option Int:=
 KR x1.fc>>=fun v0=>if v0 then
 XZ x0.fk x1.fc>>=fun v1=>
 some ()>>=fun v2=>
 (if v1.snd then
 some true
 else
 ZS x0.fv x1.fc>>=fun v4=>if v4 then
 some true
 else
 some false)>>=fun v3=>if v3 then
 some (8:Int)
 else
 some ()>>=fun v7=>
 (if x1.fE<1 then
 some true
 else
 if 65536<x1.fE then
 some true
 else
 if x1.fI<0 then
 some true
 else
 if 3<x1.fI then
 some true
 else
 some false)>>=fun v8=>if v8 then
 some (1:Int)
 else
 some (0:Int)
 else
 some (7:Int)
theorem IA(x0 x1 r)(h:Km x0 x1=some r):PU 161 [.ip 5 [.agg [.sl 8 (List.map Ql x0.fk.fq),.sl 20 (List.map Q9 x0.fk.fd),.sl 1 (List.map eS x0.fv),.sl 1 (List.map eS x0.fi),.sl 1 (List.map eI x0.fw)]] 0 0,Qt x1] (eI r):=
 Pu4 (hs:=[(9,.cb),(18,.c Gg),(21,.split),(29,.cb),(33,.split),(37,.split),(42,.split),(47,.split),(5000004,.l [] [] [] [3,30] [kk 3] (JD x1)),(5000006,.l [] [] [] [48] [] (JE ()))]) (Km.eq_1 x0 x1) h (q:=qC (hA:=fun _=>qIf (hA:=qC (hA:=fun v1=>qB (JD x1) (hB:=fun v2=>qB (JE ()))))))
@[reducible,instance] def Q1t x0 x1:=Lw.mk (IA x0 x1)
def XI(x0:Q3):Option Bool:=
 if 13≤x0.fOp then
 some (decide (x0.fOp≤18))
 else
 some false
theorem MX(x0 r)(h:XI x0=some r):PU 163 [Q8 x0] (eB r):=
 Pu4 (hs:=[(5,.split)]) (XI.eq_1 x0) h
@[reducible,instance] def Q6o x0:=Lw.mk (MX x0)
def Kh(x0:Qo)(x1:Q2):Option Bool:=
 ZS x1.fi x0.fc>>=fun v0=>
 some (!v0)
theorem Mq(x0 x1 r)(h:Kh x0 x1=some r):PU 273 [Q7 x0,.ip 1 [.agg [.ip 5 [.agg [.sl 8 (List.map Ql x1.fk.fq),.sl 20 (List.map Q9 x1.fk.fd),.sl 1 (List.map eS x1.fv),.sl 1 (List.map eS x1.fi),.sl 1 (List.map eI x1.fw)]] 0 0]] 0 0] (eB r):=
 Pu4 (hs:=[(10,.c eB)]) (Kh.eq_1 x0 x1) h
@[reducible,instance] def Pc x0 x1:=Lw.mk (Mq x0 x1)
abbrev Kf(s:((List Qo)×Q2))(u:Int)(o:Unit ⊕ Int):List Alt:=[⟨fun(x:Unit)=>(Sum.inl x:Unit ⊕ Int)=o,.exit 0,fun x=>[.undef],fun x=>[]⟩,⟨fun(x:Int)=>(Sum.inr x:Unit ⊕ Int)=o,.ret,fun x=>[ii x],fun x=>[]⟩]
def Zb(x0:List Qo)(x1:Q2)(x7:Int)(x8:Int):Option (Unit ⊕ Int):=
 if x8<x7 then
 ix x0 x8>>=fun v0=>
 Kh v0 x1>>=fun v1=>if v1 then
 some (.inr x8)
 else
 Zb x0 x1 x7 (wr (x8+1))
 else
 some (.inl ())
 partial_fixpoint
theorem Cq(x0 x1 x7 x8 o)(h:Zb x0 x1 x7 x8=some o):LO 338 2 19 [0,1,7,8] [.sl 2 (List.map Q7 x0),.fn 273 [.ip 1 [.agg [.ip 5 [.agg [.sl 8 (List.map Ql x1.fk.fq),.sl 20 (List.map Q9 x1.fk.fd),.sl 1 (List.map eS x1.fv),.sl 1 (List.map eS x1.fi),.sl 1 (List.map eI x1.fw)]] 0 0]] 0 0],ii x7,ii x8] [] [4] (Kf (x0,x1) x7 o):=
 Zb.partial_correctness x0 x1 x7 (fun x8 o=>LO 338 2 19 [0,1,7,8] [.sl 2 (List.map Q7 x0),.fn 273 [.ip 1 [.agg [.ip 5 [.agg [.sl 8 (List.map Ql x1.fk.fq),.sl 20 (List.map Q9 x1.fk.fd),.sl 1 (List.map eS x1.fv),.sl 1 (List.map eS x1.fi),.sl 1 (List.map eI x1.fw)]] 0 0]] 0 0],ii x7,ii x8] [] [4] (Kf (x0,x1) x7 o))
 (fun Zb Qek x8 o h=>
 have i0 a:=Ll.mk (Qek a);Lp4 (hs:=[(9,.split),(14,.e Q7),(16,.cb)]) (kb:=[]) (kbx:=[]) rfl h) x8 o h
@[reducible,instance] def Te x0 x1 x7 x8:=Ll.mk (Cq x0 x1 x7 x8)
def Yw(x0:List Qo)(x1:Q2):Option Int:=
 some (List.length x0:Int)>>=fun v0=>
 some v0>>=fun v1=>
 Zb x0 x1 v0 0>>=fun v2=>(match v2 with
 | (.inl v3)=>
 some (-1:Int)
 | (.inr v4)=>
 some v4)
theorem N8(x0 x1 r)(h:Yw x0 x1=some r):PU 338 [KY x0,.fn 273 [.ip 1 [.agg [.ip 5 [.agg [.sl 8 (List.map Ql x1.fk.fq),.sl 20 (List.map Q9 x1.fk.fd),.sl 1 (List.map eS x1.fv),.sl 1 (List.map eS x1.fi),.sl 1 (List.map eI x1.fw)]] 0 0]] 0 0]] (eI r):=
 Pu4 (hs:=[(7,.n eI 7 none),(3000003,.l [] [0,1,7,8] [] [4] [] (Kf (x0,x1)))]) (Yw.eq_1 x0 x1) h
@[reducible,instance] def SW x0 x1:=Lw.mk (N8 x0 x1)
def ZV(x0:List Qo)(x1:Q2):Option Bool:=
 Yw x0 x1>>=fun v0=>
 some (decide (0≤v0))
theorem Co(x0 x1 r)(h:ZV x0 x1=some r):PU 272 [KY x0,.fn 273 [.ip 1 [.agg [.ip 5 [.agg [.sl 8 (List.map Ql x1.fk.fq),.sl 20 (List.map Q9 x1.fk.fd),.sl 1 (List.map eS x1.fv),.sl 1 (List.map eS x1.fi),.sl 1 (List.map eI x1.fw)]] 0 0]] 0 0]] (eB r):=
 Pu4 (hs:=[(7,.c eI)]) (ZV.eq_1 x0 x1) h
@[reducible,instance] def Tc x0 x1:=Lw.mk (Co x0 x1)
def X0(x0:Q2)(x1:gLin):Option Bool:=
 ZV x1.fL x0>>=fun v0=>
 some (!v0)
theorem Lq(x0 x1 r)(h:X0 x0 x1=some r):PU 223 [.ip 5 [.agg [.sl 8 (List.map Ql x0.fk.fq),.sl 20 (List.map Q9 x0.fk.fd),.sl 1 (List.map eS x0.fv),.sl 1 (List.map eS x0.fi),.sl 1 (List.map eI x0.fw)]] 0 0,Qi x1] (eB r):=
 Pu4 (hs:=[(7,.z [{slot:=2,fz:=true}] none),(8,.c eB),(3,.z [{slot:=2,fz:=true}] none)]) (X0.eq_1 x0 x1) h
@[reducible,instance] def OJ x0 x1:=Lw.mk (Lq x0 x1)
def V2(x0:gLin)(x1:Q2):Option Bool:=
 X0 x1 x0>>=fun v0=>
 some (!v0)
theorem LB(x0 x1 r)(h:V2 x0 x1=some r):PU 225 [Qi x0,.ip 1 [.agg [.ip 5 [.agg [.sl 8 (List.map Ql x1.fk.fq),.sl 20 (List.map Q9 x1.fk.fd),.sl 1 (List.map eS x1.fv),.sl 1 (List.map eS x1.fi),.sl 1 (List.map eI x1.fw)]] 0 0]] 0 0] (eB r):=
 Pu4 (hs:=[(6,.c eB)]) (V2.eq_1 x0 x1) h
@[reducible,instance] def B0 x0 x1:=Lw.mk (LB x0 x1)
abbrev Kr(s:((List gLin)×Q2))(u:Int)(o:Unit ⊕ Int):List Alt:=[⟨fun(x:Unit)=>(Sum.inl x:Unit ⊕ Int)=o,.exit 0,fun x=>[.undef],fun x=>[]⟩,⟨fun(x:Int)=>(Sum.inr x:Unit ⊕ Int)=o,.ret,fun x=>[ii x],fun x=>[]⟩]
def Zg(x0:List gLin)(x1:Q2)(x7:Int)(x8:Int):Option (Unit ⊕ Int):=
 if x8<x7 then
 ix x0 x8>>=fun v0=>
 V2 v0 x1>>=fun v1=>if v1 then
 some (.inr x8)
 else
 Zg x0 x1 x7 (wr (x8+1))
 else
 some (.inl ())
 partial_fixpoint
theorem W6(x0 x1 x7 x8 o)(h:Zg x0 x1 x7 x8=some o):LO 274 2 19 [0,1,7,8] [.sl 2 (List.map Qi x0),.fn 225 [.ip 1 [.agg [.ip 5 [.agg [.sl 8 (List.map Ql x1.fk.fq),.sl 20 (List.map Q9 x1.fk.fd),.sl 1 (List.map eS x1.fv),.sl 1 (List.map eS x1.fi),.sl 1 (List.map eI x1.fw)]] 0 0]] 0 0],ii x7,ii x8] [] [4] (Kr (x0,x1) x7 o):=
 Zg.partial_correctness x0 x1 x7 (fun x8 o=>LO 274 2 19 [0,1,7,8] [.sl 2 (List.map Qi x0),.fn 225 [.ip 1 [.agg [.ip 5 [.agg [.sl 8 (List.map Ql x1.fk.fq),.sl 20 (List.map Q9 x1.fk.fd),.sl 1 (List.map eS x1.fv),.sl 1 (List.map eS x1.fi),.sl 1 (List.map eI x1.fw)]] 0 0]] 0 0],ii x7,ii x8] [] [4] (Kr (x0,x1) x7 o))
 (fun Zg Qej x8 o h=>
 have i0 a:=Ll.mk (Qej a);Lp4 (hs:=[(9,.split),(14,.e Qi),(16,.cb)]) (kb:=[]) (kbx:=[]) rfl h) x8 o h
@[reducible,instance] def S7 x0 x1 x7 x8:=Ll.mk (W6 x0 x1 x7 x8)
def YC(x0:List gLin)(x1:Q2):Option Int:=
 some (List.length x0:Int)>>=fun v0=>
 some v0>>=fun v1=>
 Zg x0 x1 v0 0>>=fun v2=>(match v2 with
 | (.inl v3)=>
 some (-1:Int)
 | (.inr v4)=>
 some v4)
theorem Nx(x0 x1 r)(h:YC x0 x1=some r):PU 274 [I9 x0,.fn 225 [.ip 1 [.agg [.ip 5 [.agg [.sl 8 (List.map Ql x1.fk.fq),.sl 20 (List.map Q9 x1.fk.fd),.sl 1 (List.map eS x1.fv),.sl 1 (List.map eS x1.fi),.sl 1 (List.map eI x1.fw)]] 0 0]] 0 0]] (eI r):=
 Pu4 (hs:=[(7,.n eI 7 none),(3000003,.l [] [0,1,7,8] [] [4] [] (Kr (x0,x1)))]) (YC.eq_1 x0 x1) h
@[reducible,instance] def Am x0 x1:=Lw.mk (Nx x0 x1)
def X7(x0:List gLin)(x1:Q2):Option Bool:=
 YC x0 x1>>=fun v0=>
 some (decide (0≤v0))
theorem W4(x0 x1 r)(h:X7 x0 x1=some r):PU 224 [I9 x0,.fn 225 [.ip 1 [.agg [.ip 5 [.agg [.sl 8 (List.map Ql x1.fk.fq),.sl 20 (List.map Q9 x1.fk.fd),.sl 1 (List.map eS x1.fv),.sl 1 (List.map eS x1.fi),.sl 1 (List.map eI x1.fw)]] 0 0]] 0 0]] (eB r):=
 Pu4 (hs:=[(7,.c eI)]) (X7.eq_1 x0 x1) h
@[reducible,instance] def S5 x0 x1:=Lw.mk (W4 x0 x1)
abbrev VH(s:Q2)(u:((List Q5)×Int))(o:Unit ⊕ Int):List Alt:=[⟨fun(x:Unit)=>(Sum.inl x:Unit ⊕ Int)=o,.exit 2,fun x=>[.undef],fun x=>[]⟩,⟨fun(x:Int)=>(Sum.inr x:Unit ⊕ Int)=o,.ret,fun x=>[ii x],fun x=>[]⟩]
def QW(x2:Q2)(a4:List Q5)(a5:Int)(a3:Int):Option (Unit ⊕ Int):=
 if a3<a5 then
 ix a4 a3>>=fun v0=>
 if v0.fF==[] then
 QW x2 a4 a5 (wr (a3+1))
 else
 XZ x2.fk v0.fF>>=fun v1=>
 if v1.snd then
 if v1.fst.fb.fx !=3 then
 some (.inr (10:Int))
 else
 some (List.length v1.fst.fJ:Int)>>=fun v2=>
 some (List.length v0.fAt:Int)>>=fun v3=>
 if v2 !=v3 then
 some (.inr (11:Int))
 else
 QW x2 a4 a5 (wr (a3+1))
 else
 some (.inr (9:Int))
 else
 some (.inl ())
 partial_fixpoint
theorem MZ(x2 x64 x65 a3 o)(h:QW x2 x64 x65 a3=some o):LO 194 17 100 [2,64,65,66] [.ip 1 [.agg [.ip 5 [.agg [.sl 8 (List.map Ql x2.fk.fq),.sl 20 (List.map Q9 x2.fk.fd),.sl 1 (List.map eS x2.fv),.sl 1 (List.map eS x2.fi),.sl 1 (List.map eI x2.fw)]] 0 0]] 0 0,.sl 4 (List.map Q4 x64),ii x65,ii a3] [] [4] (VH x2 (x64,x65) o):=
 QW.partial_correctness x2 x64 x65 (fun a3 o=>LO 194 17 100 [2,64,65,66] [.ip 1 [.agg [.ip 5 [.agg [.sl 8 (List.map Ql x2.fk.fq),.sl 20 (List.map Q9 x2.fk.fd),.sl 1 (List.map eS x2.fv),.sl 1 (List.map eS x2.fi),.sl 1 (List.map eI x2.fw)]] 0 0]] 0 0,.sl 4 (List.map Q4 x64),ii x65,ii a3] [] [4] (VH x2 (x64,x65) o))
 (fun QW Qdc a3 o h=>
 have i0 a:=Ll.mk (Qdc a);Lp4 (hs:=[(67,.split),(68,.e Q4),(72,.split),(80,.c Gg),(84,.split),(90,.split),(94,.n eI 94 none),(97,.n eI 97 none),(98,.split)]) (kb:=[]) (kbx:=[]) rfl h) a3 o h
@[reducible,instance] def PE x2 x64 x65 x66:=Ll.mk (MZ x2 x64 x65 x66)
abbrev XB(s:(Q2×Q3))(u:((List Q5)×Int))(o:Bool):List Alt:=[⟨fun(x:Bool)=>x=o,.exit 0,fun x=>[.ip 1 [.agg [.ip 5 [.agg [.sl 8 (List.map Ql s.1.fk.fq),.sl 20 (List.map Q9 s.1.fk.fd),.sl 1 (List.map eS s.1.fv),.sl 1 (List.map eS s.1.fi),.sl 1 (List.map eI s.1.fw)]] 0 0]] 0 0,.ptr 0 0 0,.bool x],fun x=>[.cells 0 (Q8 s.2).cells]⟩]
def QU(x2:Q2)(x5:Bool)(a4:List Q5)(a5:Int)(a3:Int):Option Bool:=
 if a3<a5 then
 ix a4 a3>>=fun v0=>
 if x5 then
 X0 x2 v0.fm>>=fun v1=>if v1 then
 X7 v0.fAt x2>>=fun v2=>
 QU x2 (!v2) a4 a5 (wr (a3+1))
 else
 QU x2 false a4 a5 (wr (a3+1))
 else
 QU x2 false a4 a5 (wr (a3+1))
 else
 some x5
 partial_fixpoint
theorem Lr(x2:Q2)(x3:Q3)(x5:Bool)(a3:List Q5)(a4:Int)(a5:Int)(o:Bool)(h:QU x2 x5 a3 a4 a5=some o):LO 194 3 100 [2,3,5,18,19,20] [.ip 1 [.agg [.ip 5 [.agg [.sl 8 (List.map Ql x2.fk.fq),.sl 20 (List.map Q9 x2.fk.fd),.sl 1 (List.map eS x2.fv),.sl 1 (List.map eS x2.fi),.sl 1 (List.map eI x2.fw)]] 0 0]] 0 0,.ptr 0 0 0,.bool x5,.sl 4 (List.map Q4 a3),ii a4,ii a5] [.cells 0 (Q8 x3).cells] [2,3,5] (XB (x2,x3) (a3,a4) o):=
 QU.partial_correctness x2 a3 a4 (fun x5 a5 o=>∀(x3:Q3),LO 194 3 100 [2,3,5,18,19,20] [.ip 1 [.agg [.ip 5 [.agg [.sl 8 (List.map Ql x2.fk.fq),.sl 20 (List.map Q9 x2.fk.fd),.sl 1 (List.map eS x2.fv),.sl 1 (List.map eS x2.fi),.sl 1 (List.map eI x2.fw)]] 0 0]] 0 0,.ptr 0 0 0,.bool x5,.sl 4 (List.map Q4 a3),ii a4,ii a5] [.cells 0 (Q8 x3).cells] [2,3,5] (XB (x2,x3) (a3,a4) o))
 (fun QU Qdd x5 a5 o h x3=>
 Lp4 (hs:=[(21,.split),(22,.e Q4),(24,.split),(29,.cb),(34,.z [{slot:=2,fz:=true}] none),(35,.c eB)]) (kb:=[kk 3]) (kbx:=[kk 3]) rfl h (q:=qD (hA:=qIx (hA:=fun v0=>qIf (hA:=qC (hA:=fun _=>qIf (hA:=qC (hA:=fun v2=>⟨fun _=>kM0 (alts:=XB (x2,x3) (a3,a4)) (fun y hy=>Qdd (!v2) (wr (a5+1)) y hy x3)⟩)) (hB:=⟨fun _=>kM0 (alts:=XB (x2,x3) (a3,a4)) (fun y hy=>Qdd false (wr (a5+1)) y hy x3)⟩))) (hB:=⟨fun _=>kM0 (alts:=XB (x2,x3) (a3,a4)) (fun y hy=>Qdd false (wr (a5+1)) y hy x3)⟩))))) x5 a5 o h x3
def Kn(x0:Q2)(x1:Q3):Option Int:=
 X0 x0 x1.fm>>=fun v0=>
 some (List.length x1.fg:Int)>>=fun v1=>
 some (x1.fg,v1)>>=fun v2=>
 QU x0 v0 x1.fg v1 0>>=fun v4=>
 if v4 then
 if x1.fOp !=3 then
 some (0:Int)
 else
 XZ x0.fk x1.fc>>=fun v5=>
 if v5.snd then
 some (List.length v5.fst.fJ:Int)>>=fun v6=>
 some (List.length x1.fg:Int)>>=fun v7=>
 if v6 !=v7 then
 some (11:Int)
 else
 some (List.length x1.fg:Int)>>=fun v8=>
 some (x1.fg,v8)>>=fun v9=>
 QW x0 x1.fg v8 0>>=fun a5=>(match a5 with
 | (.inl v11)=>
 some (0:Int)
 | (.inr v12)=>
 some v12)
 else
 some (9:Int)
 else
 some (9:Int)
theorem IB(x0 x1 r)(h:Kn x0 x1=some r):PU 194 [.ip 5 [.agg [.sl 8 (List.map Ql x0.fk.fq),.sl 20 (List.map Q9 x0.fk.fd),.sl 1 (List.map eS x0.fv),.sl 1 (List.map eS x0.fi),.sl 1 (List.map eI x0.fw)]] 0 0,Q8 x1] (eI r):=
 Pu4 (hs:=[(16,.c eB),(19,.n eI 19 none),(39,.split),(43,.split),(51,.c Gg),(54,.split),(58,.n eI 58 none),(61,.n eI 61 none),(62,.split),(65,.n eI 65 none),(3,.z [{slot:=2,fz:=true}] none),(3000018,.l [] [2,64,65,66] [] [4] [] (VH x0)),(3000004,.l [] [2,3,5,18,19,20] [kk 3] [2,3,5] [kk 3] (XB (x0,x1)))]) (Kn.eq_1 x0 x1) h (q:=qC (hA:=fun v0=>qN (hA:=fun v1=>qL1 (hL:=⟨Lr x0 x1 v0 x1.fg v1 0⟩))))
abbrev Y7(s:(Q2×Q3))(u:((List Qc)×Int))(o:(Qb× (List Qb)) ⊕ (Qb×Int)):List Alt:=[⟨fun(x:(Qb× (List Qb)))=>(Sum.inl x:(Qb× (List Qb)) ⊕ (Qb×Int))=o,.exit 0,fun x=>[.ip 5 [.agg [.sl 8 (List.map Ql s.1.fk.fq),.sl 20 (List.map Q9 s.1.fk.fd),.sl 1 (List.map eS s.1.fv),.sl 1 (List.map eS s.1.fi),.sl 1 (List.map eI s.1.fw)]] 0 0,.ptr 0 0 0,.ptr 1 0 0,.undef,.sl 5 (List.map Qm x.2)],fun x=>[.cells 0 (Q8 s.2).cells,.cells 0 (Qm x.1).cells]⟩,⟨fun(x:(Qb×Int))=>(Sum.inr x:(Qb× (List Qb)) ⊕ (Qb×Int))=o,.ret,fun x=>[.ip 5 [.agg [.sl 8 (List.map Ql s.1.fk.fq),.sl 20 (List.map Q9 s.1.fk.fd),.sl 1 (List.map eS s.1.fv),.sl 1 (List.map eS s.1.fi),.sl 1 (List.map eI s.1.fw)]] 0 0,.ptr 0 0 0,.ptr 1 0 0,ii x.2,.undef],fun x=>[.cells 0 (Q8 s.2).cells,.cells 0 (Qm x.1).cells]⟩]
abbrev J3(s:(Q2×Q3))(u:(Qb× (List Qb)×Int))(o:Bool):List Alt:=jb o (fun b=>[.ip 5 [.agg [.sl 8 (List.map Ql (s.1).fk.fq),.sl 20 (List.map Q9 (s.1).fk.fd),.sl 1 (List.map eS (s.1).fv),.sl 1 (List.map eS (s.1).fi),.sl 1 (List.map eI (s.1).fw)]] 0 0,.ptr 0 0 0,.ptr 1 0 0,.sl 5 (List.map Qm (u.2.1)),ii (u.2.2),.bool b]) [.cells 0 (Q8 (s.2)).cells,.cells 0 (Qm (u.1)).cells]
abbrev J4(s:Q3)(u:(Qb× (List Qb)))(o:Bool):List Alt:=jb o (fun b=>[.ptr 0 0 0,.ptr 1 0 0,.sl 5 (List.map Qm (u.2)),.bool b]) [.cells 0 (Q8 s).cells,.cells 0 (Qm (u.1)).cells]
mutual
def Zw(x0:Q2)(x1:Q3):Option (Qb×Int):=
 some (List.length x1.fe:Int)>>=fun v0=>
 some (x1.fe,v0)>>=fun v1=>
 Za x0 (Qb.mk (0:Int) (0:Int) (0:Int) (0:Int) (0:Int)) [] x1.fe v0 (0:Int)>>=fun v2=>(match v2 with
 | (.inl v3)=>
 some (v3.fst,v3.snd,x1.fOp)>>=fun v4=>
 (if x1.fOp==1 then
 some true
 else
 if x1.fOp==12 then
 some true
 else
 some false)>>=fun v5=>if v5 then
 some (x1.fb,(0:Int))
 else
 if v4.snd.snd==2 then
 some ((Qb.mk (3:Int) (0:Int) (0:Int) (0:Int) (0:Int)))>>=fun v8=>
 some (v8,(0:Int))
 else
 if v4.snd.snd==3 then
 XZ x0.fk x1.fc>>=fun v9=>
 some (v9.fst.fb,(0:Int))
 else
 if v4.snd.snd==8 then
 ix v4.snd.fst (0:Int)>>=fun a8=>
 some (a8,(0:Int))
 else
 some (v4.fst,v4.snd.fst)>>=fun a3=>
 (if v4.snd.snd==16 then
 some true
 else
 if v4.snd.snd==17 then
 some true
 else
 if v4.snd.snd==18 then
 some true
 else
 some false)>>=fun a9=>if a9 then
 some ((Qb.mk (0:Int) (0:Int) (0:Int) (0:Int) (0:Int)))>>=fun aa=>
 some (aa,(0:Int))
 else
 ix a3.snd (wr ((↑(List.map Qm a3.snd).length:Int) - (2:Int)))>>=fun a4=>
 ix a3.snd (wr ((↑(List.map Qm a3.snd).length:Int) - (1:Int)))>>=fun a5=>
 some (List.length a3.snd:Int)>>=fun aj=>
 some (List.length a3.snd:Int)>>=fun ak=>
 if !(a4.fx==a5.fx&& (a4.fA==a5.fA&& (a4.fB==a5.fB&& (a4.fy==a5.fy&& (a4.fC==a5.fC&&true))))) then
 some ((Qb.mk (0:Int) (0:Int) (0:Int) (0:Int) (0:Int)))>>=fun ab=>
 some (ab,(10:Int))
 else
 XI x1>>=fun ad=>if ad then
 some ((Qb.mk (0:Int) (0:Int) (0:Int) (0:Int) (0:Int)))>>=fun ae=>
 some (ae,(0:Int))
 else
 some (List.length a3.snd:Int)>>=fun af=>
 ix a3.snd (wr (af - (1:Int)))>>=fun ag=>
 some (ag,(0:Int))
 | (.inr v25)=>
 some (v25.fst,v25.snd))
 partial_fixpoint
def Za(x0:Q2)(x4:Qb)(x6:List Qb)(a4:List Qc)(a5:Int)(a3:Int):Option ((Qb× (List Qb)) ⊕ (Qb×Int)):=
 if a3<a5 then
 Option.map Qc.f (ix a4 a3)>>=fun v0=>
 Zw x0 v0>>=fun v1=>
 if v1.snd !=0 then
 some (.inr (v1.fst,v1.snd))
 else
 if(x6.length+(1:Nat))*(40:Nat)≤(140737488355328:Nat)∧x6.length+(1:Nat)≤(9223372036854775807:Nat) then
 some (x6++[v1.fst])>>=fun v2=>
 Za x0 x4 v2 a4 a5 (wr (a3+1))
 else none
 else
 some (.inl (x4,x6))
 partial_fixpoint
end
theorem Lo(x0:Q2):(∀(x1:Q3) (r:(Qb×Int)),Zw x0 x1=some r→PU 195 [.ip 5 [.agg [.sl 8 (List.map Ql x0.fk.fq),.sl 20 (List.map Q9 x0.fk.fd),.sl 1 (List.map eS x0.fv),.sl 1 (List.map eS x0.fi),.sl 1 (List.map eI x0.fw)]] 0 0,Q8 x1] (Xk r))∧(∀(x4:Qb) (x6:List Qb) (a4:List Qc) (a5:Int) (a8:Int) (o:(Qb× (List Qb)) ⊕ (Qb×Int)),Za x0 x4 x6 a4 a5 a8=some o→∀(x3:Q3),LO 195 3 92 [0,3,4,6,14,15,16] [.ip 5 [.agg [.sl 8 (List.map Ql x0.fk.fq),.sl 20 (List.map Q9 x0.fk.fd),.sl 1 (List.map eS x0.fv),.sl 1 (List.map eS x0.fi),.sl 1 (List.map eI x0.fw)]] 0 0,.ptr 0 0 0,.ptr 1 0 0,.ow 2 0 5 (List.length x6),.sl 13 (List.map Qh a4),ii a5,ii a8] [.cells 0 (Q8 x3).cells,.cells 0 (Qm x4).cells,.own 0 5 (List.map Qm x6)] [0,3,4,5,6] (Y7 (x0,x3) (a4,a5) o)):=
 Zw.mutual_partial_correctness x0 _ _
 (fun Za Qdh x1 r h=>
 Pu4 (hs:=[(15,.n eI 15 none),(37,.split),(37,.split),(43,.split),(44,.n Qm 44 none),(46,.split),(54,.c Gg),(60,.split),(62,.e Qm),(64,.split),(64,.split),(64,.split),(68,.n Qm 68 none),(71,.n eI 71 none),(73,.e Qm),(77,.n eI 77 none),(79,.e Qm),(81,.split),(82,.n Qm 82 none),(84,.cb),(85,.n Qm 85 none),(88,.n eI 88 none),(90,.e Qm),(3000004,.l [] [0,3,4,6,14,15,16] [kk 3,kk 4,{slot:=6,own:=5}] [0,3,4,5,6] [kk 3,kk 4,{slot:=6,fz:=true}] (Y7 (x0,x1))),(6000013,.l [] [] [] [0,3,4,6,36,37] [kk 3,kk 4,{slot:=6,fz:=true}] (J3 (x0,x1))),(6000023,.l [] [] [] [3,4,6,64] [kk 3,kk 4,{slot:=6,fz:=true}] (J4 x1))]) rfl h (q:=qN (hA:=fun v0=>qL2 (hL:=⟨fun y hy=>Qdh (Qb.mk (0:Int) (0:Int) (0:Int) (0:Int) (0:Int)) [] x1.fe v0 (0:Int) y hy x1⟩) (hA:=fun v1 v3=>qB (J3 (x0,x1)) (hB:=fun v4=>qIf (hB:=qIf (hB:=qIf (hB:=qB (J4 x1)))))))))
 (fun Zw Za Qdg Qdh x4 x6 a4 a5 a8 o h x3=>
 have i0 a:=Lw.mk (Qdg a);Lp4 (hs:=[(17,.split),(18,.e Q8),(23,.c Xk),(27,.split),(33,.z [{slot:=30,own:=5}] (some (.n Qm 33 (some .a))))]) (kb:=[kk 3,kk 4,{slot:=6,own:=5}]) (kbx:=[kk 3,kk 4,{slot:=6,fz:=true}]) rfl h (q:=qD (hA:=qIxR (hA:=fun v0=>qC (hA:=fun v1=>qIf (hA:=qT (nM (sh:=Qm) x6) (hA:=⟨fun _=>kX (alts:=Y7 (x0,x3) (a4,a5)) (.inr (v1.fst,v1.snd)) (.next (.here _ rfl (.cons lr (.cons lr (.cons lr (.cons lr (.cons (LeV.undef (AV.sl (5:Nat) (List.map Qm x6))) .nil))))) (.refl _)))⟩)) (hB:=qA x6 (hA:=qO (mA (sh:=Qm) x6 v1.fst) (nA x6 v1.fst) (hA:=fun v2=>⟨fun _=>kM0 (alts:=Y7 (x0,x3) (a4,a5)) (fun y hy=>Qdh x4 v2 a4 a5 (wr (a8+1)) y hy x3)⟩)))))) (hB:=qT (nM (sh:=Qm) x6))))
theorem LC(x0 x1 r)(h:Zw x0 x1=some r):PU 195 [.ip 5 [.agg [.sl 8 (List.map Ql x0.fk.fq),.sl 20 (List.map Q9 x0.fk.fd),.sl 1 (List.map eS x0.fv),.sl 1 (List.map eS x0.fi),.sl 1 (List.map eI x0.fw)]] 0 0,Q8 x1] (Xk r):=(Lo x0).1 x1 r h
abbrev Nz(s:Int)(u:((List Qc)×Int))(o:Int):List Alt:=[⟨fun(x:Int)=>x=o,.exit 0,fun x=>[ii x],fun x=>[]⟩]
mutual
def VK(x0:Q3)(x1:Int):Option Int:=
 if x1≤1 then
 some x1
 else
 some (List.length x0.fe:Int)>>=fun v0=>
 some (x0.fe,v0)>>=fun v1=>
 YP x1 1 x0.fe v0 0>>=fun v3=>
 some v3
 partial_fixpoint
def YP(x1:Int)(x5:Int)(a4:List Qc)(a5:Int)(a3:Int):Option Int:=
 if a3<a5 then
 Option.map Qc.f (ix a4 a3)>>=fun v0=>
 VK v0 (wr (x1 - (1:Int)))>>=fun v1=>
 YP x1 (if true=true then max x5 (wr ((1:Int)+v1)) else min x5 (wr ((1:Int)+v1))) a4 a5 (wr (a3+1))
 else
 some x5
 partial_fixpoint
end
theorem Og:(∀(x0:Q3) (x1:Int) (r:Int),VK x0 x1=some r→PU 228 [Q8 x0,eI x1] (eI r))∧(∀(x1:Int) (x5:Int) (a4:List Qc) (a5:Int) (a6:Int) (o:Int),YP x1 x5 a4 a5 a6=some o→LO 228 5 27 [1,5,12,13,14] [ii x1,ii x5,.sl 13 (List.map Qh a4),ii a5,ii a6] [] [5] (Nz x1 (a4,a5) o)):=
 VK.mutual_partial_correctness _ _
 (fun YP Qcv x0 x1 r h=>
 have i0 a b c d e:=Ll.mk (Qcv a b c d e);Pu4 (hs:=[(9,.split),(13,.n eI 13 none),(3000006,.l [] [1,5,12,13,14] [] [5] [] (Nz x1))]) rfl h)
 (fun VK YP Qcu Qcv x1 x5 a4 a5 a6 o h=>
 have i0 a b:=Lw.mk (Qcu a b);have i1 a b c d e:=Ll.mk (Qcv a b c d e);Lp4 (hs:=[(15,.split),(16,.e Q8),(22,.c eI)]) (kb:=[]) (kbx:=[]) rfl h)
theorem Bk(x0 x1 r)(h:VK x0 x1=some r):PU 228 [Q8 x0,eI x1] (eI r):=(Og).1 x0 x1 r h
@[reducible,instance] def i_expr_depth x0 x1:=Lw.mk (Bk x0 x1)
def NG(x0:Q3):Option Int:=
 VK x0 41>>=fun v0=>
 some v0
theorem Bi(x0 r)(h:NG x0=some r):PU 198 [Q8 x0] (eI r):=
 Pu4 (hs:=[(4,.c eI)]) (NG.eq_1 x0) h
def Uc(x0:gLin):Option Bool:=
 if x0.fK==0 then
 some (List.length x0.fL:Int)>>=fun v0=>
 some (v0==0)
 else
 some false
theorem Oh(x0 r)(h:Uc x0=some r):PU 275 [Qi x0] (eB r):=
 Pu4 (hs:=[(5,.split),(9,.n eI 9 none)]) (Uc.eq_1 x0) h
@[reducible,instance] def Qc0 x0:=Lw.mk (Oh x0)
def J7(x0:Q5):Option Bool:=
 if x0.fF==[] then
 some (List.length x0.fAt:Int)>>=fun v0=>
 some (v0==0)
 else
 Uc x0.fm>>=fun v1=>
 some v1
theorem TM(x0 r)(h:J7 x0=some r):PU 278 [Q4 x0] (eB r):=
 Pu4 (hs:=[(5,.split),(8,.n eI 8 none),(12,.c eB)]) (J7.eq_1 x0) h
@[reducible,instance] def Q89 x0:=Lw.mk (TM x0)
def Dz(x0:Q5):Option Bool:=
 J7 x0>>=fun v0=>
 some (!v0)
theorem Au(x0 r)(h:Dz x0=some r):PU 277 [Q4 x0] (eB r):=
 Pu4 (hs:=[(4,.c eB)]) (Dz.eq_1 x0) h
@[reducible,instance] def Qb8 x0:=Lw.mk (Au x0)
abbrev K2(s:List Q5)(u:Int)(o:Unit ⊕ Int):List Alt:=[⟨fun(x:Unit)=>(Sum.inl x:Unit ⊕ Int)=o,.exit 0,fun x=>[.undef],fun x=>[]⟩,⟨fun(x:Int)=>(Sum.inr x:Unit ⊕ Int)=o,.ret,fun x=>[ii x],fun x=>[]⟩]
def Z4(x0:List Q5)(x7:Int)(x8:Int):Option (Unit ⊕ Int):=
 if x8<x7 then
 ix x0 x8>>=fun v0=>
 Dz v0>>=fun v1=>if v1 then
 some (.inr x8)
 else
 Z4 x0 x7 (wr (x8+1))
 else
 some (.inl ())
 partial_fixpoint
theorem C6(x0 x7 x8 o)(h:Z4 x0 x7 x8=some o):LO 339 2 19 [0,1,7,8] [.sl 4 (List.map Q4 x0),.fn 277 [],ii x7,ii x8] [] [4] (K2 x0 x7 o):=
 Z4.partial_correctness x0 x7 (fun x8 o=>LO 339 2 19 [0,1,7,8] [.sl 4 (List.map Q4 x0),.fn 277 [],ii x7,ii x8] [] [4] (K2 x0 x7 o))
 (fun Z4 Qeg x8 o h=>
 have i0 a:=Ll.mk (Qeg a);Lp4 (hs:=[(9,.split),(14,.e Q4),(16,.cb)]) (kb:=[]) (kbx:=[]) rfl h) x8 o h
@[reducible,instance] def RD x0 x7 x8:=Ll.mk (C6 x0 x7 x8)
def Yc(x0:List Q5):Option Int:=
 some (List.length x0:Int)>>=fun v0=>
 some v0>>=fun v1=>
 Z4 x0 v0 0>>=fun v2=>(match v2 with
 | (.inl v3)=>
 some (-1:Int)
 | (.inr v4)=>
 some v4)
theorem Wu(x0 r)(h:Yc x0=some r):PU 339 [KP x0,.fn 277 []] (eI r):=
 Pu4 (hs:=[(7,.n eI 7 none),(3000003,.l [] [0,1,7,8] [] [4] [] (K2 x0))]) (Yc.eq_1 x0) h
@[reducible,instance] def Sh x0:=Lw.mk (Wu x0)
def ZP(x0:List Q5):Option Bool:=
 Yc x0>>=fun v0=>
 some (decide (0≤v0))
theorem C3(x0 r)(h:ZP x0=some r):PU 276 [KP x0,.fn 277 []] (eB r):=
 Pu4 (hs:=[(7,.c eI)]) (ZP.eq_1 x0) h
@[reducible,instance] def RA x0:=Lw.mk (C3 x0)
abbrev W8(s:Q3)(u:Unit)(o:(Bool×Bool)):List Alt:=[⟨fun(x:(Bool×Bool))=>x=o,.normal,fun x=>[.ptr 0 0 0,.bool (x.1),.bool (x.2)],fun x=>[.cells 0 (Q8 s).cells]⟩]
abbrev W9(s:Q3)(u:(Bool×Bool×Bool×Bool))(o:Bool):List Alt:=jb o (fun b=>[.ptr 0 0 0,.bool (u.1),.bool (u.2.1),.bool (u.2.2.1),.bool (u.2.2.2),.bool b]) [.cells 0 (Q8 s).cells]
abbrev Wa(s:Q3)(u:(Bool×Bool×Bool))(o:Bool):List Alt:=jb o (fun b=>[.ptr 0 0 0,.bool (u.1),.bool (u.2.1),.bool (u.2.2),.bool b]) [.cells 0 (Q8 s).cells]
abbrev Wb(s:Q3)(u:(Bool×Bool))(o:Bool):List Alt:=jb o (fun b=>[.ptr 0 0 0,.bool (u.1),.bool (u.2),.bool b]) [.cells 0 (Q8 s).cells]
abbrev Wc(s:Q3)(u:Bool)(o:Bool):List Alt:=jb o (fun b=>[.ptr 0 0 0,.bool u,.bool b]) [.cells 0 (Q8 s).cells]
abbrev Wd(s:Q3)(u:Unit)(o:Bool):List Alt:=jb o (fun b=>[.ptr 0 0 0,.bool b]) [.cells 0 (Q8 s).cells]
def D5(x0:Q3):Option Bool:=
 some ()>>=fun v0=>
 (if x0.fOp==1 then
 some ((x0.fOp==1),true)
 else
 some ((x0.fOp==1),(x0.fOp==12)))>>=fun v2=>
 some (v2.fst,v2.snd,(x0.fOp==2),(x0.fOp==3))>>=fun v3=>
 (if x0.fOp<1 then
 some true
 else
 if 18<x0.fOp then
 some true
 else
 some false)>>=fun v4=>if v4 then
 some false
 else
 some (v3.snd.fst,v3.snd.snd.fst,v3.snd.snd.snd)>>=fun v7=>
 (if v3.fst then
 some false
 else
 some ((gVal.mk (0:Int) (0:Int)))>>=fun v9=>
 if !(x0.fp.fN==v9.fN&& (x0.fp.fD==v9.fD&&true)) then
 some true
 else
 some false)>>=fun v8=>if v8 then
 some false
 else
 some (v7.snd.fst,v7.snd.snd)>>=fun a5=>
 (if v7.fst then
 some false
 else
 some ((Qb.mk (0:Int) (0:Int) (0:Int) (0:Int) (0:Int)))>>=fun a4=>
 if !(x0.fb.fx==a4.fx&& (x0.fb.fA==a4.fA&& (x0.fb.fB==a4.fB&& (x0.fb.fy==a4.fy&& (x0.fb.fC==a4.fC&&true))))) then
 some true
 else
 some false)>>=fun a7=>if a7 then
 some false
 else
 some a5.snd>>=fun a8=>
 (if a5.fst then
 some false
 else
 Uc x0.fm>>=fun aa=>if aa then
 some false
 else
 some true)>>=fun a9=>if a9 then
 some false
 else
 some ()>>=fun ai=>
 (if a8 then
 some false
 else
 if !x0.fc==[] then
 some true
 else
 some (List.length x0.fg:Int)>>=fun ad=>
 if 0<ad then
 some true
 else
 some false)>>=fun ab=>if ab then
 some false
 else
 ZP x0.fg>>=fun ae=>
 some (!ae)
theorem Ol(x0 r)(h:D5 x0=some r):PU 229 [Q8 x0] (eB r):=
 Pu4 (hs:=[(12,.split),(27,.split),(31,.split),(34,.split),(39,.n Qd 39 none),(40,.split),(43,.split),(48,.n Qm 48 none),(49,.split),(52,.split),(57,.cb),(61,.split),(66,.split),(70,.n eI 70 none),(71,.split),(76,.c eB),(5000001,.l [] [] [] [1,3,4] [kk 1] (W8 x0)),(5000003,.l [] [] [] [1,3,4,5,6,24] [kk 1] (W9 x0)),(5000005,.l [] [] [] [1,4,5,6,33] [kk 1] (Wa x0)),(5000007,.l [] [] [] [1,5,6,42] [kk 1] (Wb x0)),(5000009,.l [] [] [] [1,6,51] [kk 1] (Wc x0)),(5000011,.l [] [] [] [1,60] [kk 1] (Wd x0))]) (D5.eq_1 x0) h (q:=qJ (W8 x0) (hA:=fun v0 v2=>qB (W9 x0) (hB:=fun v3=>qB (Wa x0) (hB:=fun v7=>qB (Wb x0) (hB:=fun a3=>qB (Wc x0) (hB:=fun a4=>qB (Wd x0)))))))
abbrev Jp(s:(Int×Int))(u:Unit)(o:Bool):List Alt:=jb o (fun b=>[ii (s.1),ii (s.2),.bool b]) []
def K7(x0:Int)(x1:Int):Option Bool:=
 some ()>>=fun v0=>
 (if x0==16 then
 some true
 else
 if x0==17 then
 some true
 else
 if x0==18 then
 some true
 else
 some false)>>=fun v1=>if v1 then
 some true
 else
 if x0==11 then
 some (x1==0)
 else
 some false
theorem I3(x0 x1 r)(h:K7 x0 x1=some r):PU 282 [eI x0,eI x1] (eB r):=
 Pu4 (hs:=[(6,.split),(6,.split),(6,.split),(11,.split),(6000004,.l [] [] [] [0,1,6] [] (Jp (x0,x1)))]) (K7.eq_1 x0 x1) h (q:=qB (Jp (x0,x1)))
@[reducible,instance] def BJ x0 x1:=Lw.mk (I3 x0 x1)
abbrev NB(s:Q3)(u:((List Qc)×Int))(o:Unit ⊕ Bool):List Alt:=[⟨fun(x:Unit)=>(Sum.inl x:Unit ⊕ Bool)=o,.exit 0,fun x=>[.undef],fun x=>[]⟩,⟨fun(x:Bool)=>(Sum.inr x:Unit ⊕ Bool)=o,.ret,fun x=>[.bool x],fun x=>[]⟩]
def YQ(x1:Q3)(a4:List Qc)(a5:Int)(a3:Int):Option (Unit ⊕ Bool):=
 if a3<a5 then
 Option.map Qc.f (ix a4 a3)>>=fun v0=>
 XI v0>>=fun v1=>
 K7 x1.fOp a3>>=fun v2=>
 if !v1==v2 then
 some (.inr false)
 else
 YQ x1 a4 a5 (wr (a3+1))
 else
 some (.inl ())
 partial_fixpoint
theorem Av(x1 x20 x21 a3 o)(h:YQ x1 x20 x21 a3=some o):LO 232 4 35 [1,20,21,22] [.ptr 0 0 0,.sl 13 (List.map Qh x20),ii x21,ii a3] [.cells 0 (Q8 x1).cells] [2] (NB x1 (x20,x21) o):=
 YQ.partial_correctness x1 x20 x21 (fun a3 o=>LO 232 4 35 [1,20,21,22] [.ptr 0 0 0,.sl 13 (List.map Qh x20),ii x21,ii a3] [.cells 0 (Q8 x1).cells] [2] (NB x1 (x20,x21) o))
 (fun YQ Qcw a3 o h=>
 have i0 a:=Ll.mk (Qcw a);Lp4 (hs:=[(23,.split),(25,.e Q8),(28,.c eB),(32,.c eB),(33,.split)]) (kb:=[kk 1]) (kbx:=[]) rfl h) a3 o h
@[reducible,instance] def Qb9 x1 x20 x21 x22:=Ll.mk (Av x1 x20 x21 x22)
abbrev Nn(s:Q3)(u:Unit)(o:Bool):List Alt:=jb o (fun b=>[.ptr 0 0 0,.bool b]) [.cells 0 (Q8 s).cells]
def DU(x0:Q3):Option Bool:=
 some ()>>=fun v0=>
 (if x0.fOp==1 then
 Zo x0.fb>>=fun v2=>
 if v2 !=0 then
 some true
 else
 some false
 else
 if x0.fOp==12 then
 Zo x0.fb>>=fun v3=>
 if v3 !=0 then
 some true
 else
 some false
 else
 some false)>>=fun v1=>if v1 then
 some false
 else
 some (List.length x0.fe:Int)>>=fun v6=>
 some (x0.fe,v6)>>=fun v7=>
 YQ x0 x0.fe v6 0>>=fun v8=>(match v8 with
 | (.inl v9)=>
 some true
 | (.inr v10)=>
 some v10)
theorem Bn(x0 r)(h:DU x0=some r):PU 232 [Q8 x0] (eB r):=
 Pu4 (hs:=[(7,.split),(11,.split),(16,.c eI),(17,.split),(21,.n eI 21 none),(3000005,.l [] [1,20,21,22] [kk 1] [2] [] (NB x0)),(5000001,.l [] [] [] [1,18] [kk 1] (Nn x0))]) (DU.eq_1 x0) h (q:=qB (Nn x0))
def Vd(x0:Int):Option Bool:=
 if 2≤x0 then
 some (decide (x0≤31))
 else
 some false
theorem OE(x0 r)(h:Vd x0=some r):PU 383 [eI x0] (eB r):=
 Pu4 (hs:=[(4,.split)]) (Vd.eq_1 x0) h
@[reducible,instance] def Qcg x0:=Lw.mk (OE x0)
def Vw(x0:Int):Option Int:=
 Vd x0>>=fun v0=>if v0 then
 if 0≤w6 (wr (x0 - (1:Int))) then
 some (wr ((0:Int) - wr ((1:Int)*(2:Int)^min (w6 (wr (x0 - (1:Int)))).toNat (64:Nat))))
 else none
 else
 some (0:Int)
theorem P2(x0 r)(h:Vw x0=some r):PU 340 [eI x0] (eI r):=
 Pu4 (hs:=[(4,.cb),(9,.s)]) (Vw.eq_1 x0) h
@[reducible,instance] def Qbw x0:=Lw.mk (P2 x0)
def Vv(x0:Int):Option Int:=
 Vd x0>>=fun v0=>if v0 then
 if 0≤w6 (wr (x0 - (1:Int))) then
 some (wr (wr ((1:Int)*(2:Int)^min (w6 (wr (x0 - (1:Int)))).toNat (64:Nat)) - (1:Int)))
 else none
 else
 some (0:Int)
theorem P1(x0 r)(h:Vv x0=some r):PU 341 [eI x0] (eI r):=
 Pu4 (hs:=[(4,.cb),(9,.s)]) (Vv.eq_1 x0) h
@[reducible,instance] def Qbv x0:=Lw.mk (P1 x0)
def VZ(x0:Qb)(x1:gVal):Option Bool:=
 Zy x0>>=fun v0=>
 if v0==0 then
 if x1.fD==1 then
 Vw x0.fA>>=fun v1=>
 if v1≤x1.fN then
 Vv x0.fA>>=fun v2=>
 some (decide (x1.fN≤v2))
 else
 some false
 else
 some false
 else
 some false
theorem Ov(x0 x1 r)(h:VZ x0 x1=some r):PU 283 [Qm x0,Qd x1] (eB r):=
 Pu4 (hs:=[(6,.c eI),(7,.split),(11,.split),(18,.c eI),(19,.split),(26,.c eI)]) (VZ.eq_1 x0 x1) h
@[reducible,instance] def Qc7 x0 x1:=Lw.mk (Ov x0 x1)
def Yz(x0:Int):Option Bool:=
 if(-2147483647:Int)≤x0 then
 some (decide (x0≤2147483647))
 else
 some false
theorem OG(x0 r)(h:Yz x0=some r):PU 284 [eI x0] (eB r):=
 Pu4 (hs:=[(4,.split)]) (Yz.eq_1 x0) h
@[reducible,instance] def Qcl x0:=Lw.mk (OG x0)
def Cl(x0:Int):Option Bool:=
 if(-2147483647:Int)≤x0 then
 some (decide (x0≤2147483647))
 else
 some false
theorem FT(x0 r)(h:Cl x0=some r):PU 342 [eI x0] (eB r):=
 Pu4 (hs:=[(4,.split)]) (Cl.eq_1 x0) h
@[reducible,instance] def Qbo x0:=Lw.mk (FT x0)
def XO(x0:Int):Option Int:=
 if x0<0 then
 some (w6 ((0:Int) - w6 x0))
 else
 some (w6 x0)
theorem SF(x0 r)(h:XO x0=some r):PU 344 [eI x0] (eU64 r):=
 Pu4 (hs:=[(4,.split)]) (XO.eq_1 x0) h
@[reducible,instance] def Q90 x0:=Lw.mk (SF x0)
abbrev Lm(s:Unit)(u:Unit)(o:Int):List Alt:=[⟨fun(x:Int)=>x=o,.exit 0,fun x=>[.int .u64 x],fun x=>[]⟩]
def KI(x0:Int)(x1:Int):Option Int:=
 if x1 !=0 then
 if x1≠0 then
 some (x0.tmod x1:Int)>>=fun v0=>
 KI x1 v0
 else none
 else
 some x0
 partial_fixpoint
theorem Ox(x0 x1 o)(h:KI x0 x1=some o):LO 343 1 12 [0,1] [.int .u64 x0,.int .u64 x1] [] [0] (Lm () () o):=
 KI.partial_correctness (fun x0 x1 o=>LO 343 1 12 [0,1] [.int .u64 x0,.int .u64 x1] [] [0] (Lm () () o))
 (fun KI Qcy x0 x1 o h=>
 have i0 a b:=Ll.mk (Qcy a b);Lp4 (hs:=[(6,.split),(10,.s),(1,.n eU64 1 none)]) (kb:=[]) (kbx:=[]) rfl h) x0 x1 o h
@[reducible,instance] def Qc9 x0 x1:=Ll.mk (Ox x0 x1)
def GC(x0:Int)(x1:Int):Option Int:=
 some ()>>=fun v0=>
 KI x0 x1>>=fun v2=>
 some v2
theorem Q4v(x0 x1 r)(h:GC x0 x1=some r):PU 343 [eU64 x0,eU64 x1] (eU64 r):=
 Pu4 (hs:=[(3000002,.l [] [0,1] [] [0] [] (Lm ()))]) (GC.eq_1 x0 x1) h
@[reducible,instance] def i_frac_gcd x0 x1:=Lw.mk (Q4v x0 x1)
def Zz(x0:gVal):Option Bool:=
 if 1≤x0.fD then
 if x0.fD≤2147483647 then
 Cl x0.fN>>=fun v0=>if v0 then
 XO x0.fN>>=fun v1=>
 GC v1 (w6 x0.fD)>>=fun v2=>
 some (v2==1)
 else
 some false
 else
 some false
 else
 some false
theorem Bp(x0 r)(h:Zz x0=some r):PU 285 [Qd x0] (eB r):=
 Pu4 (hs:=[(5,.split),(9,.split),(14,.cb),(19,.c eU64),(23,.c eU64)]) (Zz.eq_1 x0) h
@[reducible,instance] def i_frac_Valid x0:=Lw.mk (Bp x0)
def Y6(x0:Qb)(x1:gVal):Option Bool:=
 Zo x0>>=fun v0=>
 if v0 !=0 then
 some false
 else
 if x0.fx==2 then
 VZ x0 x1>>=fun v1=>
 some v1
 else
 if x0.fx==3 then
 if x1.fD==1 then
 Yz x1.fN>>=fun v2=>
 some v2
 else
 some false
 else
 Zz x1>>=fun v3=>
 some v3
theorem EM(x0 x1 r)(h:Y6 x0 x1=some r):PU 233 [Qm x0,Qd x1] (eB r):=
 Pu4 (hs:=[(6,.c eI),(7,.split),(11,.split),(14,.c eB),(16,.split),(19,.split),(23,.c eB),(26,.c eB)]) (Y6.eq_1 x0 x1) h
@[reducible,instance] def Qcj x0 x1:=Lw.mk (EM x0 x1)
abbrev DJ(s:Unit)(u:Int)(o:Bool):List Alt:=jb o (fun b=>[ii u,.bool b]) []
abbrev DK(s:Unit)(u:Int)(o:Bool):List Alt:=jb o (fun b=>[ii u,.bool b]) []
def Un(x0:Int):Option Int:=
 some x0>>=fun v0=>
 (if x0==1 then
 some true
 else
 if x0==2 then
 some true
 else
 if x0==3 then
 some true
 else
 some false)>>=fun v1=>if v1 then
 some (0:Int)
 else
 some v0>>=fun v4=>
 (if v0==8 then
 some true
 else
 if v0==12 then
 some true
 else
 if v0==18 then
 some true
 else
 some false)>>=fun v5=>if v5 then
 some (1:Int)
 else
 if v4==11 then
 some (3:Int)
 else
 some (2:Int)
theorem As(x0 r)(h:Un x0=some r):PU 280 [eI x0] (eI r):=
 Pu4 (hs:=[(4,.split),(4,.split),(4,.split),(8,.split),(8,.split),(8,.split),(13,.split),(6000004,.l [] [] [] [3,4] [] (DJ ())),(6000008,.l [] [] [] [3,8] [] (DK ()))]) (Un.eq_1 x0) h (q:=qB (DJ ()) (hB:=fun v0=>qB (DK ())))
@[reducible,instance] def Qb7 x0:=Lw.mk (As x0)
end Go.Proofs.YtkgphhemcglgnaaGreatDoor
noncomputable section
namespace Go.Proofs.YtkgphhemcglgnaaGreatDoor
open Go HY
set_option maxRecDepth 1000000
def Ck(x0:Q5):Option Bool:=
 if !x0.fF==[] then
 KR x0.fF>>=fun v0=>
 some (!v0)
 else
 some false
theorem FP(x0 r)(h:Ck x0=some r):PU 279 [Q4 x0] (eB r):=
 Pu4 (hs:=[(5,.split),(9,.c eB)]) (Ck.eq_1 x0) h
@[reducible,instance] def Qbk x0:=Lw.mk (FP x0)
abbrev K3(s:List Q5)(u:Int)(o:Unit ⊕ Int):List Alt:=[⟨fun(x:Unit)=>(Sum.inl x:Unit ⊕ Int)=o,.exit 0,fun x=>[.undef],fun x=>[]⟩,⟨fun(x:Int)=>(Sum.inr x:Unit ⊕ Int)=o,.ret,fun x=>[ii x],fun x=>[]⟩]
def Z5(x0:List Q5)(x7:Int)(x8:Int):Option (Unit ⊕ Int):=
 if x8<x7 then
 ix x0 x8>>=fun v0=>
 Ck v0>>=fun v1=>if v1 then
 some (.inr x8)
 else
 Z5 x0 x7 (wr (x8+1))
 else
 some (.inl ())
 partial_fixpoint
theorem C7(x0 x7 x8 o)(h:Z5 x0 x7 x8=some o):LO 339 2 19 [0,1,7,8] [.sl 4 (List.map Q4 x0),.fn 279 [],ii x7,ii x8] [] [4] (K3 x0 x7 o):=
 Z5.partial_correctness x0 x7 (fun x8 o=>LO 339 2 19 [0,1,7,8] [.sl 4 (List.map Q4 x0),.fn 279 [],ii x7,ii x8] [] [4] (K3 x0 x7 o))
 (fun Z5 Qeh x8 o h=>
 have i0 a:=Ll.mk (Qeh a);Lp4 (hs:=[(9,.split),(14,.e Q4),(16,.cb)]) (kb:=[]) (kbx:=[]) rfl h) x8 o h
@[reducible,instance] def RE x0 x7 x8:=Ll.mk (C7 x0 x7 x8)
def Yd(x0:List Q5):Option Int:=
 some (List.length x0:Int)>>=fun v0=>
 some v0>>=fun v1=>
 Z5 x0 v0 0>>=fun v2=>(match v2 with
 | (.inl v3)=>
 some (-1:Int)
 | (.inr v4)=>
 some v4)
theorem Wv(x0 r)(h:Yd x0=some r):PU 339 [KP x0,.fn 279 []] (eI r):=
 Pu4 (hs:=[(7,.n eI 7 none),(3000003,.l [] [0,1,7,8] [] [4] [] (K3 x0))]) (Yd.eq_1 x0) h
@[reducible,instance] def Si x0:=Lw.mk (Wv x0)
def ZQ(x0:List Q5):Option Bool:=
 Yd x0>>=fun v0=>
 some (decide (0≤v0))
theorem C4(x0 r)(h:ZQ x0=some r):PU 276 [KP x0,.fn 279 []] (eB r):=
 Pu4 (hs:=[(7,.c eI)]) (ZQ.eq_1 x0) h
@[reducible,instance] def RB x0:=Lw.mk (C4 x0)
abbrev Nl(s:Q3)(u:Unit)(o:Bool):List Alt:=jb o (fun b=>[.ptr 0 0 0,.bool b]) [.cells 0 (Q8 s).cells]
def DT(x0:Q3):Option Bool:=
 some ()>>=fun v0=>
 (if x0.fOp==3 then
 KR x0.fc>>=fun v2=>if v2 then
 some false
 else
 some true
 else
 some false)>>=fun v1=>if v1 then
 some false
 else
 ZQ x0.fg>>=fun v5=>
 some (!v5)
theorem Bm(x0 r)(h:DT x0=some r):PU 230 [Q8 x0] (eB r):=
 Pu4 (hs:=[(5,.split),(9,.cb),(14,.c eB),(5000001,.l [] [] [] [1,11] [kk 1] (Nl x0))]) (DT.eq_1 x0) h (q:=qB (Nl x0))
end Go.Proofs.YtkgphhemcglgnaaGreatDoor
noncomputable section
namespace Go.Proofs.YtkgphhemcglgnaaGreatDoor
open Go HY
set_option maxRecDepth 1000000
def WN(x0:Q5):Option Bool:=
 some (List.length x0.fAt:Int)>>=fun v0=>
 some (decide (6<v0))
theorem Oi(x0 r)(h:WN x0=some r):PU 281 [Q4 x0] (eB r):=
 Pu4 (hs:=[(5,.n eI 5 none)]) (WN.eq_1 x0) h
@[reducible,instance] def Qc1 x0:=Lw.mk (Oi x0)
abbrev K4(s:List Q5)(u:Int)(o:Unit ⊕ Int):List Alt:=[⟨fun(x:Unit)=>(Sum.inl x:Unit ⊕ Int)=o,.exit 0,fun x=>[.undef],fun x=>[]⟩,⟨fun(x:Int)=>(Sum.inr x:Unit ⊕ Int)=o,.ret,fun x=>[ii x],fun x=>[]⟩]
def Z6(x0:List Q5)(x7:Int)(x8:Int):Option (Unit ⊕ Int):=
 if x8<x7 then
 ix x0 x8>>=fun v0=>
 WN v0>>=fun v1=>if v1 then
 some (.inr x8)
 else
 Z6 x0 x7 (wr (x8+1))
 else
 some (.inl ())
 partial_fixpoint
theorem C8(x0 x7 x8 o)(h:Z6 x0 x7 x8=some o):LO 339 2 19 [0,1,7,8] [.sl 4 (List.map Q4 x0),.fn 281 [],ii x7,ii x8] [] [4] (K4 x0 x7 o):=
 Z6.partial_correctness x0 x7 (fun x8 o=>LO 339 2 19 [0,1,7,8] [.sl 4 (List.map Q4 x0),.fn 281 [],ii x7,ii x8] [] [4] (K4 x0 x7 o))
 (fun Z6 Qei x8 o h=>
 have i0 a:=Ll.mk (Qei a);Lp4 (hs:=[(9,.split),(14,.e Q4),(16,.cb)]) (kb:=[]) (kbx:=[]) rfl h) x8 o h
@[reducible,instance] def RF x0 x7 x8:=Ll.mk (C8 x0 x7 x8)
def Ye(x0:List Q5):Option Int:=
 some (List.length x0:Int)>>=fun v0=>
 some v0>>=fun v1=>
 Z6 x0 v0 0>>=fun v2=>(match v2 with
 | (.inl v3)=>
 some (-1:Int)
 | (.inr v4)=>
 some v4)
theorem Ww(x0 r)(h:Ye x0=some r):PU 339 [KP x0,.fn 281 []] (eI r):=
 Pu4 (hs:=[(7,.n eI 7 none),(3000003,.l [] [0,1,7,8] [] [4] [] (K4 x0))]) (Ye.eq_1 x0) h
@[reducible,instance] def Sj x0:=Lw.mk (Ww x0)
def ZR(x0:List Q5):Option Bool:=
 Ye x0>>=fun v0=>
 some (decide (0≤v0))
theorem C5(x0 r)(h:ZR x0=some r):PU 276 [KP x0,.fn 281 []] (eB r):=
 Pu4 (hs:=[(7,.c eI)]) (ZR.eq_1 x0) h
@[reducible,instance] def RC x0:=Lw.mk (C5 x0)
abbrev NA(s:Q3)(u:Unit)(o:Bool):List Alt:=jb o (fun b=>[.ptr 0 0 0,.bool b]) [.cells 0 (Q8 s).cells]
def Wl(x0:Q3):Option Bool:=
 some ()>>=fun v0=>
 (Un x0.fOp>>=fun v2=>
 some (List.length x0.fe:Int)>>=fun v3=>
 if v3 !=v2 then
 some true
 else
 some (List.length x0.fg:Int)>>=fun v4=>
 if 6<v4 then
 some true
 else
 some false)>>=fun v1=>if v1 then
 some false
 else
 ZR x0.fg>>=fun v7=>
 some (!v7)
theorem Q1x(x0 r)(h:Wl x0=some r):PU 231 [Q8 x0] (eB r):=
 Pu4 (hs:=[(5,.n eI 5 none),(8,.c eI),(9,.split),(13,.n eI 13 none),(14,.split),(18,.c eB),(5000001,.l [] [] [] [1,15] [kk 1] (NA x0))]) (Wl.eq_1 x0) h (q:=qB (NA x0))
abbrev NxR(f r n:Nat)(ks:List Nat)(vs:List AV)(alts:List Alt)(xs:List (List AV))(bs:List Box):Prop:=NxtR Tryz.prog gls [] n (rng Tryz.prog f (r+1)).1 (rng Tryz.prog f (r+1)).2.1 (rng Tryz.prog f (r+1)).2.2 ks vs alts xs bs
section
variable {ρ : Type} {r : ρ}
theorem kIfE{c:Bool}{x y:Option ρ}{A B:Prop}(hA:c=true→x=some r→A)(hB:y=some r→B)(h:(if c=true then x else y)=some r):(c=true→A)∧(c=false→B):=by
 cases c with
 |true=>exact⟨fun _=>hA rfl h,nofun⟩
 |false=>exact⟨nofun,fun _=>hB h⟩
theorem kRg{α υ:Type}{x:Option α}{k:α→Option ρ}{IT:List (List AV)→Prop}{R:List (List AV)→υ→α→Prop}{A:α→Prop}(xs:List (List AV))(u:υ)(a3:IT xs)(hR:∀v,x=some v→R xs u v)(hA:∀v,k v=some r→A v)(h:(x>>=k)=some r):∃xs u o,IT xs∧R xs u o∧A o:=by
 cases x with
 |none=>cases h
 |some v=>exact⟨xs,u,v,a3,hR v rfl,hA v h⟩
theorem kNx{f r' n:Nat}{ks:List Nat}{vs:List AV}{α:Type}{alts:α→List Alt}{xs:List (List AV)}{bs:List Box}{x:Option α}{o:α}(hR:∀o,x=some o→RG f r' n ks vs (alts o) xs bs)(h:x=some o):LeVs vs vs∧NxR f r' n ks vs (alts o) xs bs:=⟨.refl _,⟨bs,.refl _,hR o h⟩⟩
theorem kOt{α:Type}{alts:α→List Alt}{e:Exit}{vs:List AV}{bs:List Box}{o:α}(v:α)(hO:Out (alts v) e vs bs)(h:some v=some o):LeVs vs vs∧Out (alts o) e vs bs:=by cases h;exact⟨.refl _,hO⟩
end
def W7(u:Unit)(o:Int):List Alt:=[⟨fun(x:Int)=>x=o,.normal,fun x=>[.ptr 0 0 0],fun x=>[.cells 0 [.int .i64 x]]⟩,⟨fun(x:Int)=>x=o,.exit 0,fun x=>[.ptr 0 0 0],fun x=>[.cells 0 [.int .i64 x]]⟩]
noncomputable def Ub:List Qc→Int→Option Int
 | [],c=>some c
 |e::t,c=>some (wr (c+1))>>=fun n=>if(2000:Int)<n then some n else Ub t n
theorem EK:∀(l:List Qc) (c o:Int),Ub l c=some o→RG 199 3 12 [3] [.ptr 0 0 0] (W7 () o) (l.map fun y=>[Q8 y.f]) [.cells 0 [.int .i64 c]]
 | [],c,o,h=>by
  cases h;exact Rg0 rfl (.here _ rfl (.refl _) (.refl _))
 |e::t,c,o,h=>Rg1 (hs:=[(8,.n eI 8 none),(10,.split)]) (kb:=[{slot:=3}]) (kbx:=[{slot:=3}]) (by kernel_rfl) (by kernel_rfl)
  (kN _ (rfl:wr (c+1)=_) (fun n=>kIfD (p:=(2000:Int)<n) (kOt (alts:=W7 ()) n (.next (.here _ rfl (.refl _) (.refl _)))) (kNx (f:=199) (r':=3) (n:=12) (ks:=[3]) (vs:=[.ptr 0 0 0]) (alts:=W7 ()) (xs:=t.map fun y=>[Q8 y.f]) (bs:=[.cells 0 [.int .i64 n]]) (EK t n))) h)
noncomputable def MK(x0:Q3):Option Int:=Js x0>>=fun w=>Ub (ZY (.mk w.1)) 0>>=fun v=>some v
theorem Q1w(x0:Q3)(r:Int)(h:MK x0=some r):PU 199 [Q8 x0] (eI r):=
 Pu1 (hs:=[(5,.c M3),(4000004,.l [] [3] [{slot:=3}] [3] [{slot:=3}] W7)]) (by kernel_rfl)
  (kC (sh:=M3) (MM x0) (fun w=>kRg (IT:=fun xs=>ItOk Tryz.prog gls 139 [.ip 13 [Q8 w.1] 0 0] xs) (R:=fun xs (u:Unit) o=>RG 199 3 12 [3] [.ptr 0 0 0] (W7 u o) xs [.cells 0 [.int .i64 0]]) (A:=fun o=>(∀x:Int,x=o→LeT (eI x) (eI r))∧∀x:Int,x=o→LeT (eI x) (eI r)) _ () (T7 w) (EK _ 0)
   (fun v h=>by cases h;exact⟨fun x e=>by subst e;exact .refl _,fun x e=>by subst e;exact .refl _⟩)) h)
def GL(i:Q5):List gLin:=i.fm::i.fAt
def UW(x:Q3):List gLin:=x.fm::(x.fg.map GL).flatten
abbrev AN:= {x:Q3//x.fg.length≤4611686018427387904∧∀i∈x.fg,i.fAt.length≤4611686018427387904}
def Ta(x:AN):AV:=.fn 286 [.ip 13 [Q8 x.1] 0 0]
theorem fr_in{l:Nat}{xs:List (List AV)}{m n:Nat}{b:List Q5}{nb ib:Int}{a:List gLin}(hn:a.length=n)(a4:n≤4611686018427387904):
  ∀(t p:List gLin) (k:Nat),a=p++t→k+t.length=m→(∀(j:Nat) (y:gLin),t[j]? =some y→xs[k+j]? =some [Qi y])→
   JLo 286 6 37 l xs [0,13,14,15,25,26,27] [yvl l,.sl 4 (b.map Q4),.int .i64 nb,.int .i64 ib,.sl 2 (a.map Qi),.int .i64 n,.int .i64 p.length] [] (some k) [0,13,14,15] (.exit 2,[yvl l,.sl 4 (b.map Q4),.int .i64 nb,.int .i64 ib]) (.ret,[yvl l,.sl 4 (b.map Q4),.int .i64 nb,.int .i64 ib]) m
 |t,p,k,ha,hm,hx=>by
  refine JL1 (φ:=(decide ((p.length:Int)<n)=true→∃x:gLin,((0:Int)≤p.length∧(a.map Qi)[Int.toNat p.length]? =some (Qi x))∧l=l∧xs[k]? =some [Qi x]∧
   NxtJ Tryz.prog gls l xs 37 (KN Tryz.prog 286 (6+1)) [0,13,14,15,25,26,27] [0,13,14,15] (.exit 2,[yvl l,.sl 4 (b.map Q4),.int .i64 nb,.int .i64 ib]) (.ret,[yvl l,.sl 4 (b.map Q4),.int .i64 nb,.int .i64 ib]) m [yvl l,.sl 4 (b.map Q4),.int .i64 nb,.int .i64 ib,.sl 2 (a.map Qi),.int .i64 n,.int .i64 (wr ((p.length:Int)+1))] [] (some (k+1))∧
   JO (.exit 2,[yvl l,.sl 4 (b.map Q4),.int .i64 nb,.int .i64 ib]) (.ret,[yvl l,.sl 4 (b.map Q4),.int .i64 nb,.int .i64 ib]) m .ret none [yvl l,.sl 4 (b.map Q4),.int .i64 nb,.int .i64 ib] [])∧
   (decide ((p.length:Int)<n)=false→JO (.exit 2,[yvl l,.sl 4 (b.map Q4),.int .i64 nb,.int .i64 ib]) (.ret,[yvl l,.sl 4 (b.map Q4),.int .i64 nb,.int .i64 ib]) m (.exit 2) (some k) [yvl l,.sl 4 (b.map Q4),.int .i64 nb,.int .i64 ib] []))
   (hs:=[(28,.split),(29,.e Qi)]) (js:=[]) (kb:=[]) (by kernel_rfl) (by kernel_rfl) ⟨fun h=> ?_,fun h=> ?_⟩
  ·have h:=of_decide_eq_true h;cases t with
   |nil=>subst ha;simp at hn;omega
   |cons e t=>
    have a5:p.length<a.length:=by rw[ha];simp
    refine⟨e,⟨by omega,?_⟩,rfl,hx 0 e rfl,⟨_,_,?_,.refl _,fr_in hn a4 t (p++[e]) (k+1) (by rw[ha];simp) (by rw[← hm];simp;omega) (fun j y hj=> ?_)⟩,.b rfl rfl rfl⟩
    ·rw[cqs,ha,cqm,cqq (Nat.le_refl _)];simp
    ·rw[show wr ((p.length:Int)+1)=((p++[e]).length:Int) by rw[ZB (by omega)];simp]
     exact .refl _
    ·rw[show k+1+j=k+(j+1) by omega]
     exact hx (j+1) y (by simpa using hj)
  ·have h:=of_decide_eq_false h;cases t with
   |nil=>exact .a rfl (by rw[← hm];rfl) rfl
   |cons e t=>rw[ha] at hn;simp at hn;omega
theorem fr_out{l:Nat}{xs:List (List AV)}{m n:Nat}{b:List Q5}(hn:b.length=n)(a7:n≤4611686018427387904)(hA:∀i∈b,i.fAt.length≤4611686018427387904):
  ∀(t p:List Q5) (k:Nat),b=p++t→k+((t.map GL).flatten).length=m→(∀(j:Nat) (y:gLin),((t.map GL).flatten)[j]? =some y→xs[k+j]? =some [Qi y])→
   JLo 286 2 37 l xs [0,13,14,15] [yvl l,.sl 4 (b.map Q4),.int .i64 n,.int .i64 p.length] [] (some k) [] (.exit 0,[]) (.ret,[]) m
 |t,p,k,ha,hm,hx=>by
  refine JL1 (φ:=(decide ((p.length:Int)<n)=true→∃x:Q5,((0:Int)≤p.length∧(b.map Q4)[Int.toNat p.length]? =some (Q4 x))∧l=l∧xs[k]? =some [Qi x.fm]∧
   (∃q,JLo 286 6 37 l xs [0,13,14,15,25,26,27] [yvl l,.sl 4 (b.map Q4),.int .i64 n,.int .i64 p.length,.sl 2 (x.fAt.map Qi),.int .i64 ((x.fAt.map Qi).length:Nat),.int .i64 0] [] (some (k+1)) [0,13,14,15] (.exit 2,[yvl l,.sl 4 (b.map Q4),.int .i64 n,.int .i64 p.length]) (.ret,[yvl l,.sl 4 (b.map Q4),.int .i64 n,.int .i64 p.length]) q∧
    NxtJ Tryz.prog gls l xs 37 (KN Tryz.prog 286 (2+1)) [0,13,14,15] [] (.exit 0,[]) (.ret,[]) m [yvl l,.sl 4 (b.map Q4),.int .i64 n,.int .i64 (wr ((p.length:Int)+1))] [] (some q)∧
    JO (.exit 0,[]) (.ret,[]) m .ret none [] [])∧
   JO (.exit 0,[]) (.ret,[]) m .ret none [] [])∧
   (decide ((p.length:Int)<n)=false→JO (.exit 0,[]) (.ret,[]) m (.exit 0) (some k) [] []))
   (hs:=[(16,.split),(17,.e Q4)]) (js:=[(7,⟨[0,13,14,15,25,26,27],[],[0,13,14,15],(.exit 2,[yvl l,.sl 4 (b.map Q4),.int .i64 n,.int .i64 p.length]),(.ret,[yvl l,.sl 4 (b.map Q4),.int .i64 n,.int .i64 p.length])⟩)]) (kb:=[]) (by kernel_rfl) (by kernel_rfl) ⟨fun h=> ?_,fun h=> ?_⟩
  ·have h:=of_decide_eq_true h;cases t with
   |nil=>subst ha;simp at hn;omega
   |cons e t=>
    have a8:p.length<b.length:=by rw[ha];simp
    have a5:=hA e (by rw[ha];simp)
    have a6:(((e::t).map GL).flatten)=e.fm::(e.fAt++(t.map GL).flatten):=by simp[GL]
    rw[a6] at hm hx;refine⟨e,⟨by omega,?_⟩,rfl,hx 0 _ rfl,⟨k+1+e.fAt.length,?_,⟨_,_,?_,.refl _,fr_out hn a7 hA t (p++[e]) (k+1+e.fAt.length) (by rw[ha];simp) (by rw[← hm];simp;omega) (fun j y hj=> ?_)⟩,.b rfl rfl rfl⟩,.b rfl rfl rfl⟩
    ·rw[cqs,ha,cqm,cqq (Nat.le_refl _)];simp
    ·rw[List.length_map];exact fr_in (ib:=p.length) (nb:=n) rfl a5 e.fAt [] (k+1) rfl rfl (fun j y hj=>by
      rw[show k+1+j=k+(j+1) by omega]
      refine hx (j+1) y ?_;rw[List.getElem?_cons_succ,List.getElem?_append_left (cqd.1 hj).1];exact hj)
    ·rw[show wr ((p.length:Int)+1)=((p++[e]).length:Int) by rw[ZB (by omega)];simp]
     exact .refl _
    ·rw[show k+1+e.fAt.length+j=k+(e.fAt.length+j+1) by omega]
     refine hx _ y ?_;rw[List.getElem?_cons_succ,cqq (Nat.le_add_right _ _),Nat.add_sub_cancel_left];exact hj
  ·have h:=of_decide_eq_false h;cases t with
   |nil=>exact .a rfl (by rw[← hm];rfl) rfl
   |cons e t=>rw[ha] at hn;simp at hn;omega
theorem Q8l(x:AN):ItOk Tryz.prog gls 286 [.ip 13 [Q8 x.1] 0 0] ((UW x.1).map fun y=>[Qi y]):=
 ItOk.of (Ve (by kernel_rfl)) false fun l=>by
  have hx:∀(j:Nat) (y:gLin),(UW x.1)[j]? =some y→((UW x.1).map fun y=>[Qi y])[j]? =some [Qi y]:=fun j y hj=>by rw[cqs,hj];rfl
  generalize hxs:((UW x.1).map fun y=>[Qi y])=xs at*
  have hl:xs.length=1+((x.1.fg.map GL).flatten).length:=by rw[← hxs,List.length_map];simp only[UW,List.length_cons];omega
  refine JF1 (φ:=l=l∧xs[0]? =some [Qi x.1.fm]∧(∃q,JLo 286 2 37 l xs [0,13,14,15] [yvl l,.sl 4 (x.1.fg.map Q4),.int .i64 ((x.1.fg.map Q4).length:Nat),.int .i64 0] [] (some 1) [] (.exit 0,[]) (.ret,[]) q∧JQ false xs.length (.tup []) (some q)∧JQ false xs.length (.tup []) none)∧JQ false xs.length (.tup []) none)
   (hs:=[]) (js:=[(3,⟨[0,13,14,15],[],[],(.exit 0,[]),(.ret,[])⟩)]) (by kernel_rfl) ⟨rfl,hx 0 _ rfl,⟨1+((x.1.fg.map GL).flatten).length,?_,⟨rfl,.inl (by rw[hl])⟩,⟨rfl,.inr rfl⟩⟩,⟨rfl,.inr rfl⟩⟩
  rw[List.length_map];exact fr_out rfl x.2.1 x.2.2 x.1.fg [] 1 rfl rfl (fun j y hj=>by
   rw[Nat.add_comm 1 j];exact hx (j+1) y (by rw[UW,List.getElem?_cons_succ];exact hj))
open Classical in
noncomputable def NH(x0:Q3):Option AN:=if h:x0.fg.length≤4611686018427387904∧∀i∈x0.fg,i.fAt.length≤4611686018427387904 then some ⟨x0,h⟩ else none
theorem Q0v(x:Q3)(h:x.fg.length≤4611686018427387904∧∀i∈x.fg,i.fAt.length≤4611686018427387904):NH x=some ⟨x,h⟩:=dif_pos h
theorem Bl(x0:Q3)(r:AN)(h:NH x0=some r):PU 234 [Q8 x0] (Ta r):=by
 unfold NH at h;split at h
 ·cases h;exact Pu1 (φ:=LeT (.fn 286 [.ip 13 [Q8 x0] 0 0]) (.fn 286 [.ip 13 [Q8 x0] 0 0])) (hs:=[]) (by kernel_rfl) (.refl _)
 ·cases h
def Vq(u:Unit)(o:Bool):List Alt:=[⟨fun(x:Unit)=>o=true,.normal,fun x=>[.ptr 0 0 0],fun x=>[.cells 0 [.int .i64 0]]⟩,⟨fun(x:Unit)=>o=false,.ret,fun x=>[.ptr 0 0 0],fun x=>[.cells 0 [.int .i64 1]]⟩]
noncomputable def VL:List gLin→Option Bool
 | []=>some true
 |e::t=>Y8 e>>=fun v=>if(v !=(0:Int))=true then some false else VL t
theorem MY:∀(l:List gLin) (o:Bool),VL l=some o→RG 200 12 38 [2] [.ptr 0 0 0] (Vq () o) (l.map fun y=>[Qi y]) [.cells 0 [.int .i64 0]]
 | [],o,h=>by
  cases h;exact Rg0 rfl (.here () rfl (.refl _) (.refl _))
 |e::t,o,h=>Rg1 (hs:=[(36,.c eI),(37,.split)]) (kb:=[{slot:=2}]) (kbx:=[{slot:=2}]) (by kernel_rfl) (by kernel_rfl)
  (kC (sh:=eI) (Ht e) (fun v=>kIf (c:=v !=(0:Int)) (kOt (alts:=Vq ()) false (.next (.here () rfl (.refl _) (.refl _)))) (kNx (f:=200) (r':=12) (n:=38) (ks:=[2]) (vs:=[.ptr 0 0 0]) (alts:=Vq ()) (xs:=t.map fun y=>[Qi y]) (bs:=[.cells 0 [.int .i64 0]]) (MY t))) h)
noncomputable def VM(x0:Q3):Option Int:=NH x0>>=fun w=>VL (UW w.1)>>=fun v=>some (if v then 0 else 1)
noncomputable def GB(x0:Q3):Option Int:=
 D5 x0>>=fun v0=>if v0=true then(DT x0>>=fun v1=>if v1=true then(Wl x0>>=fun v2=>if v2=true then(DU x0>>=fun v3=>if v3=true then
  (if(x0.fOp==(1:Int))=true then Y6 x0.fb x0.fp>>=fun v4=>if v4=true then VM x0 else some 1 else VM x0)
  else some 10) else some 11) else some 7) else some 5
theorem LY(x0:Q3)(r:Int)(h:VM x0=some r):∃w,PU 234 [Q8 x0] (Ta w)∧∃xs u o,ItOk Tryz.prog gls 286 [.ip 13 [Q8 w.1] 0 0] xs∧RG 200 12 38 [2] [.ptr 0 0 0] (Vq u o) xs [.cells 0 [.int .i64 0]]∧(∀x:Unit,o=true→LeT (eI 0) (eI r))∧∀x:Unit,o=false→LeT (eI 1) (eI r):=
 kC (sh:=Ta) (Bl x0) (fun w=>kRg (IT:=fun xs=>ItOk Tryz.prog gls 286 [.ip 13 [Q8 w.1] 0 0] xs) (R:=fun xs (u:Unit) o=>RG 200 12 38 [2] [.ptr 0 0 0] (Vq u o) xs [.cells 0 [.int .i64 0]]) (A:=fun o=>(∀x:Unit,o=true→LeT (eI 0) (eI r))∧∀x:Unit,o=false→LeT (eI 1) (eI r)) _ () (Q8l w) (MY _)
   (fun v h=>by cases h;exact⟨fun x e=>by subst e;exact .refl _,fun x e=>by subst e;exact .refl _⟩)) h
theorem SC(x0:Q3)(r:Int)(h:GB x0=some r):PU 200 [Q8 x0] (eI r):=
 Pu1 (hs:=[(6,.cb),(10,.cb),(14,.cb),(18,.cb),(23,.split),(29,.cb),(33,.c Ta),(4000013,.l [] [2] [{slot:=2}] [2] [{slot:=2}] Vq)]) (by kernel_rfl)
  (kCb (Ol x0) (kCb (Bm x0) (kCb (Q1x x0) (kCb (Bn x0) (kIf (c:=x0.fOp==(1:Int)) (kCb (EM x0.fb x0.fp) (LY x0 r) (kEr (enc:=eI) 1)) (LY x0 r))
   (kEr (enc:=eI) 10)) (kEr (enc:=eI) 11)) (kEr (enc:=eI) 7)) (kEr (enc:=eI) 5) h)
def Uh(u:Unit)(o:Int):List Alt:=[⟨fun(x:Unit)=>o=0,.normal,fun x=>[.ptr 0 0 0],fun x=>[.cells 0 [.int .i64 0]]⟩,⟨fun(x:Unit)=>¬o=0,.ret,fun x=>[.ptr 0 0 0],fun x=>[.cells 0 [.int .i64 o]]⟩]
noncomputable def J6:List Qc→Option Int
 | []=>some 0
 |e::t=>GB e.f>>=fun v=>if(v !=(0:Int))=true then some v else J6 t
theorem Ly:∀(l:List Qc) (o:Int),J6 l=some o→RG 171 6 19 [2] [.ptr 0 0 0] (Uh () o) (l.map fun y=>[Q8 y.f]) [.cells 0 [.int .i64 0]]
 | [],o,h=>by
  cases h;exact Rg0 rfl (.here () rfl (.refl _) (.refl _))
 |e::t,o,h=>Rg1 (hs:=[(15,.c eI),(17,.split)]) (kb:=[{slot:=2}]) (kbx:=[{slot:=2}]) (by kernel_rfl) (by kernel_rfl)
  (kC (sh:=eI) (SC e.f) (fun v=>kIfE (c:=v !=(0:Int)) (fun hc=>kOt (alts:=Uh ()) v (.next (.here () (by simpa using hc) (.refl _) (.refl _)))) (kNx (f:=171) (r':=6) (n:=19) (ks:=[2]) (vs:=[.ptr 0 0 0]) (alts:=Uh ()) (xs:=t.map fun y=>[Q8 y.f]) (bs:=[.cells 0 [.int .i64 0]]) (Ly t))) h)
noncomputable def Ul(x0:Q3):Option Int:=
 NG x0>>=fun v0=>if(40:Int)<v0 then some 13 else MK x0>>=fun v1=>if(2000:Int)<v1 then some 2 else Js x0>>=fun w=>J6 (ZY (.mk w.1))>>=fun v=>some v
theorem IG(x0:Q3)(r:Int)(h:Ul x0=some r):PU 171 [Q8 x0] (eI r):=
 Pu1 (hs:=[(6,.c eI),(7,.split),(9,.c eI),(10,.split),(12,.c M3),(4000007,.l [] [2] [{slot:=2}] [2] [{slot:=2}] Uh)]) (by kernel_rfl)
  (kC (sh:=eI) (Bi x0) (fun v0=>kIfD (p:=(40:Int)<v0) (kEr (enc:=eI) 13) (kC (sh:=eI) (Q1w x0) (fun v1=>kIfD (p:=(2000:Int)<v1) (kEr (enc:=eI) 2)
   (kC (sh:=M3) (MM x0) (fun w=>kRg (IT:=fun xs=>ItOk Tryz.prog gls 139 [.ip 13 [Q8 w.1] 0 0] xs) (R:=fun xs (u:Unit) o=>RG 171 6 19 [2] [.ptr 0 0 0] (Uh u o) xs [.cells 0 [.int .i64 0]]) (A:=fun o=>(∀x:Unit,o=0→LeT (eI 0) (eI r))∧∀x:Unit,¬o=0→LeT (eI o) (eI r)) _ () (T7 w) (Ly _)
    (fun v h=>by cases h;exact⟨fun x e=>by subst e;exact .refl _,fun x e=>.refl _⟩)))))) h)
def hCk(c:Q2):AV:=.ip 5 [Rz c] 0 0
def XU(s:Q3×Q2)(u:Unit)(o:Int):List Alt:=[⟨fun(x:Unit)=>o=0,.normal,fun x=>[.ip 1 [.agg [hCk s.2]] 0 0,.ptr 0 0 0,.ptr 1 0 0,.ptr 2 0 0],fun x=>[.cells 0 (Q8 s.1).cells,.cells 0 (Qm ⟨0,0,0,0,0⟩).cells,.cells 0 [.int .i64 0]]⟩,
 ⟨fun(x:Unit)=>¬o=0,.ret,fun x=>[.ip 1 [.agg [hCk s.2]] 0 0,.ptr 0 0 0,.ptr 1 0 0,.ptr 2 0 0],fun x=>[.cells 0 (Q8 s.1).cells,.cells 0 (Qm ⟨0,0,0,0,0⟩).cells,.cells 0 [.int .i64 o]]⟩]
noncomputable def Xy(c:Q2):List Qc→Option Int
 | []=>some 0
 |e::t=>Kn c e.f>>=fun v=>if(v !=(0:Int))=true then some v else Xy c t
theorem U7(c:Q2)(x:Q3):∀(l:List Qc) (o:Int),Xy c l=some o→RG 162 5 30 [2,3,4,5] [.ip 1 [.agg [hCk c]] 0 0,.ptr 0 0 0,.ptr 1 0 0,.ptr 2 0 0] (XU (x,c) () o) (l.map fun y=>[Q8 y.f]) [.cells 0 (Q8 x).cells,.cells 0 (Qm ⟨0,0,0,0,0⟩).cells,.cells 0 [.int .i64 0]]
 | [],o,h=>by
  cases h;exact Rg0 rfl (.here () rfl (.refl _) (.refl _))
 |e::t,o,h=>Rg1 (hs:=[(20,.c eI),(22,.split)]) (kb:=[{slot:=3},{slot:=4},{slot:=5}]) (kbx:=[{slot:=3},{slot:=4},{slot:=5}]) (by kernel_rfl) (by kernel_rfl)
  (kC (sh:=eI) (IB c e.f) (fun v=>kIfE (c:=v !=(0:Int)) (fun hc=>kOt (alts:=XU (x,c) ()) v (.next (.here () (by simpa using hc) (.refl _) (.refl _)))) (kNx (f:=162) (r':=5) (n:=30) (ks:=[2,3,4,5]) (vs:=[.ip 1 [.agg [hCk c]] 0 0,.ptr 0 0 0,.ptr 1 0 0,.ptr 2 0 0]) (alts:=XU (x,c) ()) (xs:=t.map fun y=>[Q8 y.f]) (bs:=[.cells 0 (Q8 x).cells,.cells 0 (Qm ⟨0,0,0,0,0⟩).cells,.cells 0 [.int .i64 0]]) (U7 c x t))) h)
noncomputable def Xb(c:Q2)(x:Q3):Option (Qb×Int):=
 Ul x>>=fun v0=>if(v0 !=(0:Int))=true then some (⟨0,0,0,0,0⟩,v0) else Js x>>=fun w=>Xy c (ZY (.mk w.1))>>=fun v=>if v=0 then Zw c x>>=fun q=>some (q.1,q.2) else some (⟨0,0,0,0,0⟩,v)
theorem kSelP{r:Qb×Int}{p:Prop} [Decidable p] {x:Option (Qb×Int)} {y:Qb×Int} {A:Prop} (hA:x=some r→A) (h:(if p then x else some y)=some r):(Unit→p→A)∧(Unit→¬p→LeT (Xk y) (Xk r)):=by
 by_cases hp:p;·rw[if_pos hp] at h;exact⟨fun _ _=>hA h,fun _ e=>absurd hp e⟩
 ·rw[if_neg hp] at h;cases h;exact⟨fun _ e=>absurd e hp,fun _ _=>.refl _⟩
theorem Vj(c:Q2)(x:Q3)(r:Qb×Int)(h:Xb c x=some r):PU 162 [hCk c,Q8 x] (Xk r):=
 Pu1 (hs:=[(3,.z [{slot:=2,fz:=true}] none),(10,.c eI),(12,.split),(16,.c M3),(4000006,.l [] [2,3,4,5] [{slot:=3},{slot:=4},{slot:=5}] [2,3,4,5] [{slot:=3},{slot:=4},{slot:=5}] (XU (x,c))),(27,.c Xk)]) (by kernel_rfl)
  (kC (sh:=eI) (IG x) (fun v0=>kIf (c:=v0 !=(0:Int)) (kEr (enc:=Xk) (⟨0,0,0,0,0⟩,v0))
   (kC (sh:=M3) (MM x) (fun w=>kRg (IT:=fun xs=>ItOk Tryz.prog gls 139 [.ip 13 [Q8 w.1] 0 0] xs) (R:=fun xs (u:Unit) o=>RG 162 5 30 [2,3,4,5] [.ip 1 [.agg [hCk c]] 0 0,.ptr 0 0 0,.ptr 1 0 0,.ptr 2 0 0] (XU (x,c) u o) xs [.cells 0 (Q8 x).cells,.cells 0 (Qm ⟨0,0,0,0,0⟩).cells,.cells 0 [.int .i64 0]])
    (A:=fun o=>(Unit→o=0→∃q,PU 195 [hCk c,Q8 x] (Xk q)∧LeT (Xk q) (Xk r))∧(Unit→¬o=0→LeT (Xk (⟨0,0,0,0,0⟩,o)) (Xk r))) _ () (T7 w) (U7 c x _)
    (fun v=>kSelP (kC (sh:=Xk) (LC c x) (fun q=>kEr (enc:=Xk) (q.1,q.2))))))) h)
end Go.Proofs.YtkgphhemcglgnaaGreatDoor
noncomputable section
namespace Go.Proofs.YtkgphhemcglgnaaGreatDoor
open Go HY
set_option maxRecDepth 1000000
abbrev Jq(s:(Q2×Qf))(u:Qb)(o:Bool):List Alt:=jb o (fun b=>[.ip 5 [.agg [.sl 8 (List.map Ql (s.1).fk.fq),.sl 20 (List.map Q9 (s.1).fk.fd),.sl 1 (List.map eS (s.1).fv),.sl 1 (List.map eS (s.1).fi),.sl 1 (List.map eI (s.1).fw)]] 0 0,.ptr 0 0 0,.ptr 1 0 0,.bool b]) [.cells 0 (Qt (s.2)).cells,.cells 0 (Qm u).cells]
abbrev Jr(s:Unit)(u:Unit)(o:Bool):List Alt:=jb o (fun b=>[.bool b]) []
def K8(x0:Q2)(x1:Qf):Option Int:=
 some ((QO.mk (3:Int) x1.fc (gVal.mk (0:Int) (0:Int)) (Qb.mk (0:Int) (0:Int) (0:Int) (0:Int) (0:Int)) (gLin.mk (0:Int) []) x1.fg []:Q3))>>=fun v0=>
 Xb x0 v0>>=fun v1=>
 if v1.snd !=0 then
 some v1.snd
 else
 XZ x0.fk x1.fc>>=fun v2=>
 if v2.fst.fP==1 then
 some (1:Int)
 else
 some v1.fst>>=fun v3=>
 (if x1.fOp==3 then
 if x1.fH<1 then
 some true
 else
 if 4<x1.fH then
 some true
 else
 some false
 else
 some false)>>=fun v4=>if v4 then
 some (1:Int)
 else
 Xb x0 x1.fo>>=fun v7=>
 if v7.snd !=0 then
 some v7.snd
 else
 some ()>>=fun v8=>
 (XI x1.fo>>=fun a7=>if a7 then
 some true
 else
 if !(v7.fst.fx==v3.fx&& (v7.fst.fA==v3.fA&& (v7.fst.fB==v3.fB&& (v7.fst.fy==v3.fy&& (v7.fst.fC==v3.fC&&true))))) then
 some true
 else
 some false)>>=fun v9=>if v9 then
 some (10:Int)
 else
 some (0:Int)
theorem I4(x0 x1 r)(h:K8 x0 x1=some r):PU 164 [.ip 5 [.agg [.sl 8 (List.map Ql x0.fk.fq),.sl 20 (List.map Q9 x0.fk.fd),.sl 1 (List.map eS x0.fv),.sl 1 (List.map eS x0.fi),.sl 1 (List.map eI x0.fw)]] 0 0,Qt x1] (eI r):=
 Pu4 (hs:=[(16,.n Q8 16 none),(17,.c Xk),(21,.split),(30,.c Gg),(35,.split),(38,.split),(42,.split),(46,.split),(53,.c Xk),(57,.split),(61,.cb),(65,.split),(5000007,.l [] [] [] [0,3,5,48] [kk 3,kk 5] (Jq (x0,x1))),(5000012,.l [] [] [] [66] [] (Jr ()))]) (K8.eq_1 x0 x1) h (q:=qW1 (sh:=Q8) (LeV.agg (.cons lr (.cons lr (.cons lr (.cons lr (.cons lr (.cons lr (.cons lr (.cons lr (.cons lr (.cons lr (.cons (LeV.nil 2) (.cons lr (.cons (LeV.nil 13) .nil)))))))))))))) (hA:=fun v0=>qC (hP:=⟨Vj x0 v0⟩) (hA:=fun v1=>qIf (hB:=qC (hA:=fun v2=>qIf (hB:=qB (Jq (x0,x1)) (hB:=fun v3=>qC (hP:=⟨Vj x0 x1.fo⟩) (hA:=fun v7=>qIf (hB:=qB (Jr ()))))))))))
@[reducible,instance] def BK x0 x1:=Lw.mk (I4 x0 x1)
def Y9(x0:Q2)(x1:Qf):Option Int:=
 Jb x1>>=fun v0=>if v0 then
 if x1.fOp==1 then
 Km x0 x1>>=fun v1=>
 some v1
 else
 if x1.fOp==4 then
 Xb x0 x1.fo>>=fun v2=>
 if v2.snd !=0 then
 some v2.snd
 else
 XI x1.fo>>=fun v3=>if v3 then
 some (0:Int)
 else
 some (10:Int)
 else
 K8 x0 x1>>=fun v4=>
 some v4
 else
 some (5:Int)
theorem Mr(x0 x1 r)(h:Y9 x0 x1=some r):PU 120 [.ip 5 [.agg [.sl 8 (List.map Ql x0.fk.fq),.sl 20 (List.map Q9 x0.fk.fd),.sl 1 (List.map eS x0.fv),.sl 1 (List.map eS x0.fi),.sl 1 (List.map eI x0.fw)]] 0 0,Qt x1] (eI r):=
 Pu4 (hs:=[(8,.cb),(13,.split),(16,.c eI),(18,.split),(23,.c Xk),(27,.split),(31,.cb),(35,.c eI)]) (Y9.eq_1 x0 x1) h (q:=qC (hA:=fun _=>qIf (hA:=qIf (hB:=qIf (hA:=qC (hP:=⟨Vj x0 x1.fo⟩))))))
def Z1(r:(Int×Q2)):AV:=eI r.1
def QZ(r:(Int×Q2)):List Box:=[.cells 0 [.sl 8 (List.map Ql r.2.fk.fq),.sl 20 (List.map Q9 r.2.fk.fd),.ow 1 0 1 (List.length r.2.fv),.ow 2 0 1 (List.length r.2.fi),.ow 3 0 1 (List.length r.2.fw)],.own 0 1 (List.map eS r.2.fv),.own 0 1 (List.map eS r.2.fi),.own 0 1 (List.map eI r.2.fw)]
abbrev Zr(s:List Q0)(u:Int)(o:Q2 ⊕ (Q2×Int)):List Alt:=[⟨fun(x:Q2)=>(Sum.inl x:Q2 ⊕ (Q2×Int))=o,.exit 0,fun x=>[.ptr 0 0 0,.undef],fun x=>[.cells 0 [.sl 8 (List.map Ql x.fk.fq),.sl 20 (List.map Q9 x.fk.fd),.ow 1 0 1 (List.length x.fv),.ow 2 0 1 (List.length x.fi),.ow 3 0 1 (List.length x.fw)],.own 0 1 (List.map eS x.fv),.own 0 1 (List.map eS x.fi),.own 0 1 (List.map eI x.fw)]⟩,⟨fun(x:(Q2×Int))=>(Sum.inr x:Q2 ⊕ (Q2×Int))=o,.ret,fun x=>[.ptr 0 0 0,ii x.2],fun x=>[.cells 0 [.sl 8 (List.map Ql x.1.fk.fq),.sl 20 (List.map Q9 x.1.fk.fd),.ow 1 0 1 (List.length x.1.fv),.ow 2 0 1 (List.length x.1.fi),.ow 3 0 1 (List.length x.1.fw)],.own 0 1 (List.map eS x.1.fv),.own 0 1 (List.map eS x.1.fi),.own 0 1 (List.map eI x.1.fw)]⟩]
abbrev YJ(s:((List Q0)×Int))(u:(Qf×Int×Int))(o:Q2):List Alt:=[⟨fun(x:Q2)=>x=o,.normal,fun x=>[.ptr 0 0 0,.sl 20 (List.map Q9 (s.1)),.ptr 4 0 0,ii (u.2.1),ii (s.2),ii (u.2.2)],fun x=>[.cells 0 [.sl 8 (List.map Ql x.fk.fq),.sl 20 (List.map Q9 x.fk.fd),.ow 1 0 1 (List.length x.fv),.ow 2 0 1 (List.length x.fi),.ow 3 0 1 (List.length x.fw)],.own 0 1 (List.map eS x.fv),.own 0 1 (List.map eS x.fi),.own 0 1 (List.map eI x.fw),.cells 0 (Qt (u.1)).cells]⟩]
mutual
def Z0(x0:Q2)(x1:List Q0):Option (Int×Q2):=
 some (List.length x1:Int)>>=fun v0=>
 some v0>>=fun v1=>
 QQ x0 x1 v0 0>>=fun v2=>(match v2 with
 | (.inl v3)=>
 some ((0:Int),v3)
 | (.inr v4)=>
 some (v4.snd,v4.fst))
 partial_fixpoint
def QQ(x0:Q2)(x1:List Q0)(a8:Int)(a5:Int):Option (Q2 ⊕ (Q2×Int)):=
 if a5<a8 then
 Option.map Q0.f (ix x1 a5)>>=fun v0=>
 if(x0.fw.length+(1:Nat))*(8:Nat)≤(140737488355328:Nat)∧x0.fw.length+(1:Nat)≤(9223372036854775807:Nat) then
 some (x0.fw++[a5])>>=fun v1=>
 Y9 (Q2.mk x0.fk x0.fv x0.fi v1) v0>>=fun v2=>
 if v2 !=0 then
 some (.inr ((Q2.mk x0.fk x0.fv x0.fi v1),v2))
 else
 some ((↑x0.fi.length:Int):Int)>>=fun v3=>
 some (v0,v3,a5)>>=fun v4=>
 (if v0.fOp==1 then
 if(x0.fv.length+(1:Nat))*(16:Nat)≤(140737488355328:Nat)∧x0.fv.length+(1:Nat)≤(9223372036854775807:Nat) then
 if(x0.fi.length+(1:Nat))*(16:Nat)≤(140737488355328:Nat)∧x0.fi.length+(1:Nat)≤(9223372036854775807:Nat) then
 some (Q2.mk x0.fk (x0.fv++[v0.fc]) (x0.fi++[v0.fc]) v1)
 else none
 else none
 else
 some (Q2.mk x0.fk x0.fv x0.fi v1))>>=fun v6=>
 Z0 v6 v4.fst.fd>>=fun v7=>
 if v7.fst !=0 then
 some (.inr (v7.snd,v7.fst))
 else
 if(0:Int)=(0:Int)∧0≤v4.snd.fst∧v4.snd.fst≤(↑v7.snd.fi.length:Int) then
 if List.length (List.take v4.snd.fst.toNat v7.snd.fi)=v4.snd.fst.toNat then
 some (List.take v4.snd.fst.toNat v7.snd.fi)>>=fun v8=>
 if(0:Int)=(0:Int)∧0≤wr ((↑v7.snd.fw.length:Int) - (1:Int))∧wr ((↑v7.snd.fw.length:Int) - (1:Int))≤(↑v7.snd.fw.length:Int) then
 some ((↑v7.snd.fw.length:Int):Int)>>=fun v9=>
 if List.length (List.take ((wr ((↑v7.snd.fw.length:Int) - (1:Int))).toNat) v7.snd.fw)=((wr ((↑v7.snd.fw.length:Int) - (1:Int))).toNat) then
 some (List.take ((wr ((↑v7.snd.fw.length:Int) - (1:Int))).toNat) v7.snd.fw)>>=fun aa=>
 QQ (Q2.mk v7.snd.fk v7.snd.fv v8 aa) x1 a8 (wr (v4.snd.snd+1))
 else none
 else none
 else none
 else none
 else none
 else
 some (.inl x0)
 partial_fixpoint
end
theorem NP:(∀(x0:Q2) (x1:List Q0) (r:(Int×Q2)),Z0 x0 x1=some r→PH 76 [.ptr 0 0 0,Z7 x1] [.cells 0 [.sl 8 (List.map Ql x0.fk.fq),.sl 20 (List.map Q9 x0.fk.fd),.ow 1 0 1 (List.length x0.fv),.ow 2 0 1 (List.length x0.fi),.ow 3 0 1 (List.length x0.fw)],.own 0 1 (List.map eS x0.fv),.own 0 1 (List.map eS x0.fi),.own 0 1 (List.map eI x0.fw)] (Z1 r) (QZ r))∧(∀(x0:Q2) (x1:List Q0) (a5:Int) (a7:Int) (o:Q2 ⊕ (Q2×Int)),QQ x0 x1 a5 a7=some o→LOp [.ptr 0 0 0] 76 2 96 [0,1,11,12] [.ptr 0 0 0,.sl 20 (List.map Q9 x1),ii a5,ii a7] [.cells 0 [.sl 8 (List.map Ql x0.fk.fq),.sl 20 (List.map Q9 x0.fk.fd),.ow 1 0 1 (List.length x0.fv),.ow 2 0 1 (List.length x0.fi),.ow 3 0 1 (List.length x0.fw)],.own 0 1 (List.map eS x0.fv),.own 0 1 (List.map eS x0.fi),.own 0 1 (List.map eI x0.fw)] [0,4] (Zr x1 a5 o)):=
 Z0.mutual_partial_correctness _ _
 (fun QQ Qdf x0 x1 r h=>
 PuH2 (hs:=[(11,.n eI 11 none),(3000003,.l [] [0,1,11,12] [kk 0,{slot:=0,path:=[2],own:=1},{slot:=0,path:=[3],own:=1},{slot:=0,path:=[4],own:=1}] [0,4] [kk 0,{slot:=0,path:=[2],own:=1},{slot:=0,path:=[3],own:=1},{slot:=0,path:=[4],own:=1}] (Zr x1))]) (kb:=[kk 1,{slot:=1,path:=[2],own:=1},{slot:=1,path:=[3],own:=1},{slot:=1,path:=[4],own:=1}]) ((kN _ (mLen (sh:=Q9) x1) fun v0=>(kL2 v0 (hL:=(Qdf x0 x1 v0 0)) (hA:=fun v1 v3=>(kEH (enc:=Z1) (bt:=QZ) ((0:Int),v3) ⟨.refl _,.refl _⟩))
 (hB:=fun v1 v4=>(kEH (enc:=Z1) (bt:=QZ) (v4.snd,v4.fst) ⟨.refl _,.refl _⟩)))) h))
 (fun Z0 QQ Qde Qdf x0 x1 a5 a7 o h=>
 Lp1p (hs:=[(13,.split),(17,.e Qt),(26,.z [{slot:=23,own:=1}] (some (.n eI 26 (some .a)))),(31,.c eI),(33,.split),(39,.n eI 39 none),(42,.split),(51,.a),(62,.a),(68,.h [kk 0,{slot:=0,path:=[2],own:=1},{slot:=0,path:=[3],own:=1},{slot:=0,path:=[4],own:=1}] Z1 QZ),(70,.split),(78,.s),(90,.n eI 90 none),(92,.s),(79,.z [{slot:=78,own:=1,cut:=true}] (some (.n eS 78 none))),(93,.z [{slot:=92,own:=1,cut:=true}] (some (.n eI 92 none))),(6000012,.l [] [] [] [0,1,6,8,11,12] [kk 0,{slot:=0,path:=[2],own:=1},{slot:=0,path:=[3],own:=1},{slot:=0,path:=[4],own:=1},kk 6] (YJ (x1,a5)))]) (kb:=[kk 0,{slot:=0,path:=[2],own:=1},{slot:=0,path:=[3],own:=1},{slot:=0,path:=[4],own:=1}]) (kbx:=[kk 0,{slot:=0,path:=[2],own:=1},{slot:=0,path:=[3],own:=1},{slot:=0,path:=[4],own:=1}]) (by kernel_rfl) (by kernel_rfl) ((kIfD (p:=a7<a5) (kIxR (l:=x1) (k:=a7) J2 fun v0=>(kA (q:=(x0.fw.length+(1:Nat))*(8:Nat)≤(140737488355328:Nat)∧x0.fw.length+(1:Nat)≤(9223372036854775807:Nat)) (sh:=eI) (l:=x0.fw) (kO (sh:=eI) (x0.fw++[a7]) (mA (sh:=eI) x0.fw a7) (nA x0.fw a7) fun v1=>(kT (nM (sh:=eS) x0.fv) (kT (nM (sh:=eS) x0.fi) (kT (nM (sh:=eI) v1) (kC (sh:=eI) (Mr (Q2.mk x0.fk x0.fv x0.fi v1) v0) fun v2=>(kIf (c:=v2 !=0) (kX (alts:=Zr x1 a5) (.inr ((Q2.mk x0.fk x0.fv x0.fi v1),v2)) (.next (.here _ rfl (.refl _) (.refl _))))
 (kN (↑x0.fi.length:Int) rfl fun v3=>(kJ1 (id:=6000012) (v0,v3,a7) (fun v4 ab v5=>(kIf (c:=v0.fOp==1) (kA (q:=(x0.fv.length+(1:Nat))*(16:Nat)≤(140737488355328:Nat)∧x0.fv.length+(1:Nat)≤(9223372036854775807:Nat)) (sh:=eS) (l:=x0.fv) (kA (q:=(x0.fi.length+(1:Nat))*(16:Nat)≤(140737488355328:Nat)∧x0.fi.length+(1:Nat)≤(9223372036854775807:Nat)) (sh:=eS) (l:=x0.fi) (kXj (alts:=YJ (x1,a5)) ab (Q2.mk x0.fk (x0.fv++[v0.fc]) (x0.fi++[v0.fc]) v1) (.here _ rfl (.cons lr (.cons lr (.cons lr (.cons lr (.cons lr (.cons lr .nil)))))) (.cons (LeB.cells (0:Nat) (.cons lr (.cons lr (.cons (LeV.owl (by simp:x0.fv.length+(1:Nat)=List.length (x0.fv++[v0.fc]))) (.cons (LeV.owl (by simp:x0.fi.length+(1:Nat)=List.length (x0.fi++[v0.fc]))) (.cons lr .nil)))))) (.cons (LeB.ownEq (mA (sh:=eS) x0.fv v0.fc)) (.cons (LeB.ownEq (mA (sh:=eS) x0.fi v0.fc)) (.cons (LeB.refl (Box.own (0:Nat) (1:Nat) (List.map eI v1))) (.cons (LeB.refl (Box.cells (0:Nat) [ii v0.fOp,AV.str v0.fc,ii v0.fE,ii v0.fI,ii v0.fH,AV.sl (4:Nat) (List.map Q4 v0.fg),ii v0.fo.fOp,AV.str v0.fo.fc,ii v0.fo.fp.fN,ii v0.fo.fp.fD,ii v0.fo.fb.fx,ii v0.fo.fb.fA,ii v0.fo.fb.fB,ii v0.fo.fb.fy,ii v0.fo.fb.fC,ii v0.fo.fm.fK,AV.sl (2:Nat) (List.map Q7 v0.fo.fm.fL),AV.sl (4:Nat) (List.map Q4 v0.fo.fg),AV.sl (13:Nat) (List.map Qh v0.fo.fe),AV.sl (20:Nat) (List.map Q9 v0.fd)])) .nil)))))))))
 (kXj (alts:=YJ (x1,a5)) ab (Q2.mk x0.fk x0.fv x0.fi v1) (.here _ rfl (.refl _) (.refl _)))))
 (fun v4 v6=>(kH (sh:=Z1) (bt:=QZ) (Qde v6 v4.fst.fd) fun v7=>(kIf (c:=v7.fst !=0) (kX (alts:=Zr x1 a5) (.inr (v7.snd,v7.fst)) (.next (.here _ rfl (.refl _) (.refl _))))
 (kG (p:=(0:Int)=(0:Int)∧0≤v4.snd.fst∧v4.snd.fst≤(↑v7.snd.fi.length:Int)) (kOc (sh:=eS) (List.take v4.snd.fst.toNat v7.snd.fi) (mT (sh:=eS) v7.snd.fi v4.snd.fst.toNat) fun v8=>(kG (p:=(0:Int)=(0:Int)∧0≤wr ((↑v7.snd.fw.length:Int) - (1:Int))∧wr ((↑v7.snd.fw.length:Int) - (1:Int))≤(↑v7.snd.fw.length:Int)) (kN (↑v7.snd.fw.length:Int) rfl fun v9=>(kOc (sh:=eI) (List.take ((wr ((↑v7.snd.fw.length:Int) - (1:Int))).toNat) v7.snd.fw) (mT (sh:=eI) v7.snd.fw ((wr ((↑v7.snd.fw.length:Int) - (1:Int))).toNat)) fun ad=>(kM0 (alts:=Zr x1 a5) (Qdf (Q2.mk v7.snd.fk v7.snd.fv v8 ad) x1 a5 (wr (v4.snd.snd+1))))))))))))))))))))))
 (kX (alts:=Zr x1 a5) (.inl x0) (.here _ rfl (.refl _) (.refl _)))) h))
theorem Mf(x0 x1 r)(h:Z0 x0 x1=some r):PH 76 [.ptr 0 0 0,Z7 x1] [.cells 0 [.sl 8 (List.map Ql x0.fk.fq),.sl 20 (List.map Q9 x0.fk.fd),.ow 1 0 1 (List.length x0.fv),.ow 2 0 1 (List.length x0.fi),.ow 3 0 1 (List.length x0.fw)],.own 0 1 (List.map eS x0.fv),.own 0 1 (List.map eS x0.fi),.own 0 1 (List.map eI x0.fw)] (Z1 r) (QZ r):=(NP).1 x0 x1 r h
abbrev UZ(s:Qp)(u:Unit)(o:Bool):List Alt:=jb o (fun b=>[.ptr 0 0 0,.bool b]) [.cells 0 (Zf s).cells]
def Vl(x0:Qp):Option (List Int×Int):=
 YI x0.fd 40>>=fun v0=>if v0 then
 some ()>>=fun v1=>
 (XJ x0.fd 2000>>=fun v3=>
 if 2000<v3 then
 some true
 else
 some (List.length x0.fq:Int)>>=fun v4=>
 if 128<v4 then
 some true
 else
 some false)>>=fun v2=>if v2 then
 some ([],(2:Int))
 else
 Kl x0.fq>>=fun v7=>
 if v7 !=0 then
 some ([],v7)
 else
 Z0 (Q2.mk x0 [] [] []) x0.fd>>=fun v8=>
 if v8.fst !=0 then
 some (v8.snd.fw,v8.fst)
 else
 some ([],(0:Int))
 else
 some ([],(13:Int))
theorem EZ(x0 r)(h:Vl x0=some r):PU 29 [Zf x0] (LU r):=
 Pu4 (hs:=[(9,.cb),(13,.c eI),(14,.split),(18,.n eI 18 none),(19,.split),(23,.c eI),(25,.split),(33,.h [kk 0,{slot:=0,path:=[2],own:=1},{slot:=0,path:=[3],own:=1},{slot:=0,path:=[4],own:=1}] Z1 QZ),(35,.split),(5000003,.l [] [] [] [1,20] [kk 1] (UZ x0))]) (Vl.eq_1 x0) h (q:=qC (hA:=fun _=>qIf (hA:=qB (UZ x0) (hA:=fun v1=>⟨fun _=>kE (enc:=LU) ([],(2:Int)) (LeT.tup (.cons (LeT.nil 1) (.cons (LeT.refl (ii (2:Int))) .nil)))⟩) (hB:=fun v1=>qC (hA:=fun v7=>qIf (hA:=⟨fun _=>kE (enc:=LU) ([],v7) (LeT.tup (.cons (LeT.nil 1) (.cons (LeT.refl (ii v7)) .nil)))⟩) (hB:=qH (sh:=Z1) (bt:=QZ) (Mf (Q2.mk x0 [] [] []) x0.fd) (hA:=fun v8=>qIf (hA:=qT (nM (sh:=eI) v8.snd.fw)) (hB:=⟨fun _=>kE (enc:=LU) ([],(0:Int)) (LeT.tup (.cons (LeT.nil 1) (.cons (LeT.refl (ii (0:Int))) .nil)))⟩)))))) (hB:=⟨fun _=>kE (enc:=LU) ([],(13:Int)) (LeT.tup (.cons (LeT.nil 1) (.cons (LeT.refl (ii (13:Int))) .nil)))⟩)))
@[reducible,instance] def Q6d x0:=Lw.mk (EZ x0)
end Go.Proofs.YtkgphhemcglgnaaGreatDoor
namespace HY
open Go
section
variable {α β : Type}
theorem bS{a:α}{f:α→Option β}:(some a>>=f)=f a:=rfl
theorem omS{a:α}{f:α→β}:Option.map f (some a)=some (f a):=rfl
theorem Cv{a b:α}:(if(true=true) then a else b)=a:=rfl
theorem DC{a b:α}:(if(false=true) then a else b)=b:=rfl
end
theorem Vo{α:Type}{l p:List α}{x:α}{t:List α}(h:l=p++x::t):ix l p.length=some x:=by
 unfold ix;rw[if_pos (by omega),cqm,h,cqq (Nat.le_refl _)];simp
theorem YU{n:Int}{k:Nat}(h0:0≤n)(h1:n<k)(hk:k≤4611686018427387904):wr (n+1)=n+1:=ZB (by omega)
theorem IY{k:Nat}(h:k≤4611686018427387904):wr ((k:Int)+1)=((k+1:Nat):Int):=by rw[ZB (by omega)];omega
theorem AS{α:Type}{l:List α}{i:Int}(h0:0≤i)(h1:i<l.length):∃x,ix l i=some x∧x∈l:=by
 refine⟨l[i.toNat]'(by omega),?_,List.getElem_mem _⟩
 unfold ix;rw[if_pos h0,cqc]
end HY
namespace Go.Proofs.YtkgphhemcglgnaaGreatDoor
open Go HY
def fits(n:Int):Prop:= -9223372036854775808≤n∧n≤9223372036854775807
def kw:List Str:=[[(115:UInt8),(105:UInt8),(122:UInt8),(101:UInt8)],[(119:UInt8),(104:UInt8),(101:UInt8),(114:UInt8),(101:UInt8)],[(105:UInt8),(110:UInt8)],[(100:UInt8),(101:UInt8),(102:UInt8)],[(111:UInt8),(117:UInt8),(116:UInt8)],[(115:UInt8),(117:UInt8),(109:UInt8)],[(112:UInt8),(114:UInt8),(111:UInt8),(100:UInt8)],[(109:UInt8),(105:UInt8),(110:UInt8)],[(109:UInt8),(97:UInt8),(120:UInt8)],[(115:UInt8),(99:UInt8),(97:UInt8),(110:UInt8)],[(111:UInt8),(118:UInt8),(101:UInt8),(114:UInt8)],[(105:UInt8),(102:UInt8)],[(99:UInt8),(97:UInt8),(115:UInt8),(116:UInt8)],[(102:UInt8),(114:UInt8),(97:UInt8),(99:UInt8)],[(105:UInt8),(110:UInt8),(116:UInt8)],[(102:UInt8),(105:UInt8),(120:UInt8)],[(99:UInt8),(101:UInt8),(105:UInt8),(108:UInt8)],[(102:UInt8),(108:UInt8),(111:UInt8),(111:UInt8),(114:UInt8)],[(122:UInt8),(101:UInt8),(114:UInt8),(111:UInt8)],[(101:UInt8),(118:UInt8),(101:UInt8),(110:UInt8)],[(115:UInt8),(97:UInt8),(116:UInt8)],[(119:UInt8),(114:UInt8),(97:UInt8),(112:UInt8)]]
def low(c:UInt8):Bool:=decide (97≤(c.toNat:Int))&&decide ((c.toNat:Int)≤122)
def tl(c:UInt8):Bool:=low c || (decide (48≤(c.toNat:Int))&&decide ((c.toNat:Int)≤57)) || ((c.toNat:Int)==95)
def nm(s:Str):Bool:=decide (1≤(s.length:Int))&& (decide ((s.length:Int)≤16)&& (!(kw.contains s)&& ((match s with | []=>false | c::_=>low c)&&s.all tl)))
theorem Pn(s:Str):G7 s=some (kw.contains s):=by
 unfold G7;rw[bS];have key:∀(a:Str) (l:List Str) (x:Option Bool),x=some (l.contains s)→(if s==a then some true else x)=some ((a::l).contains s):=fun a l x h=>by
  rw[List.contains_cons];cases e:s==a;·rw[DC,h];rfl
  ·rfl
 have:∀x:Option Bool,x=some (kw.contains s)→(x>>=fun v1=>if v1 then some true else some false)=some (kw.contains s):=fun x h=>by
  rw[h,bS];cases kw.contains s<;>rfl
 refine this _ ?_;unfold kw
 repeat (first | exact rfl | refine key _ _ _ ?_)
theorem R5(s:Str)(hl:s.length≤1048576):ZG s s.length 0=some (if s.all tl then .inl () else .inr false):=by
 refine loopEq (F:=fun i=>ZG s s.length i) (l:=s) (fun t=>if t.all tl then .inl () else .inr false) ?_ ?_
 ·show ZG s s.length (s.length:Int)=_;rw[ZG,if_neg (by omega)];rfl
 ·intro i c t h0 h1 a3 ih;show ZG s s.length i=_;rw[ZG,if_pos h1,a3,bS,bS,YU h0 h1 (by omega),List.all_cons,ih]
  unfold tl low;by_cases c1:(97:Int)≤c.toNat<;>by_cases c2:(c.toNat:Int)≤122<;>by_cases c3:(48:Int)≤c.toNat<;>by_cases c4:(c.toNat:Int)≤57<;>by_cases c5:(c.toNat:Int)=95<;>simp[c1,c2,c3,c4,c5,bS,show((c.toNat:Int)<97)=¬((97:Int)≤c.toNat) by simp,show((c.toNat:Int)<48)=¬((48:Int)≤c.toNat) by simp,show((122:Int)<c.toNat)=¬((c.toNat:Int)≤122) by simp,show((57:Int)<c.toNat)=¬((c.toNat:Int)≤57) by simp]<;>omega
theorem Iq(s:Str):Vt s=some (nm s):=by
 unfold Vt nm;rw[bS];by_cases h1:(s.length:Int)<1;·rw[if_pos h1,bS,if_pos rfl,decide_eq_false (by omega)];rfl
 ·rw[if_neg h1,decide_eq_true (by omega)]
  by_cases h2:16< (s.length:Int);·rw[if_pos h2,bS,if_pos rfl,decide_eq_false (by omega)];rfl
  ·have hl:s.length≤1048576:=by omega
   rw[if_neg h2,Pn,decide_eq_true (by omega)]
   cases hk:kw.contains s with
   |true=>simp only[bS,if_true];rfl
   |false=>
    simp only[bS,DC];cases s with
    |nil=>simp at h1
    |cons c t=>
     have h3:=R5 (c::t) hl;simp only[show ix (c::t) 0=some c from rfl,bS];unfold low;by_cases c1:(c.toNat:Int)<97;·rw[if_pos c1,bS,if_pos rfl,decide_eq_false (by omega)];rfl
     ·rw[if_neg c1,decide_eq_true (by omega)]
      by_cases c2:(122:Int)<c.toNat;·rw[if_pos c2,bS,if_pos rfl,decide_eq_false (by omega)];rfl
      ·rw[if_neg c2];simp only[bS,DC];rw[h3,bS,decide_eq_true (show(c.toNat:Int)≤122 by omega)]
       cases(c::t).all tl<;>rfl
def badL:Option Qo→List Qo→Bool
 |_,[]=>false
 |p,m::t=>(!(nm m.fc) || ((m.fBy==0) || (match p with | none=>false | some q=> !(Op.bytesLess q.fc m.fc)))) || badL (some m) t
theorem Rr(p:Option Qo)(m:Qo)(t:List Qo):badL p (m::t)=((!(nm m.fc) || ((m.fBy==0) || (match p with | none=>false | some q=> !(Op.bytesLess q.fc m.fc)))) || badL (some m) t):=rfl
def okL(l:gLin):Prop:=fits l.fK∧l.fL.length*24≤140737488351232∧∀m∈l.fL,fits m.fBy
def Jm(l:gLin):Bool:= !(badL none l.fL)
theorem S9(l:gLin)(h:okL l):XY l l.fL l.fL.length 0=some (if badL none l.fL then .inr 1 else .inl ()):=by
 obtain⟨_,hl,hm⟩:=h;have loop:∀(t p:List Qo),l.fL=p++t→XY l l.fL l.fL.length p.length=some (if badL p.getLast? t then .inr 1 else .inl ()):=by
  intro t
  induction t with
  |nil=>intro p e;rw[XY,if_neg (by rw[e];simp)];rfl
  |cons c t ih=>
   intro p e;have a4:(p.length:Int)< (l.fL.length:Int):=by rw[e];simp;omega
   rw[XY,if_pos a4,Vo e,bS,bS,Iq,YU (by omega) a4 (by omega)]
   have a3:=ih (p++[c]) (by rw[e];simp)
   rw[show((p++[c]).length:Int)=(p.length:Int)+1 by simp] at a3
   rw[List.getLast?_concat] at a3;rw[Rr];cases hn:nm c.fc with
   |false=>rfl
   |true=>
    cases hb:c.fBy==(0:Int) with
    |true=>simp only[bS,if_true];rfl
    |false=>
     rcases List.eq_nil_or_concat p with rfl | ⟨q,y,hq⟩
     ·simp only[bS,if_true,if_false,cqk];rw[if_neg (by simp)]
      simp only[bS,if_false,cqk];rw[a3];rfl
     ·rw[List.concat_eq_append] at hq;subst hq;simp only[bS,if_true,if_false,cqk];have a6:(((q++[y]).length:Nat):Int)=q.length+1:=by simp
      rw[if_pos (by omega),ZB (by omega)]
      rw[show(((q++[y]).length:Nat):Int) - 1=(q.length:Int) by simp,Vo (show l.fL=q++y::(c::t) by rw[e];simp),bS,List.getLast?_concat]
      cases hb2:Op.bytesLess y.fc c.fc with
      |true=>simp only[hb2,Bool.not_true,Bool.or_false,Bool.false_or,bS,if_false,cqk];rw[a3]
      |false=>simp only[hb2,Bool.not_false,if_true,bS,Bool.or_true,Bool.true_or]
 exact loop l.fL [] rfl
theorem VA(l:gLin)(h:okL l):Y8 l=some (if Jm l then 0 else 1):=by
 unfold Y8 Jm;rw[bS,bS,S9 l h,bS];cases badL none l.fL<;>rfl
def okI(x:Q5):Prop:=okL x.fm∧x.fAt.length*32≤140737488351232∧∀l∈x.fAt,okL l
inductive okE:Qc→Prop
 |mk (x:Q3) (h1:okL x.fm) (h2:x.fg.length*72≤140737488351232) (h3:∀i∈x.fg,okI i) (h4:x.fe.length*160≤140737488351232) (h5:∀a∈x.fe,okE a):okE (.mk x)
inductive okS:Q0→Prop
 |mk (x:Qf) (h1:x.fg.length*72≤140737488351232) (h2:∀i∈x.fg,okI i) (h3:okE (.mk x.fo)) (h4:x.fd.length*256≤140737488351232) (h5:∀a∈x.fd,okS a):okS (.mk x)
def okSs(l:List Q0):Prop:=l.length*256≤140737488351232∧∀a∈l,okS a
theorem okE.of{x:Q3}(h:okE (.mk x)):okL x.fm∧x.fg.length*72≤140737488351232∧(∀i∈x.fg,okI i)∧x.fe.length*160≤140737488351232∧∀a∈x.fe,okE a:=by
 cases h with | mk _ h1 h2 h3 h4 h5=>exact⟨h1,h2,h3,h4,h5⟩
theorem okS.of{x:Qf}(h:okS (.mk x)):x.fg.length*72≤140737488351232∧(∀i∈x.fg,okI i)∧okE (.mk x.fo)∧okSs x.fd:=by
 cases h with | mk _ h1 h2 h3 h4 h5=>exact⟨h1,h2,h3,h4,h5⟩
def M6(n:Int):List Int→Option Int
 | []=>some n
 |v::t=>if v<1∨4096<n*v then none else M6 (n*v) t
theorem Q7g{n v:Int}{t:List Int}(h:v<1∨4096<n*v):M6 n (v::t)=none:=by rw[M6,if_pos h]
theorem Qa0{n v:Int}{t:List Int}(h:¬(v<1∨4096<n*v)):M6 n (v::t)=M6 (n*v) t:=by rw[M6,if_neg h]
def zT:Qb:=⟨0,0,0,0,0⟩
def tyOK(t:Qb):Bool:=if t.fx=1∨t.fx=3 then t.fA==0&& (t.fB==0&& (t.fy==0&&t.fC==0)) else decide (t.fx=2∧2≤t.fA∧t.fA≤31∧0≤t.fB∧t.fB≤30∧1≤t.fy∧t.fy≤4∧(t.fC=1∨t.fC=2))
def Fe(d:List Int):Int:=if 6<d.length then 2 else if d.any (fun v=>decide (v<1)) then 1 else if(M6 1 d).isSome then 0 else 2
def vlOK(t:Qb)(v:gVal):Bool:=
 if t.fx=2 then decide (v.fD=1∧ -(2^ (t.fA - 1).toNat:Int)≤v.fN∧v.fN< (2^ (t.fA - 1).toNat:Int))
 else decide (-2147483647≤v.fN∧v.fN≤2147483647∧1≤v.fD∧v.fD≤2147483647∧(if t.fx=3 then v.fD=1 else Nat.gcd v.fN.natAbs v.fD.natAbs=1))
def zLn(l:gLin):Bool:=l.fK==0&&l.fL.isEmpty
def wfI(i:Q5):Bool:=if i.fF=[] then i.fAt.isEmpty else zLn i.fm
def plE(x:Q3):Bool:=decide (1≤x.fOp∧x.fOp≤18∧(x.fOp=1∨(x.fp.fN=0∧x.fp.fD=0))∧(x.fOp=1∨x.fOp=12∨x.fb=zT)∧(x.fOp=2∨zLn x.fm=true)∧(x.fOp=3∨(x.fc=[]∧x.fg=[])))&&x.fg.all wfI
def naE(x:Q3):Bool:=(x.fOp !=3 || nm x.fc)&&x.fg.all fun i=>i.fF==[] || nm i.fF
def Tn(op:Int):Int:=if op=1∨op=2∨op=3 then 0 else if op=8∨op=12∨op=18 then 1 else if op=11 then 3 else 2
def isC(x:Q3):Bool:=decide (13≤x.fOp)&&decide (x.fOp≤18)
def WI(op i:Int):Bool:=(op==11&&i==0) || op==16 || op==17 || op==18
def raE(x:Q3):Bool:=decide ((x.fe.length:Int)=Tn x.fOp∧x.fg.length≤6)&&x.fg.all fun i=>decide (i.fAt.length≤6)
def argG(op:Int):Int→List Qc→Bool
 |_,[]=>true
 |i,a::t=>(isC a.f==WI op i)&&argG op (i+1) t
def tyE(x:Q3):Bool:=(!(decide (x.fOp=1∨x.fOp=12)) || tyOK x.fb)&&argG x.fOp 0 x.fe
def foE(x:Q3):Bool:=(x.fOp !=1 || vlOK x.fb x.fp)&& (UW x).all Jm
def CB(x:Q3):Int:=if plE x=false then 5 else if naE x=false then 7 else if raE x=false then 11 else if tyE x=false then 10 else if foE x=false then 1 else 0
def fstE{α:Type}(f:α→Int):List α→Int
 | []=>0
 |a::t=>if f a≠0 then f a else fstE f t
def maxL(l:List Nat):Nat:=l.foldr max 0
def dpE:Qc→Nat
 | .mk x=>1+maxL (x.fe.attach.map fun a=>dpE a.1)
 termination_by e=>SizeOf.sizeOf e
 decreasing_by exact Qc.lt a.2
def GJ(e:Q3):Int:=if 40<dpE (.mk e) then 13 else if 2000< (ZY (.mk e)).length then 2 else fstE (fun y=>CB y.f) (ZY (.mk e))
def VD(a3:List Qr)(a4:Str):Option Qr:=a3.find? fun b=>b.fc==a4
def zBuf:Qr:=Qr.mk [] (Qb.mk (0:Int) (0:Int) (0:Int) (0:Int) (0:Int)) [] (0:Int)
def Dg:List Qr→List Qr→Int
 |_,[]=>0
 |p,b::t=>if nm b.fc=false then 7 else if p.any (fun x=>x.fc==b.fc) then 8 else if tyOK b.fb=false then 10 else if Fe b.fJ≠0 then Fe b.fJ else if b.fP<1∨3<b.fP then 1 else Dg (p++[b]) t
def inS(sc:List Str)(l:gLin):Bool:=l.fL.all fun m=>sc.contains m.fc
def Cb(n:Qp):List Q5→Int
 | []=>0
 |i::t=>if i.fF=[] then Cb n t else match VD n.fq i.fF with
  |none=>9
  |some b=>if b.fb.fx≠3 then 10 else if b.fJ.length≠i.fAt.length then 11 else Cb n t
def Nt(n:Qp)(sc:List Str)(x:Q3):Int:=if(UW x).all (inS sc)=false then 9 else if x.fOp≠3 then 0 else match VD n.fq x.fc with
 |none=>9
 |some b=>if b.fJ.length≠x.fg.length then 11 else Cb n x.fg
def kd1(n:Qp)(x:Q3)(l:List (Qb×Int)):Qb×Int:=
 if l.any (fun r=>r.2 !=0) then(zT,10) else if x.fOp=1∨x.fOp=12 then(x.fb,0) else if x.fOp=2 then(⟨3,0,0,0,0⟩,0)
 else if x.fOp=3 then(((VD n.fq x.fc).getD zBuf).fb,0) else if x.fOp=16∨x.fOp=17∨x.fOp=18 then(zT,0)
 else match l.reverse with
  | []=>(zT,10)
  | [a]=>(a.1,0)
  |a::b::_=>if b.1≠a.1 then(zT,10) else if isC x then(zT,0) else(a.1,0)
def kd(n:Qp):Qc→Qb×Int
 | .mk x=>kd1 n x (x.fe.attach.map fun a=>kd n a.1)
 termination_by e=>SizeOf.sizeOf e
 decreasing_by exact Qc.lt a.2
def U5(n:Qp)(sc:List Str)(x:Q3):Qb×Int:=
 if GJ x≠0 then(zT,GJ x) else if fstE (fun y=>Nt n sc y.f) (ZY (.mk x))≠0 then(zT,fstE (fun y=>Nt n sc y.f) (ZY (.mk x))) else kd n (.mk x)
def isZE(x:Q3):Bool:=decide (x.fOp=0∧x.fc=[]∧x.fp.fN=0∧x.fp.fD=0∧x.fb=zT∧zLn x.fm=true∧x.fg.length=0∧x.fe.length=0)
def plS(x:Qf):Bool:=decide ((x.fOp=1∨x.fOp=2∨x.fOp=3∨x.fOp=4)∧(x.fOp=4→x.fc=[])∧(x.fOp≠1→x.fE=0∧x.fI=0)∧(x.fOp≠3→x.fH=0)∧(¬(x.fOp=2∨x.fOp=3)→x.fg.length=0)∧(x.fOp=1→isZE x.fo=true)∧(x.fOp=2∨x.fOp=3→x.fd.length=0))
def rdE(x:Qf):Q3:=QO.mk (3:Int) x.fc (gVal.mk (0:Int) (0:Int)) (Qb.mk (0:Int) (0:Int) (0:Int) (0:Int) (0:Int)) (gLin.mk (0:Int) []) x.fg []
def Ae(n:Qp)(sc:List Str)(x:Qf):Int:=
 if(U5 n sc (rdE x)).2≠0 then(U5 n sc (rdE x)).2
 else if((VD n.fq x.fc).getD zBuf).fP=1∨(x.fOp=3∧(x.fH<1∨4<x.fH)) then 1
 else if(U5 n sc x.fo).2≠0 then(U5 n sc x.fo).2
 else if isC x.fo=true∨(U5 n sc x.fo).1≠((VD n.fq x.fc).getD zBuf).fb then 10 else 0
def Tk(n:Qp)(a3:List Str)(x:Qf):Int:=
 if nm x.fc=false then 7 else if(VD n.fq x.fc).isSome∨a3.contains x.fc=true then 8 else if x.fE<1∨65536<x.fE∨x.fI<0∨3<x.fI then 1 else 0
def GN(n:Qp)(sc a3:List Str)(x:Qf):Int:=
 if plS x=false then 5 else if x.fOp=1 then Tk n a3 x
 else if x.fOp=4 then(if(U5 n sc x.fo).2≠0 then(U5 n sc x.fo).2 else if isC x.fo then 0 else 10)
 else Ae n sc x
abbrev Fl:=List Str×List Int×Int
def bdL(n:Qp)(sc:List Str)(a3:List Int):List (Qf× (List Str→List Str→List Int→Fl))→Int→List Str→Fl
 | [],_,used=>(used,[],0)
 | (x,g)::t,i,used=>
  if GN n sc used x≠0 then([],a3++[i],GN n sc used x)
  else if x.fOp=1 then(if(g (sc++[x.fc]) (used++[x.fc]) (a3++[i])).2.2≠0 then g (sc++[x.fc]) (used++[x.fc]) (a3++[i]) else bdL n sc a3 t (i+1) (g (sc++[x.fc]) (used++[x.fc]) (a3++[i])).1)
  else(if(g sc used (a3++[i])).2.2≠0 then g sc used (a3++[i]) else bdL n sc a3 t (i+1) (g sc used (a3++[i])).1)
def bd(n:Qp):Q0→List Str→List Str→List Int→Fl
 | .mk x=>fun sc a3 a4=>bdL n sc a4 (x.fd.attach.map fun a=>(a.1.f,bd n a.1)) 0 a3
 termination_by e=>SizeOf.sizeOf e
 decreasing_by exact Q0.lt a.2
def bdB(n:Qp)(sc:List Str)(a4:List Int)(l:List Q0)(a3:List Str):Fl:=bdL n sc a4 (l.map fun a=>(a.f,bd n a)) 0 a3
theorem bd_mk(n:Qp)(x:Qf)(sc a3:List Str)(a4:List Int):bd n (.mk x) sc a3 a4=bdB n sc a4 x.fd a3:=by
 rw[bd];simp[bdB]
theorem bd_f(n:Qp)(s:Q0)(sc a3:List Str)(a4:List Int):bd n s sc a3 a4=bdB n sc a4 s.f.fd a3:=by
 cases s with
 |mk x=>rw[bd_mk];rfl
def dp:Q0→Nat
 | .mk x=>1+maxL (x.fd.attach.map fun a=>dp a.1)
 termination_by e=>SizeOf.sizeOf e
 decreasing_by exact Q0.lt a.2
def dpL(l:List Q0):Nat:=maxL (l.map dp)
def sz:Q0→Nat
 | .mk x=>1+(x.fd.attach.map fun a=>sz a.1).sum
 termination_by e=>SizeOf.sizeOf e
 decreasing_by exact Q0.lt a.2
def szL(l:List Q0):Nat:=(l.map sz).sum
def vd(n:Qp):List Int×Int:=
 if 40<dpL n.fd then([],13) else if 2000<szL n.fd∨128<n.fq.length then([],2) else if Dg [] n.fq≠0 then([],Dg [] n.fq)
 else((bdB n [] [] n.fd []).2.1,(bdB n [] [] n.fd []).2.2)
theorem bI{α β:Type}{c:Prop} [Decidable c] {x y:Option α} {f:α→Option β}:((if c then x else y)>>=f)=if c then x>>=f else y>>=f:=by split<;>rfl
theorem Cz(t:Qb):Zo t=some (if tyOK t=true then 0 else 10):=by
 unfold Zo WV Zy tyOK;simp only[bS,bI,Cv,DC,beq_iff_eq,bne_iff_ne,cqb,decide_eq_true_eq,Bool.true_and,Bool.and_true]
 grind
theorem Da(x:Q3):XI x=some (isC x):=by
 unfold XI isC
 grind
theorem Q5j(op:Int):Un op=some (Tn op):=by
 unfold Un Tn;simp only[bS,beq_iff_eq]
 grind
theorem Q5k(op i:Int):K7 op i=some (WI op i):=by
 unfold K7 WI;simp only[bS,beq_iff_eq]
 grind
theorem wrap32(c:UInt8):IntKind.i32.wrap (c.toNat:Int)=c.toNat:=by
 have:=c.toNat_lt;rw[IntKind.wrap_i32];omega
theorem Q0c(c:UInt8):Jw (c.toNat:Int)=some (low c):=by
 unfold Jw low;grind
theorem Q9h(c:UInt8):G6 (c.toNat:Int)=some (tl c):=by
 unfold G6 WU tl;rw[Q0c];simp only[bS];grind
def spn(q:UInt8→Bool):Str→Nat
 | []=>0
 |c::t=>if q c then spn q t+1 else 0
theorem Q42(q:UInt8→Bool):∀s:Str,(spn q s=s.length)=(s.all q=true)∧spn q s≤s.length
 | []=>by simp[spn]
 |c::t=>by
  have ih:=Q42 q t;unfold spn;cases hq:q c with
  |true=>simp only[if_true,List.length_cons,List.all_cons,hq,Bool.true_and,Nat.add_right_cancel_iff];exact⟨ih.1,by omega⟩
  |false=>simp[hq]
theorem PO(s:Str)(hl:s.length≤1048576):∀(t p:Str),s=p++t→Xd s p.length=some ((p.length:Int)+spn tl t)
 | [],p,e=>by
  rw[Xd];subst e;simp[spn,bS]
 |c::t,p,e=>by
  have ih:=PO s hl t (p++[c]) (by rw[e];simp)
  have a3:(p.length:Int)<s.length:=by rw[e];simp;omega
  rw[Xd];simp only[bS];rw[if_pos a3,Vo e,bS,wrap32,Q9h,bS];unfold spn;cases hc:tl c with
  |true=>
   simp only[Cv,bS];rw[YU (by omega) a3 (by omega)]
   rw[show((p++[c]).length:Int)=(p.length:Int)+1 by simp] at ih
   rw[ih];simp;omega
  |false=>simp[bS]
theorem p_span(s:Str)(hl:s.length≤1048576):J8 s=some (spn tl s:Int):=by
 unfold J8;simp only[bS];have e:Xd s 0=_:=PO s hl s [] rfl;rw[e];simp[bS]
theorem Q5h(l:List Str)(s:Str)(hl:l.length≤4611686018427387904):∃r,ZA l s l.length 0=some r∧(match r with | .inl _=>l.contains s=false | .inr k=>0≤k∧l.contains s=true):=by
 have key:∀(t p:List Str),l=p++t→∃r,ZA l s l.length p.length=some r∧(match r with | .inl _=>t.contains s=false | .inr k=>0≤k∧t.contains s=true):=by
  intro t
  induction t with
  |nil=>intro p e;subst e;exact⟨_,by rw[ZA];simp;rfl,rfl⟩
  |cons c t ih=>
   intro p e;have a3:(p.length:Int)<l.length:=by rw[e];simp;omega
   rw[ZA,if_pos a3,Vo e,bS,List.contains_cons];cases hc:s==c with
   |true=>exact⟨_,rfl,by omega,rfl⟩
   |false=>
    rw[if_neg (by simp),YU (by omega) a3 hl]
    have:=ih (p++[c]) (by rw[e];simp)
    rw[show((p++[c]).length:Int)=(p.length:Int)+1 by simp] at this
    simpa using this
 exact key l [] rfl
theorem LK(l:List Str)(s:Str)(hl:l.length≤4611686018427387904):ZS l s=some (l.contains s):=by
 obtain⟨r,e,h⟩:=Q5h l s hl;unfold ZS VU;simp only[bS];rw[e];cases r with
 |inl a=>simp only[bS];rw[h];rfl
 |inr k=>simp only[bS];rw[h.2];simp[h.1]
theorem kwL_kw:kwL=kw:=rfl
theorem Ex(s:Str):KR s=some (nm s):=by
 unfold KR nm;cases s with
 |nil=>simp
 |cons c t=>
  simp only[show(!(c::t==([]:Str)))=true from rfl,if_true];by_cases h2:((c::t).length:Int)≤16
  ·rw[if_pos h2,show ix (c::t) 0=some c from rfl,bS,wrap32,Q0c,bS,decide_eq_true (p:=1≤((c::t).length:Int)) (by simp;omega),decide_eq_true h2]
   simp only[Bool.true_and];cases hc:low c with
   |false=>simp
   |true=>
    rw[if_pos rfl,p_span _ (by omega),bS]
    obtain⟨h3,h4⟩:=Q42 tl (c::t);by_cases h5:spn tl (c::t)=(c::t).length
    ·rw[if_pos (by simp[h5])]
     unfold UR N4;rw[bS,LK _ _ (by decide),bS,kwL_kw,bS,show(c::t).all tl=true from h3▸h5]
     simp
    ·rw[if_neg (by simpa using (by omega:¬((spn tl (c::t):Int)=(c::t).length)))]
     have:(c::t).all tl=false:=by
      cases h:(c::t).all tl with
      |true=>exact absurd (h3.symm▸h:_) h5
      |false=>rfl
     rw[this];simp
  ·rw[if_neg h2,decide_eq_false (p:=((c::t).length:Int)≤16) h2];simp
theorem idxF{α:Type}{l:List α}{q:α→Bool}{L:Int→Option (Unit ⊕ Int)}{p:α→Option Bool}(hl:l.length≤4611686018427387904)
  (hL:∀i,L i=if i< (l.length:Int) then ix l i>>=fun v=>p v>>=fun b=>if b=true then some (.inr i) else L (wr (i+1)) else some (.inl ()))
  (hp:∀x∈l,p x=some (q x)):∃r,L 0=some r∧(match r with | .inl _=>l.any q=false | .inr k=>0≤k∧l.any q=true):=by
 have key:∀(t p:List α),l=p++t→∃r,L p.length=some r∧(match r with | .inl _=>t.any q=false | .inr k=>0≤k∧t.any q=true):=by
  intro t
  induction t with
  |nil=>intro p e;subst e;exact⟨_,by rw[hL];simp;rfl,rfl⟩
  |cons c t ih=>
   intro p e;have a3:(p.length:Int)<l.length:=by rw[e];simp;omega
   rw[hL,if_pos a3,Vo e,bS,hp c (by rw[e];simp),bS,List.any_cons]
   cases hc:q c with
   |true=>exact⟨_,rfl,by omega,rfl⟩
   |false=>
    rw[if_neg (by simp),YU (by omega) a3 hl]
    have:=ih (p++[c]) (by rw[e];simp)
    rw[show((p++[c]).length:Int)=(p.length:Int)+1 by simp] at this
    simpa using this
 exact key l [] rfl
theorem Hy{α:Type}(q:α→Bool)(l:List α):(!(l.any fun x=> !(q x)))=l.all q:=by
 induction l with
 |nil=>rfl
 |cons a t ih=>rw[List.any_cons,List.all_cons,← ih];cases q a<;>simp
theorem Q0b(l:gLin):Uc l=some (zLn l):=by
 unfold Uc zLn;cases l with
 |mk k t=>cases t<;>simp[bS]<;>grind
theorem Q0d(i:Q5):J7 i=some (wfI i):=by
 unfold J7 wfI;rw[Q0b];by_cases h:i.fF=[]
 ·simp only[h,bS,if_true,beq_self_eq_true];cases i.fAt with
  |nil=>rfl
  |cons a t=>simp;omega
 ·simp[h,bS]
theorem p_cf1(l:List Q5)(hl:l.length≤4611686018427387904):ZP l=some (l.any fun i=> !(wfI i)):=by
 obtain⟨r,e,h⟩:=idxF (l:=l) (q:=fun i=> !(wfI i)) (L:=Z4 l l.length) hl (fun i=>by rw[Z4]) (fun x _=>by unfold Dz;rw[Q0d,bS])
 unfold ZP Yc;simp only[bS];rw[e];cases r with
 |inl a=>simp only[bS];rw[h];rfl
 |inr k=>simp only[bS];rw[h.2];simp[h.1]
theorem p_cf2(l:List Q5)(hl:l.length≤4611686018427387904):ZQ l=some (l.any fun i=> !(i.fF==[] || nm i.fF)):=by
 obtain⟨r,e,h⟩:=idxF (l:=l) (q:=fun i=> !(i.fF==[] || nm i.fF)) (L:=Z5 l l.length) hl (fun i=>by rw[Z5]) (fun x _=>by unfold Ck;rw[Ex];cases x.fF==[]<;>rfl)
 unfold ZQ Yd;simp only[bS];rw[e];cases r with
 |inl a=>simp only[bS];rw[h];rfl
 |inr k=>simp only[bS];rw[h.2];simp[h.1]
theorem p_cf3(l:List Q5)(hl:l.length≤4611686018427387904):ZR l=some (l.any fun i=> !(decide (i.fAt.length≤6))):=by
 obtain⟨r,e,h⟩:=idxF (l:=l) (q:=fun i=> !(decide (i.fAt.length≤6))) (L:=Z6 l l.length) hl (fun i=>by rw[Z6]) (fun x _=>by unfold WN;simp only[bS];congr 1;rw[Bool.eq_iff_iff];simp;omega)
 unfold ZR Ye;simp only[bS];rw[e];cases r with
 |inl a=>simp only[bS];rw[h];rfl
 |inr k=>simp only[bS];rw[h.2];simp[h.1]
theorem plE_eq(x:Q3):plE x=(decide (1≤x.fOp∧x.fOp≤18)&& ((x.fOp==1 || (x.fp.fN==0&& (x.fp.fD==0&&true)))&& ((x.fOp==1 || x.fOp==12 || (x.fb.fx==0&& (x.fb.fA==0&& (x.fb.fB==0&& (x.fb.fy==0&& (x.fb.fC==0&&true))))))&& ((x.fOp==2 || zLn x.fm)&& ((x.fOp==3 || (x.fc==[]&&decide (¬(0:Int)<x.fg.length)))&&x.fg.all wfI))))):=by
 unfold plE;have e1:x.fb=zT↔(x.fb.fx=0∧x.fb.fA=0∧x.fb.fB=0∧x.fb.fy=0∧x.fb.fC=0):=by
  cases x.fb;simp[zT]
 have e2:x.fg=[]↔¬(0:Int)<x.fg.length:=by cases x.fg<;>simp
 rw[Bool.eq_iff_iff];simp only[cqb,decide_eq_true_eq,Bool.or_eq_true,beq_iff_eq,Bool.and_true];rw[e1,e2];constructor
 ·rintro⟨⟨a,b,c,d,e,f⟩,g⟩;exact⟨⟨a,b⟩,c,by rcases d with d | d | d<;>simp[d],e,f,g⟩
 ·rintro⟨⟨a,b⟩,c,d,e,f,g⟩;exact⟨⟨a,b,c,by rcases d with(d | d) | d<;>simp[d],e,f⟩,g⟩
theorem Q9k(x:Q3)(hl:x.fg.length≤4611686018427387904):D5 x=some (plE x):=by
 rw[plE_eq];unfold D5;rw[p_cf1 _ hl,Q0b];simp only[bS,bI,Hy,Cv,DC,if_true,if_false,cqk];generalize (x.fp.fN==0&& (x.fp.fD==0&&true))=V;generalize (x.fb.fx==0&& (x.fb.fA==0&& (x.fb.fB==0&& (x.fb.fy==0&& (x.fb.fC==0&&true)))))=T;generalize zLn x.fm=Z;generalize (x.fc==[])=N;generalize x.fg.all wfI=A;generalize (x.fg.length:Int)=I;generalize x.fOp=op;cases V<;>cases T<;>cases Z<;>cases N<;>grind
theorem p_names(x:Q3)(hl:x.fg.length≤4611686018427387904):DT x=some (naE x):=by
 unfold DT naE;rw[p_cf2 _ hl,Ex];simp only[bS,bI,Hy,Cv,DC,beq_iff_eq]
 grind
theorem p_rank(x:Q3)(hl:x.fg.length≤4611686018427387904):Wl x=some (raE x):=by
 unfold Wl raE;rw[p_cf3 _ hl,Q5j];simp only[bS,bI,Hy,Cv,DC,bne_iff_ne]
 grind
theorem Q5l(d:List Int)(hl:d.length≤1048576):Xr d d.length 0=some (if d.any (fun v=>decide (v<1)) then .inr 1 else .inl ()):=by
 refine loopEq (F:=fun i=>Xr d d.length i) (l:=d) (fun t=>if t.any (fun v=>decide (v<1)) then .inr 1 else .inl ()) ?_ ?_
 ·rw[Xr];simp
 ·intro i y t h0 h1 a3 ih;rw[Xr,if_pos h1,a3];simp only[bS,wrapS h0 h1 (by omega),ih,List.any_cons]
  by_cases h2:y<1<;>simp[h2]
theorem Q47{n v:Int}(hn:1≤n):((4096:Int).tdiv n<v)↔4096<n*v:=by
 rw[Int.tdiv_eq_ediv_of_nonneg (by omega),Int.ediv_lt_iff_lt_mul (by omega),Int.mul_comm]
theorem tdiv_le{n:Int}(hn:1≤n):0≤(4096:Int).tdiv n∧(4096:Int).tdiv n≤4096:=by
 rw[Int.tdiv_eq_ediv_of_nonneg (by omega)]
 exact⟨Int.ediv_nonneg (by omega) (by omega),Int.ediv_le_self _ (by omega)⟩
theorem Q2g(d:List Int)(hl:d.length≤1048576)(hd:∀v∈d,1≤v):Xg 1 d d.length 0=some (if(M6 1 d).isSome then .inl () else .inr 2):=by
 refine My (F:=fun n i=>Xg n d d.length i) (l:=d) (fun n t=>1≤n∧n≤4096) (fun n t=>if(M6 n t).isSome then .inl () else .inr 2) ?_ ?_ 1 (by omega)
 ·intro n _;rw[Xg];simp[M6]
 ·intro i y t n h0 h1 hm a3 hI ih;have hy:=hd y hm;have h4:=tdiv_le hI.1;rw[Xg,if_pos h1,a3];simp only[bS,wrapS h0 h1 (by omega)]
  rw[if_pos (show n≠0 by omega),ZB (by omega)]
  by_cases h2:4096<n*y;·rw[if_pos ((Q47 hI.1).2 h2),Q7g (.inr h2)];rfl
  ·have hp:n≤n*y:=by
    have:=Int.mul_le_mul_of_nonneg_left hy (show 0≤n by omega);rwa [Int.mul_one] at this
   rw[if_neg (fun h=>h2 ((Q47 hI.1).1 h)),Qa0 (by omega),ZB (by omega)]
   exact ih _ (by omega)
theorem p_shape(d:List Int):JS d=some (Fe d):=by
 unfold JS Fe;simp only[bS];by_cases h6:(6:Int)<d.length;·rw[if_pos h6,if_pos (by omega)]
 ·have hl:d.length≤1048576:=by omega
  rw[if_neg h6,if_neg (by omega),Q5l d hl]
  by_cases ha:d.any (fun v=>decide (v<1))=true
  ·rw[if_pos ha,if_pos ha];rfl
  ·rw[if_neg ha,bS,if_neg ha];simp only;rw[Q2g d hl (fun v hv=>by
    have:¬v<1:=fun h=>ha (List.any_eq_true.2 ⟨v,hv,by simpa using h⟩)
    omega)]
   cases hs:(M6 1 d).isSome<;>simp[bS]
theorem pw2(b:Int)(h:2≤b∧b≤31):1≤(2:Int)^ (b - 1).toNat∧(2:Int)^ (b - 1).toNat≤1073741824∧min (b - 1).toNat 64=(b - 1).toNat:=by
 obtain⟨k,rfl⟩:∃k:Nat,b=k+1:=⟨(b - 1).toNat,by omega⟩
 have hk:k≤30:=by omega
 rw[show((k:Int)+1 - 1).toNat=k by omega]
 refine⟨?_,?_,by omega⟩
 ·have:1≤(2:Nat)^k:=Nat.one_le_two_pow;have e:((2^k:Nat):Int)=(2:Int)^k:=by push_cast;rfl
  rw[← e];omega
 ·have:(2:Nat)^k≤2^30:=Nat.pow_le_pow_right (by decide) hk
  have e:((2^k:Nat):Int)=(2:Int)^k:=by push_cast;rfl
  rw[← e];omega
theorem Qa4{t:Qb}(h:tyOK t=true)(hk:t.fx=2):2≤t.fA∧t.fA≤31:=by
 unfold tyOK at h;rw[if_neg (by omega)] at h
 have:=of_decide_eq_true h;exact⟨this.2.1,this.2.2.1⟩
theorem S8(t:Qb)(hk:t.fx=2):Zy t=some (if tyOK t=true then 0 else 10):=by
 unfold Zy tyOK;simp only[bS,bI,Cv,DC,beq_iff_eq,bne_iff_ne,cqb,decide_eq_true_eq,Bool.true_and,Bool.and_true,hk]
 grind
theorem gcd_L1(G:Int→Int→Option Int)(hG:∀a b,G a b=if(b !=(0:Int))=true then(if b≠(0:Int) then some (a.tmod b:Int)>>=fun v=>G b v else none) else some a):∀(b a:Nat),G a b=some (Nat.gcd a b:Int):=by
 intro b
 induction b using Nat.strongRecOn with
 |ind b ih=>
  intro a;rw[hG];by_cases hb:b=0;·subst hb;simp
  ·have h2:(b:Int)≠0:=by omega
   rw[if_pos (by simpa using h2),if_pos h2,bS]
   rw[show((a:Int).tmod (b:Int))=((a%b:Nat):Int) from rfl,ih (a%b) (Nat.mod_lt _ (by omega)) b,Nat.gcd_comm b,Nat.gcd_comm a b,Nat.gcd_rec b a]
theorem Hk(v:gVal):Zz v=some (decide (-2147483647≤v.fN∧v.fN≤2147483647∧1≤v.fD∧v.fD≤2147483647∧Nat.gcd v.fN.natAbs v.fD.natAbs=1)):=by
 unfold Zz Cl XO GC;by_cases h1:(1:Int)≤v.fD
 ·by_cases h2:v.fD≤2147483647
  ·rw[if_pos h1,if_pos h2];by_cases h3:(-2147483647:Int)≤v.fN
   ·by_cases h4:v.fN≤2147483647
    ·have e1:(if v.fN<0 then some (w6 (0 - w6 v.fN)) else some (w6 v.fN))=some ((v.fN.natAbs:Nat):Int):=by
      split;·unfold w6;rw[IntKind.wrap_u64,IntKind.wrap_u64];congr 1;omega
      ·unfold w6;rw[IntKind.wrap_u64];congr 1;omega
     have e2:w6 v.fD=((v.fD.natAbs:Nat):Int):=by unfold w6;rw[IntKind.wrap_u64];omega
     rw[if_pos h3,bS,e1,bS,e2];simp only[decide_eq_true h4,if_true,bS];rw[gcd_L1 KI (fun a b=>by rw[KI]),bS,bS]
     congr 1;rw[Bool.eq_iff_iff,beq_iff_eq,decide_eq_true_iff];constructor;·intro h;exact⟨h3,h4,h1,h2,by omega⟩
     ·intro h;omega
    ·rw[if_pos h3,bS];simp[h4]
   ·rw[if_neg h3,bS];simp[h3]
  ·rw[if_pos h1,if_neg h2];simp[h2]
 ·rw[if_neg h1];simp[h1]
theorem p_Valid(t:Qb)(v:gVal)(h:tyOK t=true):Y6 t v=some (vlOK t v):=by
 unfold Y6 vlOK;rw[Cz,if_pos h,bS];simp only[bne_self_eq_false,cqk,if_false,beq_iff_eq];by_cases h2:t.fx=2
 ·rw[if_pos h2,if_pos h2];obtain⟨b1,b2⟩:=Qa4 h h2;obtain⟨c1,c2,c3⟩:=pw2 _ ⟨b1,b2⟩;unfold VZ Vw Vv Vd;rw[S8 t h2,if_pos h];have w1:wr (t.fA - 1)=t.fA - 1:=ZB (by omega)
  have w2:w6 (t.fA - 1)=t.fA - 1:=by unfold w6;rw[IntKind.wrap_u64];omega
  simp only[bS,w1,w2,c3,Int.one_mul,beq_self_eq_true,if_true,decide_eq_true b2];rw[if_pos b1];generalize (2:Int)^ (t.fA - 1).toNat=P at*;simp only[bS,if_true];simp only[if_pos (show(0:Int)≤t.fA - 1 by omega),bS]
  rw[ZB (n:=P) (by omega),ZB (n:=0 - P) (by omega),ZB (n:=P - 1) (by omega)]
  simp only[beq_iff_eq]
  grind
 ·rw[if_neg h2,if_neg h2];by_cases h3:t.fx=3
  ·rw[if_pos h3];simp only[h3,if_true];unfold Yz
   grind
  ·rw[if_neg h3,Hk,bS];simp only[h3,if_false]
theorem stepF{α β:Type}{l:List α}{q:α→Bool}{L:Int→Option (Unit ⊕ β)}{e:β}(hl:l.length≤4611686018427387904)(h0:L l.length=some (.inl ()))
    (h1:∀(i:Int) (x:α),0≤i→i<l.length→x∈l→ix l i=some x→L i=if q x=true then L (wr (i+1)) else some (.inr e)):L 0=some (if l.all q then .inl () else .inr e):=by
  have key:∀(t p:List α),l=p++t→L p.length=some (if t.all q then .inl () else .inr e):=by
    intro t
    induction t with
    | nil => intro p e1; have : p.length = l.length := by rw [e1]; simp
             rw[this,h0];rfl
    |cons c t ih=>
      intro p e1;have a3:(p.length:Int)<l.length:=by rw[e1];simp;omega
      rw[h1 p.length c (by omega) a3 (by rw[e1];simp) (Vo e1),YU (by omega) a3 hl,List.all_cons]
      have:=ih (p++[c]) (by rw[e1];simp)
      rw[show((p++[c]).length:Int)=(p.length:Int)+1 by simp] at this
      rw[this];cases q c<;>simp
  exact key l [] rfl
theorem F1(x:Q3)(hl:x.fe.length≤4611686018427387904):∀(t p:List Qc),x.fe=p++t→YQ x x.fe x.fe.length p.length=some (if argG x.fOp p.length t then .inl () else .inr false)
 | [],p,e=>by
  have:p.length=x.fe.length:=by rw[e];simp
  rw[YQ,if_neg (by omega)];rfl
 |c::t,p,e=>by
  have ih:=F1 x hl t (p++[c]) (by rw[e];simp)
  have a3:(p.length:Int)<x.fe.length:=by rw[e];simp;omega
  rw[YQ,if_pos a3,Vo e,omS,bS,Da,bS,Q5k,bS,YU (by omega) a3 hl]
  rw[show((p++[c]).length:Int)=(p.length:Int)+1 by simp] at ih
  rw[ih,argG];cases isC c.f<;>cases WI x.fOp p.length<;>simp
theorem p_types(x:Q3)(hl:x.fe.length≤4611686018427387904):DU x=some (tyE x):=by
 unfold DU tyE;have e:YQ x x.fe x.fe.length 0=_:=F1 x hl x.fe [] rfl;rw[Cz];simp only[bS,e,List.length_nil,Int.natCast_zero];cases ht:tyOK x.fb<;>cases hA:argG x.fOp 0 x.fe<;>by_cases h1:x.fOp=1<;>by_cases h2:x.fOp=12<;>simp[h1,h2,bS]
theorem EP:∀(l:List gLin),(∀a∈l,okL a)→VL l=some (l.all Jm)
 | [],_=>rfl
 |a::t,h=>by
  rw[VL,VA a (h a (by simp)),bS,EP t (fun b hb=>h b (by simp[hb])),List.all_cons]
  cases Jm a<;>simp
theorem Q76{x:Q3}(h1:okL x.fm)(h2:∀i∈x.fg,okI i):∀a∈UW x,okL a:=by
 intro a ha;unfold UW at ha;rcases List.mem_cons.1 ha with rfl | ha
 ·exact h1
 ·obtain⟨l,hl,a3⟩:=List.mem_flatten.1 ha;obtain⟨i,hi,rfl⟩:=List.mem_map.1 hl;unfold GL at a3;rcases List.mem_cons.1 a3 with rfl | a3
  ·exact(h2 i hi).1
  ·exact(h2 i hi).2.2 a a3
theorem Q2i(x:Q3)(hx:okE (.mk x)):GB x=some (CB x):=by
 obtain⟨h1,h2,h3,h4,h5⟩:=hx.of;have hI:x.fg.length≤4611686018427387904:=by omega
 have hA:x.fe.length≤4611686018427387904:=by omega
 have a3:∀i∈x.fg,i.fAt.length≤4611686018427387904:=fun i hi=>by have:=(h3 i hi).2.1;omega
 have hT:VM x=some (if(UW x).all Jm then 0 else 1):=by
  unfold VM;rw[Q0v x ⟨hI,a3⟩,bS,EP _ (Q76 h1 h3),bS]
 unfold GB CB;rw[Q9k x hI,p_names x hI,p_rank x hI,p_types x hA,hT];simp only[bS];cases plE x<;>simp only[cqk,if_true,if_false,Bool.true_eq_false]
 cases naE x<;>simp only[cqk,if_true,if_false,Bool.true_eq_false]
 cases raE x<;>simp only[cqk,if_true,if_false,Bool.true_eq_false]
 cases ht:tyE x<;>simp only[cqk,if_true,if_false,Bool.true_eq_false]
 unfold foE;by_cases ho:x.fOp=1
 ·have a4:tyOK x.fb=true:=by
   unfold tyE at ht;rw[cqb] at ht;simpa[ho] using ht.1
  rw[if_pos (by simpa using ho),p_Valid _ _ a4,bS,ho]
  cases vlOK x.fb x.fp<;>cases(UW x).all Jm<;>simp
 ·rw[if_neg (by simpa using ho)]
  cases(UW x).all Jm<;>simp[ho]
end Go.Proofs.YtkgphhemcglgnaaGreatDoor
