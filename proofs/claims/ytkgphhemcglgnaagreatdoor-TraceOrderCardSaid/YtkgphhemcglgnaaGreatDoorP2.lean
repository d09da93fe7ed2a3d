/- Proved in the last of these texts: for every input the law returns true and its arguments read afterwards as they read before. This text: a part of the proof. -/
import Derived.Test.YtkgphhemcglgnaaGreatDoorP1
import Derived.Laws.Cover4
import Derived.Laws.IdiomCopy
import Derived.OrdersIn
import Derived.RangeFuncLeaves
import Derived.RangeFuncOwn
set_option linter.unusedVariables false
set_option linter.unusedSimpArgs false
set_option linter.unusedSectionVars false
set_option linter.defProp false
namespace HY
open Go Go.RowKit
def xv(o:Option AV):Option (AV×Option (Nat×Box)):=match o with | some v=>some (v,none) | none=>none
def V7(P:Program)(bid:Nat)(b:Builtin)(ts:List TypeId)(xs:List AV)(hp:Hp):Option (AV×Option (Nat×Box)):=
 match b with
 | .len=>match ts,xs with
  | [t],[x]=>xv (xlen P t x)
  |_,_=>none
 | .max=>xv (xmax true xs)
 | .min=>xv (xmax false xs)
 | .append=>match ts,xs with
  | [t,t'],[s,x]=>JB P bid t t' s x hp
  |_,_=>none
 |_=>none
def xop0(P:Program)(bid:Nat)(dst:Option Nat)(op:Op)(ev:Operand→AV)(hp:Hp):Option (AV×Option (Nat×Box)):=
 match op with
 | .move x=>some (ev x,none)
 | .assign x=>some (ev x,none)
 | .pick c x y=>match ev c with
  | .bool b=>some (if b=true then ev x else ev y,none)
  |_=>none
 | .alloc t=>match H9 P t with
  |some z=>if z.okc=true then some (xnewT (tagT P t) bid z.cells) else none
  |none=>none
 | .box _ x=>if(ev x).okc=true then some (xnew bid (ev x).cells) else none
 | .build t parts=>xv (Q1c P t (parts.toList.map fun p=>(p.1,ev p.2)))
 | .buildSlice t len parts=>WK P bid t len (parts.toList.map fun p=>(p.1,ev p.2))
 | .load t x=>xv (CL P t (ev x) hp)
 | .store t x y=>if dst.isNone then Dc P t (ev x) (ev y) hp else none
 | .binOp op t x y _=>xv (xbin P op t (ev x) (ev y))
 | .unOp op _ x=>xv (xun op (ev x))
 | .convert src to x=>xv (Fz P src to (ev x))
 | .makeFunc (.func f) first caps=>if first.size=0 then some (.fn f (caps.toList.map ev),none) else none
 | .makeSlice t l c=>LP P bid t (ev l) (ev c)
 | .slice t x lo hi mx=>xv (Ji P t (ev x) (lo.map ev) (hi.map ev) (mx.map ev))
 | .fieldAddr s x f=>xv (EH P s (ev x) f)
 | .field s x f=>xv (Q1e P s (ev x) f)
 | .indexAddr t x i=>xv (YV P t (ev x) (ev i))
 | .index t x i=>xv (HR P t (ev x) (ev i))
 | .extract x j=>xv (Al (ev x) j)
 | .nilCheck x=>match ev x with
  | .ptr id ver off=>some (.ptr id ver off,none)
  | .ip sz xs i off=>some (.ip sz xs i off,none)
  | .fn f cs=>some (.fn f cs,none)
  | .yld id=>some (.yld id,none)
  |_=>none
 | .call c=>match c.callee with
  | .builtin b=>V7 P bid b c.argTypes.toList (c.args.toList.map ev) hp
  |_=>none
 |_=>none
section
variable {P : Program} {m : Nat → Lc} {H : HV} {B : Nat → Prop} {H0 : HV} {gl : Nat → AV} {rest : List (AV × Value)} {st : St} {a : Act} {w : World}
theorem Kq{o:Option AV}{r:AV×Option (Nat×Box)}(h:xv o=some r):∃v,o=some v∧r=(v,none):=by
 cases o with
 |none=>cases h
 |some v=>cases h;exact⟨v,rfl,rfl⟩
theorem PP(h:RelS m H B H0 gl rest st a.tmps w)(ps:List (Nat×Operand)):
  (ps.map fun p=>(p.1,st.ev gl p.2)).length=(ps.map fun p=>(p.1,a.eval p.2)).length∧
   ∀(k:Nat) (x:Nat×AV) (y:Nat×Value),(ps.map fun p=>(p.1,st.ev gl p.2))[k]? =some x→(ps.map fun p=>(p.1,a.eval p.2))[k]? =some y→x.1=y.1∧RV H (st.env m) x.2 y.2:=by
 refine⟨by simp,fun k x y hx hy=> ?_⟩
 simp only[cqs,Option.map_eq_some_iff] at hx hy;obtain⟨p,hp,rfl⟩:=hx;obtain⟨q,hq,rfl⟩:=hy;rw[hp] at hq;cases hq;exact⟨rfl,h.ev p.2⟩
theorem Ie(h:RelS m H B H0 gl rest st a.tmps w)(xs:List Operand):
  (xs.map (st.ev gl)).length=(xs.map a.eval).length∧∀(j:Nat) (c:AV) (v:Value),(xs.map (st.ev gl))[j]? =some c→(xs.map a.eval)[j]? =some v→RV H (st.env m) c v:=by
 refine⟨by simp,fun k x y hx hy=> ?_⟩
 simp only[cqs,Option.map_eq_some_iff] at hx hy;obtain⟨p,hp,rfl⟩:=hx;obtain⟨q,hq,rfl⟩:=hy;rw[hp] at hq;cases hq;exact h.ev p
theorem Ph(h:RelS m H B H0 gl rest st a.tmps w)(o:Option Operand):(o.map (st.ev gl)=none∧o.map a.eval=none)∨∃x u,o.map (st.ev gl)=some x∧o.map a.eval=some u∧RV H (st.env m) x u:=by
 cases o with
 |none=>exact .inl ⟨rfl,rfl⟩
 |some x=>exact .inr ⟨_,_,rfl,rfl,h.ev x⟩
set_option maxHeartbeats 1000000 in
theorem xop0_ok(h:RelS m H B H0 gl rest st a.tmps w){o:Oper}(hd:Z2 o.dst st.n=true){bid:Nat}(hb:lkb st.hp bid=none)(hn:bid<st.nx){r:AV×Option (Nat×Box)}(hk:xop0 P bid o.dst o.op (st.ev gl) (lkb st.hp)=some r):
  OpOk P B H0 gl rest a w o.dst (st.eff o.dst r) (execOp a.eval o):=by
 unfold xop0 at hk;unfold execOp;split at hk;·rename_i x ho;simp only[ho];cases hk;exact OpOk.val h hd rfl (h.ev x)
 ·rename_i x ho;simp only[ho];cases hk;exact OpOk.val h hd rfl (h.ev x)
 ·rename_i c x y ho;simp only[ho];split at hk
  ·rename_i b hc;have ab:=h.ev c;rw[hc] at ab;have ab:=ab.bool_inv;cases hk;cases b;·exact OpOk.val h hd (by simp[ab,asBool]) (h.ev y)
   ·exact OpOk.val h hd (by simp[ab,asBool]) (h.ev x)
  ·cases hk
 ·rename_i t ho;simp only[ho];split at hk
  ·rename_i z hz;split at hk
   ·rename_i ag;cases hk;obtain⟨i,v,hi,hv,rfl⟩:=T4 hz;exact Q3l h hd hb hn (.imm _ _ (Nu H v)) ag (Q7k P t) (by simp[Instr.alloc,zeroValue,typeInfo,hi,hv,newVar,newRow])
   ·cases hk
  ·cases hk
 ·rename_i t x ho;simp only[ho];split at hk
  ·rename_i ag;cases hk;exact new_ok h hd hb hn (h.ev x) ag (by simp[Instr.box,newVar,newRow];rfl)
  ·cases hk
 ·rename_i t ps ho;simp only[ho];obtain⟨v,h1,rfl⟩:=Kq hk;have hp:=PP h ps.toList;obtain⟨u,h2,h3⟩:=Q7p (P:=P) (w:=w) (parts:=ps.map fun p=>(p.1,a.eval p.2)) (by rw[Array.toList_map];exact hp) h1
  exact OpOk.val h hd (by rw[cqv,h2];rfl) h3
 ·rename_i t len ps ho;simp only[ho];have hp:=PP h ps.toList;have hp':(ps.toList.map fun p=>(p.1,st.ev gl p.2)).length=(ps.map fun p=>(p.1,a.eval p.2)).toList.length∧∀(k:Nat) (x:Nat×AV) (y:Nat×Value),(ps.toList.map fun p=>(p.1,st.ev gl p.2))[k]? =some x→(ps.map fun p=>(p.1,a.eval p.2)).toList[k]? =some y→x.1=y.1∧RV H (st.env m) x.2 y.2:=by rw[Array.toList_map];exact hp
  have:=Pw (P:=P) h hd hb hn hp' hk;exact this
 ·rename_i t x ho;simp only[ho];obtain⟨v,h1,rfl⟩:=Kq hk;obtain⟨u,h2,h3⟩:=Q1f (P:=P) h.heap (h.ev x) h1;exact OpOk.val h hd (by rw[cqv,h2];rfl) h3
 ·rename_i t x y ho;simp only[ho];split at hk
  ·rename_i an;exact Q84 h (by simpa using an) (h.ev x) (h.ev y) hk
  ·cases hk
 ·rename_i op t x y ty ho;simp only[ho];obtain⟨v,h1,rfl⟩:=Kq hk;obtain⟨u,h2,hg,h3⟩:=xbin_ok (P:=P) (w:=w) (ox:=x) (oy:=y) (h.ev x) (h.ev y) h1;exact OpOk.val h hd (v:=u) (by simp[hg,h2]) (.imm _ _ (h3 _))
 ·rename_i op t x ho;simp only[ho];obtain⟨v,h1,rfl⟩:=Kq hk;obtain⟨u,h2,h3⟩:=xun_ok (P:=P) (w:=w) (h.ev x) h1;exact OpOk.val h hd (v:=u) (by simp[h2]) (.imm _ _ (h3 _))
 ·rename_i b0 to x ho;simp only[ho];obtain⟨v,h1,rfl⟩:=Kq hk;obtain⟨u,h2,h3⟩:=Qah (P:=P) (w:=w) (h.ev x) h1;exact OpOk.val h hd (v:=u) (by simp[h2]) (.imm _ _ (h3 _))
 ·rename_i f af ae ho;simp only[ho];split at hk
  ·rename_i h0;cases hk;have:af= #[]:=Array.eq_empty_of_size_eq_zero h0;subst this;have hl:=Ie h ae.toList;refine OpOk.val h hd (v:=.func (.func f) #[] (ae.map a.eval)) (by simp[Instr.makeFunc]) ?_
   refine .fn f _ _ (by simp) fun j c v hj hv=> ?_
   exact hl.2 j c v hj (by rw[← hv];simp)
  ·cases hk
 ·rename_i t l c ho;simp only[ho];exact OS h hd hb hn (h.ev l) (h.ev c) hk
 ·rename_i t x lo hi mx ho;simp only[ho];obtain⟨v,h1,rfl⟩:=Kq hk;obtain⟨u,h2,h3⟩:=Q83 (P:=P) (w:=w) (h.ev x) (Ph h lo) (Ph h hi) (Ph h mx) h1;exact OpOk.val h hd (v:=u) (by simp[h2]) h3
 ·rename_i s x f ho;simp only[ho];obtain⟨v,h1,rfl⟩:=Kq hk;obtain⟨u,h2,h3⟩:=OP (P:=P) (w:=w) (h.ev x) h1;exact OpOk.val h hd (v:=u) (by simp[h2]) h3
 ·rename_i s x f ho;simp only[ho];obtain⟨v,h1,rfl⟩:=Kq hk;obtain⟨u,h2,h3⟩:=Q7s (P:=P) (w:=w) (h.ev x) h1;exact OpOk.val h hd (v:=u) (by simp[h2]) h3
 ·rename_i t x i ho;simp only[ho];obtain⟨v,h1,rfl⟩:=Kq hk;obtain⟨u,h2,h3⟩:=OQ (P:=P) (w:=w) (h.ev x) (h.ev i) h1;exact OpOk.val h hd (v:=u) (by simp[h2]) h3
 ·rename_i t x i ho;simp only[ho];obtain⟨v,h1,rfl⟩:=Kq hk;obtain⟨u,h2,h3⟩:=Q7t (P:=P) (w:=w) (h.ev x) (h.ev i) h1;exact OpOk.val h hd (v:=u) (by simp[h2]) h3
 ·rename_i x j ho;simp only[ho];obtain⟨v,h1,rfl⟩:=Kq hk;obtain⟨u,h2,h3⟩:=Q2w (P:=P) (w:=w) (h.ev x) h1;exact OpOk.val h hd (v:=u) (by simp[h2]) h3
 ·rename_i x ho;simp only[ho];have hx:=h.ev x;split at hk
  ·rename_i id ver off he;cases hk;rw[he] at hx;have a9:=hx;obtain⟨ad,hp,_⟩:=hx.ptr_inv;exact OpOk.val h hd (v:=a.eval x) (by rw[hp];rfl) a9
  ·rename_i sz xs i off he;cases hk;rw[he] at hx;have a9:=hx;have:∃ad,a.eval x= .pointer (some ad):=by
    have:=hx.ip_inv;generalize a.eval x=u at this;cases this;exact⟨_,rfl⟩
   obtain⟨ad,hp⟩:=this;exact OpOk.val h hd (v:=a.eval x) (by rw[hp];rfl) a9
  ·rename_i f cs he;cases hk;rw[he] at hx;have a9:=hx;obtain⟨vs,hp,_⟩:=hx.fn_inv;exact OpOk.val h hd (v:=a.eval x) (by rw[hp];rfl) a9
  ·rename_i id he;cases hk;rw[he] at hx;have a9:=hx;obtain⟨l,hp,_⟩:=hx.yld_inv;exact OpOk.val h hd (v:=a.eval x) (by rw[hp];rfl) a9
  ·cases hk
 ·rename_i c ho;simp only[ho];split at hk
  ·rename_i b ah;obtain⟨aj,args,a3⟩:=c;dsimp only at ah;subst ah;simp only[resolve];have aa:args.map a.eval=(args.toList.map a.eval).toArray:=by apply Array.ext';rw[Array.toList_map]
   have hl:=Ie h args.toList;unfold V7 at hk;split at hk
   ·split at hk
    ·rename_i t x ht hx;obtain⟨v,h1,rfl⟩:=Kq hk;obtain⟨y,hy,rfl⟩:∃y,args.toList=[y]∧st.ev gl y=x:=by
      match hh:args.toList with
      | []=>rw[hh] at hx;cases hx
      | [y]=>rw[hh] at hx;simp only[List.map_cons,List.map_nil,List.cons.injEq,and_true] at hx;exact⟨y,rfl,hx⟩
      |_::_::_=>rw[hh] at hx;simp at hx
     have e1:a3= #[t]:=by cases a3;simpa using ht
     have e2:args= #[y]:=by cases args;simpa using hy
     subst e1;subst e2;obtain⟨u,h2,h3⟩:=xlen_ok (P:=P) (w:=w) (ty:=o.type) (h.ev y) h1;refine OpOk.val h hd (v:=u) ?_ (.imm _ _ (h3 _));simp only[cqv,Sem.run_pure,cqw,invoke,builtin,List.map_toArray,List.map_cons,List.map_nil,h2]
    ·cases hk
   ·obtain⟨v,h1,rfl⟩:=Kq hk;obtain⟨u,h2,h3⟩:=Q4l (P:=P) (w:=w) true hl h1 a3 o.type;refine OpOk.val h hd (v:=u) ?_ (.imm _ _ (h3 _));rw[if_pos rfl] at h2;simp only[cqv,Sem.run_pure,cqw,invoke,builtin];rw[aa,h2];rfl
   ·obtain⟨v,h1,rfl⟩:=Kq hk;obtain⟨u,h2,h3⟩:=Q4l (P:=P) (w:=w) false hl h1 a3 o.type;refine OpOk.val h hd (v:=u) ?_ (.imm _ _ (h3 _));rw[if_neg (by simp)] at h2
    simp only[cqv,Sem.run_pure,cqw,invoke,builtin];rw[aa,h2];rfl
   ·split at hk
    ·rename_i t t' s x ht hx;obtain⟨y,z,hy,rfl,rfl⟩:∃y z,args.toList=[y,z]∧st.ev gl y=s∧st.ev gl z=x:=by
      match hh:args.toList with
      | []=>rw[hh] at hx;cases hx
      | [y]=>rw[hh] at hx;simp at hx
      | [y,z]=>rw[hh] at hx;simp only[List.map_cons,List.map_nil,List.cons.injEq,and_true] at hx;exact⟨y,z,rfl,hx⟩
      |_::_::_::_=>rw[hh] at hx;simp at hx
     have e1:a3= #[t,t']:=by cases a3;simpa using ht
     have e2:args= #[y,z]:=by cases args;simpa using hy
     subst e1;subst e2;have:=Q60 (ty:=o.type) h hd hb hn (h.ev y) (h.ev z) hk;simpa only[List.map_toArray,List.map_cons,List.map_nil,invoke,builtin,pure_bind] using this
    ·cases hk
   ·cases hk
  ·cases hk
 ·cases hk
def xopX(P:Program)(bid:Nat)(op:Op)(ev:Operand→AV)(hp:Hp):Option (AV×Option (Nat×Box)):=
 match op with
 | .binOp o t x y _=>xv (Md P o t (ev x) (ev y) hp)
 | .convert src to x=>xv (Mb P src to (ev x) hp)
 | .call c=>match c.callee with
  | .builtin b=>match b with
   | .append=>match c.argTypes.toList,c.args.toList.map ev with
    | [t,t'],[s,x]=>MR P bid t t' s x hp
    |_,_=>none
   | .unsafeSliceData=>match c.args.toList.map ev with
    | [x]=>xv (T3 x)
    |_=>none
   | .unsafeString=>match c.argTypes.toList,c.args.toList.map ev with
    | [pt,_],[p,n]=>LQ P pt p n hp
    |_,_=>none
   |_=>none
  |_=>none
 |_=>none
def xopO(P:Program)(op:Op)(ev:Operand→AV)(hp:Hp):Option (AV×Option (Nat×Box)):=
 match op with
 | .lookup t x i ok=>xv (TD P t (ev x) (ev i) ok hp)
 | .call c=>match c.callee with
  | .builtin .append=>match c.argTypes.toList,c.args.toList.map ev with
   | [t,t'],[s,x]=>CJ P t t' s x hp
   |_,_=>none
  |_=>none
 |_=>none
def xop(P:Program)(bid:Nat)(dst:Option Nat)(op:Op)(ev:Operand→AV)(hp:Hp):Option (AV×Option (Nat×Box)):=
 match xop0 P bid dst op ev hp with
 |some r=>some r
 |none=>match xopX P bid op ev hp with
  |some r=>some r
  |none=>xopO P op ev hp
theorem ZN{bid:Nat}{dst:Option Nat}{op:Op}{ev:Operand→AV}{hp:Hp}{r:AV×Option (Nat×Box)}(h:xop0 P bid dst op ev hp=some r):xop P bid dst op ev hp=some r:=by unfold xop;rw[h]
theorem LX{bid:Nat}{dst:Option Nat}{op:Op}{ev:Operand→AV}{hp:Hp}{r:AV×Option (Nat×Box)}(h0:xop0 P bid dst op ev hp=none)(h:xopX P bid op ev hp=some r):xop P bid dst op ev hp=some r:=by unfold xop;rw[h0];simp only[h]
theorem Q4n{bid:Nat}{dst:Option Nat}{op:Op}{ev:Operand→AV}{hp:Hp}{r:AV×Option (Nat×Box)}(h0:xop0 P bid dst op ev hp=none)(h1:xopX P bid op ev hp=none)(h:xopO P op ev hp=some r):xop P bid dst op ev hp=some r:=by unfold xop;rw[h0];simp only[h1,h]
theorem Ni{args:Array Operand}{f:Operand→AV}{s x:AV}(h:args.toList.map f=[s,x]):∃y z,args= #[y,z]∧f y=s∧f z=x:=by
 match hh:args.toList with
 | []=>rw[hh] at h;cases h
 | [y]=>rw[hh] at h;simp at h
 | [y,z]=>rw[hh] at h;simp only[List.map_cons,List.map_nil,List.cons.injEq,and_true] at h;exact⟨y,z,by cases args;simpa using hh,h.1,h.2⟩
 |_::_::_::_=>rw[hh] at h;simp at h
theorem Ts{args:Array Operand}{f:Operand→AV}{s:AV}(h:args.toList.map f=[s]):∃y,args= #[y]∧f y=s:=by
 match hh:args.toList with
 | []=>rw[hh] at h;cases h
 | [y]=>rw[hh] at h;simp only[List.map_cons,List.map_nil,List.cons.injEq,and_true] at h;exact⟨y,by cases args;simpa using hh,h⟩
 |_::_::_=>rw[hh] at h;simp at h
theorem IX{ts:Array TypeId}{t t':TypeId}(h:ts.toList=[t,t']):ts= #[t,t']:=by cases ts;simpa using h
theorem xopX_ok(h:RelS m H B H0 gl rest st a.tmps w){o:Oper}(hd:Z2 o.dst st.n=true){bid:Nat}(hb:lkb st.hp bid=none)(hn:bid<st.nx){r:AV×Option (Nat×Box)}(hk:xopX P bid o.op (st.ev gl) (lkb st.hp)=some r):
  OpOk P B H0 gl rest a w o.dst (st.eff o.dst r) (execOp a.eval o):=by
 unfold xopX at hk;unfold execOp;split at hk
 ·rename_i op t x y ty ho;simp only[ho];obtain⟨v,h1,rfl⟩:=Kq hk;obtain⟨u,h2,hg,h3⟩:=Q7x (P:=P) (ox:=x) (oy:=y) h.heap (h.ev x) (h.ev y) h1;exact OpOk.val h hd (v:=u) (by simp[hg,h2]) (.imm _ _ (h3 _))
 ·rename_i af to x ho;simp only[ho];obtain⟨v,h1,rfl⟩:=Kq hk;obtain⟨u,h2,h3⟩:=Q7r (P:=P) h.heap (h.ev x) h1;exact OpOk.val h hd (v:=u) (by simp[h2]) h3
 ·rename_i c ho;simp only[ho];split at hk
  ·rename_i b a7;obtain⟨aa,args,a3⟩:=c;dsimp only at a7;subst a7;simp only[resolve];split at hk
   ·split at hk
    ·rename_i t t' s x ht hx;obtain⟨y,z,rfl,rfl,rfl⟩:=Ni hx;obtain rfl:=IX ht;have:=Qad (ty:=o.type) h hd hb hn (h.ev y) (h.ev z) hk;simpa only[List.map_toArray,List.map_cons,List.map_nil,invoke,builtin,pure_bind] using this
    ·cases hk
   ·split at hk
    ·rename_i x hx;obtain⟨v,h1,rfl⟩:=Kq hk;obtain⟨y,rfl,rfl⟩:=Ts hx;obtain⟨u,h2,h3⟩:=Q81 (P:=P) (w:=w) (ts:=a3) (ty:=o.type) (h.ev y) h1;refine OpOk.val h hd (v:=u) ?_ h3;simp only[cqv,Sem.run_pure,cqw,invoke,builtin,List.map_toArray,List.map_cons,List.map_nil,h2]
    ·cases hk
   ·split at hk
    ·rename_i pt it p n ht hx;obtain⟨y,z,rfl,rfl,rfl⟩:=Ni hx;obtain rfl:=IX ht;have:=Qb3 (it:=it) (ty:=o.type) h hd (h.ev y) (h.ev z) hk;simpa only[List.map_toArray,List.map_cons,List.map_nil,invoke,builtin,pure_bind] using this
    ·cases hk
   ·cases hk
  ·cases hk
 ·cases hk
theorem xopO_ok(h:RelS m H B H0 gl rest st a.tmps w){o:Oper}(hd:Z2 o.dst st.n=true){r:AV×Option (Nat×Box)}(hk:xopO P o.op (st.ev gl) (lkb st.hp)=some r):
  OpOk P B H0 gl rest a w o.dst (st.eff o.dst r) (execOp a.eval o):=by
 unfold xopO at hk;unfold execOp;split at hk
 ·rename_i t x i ok ho;simp only[ho];obtain⟨v,h1,rfl⟩:=Kq hk;obtain⟨y,h2,h3⟩:=Q63 (P:=P) h.heap (h.ev x) (h.ev i) h1;exact OpOk.val h hd (v:=y) (by simp[h2]) h3
 ·rename_i c ho;simp only[ho];split at hk
  ·rename_i a4;obtain⟨a5,args,a3⟩:=c;dsimp only at a4;subst a4;simp only[resolve];split at hk
   ·rename_i t t' s x ht hx;obtain⟨y,z,rfl,rfl,rfl⟩:=Ni hx;obtain rfl:=IX ht;have:=Q18 (ty:=o.type) h hd (h.ev y) (h.ev z) hk;simpa only[List.map_toArray,List.map_cons,List.map_nil,invoke,builtin,pure_bind] using this
   ·cases hk
  ·cases hk
 ·cases hk
theorem Q1i(h:RelS m H B H0 gl rest st a.tmps w){o:Oper}(hd:Z2 o.dst st.n=true){bid:Nat}(hb:lkb st.hp bid=none)(hn:bid<st.nx){r:AV×Option (Nat×Box)}(hk:xop P bid o.dst o.op (st.ev gl) (lkb st.hp)=some r):
  OpOk P B H0 gl rest a w o.dst (st.eff o.dst r) (execOp a.eval o):=by
 unfold xop at hk;split at hk;·rename_i r' hr;cases hk;exact xop0_ok h hd hb hn hr
 ·split at hk;·rename_i r' hr;cases hk;exact xopX_ok h hd hb hn hr
  ·exact xopO_ok h hd hk
end
open Go.MapKept
def mput(k:List UInt8)(v:AV)(es:List (List UInt8×AV)):List (List UInt8×AV):=
 match DE k es 0 with
 |some (i,_)=>es.set i (k,v)
 |none=>es++[(k,v)]
def Id(P:Program)(t:TypeId):Bool:=match P.underlying t with
 |some (.slice e)=>match P.underlying e with
  |some (.int .i32)=>true
  |_=>false
 |_=>false
theorem Sl{P:Program}{t:TypeId}(h:Id P t=true):∃e,P.underlying t=some (.slice e)∧P.underlying e=some (.int .i32):=by
 grind [Id]
def F9:List AV→Option (List Int)
 | []=>some []
 | .int .i32 n::r=>match F9 r with
  |some l=>some (n::l)
  |none=>none
 |_::_=>none
def AG:List Int→Option (List UInt8)
 | []=>some []
 |n::r=>bif decide (0≤n)&&decide (n<128) then(match AG r with
  |some l=>some (UInt8.ofNat n.toNat::l)
  |none=>none) else none
def Q1l(P:Program)(a3 to:TypeId)(x:AV)(hp:Hp):Option AV:=
 bif Id P a3&&V6 P to then(match x with
  | .bs id ver sz off len=>match hp id with
   |some (.cells v cs)=>match Nat.beq v ver&& (Nat.beq sz 1&&Nat.ble (off+len) cs.length) with
    |true=>match F9 ((cs.drop off).take len) with
     |some ns=>match AG ns with
      |some s=>some (.str s)
      |none=>none
     |none=>none
    |false=>none
   |_=>none
  | .nil=>some (.str [])
  |_=>none) else none
theorem Sb:∀(ns:List Int) (s:List UInt8) (b:ByteArray),AG ns=some s→ns.foldl (fun r n=>r++Utf8.encode n) b=b++⟨s.toArray⟩
 | [],s,b,h=>by
  cases h;rw[show(⟨([]:List UInt8).toArray⟩:ByteArray)=ByteArray.empty from rfl];simp
 |n::r,s,b,h=>by
  simp only[AG] at h;cases hc:(decide (0≤n)&&decide (n<128)) with
  |false=>simp_all
  |true=>
   rw[hc] at h;simp only[cond_true] at h;rw[cqb,decide_eq_true_eq,decide_eq_true_eq] at hc;split at h
   ·rename_i l hl;cases h;rw[List.foldl_cons,Sb r l _ hl];have he:Utf8.encode n=⟨#[UInt8.ofNat n.toNat]⟩:=by
     unfold Utf8.encode;have hv:Utf8.valid n=true:=by unfold Utf8.valid;simp;omega
     simp_all
    rw[he];apply ByteArray.ext;simp
   ·cases h
theorem Sw:∀(cs:List AV) (ns:List Int),F9 cs=some ns→cs=ns.map (AV.int .i32)
 | [],ns,h=>by cases h;rfl
 |c::r,ns,h=>by
  unfold F9 at h;split at h
  ·simp_all
  ·rename_i n r' h1;cases h1;split at h
   ·rename_i l hl;cases h;rw[Sw _ _ hl];rfl
   ·cases h
  ·cases h
def xmput(P:Program)(t:TypeId)(x i v:AV)(hp:Hp):Option (AV×Option (Nat×Box)):=
 match x with
 | .mp id=>match hp id with
  |some (.map es)=>match i with
   | .str k=>match JY P t with
    |some _=>some (.undef,some (id,.map (mput k v es)))
    |none=>none
   |_=>none
  |some (.mapI es)=>match i with
   | .str k=>match v with
    | .int .i64 n=>match JY P t with
     |some _=>some (.undef,some (id,.mapI (UC k n es)))
     |none=>none
    |_=>none
   |_=>none
  |_=>none
 |_=>none
theorem Q74(k:List UInt8)(n:Int)(es:List (List UInt8×Int)):mput k (.int .i64 n) (encM es)=encM (UC k n es):=by
 have h:=LJ k es 0
 grind [mput]
abbrev CallX:=Nat→List AV→Tr Box→Nat→Option (AV×Tr Box×Nat)
def mdel(k:List UInt8)(es:List (List UInt8×AV)):List (List UInt8×AV):=
 match DE k es 0 with
 |some (i,_)=>es.eraseIdx i
 |none=>es
def xmdel(P:Program)(t:TypeId)(x i:AV)(hp:Hp):Option (AV×Option (Nat×Box)):=
 match x with
 | .mp id=>match hp id with
  |some (.map es)=>match i with
   | .str k=>match JY P t with
    |some _=>some (.tup [],some (id,.map (mdel k es)))
    |none=>none
   |_=>none
  |some (.mapI es)=>match i with
   | .str k=>match JY P t with
    |some _=>some (.tup [],some (id,.mapI (Ej k es)))
    |none=>none
   |_=>none
  |_=>none
 |_=>none
theorem Q72(k:List UInt8)(es:List (List UInt8×Int)):mdel k (encM es)=encM (Ej k es):=by
 have h:=LJ k es 0
 grind [mdel]
def TI(sz n:Nat)(zs:List AV):List AV:=(List.range (n*sz)).map fun i=>(zs[i%sz]?).getD .undef
def Q1d(P:Program)(t:TypeId)(x:AV)(hp:Hp):Option (AV×Option (Nat×Box)):=
 match elG P t with
 |some (sz,_,zs)=>match x with
  | .nil=>some (.tup [],none)
  | .bs id ver z off len=>match hp id with
   |some (.cells v cs)=>match Nat.beq v ver&& (Nat.beq z sz&&Nat.ble (off+len*sz) cs.length) with
    |true=>match Nat.beq len 0 with
     |true=>some (.tup [],none)
     |false=>some (.tup [],some (id,.cells v (cs.take off++(TI sz len zs++cs.drop (off+len*sz)))))
    |false=>none
   |_=>none
  |_=>none
 |none=>none
def xdel(nf sz:Nat)(zs:List AV):CallX:=fun f args hp nx=>bif Nat.beq f nf then(match args with
 | [.bs id ver z off len,.int .i64 i,.int .i64 j]=>match lkb hp id with
  |some (.cells v cs)=>match Nat.beq v ver&& (Nat.beq z sz&& (Nat.ble (off+len*sz) cs.length&& (decide (0≤i)&& (decide (i<len)&&decide (j=i+1))))) with
   |true=>some (.bs id ver z off (len - 1),pt hp id (.cells v (cs.take (off+i.toNat*sz)++((cs.drop (off+(i.toNat+1)*sz)).take ((len - (i.toNat+1))*sz)++(zs++cs.drop (off+len*sz))))),nx)
   |false=>none
  |_=>none
 |_=>none) else none
def xmlen(P:Program)(t:TypeId)(x:AV)(hp:Hp):Option AV:=
 match x with
 | .mp id=>match hp id with
  |some (.map es)=>match JY P t with
   |some _=>some (.int .i64 es.length)
   |none=>none
  |some (.mapI es)=>match JY P t with
   |some _=>some (.int .i64 es.length)
   |none=>none
  |_=>none
 |_=>none
def L9(P:Program)(t:TypeId):Bool:=match JY P t with
 |some e=>match H9 P e with
  |some z=>isZ z
  |none=>false
 |none=>false
def xcopy(P:Program)(t:TypeId)(x y:AV)(hp:Hp):Option (AV×Option (Nat×Box)):=
 match elG P t with
 |some (sz,_,_)=>match xsrc sz y hp with
  |some (n,ds)=>match x with
   | .bs id ver z off len=>match hp id with
    |some (.cells v cs)=>match Nat.beq v ver&& (Nat.beq z sz&&Nat.ble (off+len*sz) cs.length) with
     |true=>match Nat.beq (Nat.min n len) 0 with
      |true=>some (.int .i64 0,none)
      |false=>some (.int .i64 (Nat.min n len),some (id,.cells v (cs.take off++(ds.take (Nat.min n len*sz)++cs.drop (off+Nat.min n len*sz)))))
     |false=>none
    |_=>none
   |_=>none
  |none=>none
 |none=>none
def xopM(P:Program)(bid:Nat)(dst:Option Nat)(op:Op)(ev:Operand→AV)(hp:Hp):Option (AV×Option (Nat×Box)):=
 match op with
 | .makeMap t none=>some (.mp bid,some (bid,bif L9 P t then .mapI [] else .map []))
 | .convert src to x=>xv (Q1l P src to (ev x) hp)
 | .mapUpdate t x i v=>if dst.isNone then xmput P t (ev x) (ev i) (ev v) hp else none
 | .call c=>match c.callee with
  | .builtin .copy=>match c.argTypes.toList,c.args.toList.map ev with
   | [t,_],[x,y]=>xcopy P t x y hp
   |_,_=>none
  | .builtin .clear=>match c.argTypes.toList,c.args.toList.map ev with
   | [t],[x]=>Q1d P t x hp
   |_,_=>none
  | .builtin .len=>match c.argTypes.toList,c.args.toList.map ev with
   | [t],[x]=>xv (xmlen P t x hp)
   |_,_=>none
  | .builtin .delete=>match c.argTypes.toList,c.args.toList.map ev with
   | [t,_],[x,y]=>xmdel P t x y hp
   |_,_=>none
  |_=>none
 |_=>none
section
variable {P : Program} {m : Nat → Lc} {H : HV} {B : Nat → Prop} {H0 : HV} {gl : Nat → AV} {rest : List (AV × Value)} {st : St} {a : Act} {w : World}
theorem RelH.newObj{hp:Hp}{nx:Nat}(h:RelH m H B H0 gl hp nx w){id:Nat}(hn:hp id=none){nx':Nat}(a6:id<nx')(a7:nx≤nx')(o:Obj)(b:Box)(a3:b.ver? =none)(hb:Yq H (Q6 (updF hp id (some b)) (updF m id ⟨w.heap.size,0,0⟩)) b ⟨w.heap.size,0,0⟩ (w.alloc o)):
  RelH (updF m id ⟨w.heap.size,0,0⟩) H B H0 gl (updF hp id (some b)) nx' (w.alloc o)∧Env.le (Q6 hp m) (Q6 (updF hp id (some b)) (updF m id ⟨w.heap.size,0,0⟩)):=by
 have hE:=Mu (m:=m) (hp:=hp) (b:=b) (l:=⟨w.heap.size,0,0⟩) hn;have a5:∀o,H w.heap.size o=none:=fun o=>by
  cases hh:H w.heap.size o with
  |none=>rfl
  |some v=>have:=Jh h.sat hh;omega
 exact⟨h.one (l:=⟨w.heap.size,0,0⟩) (fun k hk _=>Jz w _ k hk) (by simp_all) hE ⟨h.notB,by simp_all,a5⟩ (fun a8 b' _ a4 hr=>by
  have:=(h.sepR a8 b' a4 hr).2.1;grind) a6 a7 hb (fun ver cs e=>by subst e;cases a3) (Box.elder_real (Box.nover a3) _),hE⟩
theorem RelH.putObj{hp:Hp}{nx:Nat}(h:RelH m H B H0 gl hp nx w){id:Nat}{b b':Box}(a3:hp id=some b)(h1:b.ver? =none)(h2:b'.ver? =none)(o:Obj)(h3:∀(C:Array Value) (e:TypeId) (fr:Nat×Nat),w.heap[(m id).g]? ≠some (Obj.cells C e fr))
  (hb:∀E',Env.le (Q6 hp m) E'→Yq H E' b' (m id) (w.putObj (m id).g o)):RelH m H B H0 gl (updF hp id (some b')) nx (w.putObj (m id).g o)∧Env.le (Q6 hp m) (Q6 (updF hp id (some b')) m)∧Qa B w (w.putObj (m id).g o):=by
 have hm:updF m id (m id)=m:=by grind [updF]
 have hE:=env_obj (m:=m) (hp:=hp) (l:=m id) a3 h1 h2 rfl;have a5:=Box.elder_real (Box.nover h1) (m id);obtain⟨s1,s2,s3⟩:=h.sepR id b a3 a5;have a4:id<nx:=by
  rcases Nat.lt_or_ge id nx with aa | a9
  ·exact aa
  ·have:=h.fresh id a9;simp_all
 have:=h.one (id:=id) (b:=b') (l:=m id) (w':=w.putObj (m id).g o) (fun k _ hk=>World.putObj_heap_other hk) (by simp) hE ⟨s1,by simp_all,s3⟩ (fun ad b2 ab a8 hr e=>ab (h.injR ad id b2 b a8 a3 hr a5 e)) a4 (Nat.le_refl _) (hb _ hE) (fun ver cs e=>by subst e;cases h2) (Box.elder_real (Box.nover h2) _)
 rw[hm] at this hE;exact⟨this,hE,rfl,rfl,rfl,by simp,fun k hk=>World.putObj_heap_other (fun e=>by simp_all),fun k C e fr hk=>by
  by_cases hkg:k=(m id).g
  ·simp_all
  ·exact⟨C,fr,by rw[World.putObj_heap_other hkg];exact hk,rfl⟩⟩
theorem Q3k{E':Env}{es:List (List UInt8×AV)}{A:Array MapEntry}(h:DA H E' es A)(s:List UInt8){v:AV}{u:Value}(hv:RV H E' v u)(c:Nat):
  match DE s es 0 with
  |none=>DA H E' (mput s v es) (A.push {key:=.string ⟨s.toArray⟩,val:=u,born:=c})
  |some (j,_)=>DA H E' (mput s v es) (A.modify j fun e=> {e with key:=.string ⟨s.toArray⟩,val:=u}):=by
 unfold mput;split
 ·rename_i hm;rw[hm];refine⟨by simp[h.1],fun j k x e hj he=> ?_⟩
  rw[Array.getElem?_push] at he;by_cases hl:j<es.length
  ·rw[List.getElem?_append_left hl] at hj;rw[if_neg (by rw[h.1];omega)] at he
   exact h.2 j k x e hj he
  ·rw[cqq (by omega)] at hj
   have a4:j - es.length=0:=by
    grind
   rw[a4] at hj;simp only[List.getElem?_cons_zero,cqf,Prod.mk.injEq] at hj;obtain⟨rfl,rfl⟩:=hj;rw[if_pos (by rw[h.1];omega)] at he
   grind
 ·rename_i i x hm;rw[hm];refine⟨by simp[h.1],fun j k x e hj he=> ?_⟩
  rw[Array.getElem?_modify] at he;rw[List.getElem?_set] at hj;by_cases hij:i=j
  ·grind
  ·rw[if_neg hij] at he hj;exact h.2 j k x e hj he
theorem Q00{t:TypeId}{e:TypeId}{E:Env}{es:List (List UInt8×AV)}{A:Array MapEntry}{c g:Nat}{k:List UInt8}{y:AV}{z:Value}(he:JY P t=some e)(hA:w.heap[g]? =some (.map A c))(a3:DA H E es A)(hy:RV H E y z):
  ∃A' c',(Instr.mapUpdate t (.map (some g)) (.string ⟨k.toArray⟩) z).run P w= .ok () (w.putObj g (.map A' c'))∧∀E',Env.le E E'→DA H E' (mput k y es) A':=by
 obtain⟨kt,hm,a4⟩:=IV he;have hf:=Ei a3 k;split at hf
 ·rename_i aa;refine⟨A.push {key:=.string ⟨k.toArray⟩,val:=z,born:=c},c+1,?_,fun E' hE=> ?_⟩
  ·simp[Instr.mapUpdate,run_underlying hm,run_getObj_map hA,run_checkKey a4 (isK k),run_findKey a4 hf,run_setObj_map _ hA,Result.andThen];rfl
  ·have:=Q3k (E':=E') (es:=es) (A:=A) ⟨a3.1,fun j k x e h1 h2=>let⟨a,b⟩:=a3.2 j k x e h1 h2;⟨a,b.mono (.refl _) hE⟩⟩ k (hy.mono (.refl _) hE) c
   simp_all
 ·rename_i j x aa;obtain⟨en,f1,f2,f3⟩:=hf;obtain⟨a6,_⟩:=a3.2 j k x en f3 f2;refine⟨A.modify j fun e=> {e with key:=.string ⟨k.toArray⟩,val:=z},c,?_,fun E' hE=> ?_⟩
  ·simp[Instr.mapUpdate,run_underlying hm,run_getObj_map hA,run_checkKey a4 (isK k),run_findKey a4 f1,f2,a6,run_keyThatStays (isK k),run_setObj_map _ hA,Result.andThen];rfl
  ·have:=Q3k (E':=E') (es:=es) (A:=A) ⟨a3.1,fun j k x e h1 h2=>let⟨a,b⟩:=a3.2 j k x e h1 h2;⟨a,b.mono (.refl _) hE⟩⟩ k (hy.mono (.refl _) hE) c
   simp_all
theorem Qap(h:RelS m H B H0 gl rest st a.tmps w){t:TypeId}{x i y:AV}{u v z:Value}{r:AV×Option (Nat×Box)}(hx:RV H (st.env m) x u)(hi:RV H (st.env m) i v)(hy:RV H (st.env m) y z)(hk:xmput P t x i y (lkb st.hp)=some r){dst:Option Nat}(hd:Z2 dst st.n=true){s:Sem Next}
  (hs:∀w',(Instr.mapUpdate t u v z).run P w= .ok () w'→s.run P w= .ok .skip w'):OpOk P B H0 gl rest a w dst (st.eff dst r) s:=by
 unfold xmput at hk;split at hk<;>first | cases hk | skip
 rename_i id;obtain⟨l,rfl,hl⟩:=hx.mp_inv;split at hk<;>first | cases hk | skip
 ·rename_i es a4;split at hk<;>first | cases hk | skip
  rename_i k;split at hk<;>first | cases hk | skip
  rename_i e he;obtain⟨A,c,hA,a7,ad⟩:=B9 h.heap a4;have a8:l=(m id).g:=by simp_all
  subst a8;rw[hi.str_inv] at hs;obtain⟨A',c',a6,a3⟩:=Q00 (P:=P) (k:=k) he hA a7 hy;obtain⟨hh,hE,hb⟩:=h.heap.putObj a4 rfl (b':=.map (mput k y es)) rfl (.map A' c') (fun C e fr q=>by simp_all) (fun E' a5=>⟨A',c',World.putObj_heap_same (h.heap.sep id _ a4).2.1,(a3 E' a5).1,(a3 E' a5).2⟩)
  exact OpOk.heap h hd (hs _ a6) (.inr ⟨rfl,rfl⟩) hb hh hE (.imm _ _ (.undef _))
 ·rename_i es a4;split at hk<;>first | cases hk | skip
  rename_i k;split at hk<;>first | cases hk | skip
  rename_i n;split at hk<;>first | cases hk | skip
  rename_i e he;obtain⟨A,c,hA,a7,ad⟩:=AW h.heap a4;have a8:l=(m id).g:=by simp_all
  subst a8;rw[hi.str_inv] at hs;obtain⟨A',c',a6,a3⟩:=Q00 (P:=P) (k:=k) he hA a7 hy;rw[Q74] at a3;obtain⟨hh,hE,hb⟩:=h.heap.putObj a4 rfl (b':=.mapI (UC k n es)) rfl (.map A' c') (fun C e fr q=>by simp_all) (fun E' a5=>⟨A',c',World.putObj_heap_same (h.heap.sep id _ a4).2.1,(a3 E' a5).1,(a3 E' a5).2⟩)
  exact OpOk.heap h hd (hs _ a6) (.inr ⟨rfl,rfl⟩) hb hh hE (.imm _ _ (.undef _))
theorem mdel_at{E':Env}{es:List (List UInt8×AV)}{A:Array MapEntry}(h:DA H E' es A)(j:Nat):DA H E' (es.eraseIdx j) (A.eraseIdxIfInBounds j):=by
 obtain⟨h1,h2⟩:=h;have a3:(A.eraseIdxIfInBounds j).toList=A.toList.eraseIdx j:=by simp
 refine⟨?_,fun q k x e hj he=> ?_⟩
 ·grind
 grind
theorem BV{t t' ty e:TypeId}{E:Env}{es:List (List UInt8×AV)}{A:Array MapEntry}{c g:Nat}{k:List UInt8}(he:JY P t=some e)(hA:w.heap[g]? =some (.map A c))(a3:DA H E es A):
  ∃A',(Builtin.delete_ #[t,t'] ty #[.map (some g),.string ⟨k.toArray⟩]).run P w= .ok (.tuple #[]) (w.putObj g (.map A' c))∧∀E',Env.le E E'→DA H E' (mdel k es) A':=by
 obtain⟨kt,hm,a4⟩:=IV he;have hf:=Ei a3 k;unfold mdel;split at hf
 ·rename_i a5;refine⟨A,?_,fun E' hE=> ?_⟩
  ·simp[Builtin.delete_,run_underlying hm,run_getObj_map hA,run_checkKey a4 (isK k),run_findKey a4 hf,run_setObj_map _ hA,Result.andThen];rfl
  ·rw[a5];exact⟨a3.1,fun j k x e h1 h2=>let⟨a,b⟩:=a3.2 j k x e h1 h2;⟨a,b.mono (.refl _) hE⟩⟩
 ·rename_i j x a5;obtain⟨en,f1,f2,f3⟩:=hf;refine⟨A.eraseIdxIfInBounds j,?_,fun E' hE=> ?_⟩
  ·simp[Builtin.delete_,run_underlying hm,run_getObj_map hA,run_checkKey a4 (isK k),run_findKey a4 f1,run_setObj_map _ hA,Result.andThen];rfl
  ·rw[a5];exact mdel_at ⟨a3.1,fun j k x e h1 h2=>let⟨a,b⟩:=a3.2 j k x e h1 h2;⟨a,b.mono (.refl _) hE⟩⟩ j
theorem Qam(h:RelS m H B H0 gl rest st a.tmps w){t t' ty:TypeId}{x i:AV}{u v:Value}{r:AV×Option (Nat×Box)}(hx:RV H (st.env m) x u)(hi:RV H (st.env m) i v)(hk:xmdel P t x i (lkb st.hp)=some r){dst:Option Nat}(hd:Z2 dst st.n=true):
  OpOk P B H0 gl rest a w dst (st.eff dst r) (do pure (.value (← Builtin.delete_ #[t,t'] ty #[u,v]))):=by
 unfold xmdel at hk;split at hk<;>first | cases hk | skip
 rename_i id;obtain⟨l,rfl,hl⟩:=hx.mp_inv;split at hk<;>first | cases hk | skip
 ·rename_i es a4;split at hk<;>first | cases hk | skip
  rename_i k;split at hk<;>first | cases hk | skip
  rename_i e he;obtain⟨A,c,hA,a6,ad⟩:=B9 h.heap a4;have a7:l=(m id).g:=by simp_all
  subst a7;rw[hi.str_inv];obtain⟨A',a8,a3⟩:=BV (P:=P) (t':=t') (ty:=ty) (k:=k) he hA a6;obtain⟨hh,hE,hb⟩:=h.heap.putObj a4 rfl (b':=.map (mdel k es)) rfl (.map A' c) (fun C e fr q=>by simp_all) (fun E' a5=>⟨A',c,World.putObj_heap_same (h.heap.sep id _ a4).2.1,(a3 E' a5).1,(a3 E' a5).2⟩)
  exact OpOk.heap h hd (nx:=.value (.tuple #[])) (by simp_all) (.inl rfl) hb hh hE (.imm _ _ (.tup _ _ rfl (fun j c v hj=>by simp at hj)))
 ·rename_i es a4;split at hk<;>first | cases hk | skip
  rename_i k;split at hk<;>first | cases hk | skip
  rename_i e he;obtain⟨A,c,hA,a6,ad⟩:=AW h.heap a4;have a7:l=(m id).g:=by simp_all
  subst a7;rw[hi.str_inv];obtain⟨A',a8,a3⟩:=BV (P:=P) (t':=t') (ty:=ty) (k:=k) he hA a6;rw[Q72] at a3;obtain⟨hh,hE,hb⟩:=h.heap.putObj a4 rfl (b':=.mapI (Ej k es)) rfl (.map A' c) (fun C e fr q=>by simp_all) (fun E' a5=>⟨A',c,World.putObj_heap_same (h.heap.sep id _ a4).2.1,(a3 E' a5).1,(a3 E' a5).2⟩)
  exact OpOk.heap h hd (nx:=.value (.tuple #[])) (by simp_all) (.inl rfl) hb hh hE (.imm _ _ (.tup _ _ rfl (fun j c v hj=>by simp at hj)))
theorem Qao(h:RelS m H B H0 gl rest st a.tmps w){t ty:TypeId}{x r:AV}{u:Value}(hx:RV H (st.env m) x u)(hk:xmlen P t x (lkb st.hp)=some r):
  ∃y,(Builtin.len_ #[t] ty #[u]).run P w= .ok y w∧RV H (st.env m) r y:=by
 unfold xmlen at hk;split at hk<;>first | cases hk | skip
 rename_i id;obtain⟨l,rfl,hl⟩:=hx.mp_inv;have go:∀(es:List (List UInt8×AV)) (A:Array MapEntry) (c:Nat) (e:TypeId),w.heap[(m id).g]? =some (.map A c)→DA H (st.env m) es A→(st.env m).lp id=some (m id).g→JY P t=some e→∃y,(Builtin.len_ #[t] ty #[.map (some l)]).run P w= .ok y w∧RV H (st.env m) (.int .i64 es.length) y:=fun es A c e hA a3 a5 he=>by
  obtain⟨kt,hm,a7⟩:=IV he;have a6:l=(m id).g:=by simp_all
  subst a6;refine⟨.int .i64 A.size,?_,by rw[a3.1];exact .imm _ _ (.int _ _)⟩
  simp[Builtin.len_,run_underlying hm,run_getObj_map hA,goInt,Result.andThen]
 split at hk<;>first | cases hk | skip
 ·rename_i es a4;split at hk<;>first | cases hk | skip
  rename_i e he;obtain⟨A,c,hA,a3,a5⟩:=B9 h.heap a4
  simp_all
 ·rename_i es a4;split at hk<;>first | cases hk | skip
  rename_i e he;obtain⟨A,c,hA,a3,a5⟩:=AW h.heap a4
  grind [encM]
theorem Q80{nx:Nat}{hp:Hp}(h:RelH m H B H0 gl hp nx w){a3 to:TypeId}{x r:AV}{u:Value}(hx:RV H (Q6 hp m) x u)(hk:Q1l P a3 to x hp=some r):
  ∃y,(convert a3 to u).run P w= .ok y w∧RV H (Q6 hp m) r y:=by
 unfold Q1l at hk;cases hc:(Id P a3&&V6 P to) with
 |false=>simp_all
 |true=>
  rw[hc] at hk;simp only[cond_true] at hk;rw[cqb] at hc;obtain⟨e,hs,he⟩:=Sl hc.1;have hd:=Ju hc.2;split at hk<;>first | cases hk | skip
  ·rename_i id ver sz off len;split at hk<;>first | cases hk | skip
   rename_i v cs a7;split at hk<;>first | cases hk | skip
   rename_i a4;split at hk<;>first | cases hk | skip
   rename_i ns ab;split at hk<;>first | cases hk | skip
   rename_i s ad;simp only[cqb] at a4;obtain rfl:=cqa a4.1;obtain rfl:=cqa a4.2.1;have ai:=cqe a4.2.2;obtain⟨a,cap,rfl,_,_,_,a8⟩:=hx.bs_inv;obtain⟨rfl,_⟩:=a8 (m id) (YN a7);obtain⟨C,e',hC,ak,ah,aa⟩:=h.box id _ a7;have a6:=Sw _ _ ab;have aj:ns.length=len:=by have:=congrArg List.length a6;grind
   refine⟨.string (runesBytes (ns.take len)),run_convert_runes w a3 to e _ len cap ns (by omega) hs he hd fun j hj=> ?_,?_⟩
   ·have h1:cs[off+j]? =some (.int .i32 (ns.getD j 0)):=by
     have h2:((cs.drop off).take len)[j]? =(ns.map (AV.int .i32))[j]? :=by rw[a6]
     grind
    obtain⟨v,f1,f2,f3⟩:=aa _ _ h1;cases f3 with
    |imm _ _ f3=>
     cases f3;rw[Xj];simp only[World.cell?,hC]
     grind
   ·rw[List.take_of_length_le (by omega)]
    have:=Sb ns s ByteArray.empty ad;unfold runesBytes;rw[this,ByteArray.empty_append];exact .imm _ _ (.str s)
  ·rw[hx.nil_inv];exact⟨_,run_convert_runes_nil w a3 to e 0 0 hs he hd,.imm _ _ (.str [])⟩
theorem Q2l(t t' ty e:TypeId)(i:TypeInfo)(ht:P.underlying t=some (.slice e))(hi:P.info? e=some i)
  (g o a4 a7:Nat) (a0:Addr) (a3 a6:Nat) (a5:Array Value) (e':TypeId) (vs:List Value) (hg:w.heap[g]? =some (.cells a5 e' (0,0))) (hl:vs.length=Nat.min a3 a4*i.size)
  (a8:∀(j:Nat) (v:Value),vs[j]? =some v→w.cell? (a0.add j)=some v) (ab:o+vs.length≤a5.size) (h1:∀v∈vs,v.oneCell'=true):
  (Builtin.copy_ #[t,t'] ty #[.slice (some ⟨g,o,none⟩) a4 a7,.slice (some a0) a3 a6]).run P w=
   .ok (goInt (Nat.min a3 a4)) (w.setRow g (a5.toList.take o++vs++a5.toList.drop (o+vs.length)).toArray):=by
 have hf:=run_firstCells_some (P:=P) (w:=w) i.size (Nat.min a3 a4) a0 a3 a6 vs hl a8;have a9:=run_storeCells_at P g o e' vs 0 a5 w hg (by omega) h1
 simp only[Nat.add_zero] at a9;simp[Builtin.copy_,run_underlying ht,Go.sizeOf,typeInfo,hi,Builtin.lenOf,hf,a9]
theorem OM(t t' ty e:TypeId)(i:TypeInfo)(ht:P.underlying t=some (.slice e))(hi:P.info? e=some i)(b a0:Option Addr)(n c m c':Nat)(h0:Nat.min m n=0):
  (Builtin.copy_ #[t,t'] ty #[.slice b n c,.slice a0 m c']).run P w= .ok (goInt 0) w:=by
 cases a0 with
 |none=>cases b<;>simp[Builtin.copy_,run_underlying ht,Go.sizeOf,typeInfo,hi,Builtin.lenOf,Builtin.firstCells,h0,storeCells]
 |some a=>cases b<;>simp[Builtin.copy_,run_underlying ht,Go.sizeOf,typeInfo,hi,Builtin.lenOf,Builtin.firstCells,h0,storeCells,loadCells,loadCellsFrom]
theorem Qai(h:RelS m H B H0 gl rest st a.tmps w){dst:Option Nat}(hd:Z2 dst st.n=true){t t' ty:TypeId}{x y:AV}{u v:Value}{r:AV×Option (Nat×Box)}(hx:RV H (st.env m) x u)(hy:RV H (st.env m) y v)(hk:xcopy P t x y (lkb st.hp)=some r):
  OpOk P B H0 gl rest a w dst (st.eff dst r) (do pure (.value (← Builtin.copy_ #[t,t'] ty #[u,v]))):=by
 unfold xcopy at hk;split at hk<;>first | cases hk | skip
 rename_i sz ba zs ht;obtain⟨e,i,z0,aj,hi,hz,bu,ag,ae,bf,bo,rfl⟩:=Dh ht;split at hk<;>first | cases hk | skip
 rename_i n ds ai;obtain⟨ad,c,vs,rfl,hr,bh,aa⟩:=TH h.heap hy ai ag;split at hk<;>first | cases hk | skip
 rename_i id ver z off len;split at hk<;>first | cases hk | skip
 rename_i v' cs a4;split at hk<;>first | cases hk | skip
 rename_i hc;simp only[cqb] at hc;obtain rfl:=cqa hc.1;obtain rfl:=cqa hc.2.1;have b6:=cqe hc.2.2;obtain⟨b,cap,rfl,bn,bg,_,af⟩:=hx.bs_inv;obtain⟨rfl,aw⟩:=af (m id) (YN a4);split at hk
 ·rename_i h0;cases hk;have h0:=cqa h0;exact OpOk.val h hd (by rw[cqv,OM t t' ty e i aj hi _ ad len cap n c h0];rfl) (.imm _ _ (.int _ _))
 ·rename_i h0;cases hk;have h0:Nat.min n len≠0:=fun e=>by rw[e] at h0;cases h0
  generalize hkk:Nat.min n len=k at*;have ay:k≤n:=by rw[← hkk];exact Nat.min_le_left _ _
  have az:k≤len:=by rw[← hkk];exact Nat.min_le_right _ _
  obtain⟨a0,rfl,a8⟩:=aa (by omega)
  obtain⟨C,e2,hC,hs,b0,ar⟩:=h.heap.box id _ a4;have bm:k*z≤n*z:=cqp _ ay;have bl:k*z≤len*z:=cqp _ az;have au:ds.length=vs.length:=hr.1;have ak:Z9 (RV H (st.env m)) (ds.take (k*z)) (vs.take (k*z)):=⟨by simp[au],fun j c hj=>by
   rw[List.getElem?_take] at hj ⊢;split at hj
   ·rename_i ab;rw[if_pos ab];exact hr.2 j c hj
   ·cases hj⟩
  have b2:(vs.take (k*z)).length=k*z:=by simp;omega
  have a6:(ds.take (k*z)).length=k*z:=by simp;omega
  have hE:=SS (m:=m) (hp:=lkb st.hp) (cs':=cs.take off++(ds.take (k*z)++cs.drop (off+k*z))) (l:=m id) a4 rfl;have a9:=h.heap.sep id _ a4;have ah:=Pl (base:=(m id).base) (off:=off) b0 ar ak (by omega) (by omega)
  have hh:=h.heap.one (id:=id) (b:=.cells v' (cs.take off++(ds.take (k*z)++cs.drop (off+k*z)))) (l:=m id) (w':=w.setRow (m id).g (C.toList.take ((m id).base+off)++vs.take (k*z)++C.toList.drop ((m id).base+off+(vs.take (k*z)).length)).toArray)
   (fun k _ hk=>setRow_other w _ k _ hk) (by simp[World.setRow]) hE ⟨a9.1,by simp[World.setRow];omega,a9.2.2⟩ (fun b3 b' b1 aq hr e=>b1 (h.heap.injR b3 id b' _ aq a4 hr trivial e)) (by
    rcases Nat.lt_or_ge id st.nx with ab | ax
    ·exact ab
    ·have:=h.heap.fresh id ax;simp_all) (Nat.le_refl _) (by
    refine⟨_,e2,setRow_heap w _ C _ e2 _ hC,?_,?_,fun j c hj=> ?_⟩
    ·simp;omega
    ·simp;omega
    ·rw[← a6] at hj;simp only[a6] at hj;obtain⟨v2,a1,a2,a3⟩:=ah j c (by rw[a6];exact hj)
     exact⟨v2,a1,a2,a3.mono (.refl _) hE⟩) (fun ver bb e3=>by
    cases e3;rcases h.heap.ty id _ _ a4 with h0 | ⟨h1,C2,fr,h2⟩
    ·exact .inl h0
    ·rw[hC] at h2;cases h2;exact .inr ⟨h1,_,_,setRow_heap w _ C _ _ _ hC⟩)
  have hm:updF m id (m id)=m:=by funext k;simp only[updF];split<;>simp[*]
  refine OpOk.heap (v:=goInt k) h hd ?_ (.inl rfl) (C9 h.heap a4 _ (fun C0 e0 bc h0=>by grind)) hh hE (.imm _ _ (.int _ _))
  have b7:=Q2l (P:=P) (w:=w) t t' ty e i aj hi (m id).g ((m id).base+off) len cap a0 n c C e2 (vs.take (k*z)) hC (by rw[b2,hkk,ae]) (fun j v hj=>by
   rw[List.getElem?_take] at hj;split at hj;·exact a8 j v hj
   ·cases hj) (by omega) ak.mem
  simp_all
theorem EO{e:TypeId}{fr:Nat×Nat}(b:Nat):∀(vs:List Value) (o:Nat) (w:World) (C:Array Value),w.heap[b]? =some (.cells C e fr)→o+vs.length≤C.size→
  ∃C',(w.setCells b o vs).heap[b]? =some (.cells C' e fr)∧C'.size=C.size∧(∀j,j<vs.length→C'[o+j]? =vs[j]?)∧(∀k,k<o∨o+vs.length≤k→C'[k]? =C[k]?)∧(w.setCells b o vs).heap.size=w.heap.size
 | [],o,w,C,h,_=>⟨C,h,rfl,fun j hj=>by simp at hj,fun _ _=>rfl,rfl⟩
 |v::vs,o,w,C,h,ho=>by
  simp only[List.length_cons] at ho;have hb:b<w.heap.size:=(Array.getElem?_eq_some_iff.1 h).1;have h0:(w.setCell ⟨b,o,none⟩ v).heap[b]? =some (.cells (C.setIfInBounds o v) e fr):=by
   show(w.heap.modify b _)[b]? =_
   grind
  obtain⟨C',a1,a2,a3,a4,a5⟩:=EO b vs (o+1) (w.setCell ⟨b,o,none⟩ v) _ h0 (by simp;omega)
  refine⟨C',a1,by simp_all,fun j hj=> ?_,fun k hk=> ?_,by rw[show(w.setCells b o (v::vs))=(w.setCell ⟨b,o,none⟩ v).setCells b (o+1) vs from rfl,a5];simp_all⟩
  ·grind
  grind
theorem EQ(b:Nat):∀(vs:List Value) (o:Nat) (w:World),(w.setCells b o vs).os=w.os∧(w.setCells b o vs).tape=w.tape∧(w.setCells b o vs).output=w.output∧∀k,k≠b→(w.setCells b o vs).heap[k]? =w.heap[k]?
 | [],o,w=>⟨rfl,rfl,rfl,fun _ _=>rfl⟩
 |v::vs,o,w=>by
  obtain⟨a1,a2,a3,a4⟩:=EQ b vs (o+1) (w.setCell ⟨b,o,none⟩ v);refine⟨a1,a2,a3,fun k hk=>(a4 k hk).trans ?_⟩
  show(w.heap.modify b _)[k]? =_
  grind
structure PutC (H:HV) (E:Env) (w W:World) (l:Lc) (cs':List AV):Prop where
 os:W.os=w.os
 tape:W.tape=w.tape
 out:W.output=w.output
 size:w.heap.size≤W.heap.size
 oth:∀k,k<w.heap.size→k≠l.g→W.heap[k]? =w.heap[k]?
 row:∀C e,w.heap[l.g]? =some (.cells C e (0,0))→∃C',W.heap[l.g]? =some (.cells C' e (0,0))∧C'.size=C.size∧l.base+cs'.length≤C.size∧
  ∀j c,cs'[j]? =some c→∃v,C'[l.base+j]? =some v∧v.oneCell'=true∧RV H E c v
theorem Q6j{hp:Hp}{nx:Nat}{W:World}{id ver:Nat}{cs cs':List AV}(hh:RelH m H B H0 gl hp nx w)(a3:hp id=some (.cells ver cs))(hW:PutC H (Q6 hp m) w W (m id) cs'):
  RelH m H B H0 gl (updF hp id (some (.cells ver cs'))) nx W∧Env.le (Q6 hp m) (Q6 (updF hp id (some (.cells ver cs'))) m)∧Qa B w W:=by
 have hn:id<nx:=by
  rcases Nat.lt_or_ge id nx with h | h
  ·exact h
  ·rw[hh.fresh id h] at a3;cases a3
 obtain⟨hb,ab,a8⟩:=hh.sep id _ a3;obtain⟨C,e,h1,h2,h3,h4⟩:=hh.box id _ a3;obtain⟨C',g1,g2,g3,g4⟩:=hW.row C e h1;have hE:=SS (m:=m) (hp:=hp) (cs':=cs') (l:=m id) a3 rfl;have hm:updF m id (m id)=m:=by grind [updF]
 have a5:=hW.oth;have:=hh.one (id:=id) (nx':=nx) (b:=.cells ver cs') (l:=m id) (w':=W) (fun k hk a7=>a5 k hk a7) hW.size hE ⟨hb,Nat.lt_of_lt_of_le ab hW.size,a8⟩
  (fun ad b' a7 aa hr e=>a7 (hh.injR ad id b' _ aa a3 hr trivial e)) hn (Nat.le_refl _) ⟨C',e,g1,by omega,by omega,fun j c hj=>let⟨v,a,b,c'⟩:=g4 j c hj;⟨v,a,b,c'.mono (.refl _) hE⟩⟩ (fun ag ah e3=>by
   cases e3;rcases hh.ty id _ _ a3 with h0 | ⟨q1,C2,fr,q2⟩
   ·exact .inl h0
   ·rw[h1] at q2;cases q2;exact .inr ⟨q1,_,_,g1⟩)
 rw[hm] at this hE;refine⟨this,hE,⟨hW.os,hW.tape,hW.out,hW.size,fun k hk=>a5 k (hh.low k hk) fun e=>hb (e▸hk),fun k C2 e2 fr hk=> ?_⟩⟩
 grind
theorem Q0g{hp:Hp}{nx:Nat}{id ver off:Nat}{cs ds:List AV}{vs:List Value}(hh:RelH m H B H0 gl hp nx w)(a4:hp id=some (.cells ver cs))(hr:Z9 (RV H (Q6 hp m)) ds vs)(a9:off+ds.length≤cs.length):
  PutC H (Q6 hp m) w (w.setCells (m id).g ((m id).base+off) vs) (m id) (cs.take off++(ds++cs.drop (off+ds.length))):=by
 obtain⟨C,e,h1,h2,h3,h4⟩:=hh.box id _ a4;have ae:ds.length=vs.length:=hr.1;obtain⟨C',b1,b2,b3,b4,b5⟩:=EO (e:=e) (fr:=(0,0)) (m id).g vs ((m id).base+off) w C h1 (by omega)
 obtain⟨s1,s2,s3,s4⟩:=EQ (m id).g vs ((m id).base+off) w;refine⟨s1,s2,s3,by omega,fun k _ hk=>s4 k hk,fun C0 e0 h0=> ?_⟩
 rw[h1] at h0;cases h0;refine⟨C',b1,b2,by simp;omega,fun j c hj=> ?_⟩
 have a6:(cs.take off).length=off:=by grind
 by_cases q1:j<off
 ·grind
 ·rw[cqq (by omega),a6] at hj
  by_cases q2:j - off<ds.length
  ·rw[List.getElem?_append_left q2] at hj;obtain⟨v,a1,a2,a3⟩:=hr.2 _ c hj
   grind
  grind
theorem Q86{E:Env}{sz n:Nat}{z:Value}(hz:z.cells.size=sz)(a4:0<sz)(a7:(ofV z).okc=true):Z9 (RV H E) (TI sz n (ofV z).cells) (Builtin.zeroCells z.cells n).toList:=by
 have hr:=(RV.imm (H:=H) (E:=E) _ _ (Nu H z)).cellsRel a7;have hl:(ofV z).cells.length=sz:=by rw[hr.1];omega
 refine⟨by simp[TI,Builtin.zeroCells,hz],fun j c hj=> ?_⟩
 unfold TI at hj;rw[cqs,Option.map_eq_some_iff] at hj;obtain⟨i,hi,rfl⟩:=hj;have a5:i=j∧j<n*sz:=by
  grind
 obtain⟨rfl,a9⟩:=a5;have hm:i%sz<sz:=Nat.mod_lt _ a4;obtain⟨v,a1,a2,a3⟩:=hr.2 (i%sz) ((ofV z).cells[i%sz]'(by omega)) (cqc (by omega))
 refine⟨v,?_,a2,by simp_all⟩
 rw[Array.getElem?_toList] at a1 ⊢;unfold Builtin.zeroCells
 simp_all
theorem Q7q(h:RelS m H B H0 gl rest st a.tmps w){t ty:TypeId}{x:AV}{u:Value}{r:AV×Option (Nat×Box)}(hx:RV H (st.env m) x u)(hk:Q1d P t x (lkb st.hp)=some r){dst:Option Nat}(hd:Z2 dst st.n=true):
  OpOk P B H0 gl rest a w dst (st.eff dst r) (do pure (.value (← Builtin.clear_ #[t] ty #[u]))):=by
 unfold Q1d at hk;split at hk<;>first | cases hk | skip
 rename_i sz ar zs ht;obtain⟨e,i,z0,ad,hi,hz,ak,aa,aj,aw,ai,rfl⟩:=Dh ht;have a8:∀w,(zeroValue e).run P w= .ok z0 w:=fun w=>by simp[zeroValue,typeInfo,hi,hz,Result.andThen]
 have a4:∀(b:Option Addr) (c:Nat),(Builtin.clear_ #[t] ty #[.slice b 0 c]).run P w= .ok (.tuple #[]) w:=fun b c=>by
  cases b<;>simp[Builtin.clear_,run_underlying ad]
 split at hk<;>first | cases hk | skip
 ·rw[hx.nil_inv];exact OpOk.val h hd (by rw[cqv,a4];rfl) (.imm _ _ (.tup _ _ rfl (fun j c v hj=>by simp at hj)))
 ·rename_i id ver z off len;split at hk<;>first | cases hk | skip
  rename_i v' cs a5;split at hk<;>first | cases hk | skip
  rename_i hc;simp only[cqb] at hc;obtain rfl:=cqa hc.1;obtain rfl:=cqa hc.2.1;have b1:=cqe hc.2.2;obtain⟨b,cap,rfl,b0,ax,_,a9⟩:=hx.bs_inv;obtain⟨rfl,ah⟩:=a9 (m id) (YN a5);split at hk
  ·rename_i h0;cases hk;obtain rfl:=cqa h0;exact OpOk.val h hd (by rw[cqv,a4];rfl) (.imm _ _ (.tup _ _ rfl (fun j c v hj=>by simp at hj)))
  ·rename_i h0;cases hk;have ao:len≠0:=fun e=>by simp_all
   have a3:=Q86 (H:=H) (E:=st.env m) (n:=len) ak aa ai;have ae:(TI z len (ofV z0).cells).length=len*z:=by simp[TI]
   have a6:=Q0g (m:=m) (H:=H) (off:=off) h.heap a5 a3 (by omega)
   rw[ae] at a6;obtain⟨hh,hE,hb⟩:=Q6j h.heap a5 a6;refine OpOk.heap (v:=.tuple #[]) h hd ?_ (.inl rfl) hb hh hE (.imm _ _ (.tup _ _ rfl (fun j c v hj=>by simp at hj)))
   obtain⟨C,e2,h1,h2,h3,h4⟩:=h.heap.box id _ a5;have b3:(Builtin.zeroCells z0.cells len).toList.length=len*z:=by rw[← a3.1];exact ae
   have ab:=run_storeCells_cells (P:=P) (m id).g ((m id).base+off) (Builtin.zeroCells z0.cells len).toList 0 w (fun j hj=>by
    have:(m id).base+off+(0+j)<C.size:=by omega
    simp[World.cell?,h1];omega) (fun j hj=>by simp[World.frozen?,h1]) a3.mem
   simp only[Nat.add_zero] at ab;obtain⟨k,rfl⟩:∃k,len=k+1:=⟨len - 1,by omega⟩
   rw[cqv];have ap:(Builtin.clear_ #[t] ty #[.slice (some ⟨(m id).g,(m id).base+off,none⟩) (k+1) cap]).run P w= .ok (.tuple #[]) (w.setCells (m id).g ((m id).base+off) (Builtin.zeroCells z0.cells (k+1)).toList):=by
    simp[Builtin.clear_,run_underlying ad,a8,ab]
   simp_all
theorem Px(h:RelS m H B H0 gl rest st a.tmps w){o:Oper}(hd:Z2 o.dst st.n=true){bid:Nat}(hb:lkb st.hp bid=none)(hn:bid<st.nx){r:AV×Option (Nat×Box)}(hk:xopM P bid o.dst o.op (st.ev gl) (lkb st.hp)=some r):
  OpOk P B H0 gl rest a w o.dst (st.eff o.dst r) (execOp a.eval o):=by
 unfold xopM at hk;unfold execOp;split at hk
 ·rename_i t ho;simp only[ho];cases hk;have h1:∀t,(bif L9 P t then Box.mapI [] else Box.map []).ver? =none:=fun t=>by cases L9 P t<;>rfl
  have h2:∀t E,Yq H E (bif L9 P t then Box.mapI [] else Box.map []) ⟨w.heap.size,0,0⟩ (w.alloc (.map #[] 0)):=fun t E=>by
   cases L9 P t with
   |true=>exact⟨#[],0,Xn w _,rfl,fun j k x e hj=>by simp_all⟩
   |false=>exact⟨#[],0,Xn w _,rfl,fun j k x e hj=>by simp at hj⟩
  have h3:∀t m',(Q6 (updF (lkb st.hp) bid (some (bif L9 P t then Box.mapI [] else Box.map []))) m').lp bid=some (m' bid).g:=fun t m'=>by grind [L9,Q6,Qn]
  obtain⟨hh,hE⟩:=h.heap.newObj hb hn (Nat.le_refl _) (.map #[] 0) (bif L9 P t then Box.mapI [] else Box.map []) (h1 t) (h2 t _);refine OpOk.heap h hd (nx:=.value (.map (some w.heap.size))) ?_ (.inl rfl) (Wx h _) hh hE (.mp _ _ (by simp_all [Qn]))
  simp[Instr.makeMap]
 ·rename_i aj to x ho;simp only[ho];obtain⟨v,h1,rfl⟩:=Kq hk;obtain⟨y,h2,h3⟩:=Q80 (P:=P) h.heap (h.ev x) h1;exact OpOk.val h hd (v:=y) (by simp[h2]) h3
 ·rename_i t x i v ho;simp only[ho];split at hk;·exact Qap h (h.ev x) (h.ev i) (h.ev v) hk hd (fun w' ae=>by simp[ae])
  ·cases hk
 ·rename_i c ho;simp only[ho];split at hk
  ·rename_i a4;split at hk
   ·rename_i t t' x y a6 a3;obtain⟨a8,a5,a7⟩:=c;dsimp only at a4 a6 a3 hk;subst a4;obtain⟨l1⟩:=a7;obtain⟨l2⟩:=a5;dsimp only at a6 a3;subst a6
    match l2,a3 with
    | [o1,o2],a3=>
     cases a3;have:=Qai (t':=t') (ty:=o.type) h hd (h.ev o1) (h.ev o2) hk;simp only[resolve];simpa only[List.map_toArray,List.map_cons,List.map_nil,invoke,builtin,pure_bind] using this
   ·cases hk
  ·rename_i a4;split at hk
   ·rename_i t x a6 a3;obtain⟨a8,a5,a7⟩:=c;dsimp only at a4 a6 a3 hk;subst a4;obtain⟨l1⟩:=a7;obtain⟨l2⟩:=a5;dsimp only at a6 a3;subst a6
    match l2,a3 with
    | [o1],a3=>
     cases a3;have:=Q7q (ty:=o.type) h (h.ev o1) hk hd;simp only[resolve];simpa only[List.map_toArray,List.map_cons,List.map_nil,invoke,builtin,pure_bind] using this
   ·cases hk
  ·rename_i a4;split at hk
   ·rename_i t x a6 a3;obtain⟨a8,a5,a7⟩:=c;dsimp only at a4 a6 a3 hk;subst a4;obtain⟨l1⟩:=a7;obtain⟨l2⟩:=a5;dsimp only at a6 a3;subst a6
    match l2,a3 with
    | [o1],a3=>
     cases a3;obtain⟨v,h1,rfl⟩:=Kq hk;obtain⟨y,h2,h3⟩:=Qao (P:=P) (ty:=o.type) h (h.ev o1) h1;refine OpOk.val h hd (v:=y) ?_ h3;simp[resolve,invoke,builtin,h2]
   ·cases hk
  ·rename_i a4;split at hk
   ·rename_i t t' x y a6 a3;obtain⟨a8,a5,a7⟩:=c;dsimp only at a4 a6 a3 hk;subst a4;obtain⟨l1⟩:=a7;obtain⟨l2⟩:=a5;dsimp only at a6 a3;subst a6
    match l2,a3 with
    | [o1,o2],a3=>
     cases a3;have:=Qam (t':=t') (ty:=o.type) h (h.ev o1) (h.ev o2) hk hd;simp only[resolve];simpa only[List.map_toArray,List.map_cons,List.map_nil,invoke,builtin,pure_bind] using this
   ·cases hk
  ·cases hk
 ·cases hk
theorem Iw{bid:Nat}{dst:Option Nat}{op:Op}{ev:Operand→AV}{hp:Hp}{r:AV×Option (Nat×Box)}(h:xopM P bid dst op ev hp=some r):∀c,op≠ .defer c:=by
 grind [xopM]
end
def FW(r:Option Nat):Fence:= {fn:=fun _=>True,depth:=none,alive:=false,round:=r}
theorem NZ{r:Option Nat}{n:Nat}{P:Program}{f:FuncId}{args:Array Value}{w:World}{R:Ending→World→Prop}(h:Calls P f args w R):CallsIn (FW r) n P f args w R:=
 show CallsIn Fence.wide n P f args w R from callsIn_wide.2 h
def NF(P:Program)(f:FuncId):Prop:=∀args w,(callFunc f args).run P w= .ok (.enter f args) w
theorem Gu{P:Program}{f:FuncId}{fn:Func}(hf:P.funcs[f]? =some fn)(hn:(fn.name== "runtime.NumGoroutine")=false)(hb:fn.body.isSome=true):NF P f:=by
 intro args w;have a3:fn.body.isNone=false:=by simp_all
 simp only[callFunc,cqv,run_program,cqw,hf,hn,a3,cqk,if_false,Sem.run_pure]
def Ans(P:Program)(f:FuncId)(vs:Array Value)(w:World)(Q:Ending→World→Prop):Prop:=
 (NF P f∧Calls P f vs w Q)∨∃v w',(callFunc f vs).run P w= .ok (.value v) w'∧Q (.returned v) w'
theorem Ans.mono{P:Program}{f:FuncId}{vs:Array Value}{w:World}{Q Q':Ending→World→Prop}(h:Ans P f vs w Q)(hq:∀e w',Q e w'→Q' e w'):Ans P f vs w Q':=by
 rcases h with⟨h1,h2⟩ | ⟨v,w',h1,h2⟩
 ·exact .inl ⟨h1,h2.mono hq⟩
 ·exact .inr ⟨v,w',h1,hq _ _ h2⟩
theorem Ans.calls{P:Program}{f:FuncId}{vs:Array Value}{w:World}{Q:Ending→World→Prop}(h:Ans P f vs w Q)(he:NF P f):Calls P f vs w Q:=by
 rcases h with⟨_,h2⟩ | ⟨v,w',h1,_⟩
 ·exact h2
 ·rw[he vs w] at h1;cases h1
def R8(P:Program)(gl:Nat→AV)(f:FuncId)(args:List AV)(hp:Tr Box)(nx:Nat)(r:AV)(hp':Tr Box)(nx':Nat):Prop:=
 ∀(m:Nat→Lc) (H:HV) (B:Nat→Prop) (H0:HV) (rest:List (AV×Value)) (w:World) (vs:Array Value),RelH m H B H0 gl (lkb hp) nx w→args.length=vs.size→
  (∀(j:Nat) (x:AV) (v:Value),args[j]? =some x→vs[j]? =some v→RV H (Q6 (lkb hp) m) x v)→(∀p∈rest,RV H (Q6 (lkb hp) m) p.1 p.2)→
  Ans P f vs w fun e w'=>∃v m' H',e= .returned v∧Qa B w w'∧RelH m' H' B H0 gl (lkb hp') nx' w'∧RV H' (Q6 (lkb hp') m') r v∧∀p∈rest,RV H' (Q6 (lkb hp') m') p.1 p.2
def Vr(P:Program)(gl:Nat→AV)(f:FuncId)(args:List AV)(r:AV)(hp':Tr Box)(nx':Nat):Prop:=
 ∀(m:Nat→Lc) (H:HV) (B:Nat→Prop) (H0:HV) (w:World) (vs:Array Value),RelH m H B H0 gl (lkb .nil) 0 w→args.length=vs.size→
  (∀(j:Nat) (x:AV) (v:Value),args[j]? =some x→vs[j]? =some v→RV H (Q6 (lkb .nil) m) x v)→
  Ans P f vs w fun e w'=>∃v m' H',e= .returned v∧Qa B w w'∧RelH m' H' B H0 gl (lkb hp') nx' w'∧RV H' (Q6 (lkb hp') m') r v
abbrev Qq:=Nat→List AV→Tr Box→Nat→Option (AV×Tr Box×Nat)
def Qq.Ok(P:Program)(gl:Nat→AV)(ch:Qq):Prop:=∀f args hp nx r hp' nx',ch f args hp nx=some (r,hp',nx')→R8 P gl f args hp nx r hp' nx'
def optL(f:AV→Option AV):List AV→Option (List AV)
 | []=>some []
 |x::xs=>match f x with
  |some y=>match optL f xs with
   |some ys=>some (y::ys)
   |none=>none
  |none=>none
def U4(sz len:Nat)(ds:List AV):List AV:=(List.range len).map fun i=>.agg ((ds.drop (i*sz)).take sz)
def tree(hp:Hp)(a3:Bool):Nat→AV→Option AV
 |0,_=>none
 |k+1,x=>match x with
  | .bs id ver sz off len=>match hp id with
   |some (.cells v cs)=>if v=ver∧off+len*sz≤cs.length∧0<sz then(match optL (tree hp a3 k) ((cs.drop off).take (len*sz)) with
    |some ds=>some (.sl sz (U4 sz len ds))
    |none=>none) else none
   |_=>none
  | .agg cs=>match optL (tree hp a3 k) cs with
   |some ds=>some (.agg ds)
   |none=>none
  | .tup cs=>match optL (tree hp a3 k) cs with
   |some ds=>some (.tup ds)
   |none=>none
  | .sl sz xs=>if a3&& !xs.isEmpty then none else some (.sl sz xs)
  | .ip sz xs i off=>if a3 then none else some (.ip sz xs i off)
  | .fn f cs=>match optL (tree hp a3 k) cs with
   |some ds=>some (.fn f ds)
   |none=>none
  | .ptr .. =>none
  | .ow .. =>none
  | .oe .. =>none
  | .yld _=>none
  | .mp _=>none
  |x=>some x
theorem Ce{f:AV→Option AV}:∀ {xs ys:List AV},optL f xs=some ys→ys.length=xs.length∧∀(j:Nat) (y:AV),ys[j]? =some y→∃x,xs[j]? =some x∧f x=some y
 | [],ys,h=>by simp only[optL,cqf] at h;simp_all
 |x::xs,ys,h=>by
  simp only[optL] at h;split at h
  ·rename_i y hy;split at h
   ·rename_i zs hz;cases h;obtain⟨h1,h2⟩:=Ce hz
    grind
   ·cases h
  ·cases h
noncomputable def snap(H:HV)(hp:Hp)(m:Nat→Lc)(w:World):HV:=fun b o=>
 open Classical in if ∃id bx ver,hp id=some bx∧bx.ver? =some ver∧Real bx (m id)∧(m id).g=b then w.cell? ⟨b,o,none⟩ else H b o
theorem Ad{H:HV}{hp:Hp}{m:Nat→Lc}{w:World}(h:HV.sat H w):HV.sat (snap H hp m w) w:=by
 intro b o v hv;unfold snap at hv;split at hv;·exact hv
 ·exact h b o v hv
theorem HO{H:HV}{hp:Hp}{m:Nat→Lc}{w:World}(hd:∀id bx,hp id=some bx→Real bx (m id)→∀o,H (m id).g o=none):HV.le H (snap H hp m w):=fun b o u hu=>by
 unfold snap
 grind
theorem MF{H:HV}{hp:Hp}{m:Nat→Lc}{w:World}{E:Env}(a4:Bool){H1:HV}(hE:∀id ver cs,hp id=some (.cells ver cs)→E.loc id ver=some (m id))(a9:∀id ver cs,hp id=some (.cells ver cs)→Yq H E (.cells ver cs) (m id) w)
  (hd:∀id bx,hp id=some bx→Real bx (m id)→∀o,H (m id).g o=none) (au:a4=false→H1=H):∀(k:Nat) (x t:AV) (v:Value),RV H E x v→tree hp a4 k x=some t→RelI (snap H1 hp m w) t v
 |0,x,t,v,_,h=>by cases h
 |k+1,x,t,v,hx,h=>by
  have ih:=MF a4 hE a9 hd au k;have ak:a4=false→HV.le H (snap H1 hp m w):=fun hs=>by simp_all [HO]
  unfold tree at h;split at h
  ·rename_i id ver sz off len;split at h
   ·rename_i v' cs ab;split at h
    ·rename_i hc;obtain⟨rfl,b2,an⟩:=hc;split at h
     ·rename_i ds a7;cases h;obtain⟨hl,a6⟩:=Ce a7;obtain⟨a,cap,rfl,_,bg,aw,am⟩:=hx.bs_inv;obtain⟨rfl,b1⟩:=am _ (hE _ _ _ ab);obtain⟨C,e,hC,bh,b3,bc⟩:=a9 _ _ _ ab;have be:ds.length=len*sz:=by grind
      have bb:(U4 sz len ds).length=len:=by simp[U4]
      have ai:∀(i:Nat) (x:AV),(U4 sz len ds)[i]? =some x→i<len∧x= .agg ((ds.drop (i*sz)).take sz):=fun i x hx=>by
       grind [cqd,U4]
      have b4:∀i,i<len→i*sz+sz≤len*sz:=fun i hi=>by
       have:(i+1)*sz≤len*sz:=cqp _ hi
       grind
      have aa:∀(i:Nat) (x:AV) (j:Nat) (c:AV),(U4 sz len ds)[i]? =some x→x.cells[j]? =some c→i<len∧j<sz∧ds[i*sz+j]? =some c:=fun i x j c hx hj=>by
       obtain⟨hi,rfl⟩:=ai i x hx;simp only[AV.cells] at hj
       grind
      have ad:∀(n:Nat) (c:AV),ds[n]? =some c→∃u,C[(m id).base+off+n]? =some u∧u.oneCell'=true∧RelI (snap H1 hp m w) c u:=fun n c hn=>by
       grind
      have:=RelI.sl (H:=snap H1 hp m w) sz (U4 sz len ds) (m id).g ((m id).base+off) cap (fun i j=>(C[(m id).base+off+(i*sz+j)]?).getD Go.undef) an (by omega) aw
       (fun i x hx=>by
        obtain⟨hi,rfl⟩:=ai i x hx
        grind [AV.cells])
       (fun i x j c hx hj=>by
        obtain⟨hi,bf,hn⟩:=aa i x j c hx hj;obtain⟨u,a1,a2,a3⟩:=ad _ c hn;rw[a1];refine⟨?_,a2⟩;have ax:∃ae bx ver,hp ae=some bx∧bx.ver? =some ver∧Real bx (m ae)∧(m ae).g=(m id).g:=⟨id,_,_,ab,rfl,trivial,rfl⟩;unfold snap;rw[if_pos ax,XP _ _ _ _ _ _ hC,Nat.add_assoc,a1];rfl)
       (fun i x j c hx hj=>by
        grind)
      grind
     ·cases h
    ·cases h
   ·cases h
  ·rename_i cs;split at h
   ·rename_i ds a7;cases h;obtain⟨hl,a6⟩:=Ce a7;obtain⟨vs,rfl,h1,h2,h3⟩:=hx.agg_inv;refine .agg ds vs (by rw[hl];exact h1) h2 fun j c u hj hu=> ?_
    grind
   ·cases h
  ·rename_i cs;split at h
   ·rename_i ds a7;cases h;obtain⟨hl,a6⟩:=Ce a7;obtain⟨vs,rfl,h1,h3⟩:=hx.tup_inv;refine .tup ds vs (by rw[hl];exact h1) fun j c u hj hu=> ?_
    obtain⟨x,a1,a2⟩:=a6 j c hj;exact ih x c u (h3 j x u a1 hu) a2
   ·cases h
  ·rename_i sz xs;split at h;·cases h
   ·rename_i hc;cases h;cases a4 with
    |false=>exact hx.sl_inv.mono (ak rfl)
    |true=>
     simp at hc;subst hc;obtain⟨a,cap,rfl,h1,h2⟩:=hx.sl_inv.len_inv;exact .sl0 _ _ _ h2
  ·rename_i sz xs i off;split at h;·cases h
   ·rename_i hc;cases h;exact hx.ip_inv.mono (ak (by simp_all))
  ·rename_i f cs;split at h
   ·rename_i ds a7;cases h;obtain⟨hl,a6⟩:=Ce a7;obtain⟨vs,rfl,h1,h3⟩:=hx.fn_inv;refine .fn f ds vs (by omega) fun j c u hj hu=> ?_
    obtain⟨x,a1,a2⟩:=a6 j c hj;exact ih x c u (h3 j x u a1 hu) a2
   ·cases h
  ·cases h
  ·cases h
  ·cases h
  ·cases h
  ·cases h
  ·rename_i x n1 n2 n3 n4 n5 n6 n7 n9 ay n8 az;cases h;cases hx with
   |imm _ _ hx=>
    cases hx with
    |undef=>exact .undef _
    |bool=>exact .bool _
    |int=>exact .int _ _
    |str=>exact .str _
    |nil=>exact .nil
    |emp=>exact .emp _
    |nilp=>exact .nilp
    |nilfn=>exact .nilfn
    |val=>exact .val _
    |sl0=>exact absurd rfl (n4 _ _)
    |sl=>exact absurd rfl (n4 _ _)
    |ip=>exact absurd rfl (n5 _ _ _ _)
    |fn=>exact absurd rfl (n6 _ _)
    |agg=>exact absurd rfl (n2 _)
    |tup=>exact absurd rfl (n3 _)
   |ptr=>exact absurd rfl (n7 _ _ _)
   |bs=>exact absurd rfl (n1 _ _ _ _ _)
   |ow=>exact absurd rfl (n9 _ _ _ _)
   |oe=>exact absurd rfl (ay _ _ _ _ _)
   |yld=>exact absurd rfl (n8 _)
   |mp=>exact absurd rfl (az _)
   |fn=>exact absurd rfl (n6 _ _)
   |agg=>exact absurd rfl (n2 _)
   |tup=>exact absurd rfl (n3 _)
def immN:AV→Bool
 | .bool _ | .int _ _ | .str _=>true
 |_=>false
def immE(x:AV):Bool:=x.cells.all immN
theorem Q97{H H':HV}{c:AV}{v:Value}(h:RelI H c v)(hc:immN c=true):RelI H' c v:=by
 cases h with
 |bool b=>exact .bool b
 |int k n=>exact .int k n
 |str s=>exact .str s
 |_=>cases hc
theorem DP.imm{H H':HV}{xs:List AV}{l:Lc}{w:World}(h:DP H (xs.flatMap AV.cells) l w)(hi:xs.all immE=true):DP H' (xs.flatMap AV.cells) l w:=by
 obtain⟨C,e,h1,h2,h3,h4⟩:=h;refine⟨C,e,h1,h2,h3,fun j c hj=> ?_⟩
 obtain⟨v,a,b,d⟩:=h4 j c hj;obtain⟨x,hx,hc⟩:=List.mem_flatMap.1 (cqr hj);exact⟨v,a,b,Q97 d (cqt.1 (cqt.1 hi x hx) c hc)⟩
def UH(a3:Bool)(bid:Nat)(o:Option (AV×Tr Box×Nat)):Option (AV×Option (Nat×Box)):=
 match o with
 |some (r,hp',_)=>match r with
  | .bs id ver sz off len=>match lkb hp' id with
   |some (.cells v cs)=>if v=ver∧off+len*sz≤cs.length∧0<sz then(match optL (tree (updF (lkb hp') id none) a3 12) ((cs.drop off).take (len*sz)) with
     |some ds=>some (.bs bid 0 sz 0 len,some (bid,.cells 0 ds))
     |none=>none) else none
   |_=>none
  | .ow id ver sz len=>match lkb hp' id with
   |some (.own v z xs)=>match Nat.beq v ver&& (Nat.beq z sz&& (!a3 || xs.all immE)) with
    |true=>some (.ow bid 0 sz len,some (bid,.own 0 sz xs))
    |false=>none
   |_=>none
  |r=>xv (tree (lkb hp') a3 12 r)
 |none=>none
def CM(ch:Qq)(hp:Hp)(bid f:Nat)(args:List AV):Option (AV×Option (Nat×Box)):=
 match optL (tree (fun _=>none) false 12) args with
 |some ts=>UH false bid (ch f ts .nil 0)
 |none=>match optL (tree hp false 12) args with
  |some ts=>UH true bid (ch f ts .nil 0)
  |none=>none
section
variable {P : Program} {m : Nat → Lc} {H : HV} {B : Nat → Prop} {H0 : HV} {gl : Nat → AV} {rest : List (AV × Value)} {st : St} {a : Act} {w : World} {dst : Option Nat}
theorem RelS.after (h : RelS m H B H0 gl rest st a.tmps w) {w' : World} (hb : Below w.heap.size w w') (K : HV) (hK : ∀ b o v, K b o = some v → w'.cell? ⟨b, o, none⟩ = some v) :
    RelS m (fun b o => if b < w.heap.size then H b o else K b o) B H0 gl rest st a.tmps w' ∧ HV.le H (fun b o => if b < w.heap.size then H b o else K b o) := by
  have hle : HV.le H (fun b o => if b < w.heap.size then H b o else K b o) := fun b o v hv => by
    have := Jh h.heap.sat hv
    simp_all
  refine ⟨⟨?_, h.size, fun k => (h.slot k).mono hle (.refl _), fun p hp => (h.rest p hp).mono hle (.refl _)⟩, hle⟩
  exact { sat := fun b o v hv => by
            simp only at hv
            split at hv
            · rename_i hlt
              rw [← h.heap.sat b o v hv]; exact hb.cell (p := ⟨b, o, none⟩) hlt
            simp_all
          old := fun b o hlt => by
            simp only [if_pos (h.heap.low b hlt)]; exact h.heap.old b o hlt
          low := fun b hB => Nat.lt_of_lt_of_le (h.heap.low b hB) hb.size
          fresh := h.heap.fresh
          box := fun id b hid => (h.heap.box id b hid).mono' hle (.refl _) fun hr => hb.block _ (h.heap.sepR id b hid hr).2.1
          sepR := fun id b hid hr => by
            obtain ⟨x, y, z⟩ := h.heap.sepR id b hid hr
            exact ⟨x, Nat.lt_of_lt_of_le y hb.size, fun o => by simp_all⟩
          injR := h.heap.injR
          gl := fun g => (h.heap.gl g).mono hle
          ty := fun id ver cs hid => (h.heap.ty id ver cs hid).mono (hb.block _ (h.heap.sep id _ hid).2.1)
          gv := h.heap.gv.mono fun k hk => hb.block k (h.heap.low k hk) }
theorem Eu{f:AV→Option AV}{xs ts:List AV}{vs:Array Value}{R R':AV→Value→Prop}(hl:xs.length=vs.size)(hr:∀(j:Nat) (x:AV) (v:Value),xs[j]? =some x→vs[j]? =some v→R x v)(h:optL f xs=some ts)
  (hf:∀x t v,R x v→f x=some t→R' t v):ts.length=vs.size∧∀(j:Nat) (x:AV) (v:Value),ts[j]? =some x→vs[j]? =some v→R' x v:=by
 grind [Ce]
theorem FE{ch:Qq}(bo:∀f ts r0 hp' nx',ch f ts .nil 0=some (r0,hp',nx')→Vr P gl f ts r0 hp' nx')(h:RelS m H B H0 gl rest st a.tmps w)(hd:Z2 dst st.n=true){bid:Nat}(hb:lkb st.hp bid=none)(hn:bid<st.nx){f:Nat}{vs:Array Value}{r:AV×Option (Nat×Box)}
  (a4:Bool) (af:Hp) (ts:List AV) (ay:∀id bx,af id=some bx→lkb st.hp id=some bx) (bf:a4=false→af=fun _=>none) (bv:ts.length=vs.size) (bz:∀(j:Nat) (x:AV) (v:Value),ts[j]? =some x→vs[j]? =some v→RelI (snap H af m w) x v)
  (hk:UH a4 bid (ch f ts .nil 0)=some r):Ans P f vs w fun e w'=>∃v m' H',e= .returned v∧Qa B w w'∧RelS m' H' B H0 gl rest (st.eff dst r) (a.put dst v).tmps w':=by
 have c5:∀id ver cs,af id=some (.cells ver cs)→Yq H (st.env m) (.cells ver cs) (m id) w:=fun id ver cs hh=>h.heap.box id _ (ay _ _ hh)
 have b9:∀id bx,af id=some bx→Real bx (m id)→∀o,H (m id).g o=none:=fun id bx hh hr=>(h.heap.sepR id _ (ay _ _ hh) hr).2.2
 unfold UH at hk;split at hk
 ·rename_i r0 hp' nx' b0;have hc:=bo _ _ _ _ _ b0;have h0:RelH m (snap H af m w) (fun k=>k<w.heap.size) (snap H af m w) gl (lkb .nil) 0 w:=
   {sat:=Ad h.heap.sat,old:=fun _ _ _=>rfl,low:=fun _ hk=>hk,fresh:=fun _ _=>ZD _,box:=(fun _ _ hh=>by simp_all [ZD]),sepR:=(fun _ _ hh=>by simp_all [ZD]),injR:=(fun _ _ _ _ hh=>by simp_all [ZD]),gl:=fun g=>(h.heap.gl g).mono (HO b9),ty:=(fun _ _ _ hh=>by simp_all [ZD]),gv:=fun g sz cs hg=>let⟨h1,h2⟩:=h.heap.gv g sz cs hg;⟨h.heap.low _ h1,h2⟩}
  refine(hc m (snap H af m w) _ (snap H af m w) w vs h0 bv (fun j x v hx hv=>.imm _ _ (bz j x v hx hv))).mono fun e w' b4=> ?_
  obtain⟨v,m',H',rfl,ak,hH,b5⟩:=b4;have key:∀(a7:Hp),(∀id bx,a7 id=some bx→lkb hp' id=some bx)→
    HV.le (snap (if a4 then fun _ _=>none else H') a7 m' w') (fun b o=>if b<w.heap.size then H b o else snap H' a7 m' w' b o):=by
   intro a7 a9 b o u hu;unfold snap at hu;split at hu
   ·rename_i hh;obtain⟨id,bx,ver,h1,ap,aw,h2⟩:=hh;have ba:=(hH.sepR id _ (a9 _ _ h1) aw).1;rw[h2] at ba;simp only[if_neg (show ¬b<w.heap.size from ba)];unfold snap;rw[if_pos ⟨id,bx,ver,h1,ap,aw,h2⟩];exact hu
   ·rename_i hh;cases a4 with
    |true=>simp at hu
    |false=>
     simp only[cqk,if_false] at hu;by_cases hlt:b<w.heap.size
     ·simp only[if_pos hlt];rw[hH.old b o hlt] at hu;unfold snap at hu
      simp_all
     simp_all [if_neg,snap]
  have az:∀(a7:Hp),(∀id bx,a7 id=some bx→lkb hp' id=some bx)→∀(x t:AV) (u:Value),RV H' (Q6 (lkb hp') m') x u→tree a7 a4 12 x=some t→RelI (fun b o=>if b<w.heap.size then H b o else snap H' a7 m' w' b o) t u:=by
   intro a7 a9 x t u hx ht;refine(MF (H1:=if a4 then fun _ _=>none else H') a4 (fun id ver cs hh=>YN (a9 _ _ hh)) (fun id ver cs hh=>hH.box id _ (a9 _ _ hh)) (fun id bx hh hr=>(hH.sepR id _ (a9 _ _ hh) hr).2.2) (fun e=>by simp[e]) 12 x t u hx ht).mono (key a7 a9)
  have ar:∀(a7:Hp),∀b o v,snap H' a7 m' w' b o=some v→w'.cell? ⟨b,o,none⟩=some v:=fun a7=>Ad hH.sat
  have b7:Qa B w w':=ak.mono h.heap.low;have ak:=ak.toB;split at hk
  ·rename_i id ver sz off len;split at hk
   ·rename_i v' cs aa;split at hk
    ·rename_i ae;obtain⟨rfl,cm,c9⟩:=ae;split at hk
     ·rename_i ds br;cases hk;have a9:∀a5 bx,updF (lkb hp') id none a5=some bx→lkb hp' a5=some bx:=fun a5 bx hh=>by
       grind [id,Qn,Qz]
      obtain⟨hA,ax⟩:=h.after ak (snap H' (updF (lkb hp') id none) m' w') (ar _);obtain⟨ad,cap,rfl,_,b3,b1,ag⟩:=b5.bs_inv;obtain⟨rfl,c6⟩:=ag _ (YN aa);obtain⟨C,e,hC,c0,c7,bp⟩:=hH.box id _ aa;obtain⟨s1,s2,s3⟩:=hH.sep id _ aa;obtain⟨bq,bb⟩:=Ce br;have hE:=Mu (m:=m) (hp:=lkb st.hp) (b:=.cells 0 ds) (l:=⟨(m' id).g,(m' id).base+off,(m' id).size⟩) hb;have ai:∀o,snap H' (updF (lkb hp') id none) m' w' (m' id).g o=none:=fun o=>by
       unfold snap;rw[if_neg ?_];·exact s3 o
       ·rintro⟨a5,bx,ver,h1,_,hr,h2⟩;have ap:=a9 _ _ h1;have:=hH.injR a5 id _ _ ap aa hr trivial h2
        simp_all [Qn]
      have hh:=hA.heap.one (id:=bid) (b:=.cells 0 ds) (l:=⟨(m' id).g,(m' id).base+off,(m' id).size⟩) (w':=w') (fun _ _ _=>rfl) (Nat.le_refl _) hE
       ⟨fun hb=>s1 (h.heap.low _ hb),s2,fun o=>by simp only[if_neg (show ¬(m' id).g<w.heap.size from s1)];exact ai o⟩
       (fun a5 b2 _ aq hr=>by have:=(h.heap.sepR a5 b2 aq hr).2.1;have c3:¬(m' id).g<w.heap.size:=s1;show(m a5).g≠(m' id).g;omega) hn (Nat.le_refl _) (by
        refine⟨C,e,hC,c0,?_,fun j c hj=> ?_⟩
        ·rw[bq];show(m' id).base+off+_≤_;simp;omega
        ·obtain⟨x,hx,ht⟩:=bb j c hj;have bu:j<len*sz:=by
          have:=(cqd.1 hx).1;simp at this;omega
         rw[List.getElem?_take,if_pos bu,List.getElem?_drop] at hx;obtain⟨u,a1,a2,a3⟩:=bp _ _ hx;exact⟨u,by show C[(m' id).base+off+j]? =some u;rw[Nat.add_assoc];exact a1,a2,.imm _ _ (az _ a9 x c u a3 ht)⟩) (fun ver cs e=>by cases e;exact .inl rfl)
      have h1:=hA.heapTo (hp':=pt st.hp bid (.cells 0 ds)) (nx':=st.nx) (by rw[QV];exact hh) (.refl _) (by rw[QV];exact hE)
      have hv:RV (fun b o=>if b<w.heap.size then H b o else snap H' (updF (lkb hp') id none) m' w' b o) (Q6 (lkb (pt st.hp bid (.cells 0 ds))) (updF m bid ⟨(m' id).g,(m' id).base+off,(m' id).size⟩)) (.bs bid 0 sz 0 len) (.slice (some ⟨(m' id).g,(m' id).base+off,none⟩) len cap):=by
       rw[QV];refine .bs bid 0 sz 0 len _ cap (Rq _ _ _ _ _) b3 b1 fun l hl=> ?_
       rw[HG] at hl;cases hl;exact⟨rfl,by omega⟩
      have h2:=h1.putO (dst:=dst) hd hv;have:({st with hp:=pt st.hp bid (.cells 0 ds),nx:=st.nx}:St).putO dst (.bs bid 0 sz 0 len)=st.eff dst (.bs bid 0 sz 0 len,some (bid,.cells 0 ds)):=by cases dst<;>rfl
      grind
     ·cases hk
    ·cases hk
   ·cases hk
  ·rename_i id ver sz len;split at hk
   ·rename_i v' z xs aa;split at hk
    ·rename_i ae;rw[cqb,cqb] at ae;obtain⟨c1,c2,au⟩:=ae;obtain rfl:=cqa c1;obtain rfl:=cqa c2;cases hk;have a9:∀a5 bx,updF (lkb hp') id none a5=some bx→lkb hp' a5=some bx:=fun a5 bx hh=>by
      by_cases e:a5=id;·subst e;rw[Qn] at hh;cases hh
      ·rwa [Qz _ _ e] at hh
     obtain⟨hA,ax⟩:=h.after ak (snap H' (updF (lkb hp') id none) m' w') (ar _);obtain⟨ad,cap,rfl,_,b3,b1,bw,ag⟩:=b5.ow_inv;have ag:=ag _ (Cc aa);have be:a4=false→HV.le H' (fun b o=>if b<w.heap.size then H b o else snap H' (updF (lkb hp') id none) m' w' b o):=fun au b o u hu=>by
      by_cases hlt:b<w.heap.size
      ·simp only[if_pos hlt];rw[hH.old b o hlt] at hu;unfold snap at hu;rw[if_neg (by rw[bf au];rintro⟨_,_,_,e,_⟩;cases e)] at hu
       exact hu
      ·simp only[if_neg hlt];exact HO (fun id bx hh hr=>(hH.sepR id _ (a9 _ _ hh) hr).2.2) b o u hu
     have hE:=Mu (m:=m) (hp:=lkb st.hp) (b:=.own 0 z xs) (l:=m' id) hb;have ai:Real (.own v' z xs) (m' id)→∀o,snap H' (updF (lkb hp') id none) m' w' (m' id).g o=none:=fun ab o=>by
      unfold snap;rw[if_neg ?_];·exact(hH.sepR id _ aa ab).2.2 o
      ·rintro⟨a5,bx,ver,h1,_,hr,h2⟩;have ap:=a9 _ _ h1;have:=hH.injR a5 id _ _ ap aa hr ab h2;subst this;rw[Qn] at h1;cases h1
     have hh:=hA.heap.oneR (id:=bid) (b:=.own 0 z xs) (l:=m' id) (w':=w') (fun _ _ _=>rfl) (Nat.le_refl _) hE
      (fun ab=>by
       have ab:Real (.own v' z xs) (m' id):=ab;obtain⟨s1,s2,s3⟩:=hH.sepR id _ aa ab;exact⟨fun hb=>s1 (h.heap.low _ hb),s2,fun o=>by simp only[if_neg (show ¬(m' id).g<w.heap.size from s1)];exact ai ab o⟩)
      (fun a5 b2 _ aq hr ab=>by
       have ab:Real (.own v' z xs) (m' id):=ab;have:=(h.heap.sepR a5 b2 aq hr).2.1;have c3:¬(m' id).g<w.heap.size:=(hH.sepR id _ aa ab).1;omega) hn (Nat.le_refl _) (by
       obtain⟨q0,q1,q2⟩:=hH.box id _ aa;refine⟨q0,q1,?_⟩;rcases q2 with q2 | ⟨q2,q3⟩
       ·exact .inl q2
       ·refine .inr ⟨q2,?_⟩;cases hs:a4 with
        |false=>exact q3.mono (be hs) rfl
        |true=>rw[hs] at au;exact q3.imm (by simpa using au)) (fun ver cs e=>by cases e)
     have h1:=hA.heapTo (hp':=pt st.hp bid (.own 0 z xs)) (nx':=st.nx) (by rw[QV];exact hh) (.refl _) (by rw[QV];exact hE)
     have hv:RV (fun b o=>if b<w.heap.size then H b o else snap H' (updF (lkb hp') id none) m' w' b o) (Q6 (lkb (pt st.hp bid (.own 0 z xs))) (updF m bid (m' id))) (.ow bid 0 z len) (.slice ad len cap):=by
      rw[QV];refine .ow bid 0 z len ad cap ⟨_,Qn _ _ _,fun v2 h=>by omega⟩ b3 b1 bw fun l hl=> ?_
      rw[Cc (Qn _ _ _),Qn] at hl;cases hl;exact ag
     have h2:=h1.putO (dst:=dst) hd hv;have:({st with hp:=pt st.hp bid (.own 0 z xs),nx:=st.nx}:St).putO dst (.ow bid 0 z len)=st.eff dst (.ow bid 0 z len,some (bid,.own 0 z xs)):=by cases dst<;>rfl
     rw[this] at h2;exact⟨_,_,_,rfl,b7,h2⟩
    ·cases hk
   ·cases hk
  ·obtain⟨t,ht,rfl⟩:=Kq hk;obtain⟨hA,ax⟩:=h.after ak (snap H' (lkb hp') m' w') (ar _);exact⟨v,m,_,rfl,b7,hA.putO hd (.imm _ _ (az _ (fun _ _ hh=>hh) r0 t v b5 ht))⟩
 ·cases hk
theorem Of{ch:Qq}(ab:∀f ts r0 hp' nx',ch f ts .nil 0=some (r0,hp',nx')→Vr P gl f ts r0 hp' nx')(h:RelS m H B H0 gl rest st a.tmps w)(hd:Z2 dst st.n=true){bid:Nat}(hb:lkb st.hp bid=none)(hn:bid<st.nx){f:Nat}{args:List AV}{vs:Array Value}{r:AV×Option (Nat×Box)}(hl:args.length=vs.size)
  (hr:∀(j:Nat) (x:AV) (v:Value),args[j]? =some x→vs[j]? =some v→RV H (st.env m) x v) (hk:CM ch (lkb st.hp) bid f args=some r):
  Ans P f vs w fun e w'=>∃v m' H',e= .returned v∧Qa B w w'∧RelS m' H' B H0 gl rest (st.eff dst r) (a.put dst v).tmps w':=by
 have ah:∀(a3:Bool) (a4:Hp) (ts:List AV),(∀id bx,a4 id=some bx→lkb st.hp id=some bx)→(a3=false→a4=fun _=>none)→optL (tree a4 false 12) args=some ts→UH a3 bid (ch f ts .nil 0)=some r→
   Ans P f vs w fun e w'=>∃v m' H',e= .returned v∧Qa B w w'∧RelS m' H' B H0 gl rest (st.eff dst r) (a.put dst v).tmps w':=by
  intro a3 a4 ts a5 aa ag hk;have a7:∀id ver cs,a4 id=some (.cells ver cs)→Yq H (st.env m) (.cells ver cs) (m id) w:=fun id ver cs hh=>h.heap.box id _ (a5 _ _ hh)
  have a8:∀id bx,a4 id=some bx→Real bx (m id)→∀o,H (m id).g o=none:=fun id bx hh hr=>(h.heap.sepR id _ (a5 _ _ hh) hr).2.2
  obtain⟨ad,af⟩:=Eu (R':=RelI (snap H a4 m w)) hl hr ag fun x t v hx ht=>MF (H1:=H) false (fun id ver cs hh=>YN (a5 _ _ hh)) a7 a8 (fun _=>rfl) 12 x t v hx ht
  exact FE ab h hd hb hn a3 a4 ts a5 aa ad af hk
 unfold CM at hk
 grind
theorem R8.zero{f:Nat}{args:List AV}{r:AV}{hp':Tr Box}{nx':Nat}(h:R8 P gl f args .nil 0 r hp' nx'):Vr P gl f args r hp' nx':=
 fun m H B H0 w vs hh hl hv=>(h m H B H0 [] w vs hh hl hv (fun p hp=>by simp at hp)).mono fun _ _ ⟨v,m',H',a,b,c,d,_⟩=>⟨v,m',H',a,b,c,d⟩
end
def Conv(gl:Nat→AV)(st st':St):Prop:=st'.n=st.n∧∀(m:Nat→Lc) (H:HV) (B:Nat→Prop) (H0:HV) (rest:List (AV×Value)) (tmps:Array Value) (w:World),RelS m H B H0 gl rest st tmps w→∃m' H',RelS m' H' B H0 gl rest st' tmps w
theorem Conv.refl{gl:Nat→AV}{st:St}:Conv gl st st:=⟨rfl,fun m H _ _ _ _ _ h=>⟨m,H,h⟩⟩
theorem Conv.trans{gl:Nat→AV}{a b c:St}(h:Conv gl a b)(k:Conv gl b c):Conv gl a c:=⟨k.1.trans h.1,fun m H B H0 rest tmps w hr=>by
 obtain⟨m',H',h'⟩:=h.2 m H B H0 rest tmps w hr;exact k.2 m' H' B H0 rest tmps w h'⟩
theorem Je{hp:Hp}{m:Nat→Lc}{id ver:Nat}{b:Box}(h:hp id=some b)(hv:b.ver? =some ver):(Q6 hp m).loc id ver=some (m id):=by grind [Q6]
theorem OX{hp:Hp}{m:Nat→Lc}{id ver:Nat}{b:Box}(h:hp id=some b)(hv:b.ver? =some ver):(Q6 hp m).al id ver:=⟨b,h,fun v e=>by simp_all⟩
def WW:List Nat→AV→Option AV
 | [],v=>some v
 |i::p,v=>match v with
  | .agg cs=>match cs[i]? with
   |some c=>WW p c
   |none=>none
  | .tup cs=>match cs[i]? with
   |some c=>WW p c
   |none=>none
  |_=>none
def UY:List Nat→AV→AV→AV
 | [],_,y=>y
 |i::p,v,y=>match v with
  | .agg cs=>match cs[i]? with
   |some c=>.agg (cs.set i (UY p c y))
   |none=>v
  | .tup cs=>match cs[i]? with
   |some c=>.tup (cs.set i (UY p c y))
   |none=>v
  |v=>v
theorem A5{H H':HV}{E E':Env}(a5:HV.le H H')(hE:Env.le E E'){x y:AV}(hx:∀u,RV H E x u→RV H' E' y u):∀(p:List Nat) (v:AV) (u:Value),RV H E v u→WW p v=some x→RV H' E' (UY p v y) u
 | [],v,u,h,hi=>by cases hi;exact hx u h
 |i::p,v,u,h,hi=>by
  simp only[WW] at hi;split at hi
  ·rename_i cs;split at hi
   ·rename_i c hc;simp only[UY,hc];obtain⟨vs,rfl,hl,h1,a4⟩:=h.agg_inv;refine .agg _ vs (by simp_all) h1 fun j c' v' hj hv=> ?_
    rw[List.getElem?_set] at hj;split at hj
    ·rename_i a6;subst a6;split at hj;·cases hj;exact A5 a5 hE hx p c v' (a4 _ c v' hc hv) hi
     ·cases hj
    ·exact(a4 j c' v' hj hv).mono a5 hE
   ·cases hi
  ·rename_i cs;split at hi
   ·rename_i c hc;simp only[UY,hc];obtain⟨vs,rfl,hl,a4⟩:=h.tup_inv;refine .tup _ vs (by simp_all) fun j c' v' hj hv=> ?_
    rw[List.getElem?_set] at hj;split at hj
    ·rename_i a6;subst a6;split at hj;·cases hj;exact A5 a5 hE hx p c v' (a4 _ c v' hc hv) hi
     ·cases hj
    ·exact(a4 j c' v' hj hv).mono a5 hE
   ·cases hi
  ·cases hi
theorem EE{gl:Nat→AV}{m m':Nat→Lc}{H H':HV}{B:Nat→Prop}{H0:HV}{rest:List (AV×Value)}{st:St}{tmps:Array Value}{w:World}{hp':Tr Box}{nx':Nat}(h:RelS m H B H0 gl rest st tmps w)(hh:RelH m' H' B H0 gl (lkb hp') nx' w)(a3:HV.le H H')(hE:Env.le (st.env m) (Q6 (lkb hp') m'))(k:Nat)(p:List Nat){x y:AV}(hi:WW p (st.get k)=some x)(hx:∀u,RV H (st.env m) x u→RV H' (Q6 (lkb hp') m') y u):
  RelS m' H' B H0 gl rest ⟨st.n,pt st.sl k (UY p (st.get k) y),hp',nx'⟩ tmps w:=by
 refine⟨hh,h.size,fun j=> ?_,fun p hp=>(h.rest p hp).mono a3 hE⟩
 show RV H' _ (lk .undef (pt st.sl k _) j) _;rw[UX];by_cases e:k=j
 ·subst e;rw[if_pos rfl];exact A5 a3 hE hx p _ _ (h.slot k) hi
 ·rw[if_neg e];exact(h.slot j).mono a3 hE
section
variable {m : Nat → Lc} {H : HV} {B : Nat → Prop} {H0 : HV} {gl : Nat → AV} {rest : List (AV × Value)} {st : St} {tmps : Array Value} {w : World}
theorem RelS.newOwn(h:RelS m H B H0 gl rest st tmps w)(sz:Nat)(a4:0<sz):RelS (updF m st.nx ⟨0,0,0⟩) H B H0 gl rest ⟨st.n,st.sl,pt st.hp st.nx (.own 0 sz []),st.nx+1⟩ tmps w∧Env.le (st.env m) (Q6 (lkb (pt st.hp st.nx (.own 0 sz []))) (updF m st.nx ⟨0,0,0⟩)):=by
 have hn:=h.heap.fresh st.nx (Nat.le_refl _);have hE:=Mu (m:=m) (hp:=lkb st.hp) (b:=.own 0 sz []) (l:=⟨0,0,0⟩) hn;have hh:=h.heap.oneR (id:=st.nx) (nx':=st.nx+1) (b:=.own 0 sz []) (l:=⟨0,0,0⟩) (w':=w) (fun _ _ _=>rfl) (Nat.le_refl _) hE (fun hr=>absurd hr (Nat.lt_irrefl 0)) (fun _ _ _ _ _ hr=>absurd hr (Nat.lt_irrefl 0)) (Nat.lt_succ_self _) (Nat.le_succ _) ⟨a4,fun x hx=>by simp at hx,.inl ⟨rfl,rfl⟩⟩ (fun _ _ e=>by cases e)
 rw[← QV] at hh hE;exact⟨⟨hh,h.size,fun k=>(h.slot k).mono (.refl _) hE,fun p hp=>(h.rest p hp).mono (.refl _) hE⟩,hE⟩
theorem Q06{hp:Tr Box}{id sz:Nat}{a:Option Addr}:RV H (Q6 (lkb (pt hp id (.own 0 sz []))) (updF m id ⟨0,0,0⟩)) (.ow id 0 sz 0) (.slice a 0 0):=by
 rw[QV];refine .ow id 0 sz 0 a 0 (OX (Qn _ _ _) rfl) (Nat.le_refl _) (Nat.zero_le _) (fun _=>rfl) fun l hl=> ?_
 rw[Je (Qn _ _ _) rfl,Qn] at hl
 grind
def B4:AV→Bool
 | .nil=>true
 | .emp=>true
 |_=>false
theorem RJ{E:Env}{x:AV}{v:Value}(hx:RV H E x v)(h:B4 x=true):∃a,v= .slice a 0 0:=by
 cases x<;>first | (cases h;done) | skip
 ·exact⟨_,hx.nil_inv⟩
 ·exact hx.emp_inv
theorem PC(k:Nat)(p:List Nat)(sz:Nat)(x:AV)(a3:0<sz)(hi:WW p (st.get k)=some x)(hk:B4 x=true):Conv gl st ⟨st.n,pt st.sl k (UY p (st.get k) (.ow st.nx 0 sz 0)),pt st.hp st.nx (.own 0 sz []),st.nx+1⟩:=⟨rfl,fun m H B H0 rest tmps w h=>by
 obtain⟨h1,hE⟩:=h.newOwn sz a3;exact⟨_,H,EE h h1.heap (.refl _) hE k p hi fun u hu=>by
  obtain⟨a,rfl⟩:=RJ hu hk;exact Q06⟩⟩
theorem V9.set{E:Env}{cs:List AV}{l:Lc}(h:V9 H E cs l w)(i:Nat)(x:AV)(hx:∀c v,cs[i]? =some c→RV H E c v→v.oneCell'=true→RV H E x v):V9 H E (cs.set i x) l w:=by
 obtain⟨C,e,h1,h2,h3,h4⟩:=h;refine⟨C,e,h1,h2,by simp_all,fun j c hj=> ?_⟩
 rw[List.getElem?_set] at hj;split at hj
 ·rename_i a5;subst a5;split at hj
  ·rename_i a6;cases hj;obtain⟨v,a1,a2,a3⟩:=h4 i _ (cqc a6)
   simp_all
  ·cases hj
 simp_all
theorem RelS.reBox(h:RelS m H B H0 gl rest st tmps w){id ver:Nat}{b b':Box}(a3:lkb st.hp id=some b)(hv:b.ver? =some ver)(ab:b'.ver? =some ver)(hr:Real b' (m id)→Real b (m id))(hb:Yq H (Q6 (lkb (pt st.hp id b')) m) b' (m id) w)(aa:∀v cs,b'= .cells v cs→TyOk w (m id) v):
  RelS m H B H0 gl rest ⟨st.n,st.sl,pt st.hp id b',st.nx⟩ tmps w∧Env.le (st.env m) (Q6 (lkb (pt st.hp id b')) m):=by
 have hE:=Jt (m:=m) (hp:=lkb st.hp) (b':=b') (l:=m id) a3 hv ab rfl;rw[Vg] at hE;have a5:id<st.nx:=by
  rcases Nat.lt_or_ge id st.nx with a8 | a7
  ·exact a8
  ·have:=h.heap.fresh id a7;simp_all
 have hh:=h.heap.oneR (id:=id) (nx':=st.nx) (b:=b') (l:=m id) (w':=w) (fun _ _ _=>rfl) (Nat.le_refl _) (by grind [Vg]) (fun r=>h.heap.sepR id b a3 (hr r)) (fun ad b2 a9 a6 r2 r e=>a9 (h.heap.injR ad id b2 b a6 a3 r2 (hr r) e)) a5 (Nat.le_refl _) (by simp_all [Vg,QV]) aa
 rw[Vg,← QV] at hh;rw[← QV] at hE;exact⟨⟨hh,h.size,fun k=>(h.slot k).mono (.refl _) hE,fun p hp=>(h.rest p hp).mono (.refl _) hE⟩,hE⟩
theorem PB(id i sz ver:Nat)(cs:List AV)(c:AV)(a5:0<sz)(aa:lkb st.hp id=some (.cells ver cs))(hc:cs[i]? =some c)(hk:B4 c=true):Conv gl st ⟨st.n,st.sl,pt (pt st.hp st.nx (.own 0 sz [])) id (.cells ver (cs.set i (.ow st.nx 0 sz 0))),st.nx+1⟩:=⟨rfl,fun m H B H0 rest tmps w h=>by
 have ab:id≠st.nx:=fun e=>by have:=h.heap.fresh st.nx (Nat.le_refl _);simp_all
 obtain⟨h1,hE⟩:=h.newOwn sz a5;have a3:lkb (pt st.hp st.nx (.own 0 sz [])) id=some (.cells ver cs):=by simp_all [QV,Qz]
 obtain⟨h2,_⟩:=h1.reBox (b':=.cells ver (cs.set i (.ow st.nx 0 sz 0))) a3 rfl rfl (fun _=>trivial) (by
  have a4:=Jt (m:=updF m st.nx ⟨0,0,0⟩) (hp:=lkb (pt st.hp st.nx (.own 0 sz []))) (b':=.cells ver (cs.set i (.ow st.nx 0 sz 0))) (l:=(updF m st.nx ⟨0,0,0⟩) id) a3 rfl rfl rfl;rw[Vg] at a4;have hb:V9 H _ cs _ w:=h1.heap.box id _ a3;have:=hb.set i (.ow st.nx 0 sz 0) fun c' v a9 hv a8=>by
   grind [RJ,Q06]
  show V9 H (Q6 (lkb (pt (pt st.hp st.nx (.own 0 sz [])) id _)) _) _ _ w;rw[QV];exact this.mono (.refl _) a4 rfl) (fun v a7 e=>by cases e;exact h1.heap.ty id _ _ a3)
 grind⟩
theorem RR{E:Env}{ver sz len:Nat}{cs:List AV}{l:Lc}(h:V9 H E cs l w)(a3:0<sz)(a9:len*sz≤cs.length)(a5:(cs.take (len*sz)).all immA=true):Yq H E (.own ver sz (KF sz len (cs.take (len*sz)))) l w:=by
 have hl:(cs.take (len*sz)).length=len*sz:=by simp;omega
 obtain⟨C,e,h1,h2,h3,h4⟩:=h;refine⟨a3,Hh _ _ hl,?_⟩;by_cases hs:l.size=0
 ·have:len=0:=by
   rcases Nat.eq_zero_or_pos len with h0 | h0
   ·exact h0
   ·have:1*sz≤len*sz:=cqp _ h0;omega
  subst this;exact .inl ⟨hs,rfl⟩
 ·refine .inr ⟨by omega,C,e,h1,h2,by grind [MO],fun j c hj=> ?_⟩
  grind [MO,cqt,cqr,Tg]
theorem Q07{E:Env}{id ver sz len:Nat}{v:Value}(a3:0<sz)(h:RV H E (.bs id ver sz 0 len) v):RV H E (.ow id ver sz len) v:=by
 obtain⟨a,cap,rfl,h1,h2,h3,h4⟩:=h.bs_inv;refine .ow id ver sz len _ cap h1 h2 h3 (fun e=>by cases e) fun l hl=> ?_
 obtain⟨rfl,h5⟩:=h4 l hl;rw[Nat.add_zero] at h5 ⊢;by_cases hs:l.size=0
 ·by_cases hc:cap=0;·omega
  ·have:1*1≤cap*sz:=Nat.mul_le_mul (by omega) (by omega)
   omega
 grind
theorem Ry(k:Nat)(p:List Nat)(id ver sz len:Nat)(cs:List AV)(a3:0<sz)(hk:WW p (st.get k)=some (.bs id ver sz 0 len))(a4:lkb st.hp id=some (.cells ver cs))(a7:len*sz≤cs.length)(a5:(cs.take (len*sz)).all immA=true):
  Conv gl st ⟨st.n,pt st.sl k (UY p (st.get k) (.ow id ver sz len)),pt st.hp id (.own ver sz (KF sz len (cs.take (len*sz)))),st.nx⟩:=⟨rfl,fun m H B H0 rest tmps w h=>by
 have hE:=Jt (m:=m) (hp:=lkb st.hp) (b':=.own ver sz (KF sz len (cs.take (len*sz)))) (l:=m id) a4 rfl rfl rfl;rw[Vg,← QV] at hE;obtain⟨h1,_⟩:=h.reBox (b':=.own ver sz (KF sz len (cs.take (len*sz)))) a4 rfl rfl (fun _=>trivial) (RR (V9.mono (h.heap.box id _ a4) (.refl _) hE rfl) a3 a7 a5) (fun _ _ e=>by cases e)
 exact⟨m,H,EE h h1.heap (.refl _) hE k p hk fun u hu=>Q07 a3 (hu.mono (.refl _) hE)⟩⟩
theorem Bz(bx i id ver vb sz len:Nat)(cb cs:List AV)(a8:0<sz)(ai:bx≠id)(af:lkb st.hp bx=some (.cells vb cb))(hk:cb[i]? =some (.bs id ver sz 0 len))(a5:lkb st.hp id=some (.cells ver cs))(ab:len*sz≤cs.length)(a7:(cs.take (len*sz)).all immA=true):
  Conv gl st ⟨st.n,st.sl,pt (pt st.hp id (.own ver sz (KF sz len (cs.take (len*sz))))) bx (.cells vb (cb.set i (.ow id ver sz len))),st.nx⟩:=⟨rfl,fun m H B H0 rest tmps w h=>by
 have hE:=Jt (m:=m) (hp:=lkb st.hp) (b':=.own ver sz (KF sz len (cs.take (len*sz)))) (l:=m id) a5 rfl rfl rfl;rw[Vg,← QV] at hE;obtain⟨h1,_⟩:=h.reBox (b':=.own ver sz (KF sz len (cs.take (len*sz)))) a5 rfl rfl (fun _=>trivial) (RR (V9.mono (h.heap.box id _ a5) (.refl _) hE rfl) a8 ab a7) (fun _ _ e=>by cases e)
 have a3:lkb (pt st.hp id (.own ver sz (KF sz len (cs.take (len*sz))))) bx=some (.cells vb cb):=by simp_all [QV,Qz]
 have a6:=Jt (m:=m) (hp:=lkb (pt st.hp id (.own ver sz (KF sz len (cs.take (len*sz)))))) (b':=.cells vb (cb.set i (.ow id ver sz len))) (l:=m bx) a3 rfl rfl rfl;rw[Vg,← QV] at a6;have hc:V9 H _ cb (m bx) w:=h1.heap.box bx _ a3;obtain⟨h2,_⟩:=h1.reBox (b':=.cells vb (cb.set i (.ow id ver sz len))) a3 rfl rfl (fun _=>trivial) (V9.mono (hc.set i (.ow id ver sz len) fun c v ah hv _=>by
  simp_all [Q07]) (.refl _) a6 rfl) (fun v ae e=>by cases e;exact h1.heap.ty bx _ _ a3)
 grind⟩
theorem Q8p(id ver sz n:Nat)(xs:List AV)(a3:lkb st.hp id=some (.own ver sz xs)):Conv gl st ⟨st.n,st.sl,pt st.hp id (.own ver sz (xs.take n)),st.nx⟩:=⟨rfl,fun m H B H0 rest tmps w h=>by
 have hE:=Jt (m:=m) (hp:=lkb st.hp) (b':=.own ver sz (xs.take n)) (l:=m id) a3 rfl rfl rfl;rw[Vg,← QV] at hE;obtain⟨a5,a4,hb⟩:=h.heap.box id _ a3;obtain⟨h1,_⟩:=h.reBox (b':=.own ver sz (xs.take n)) a3 rfl rfl (fun r=>r) (by
  refine⟨a5,fun y hy=>a4 y (List.mem_of_mem_take hy),?_⟩
  rcases hb with⟨h0,rfl⟩ | ⟨h0,C,e,c1,c2,c3,c4⟩
  ·simp_all
  ·refine .inr ⟨h0,C,e,c1,c2,by rw[L8 n a4];grind,fun j c hj=> ?_⟩
   simp_all [L8,List.getElem?_take]) (fun _ _ e=>by cases e)
 grind⟩
theorem Ew{E:Env}{ver sz id len:Nat}{xs:List AV}{l:Lc}{v:Value}(hx:RV H E (.ow id ver sz len) v)(hl:E.loc id ver=some l)(hb:Yq H E (.own ver sz xs) l w)(a7:len=xs.length){K:HV}(af:HV.le H K)(hK:0<l.size→∀o,K l.g o=w.cell? ⟨l.g,o,none⟩):RelI K (.sl sz xs) v:=by
 obtain⟨a,cap,rfl,_,ae,a5,am,a8⟩:=hx.ow_inv;subst a7;rcases a8 l hl with⟨h0,h1⟩ | ⟨h0,rfl,ah⟩
 ·have:xs=[]:=cqn (by omega)
  subst this;exact .sl0 _ _ _ a5
 ·have a9:=hb.1;have a6:=hb.2.1;obtain⟨C,e,hC,an,ai,ab⟩:=RQ (w:=w) hb h0;have aa:∀(i:Nat) (x:AV) (j:Nat) (c:AV),xs[i]? =some x→x.cells[j]? =some c→∃u,C[l.base+(i*sz+j)]? =some u∧u.oneCell'=true∧RelI K c u:=fun i x j c hx hj=>by
   obtain⟨u,a1,a2,a3⟩:=ab _ _ (Nc a6 i x j c hx hj);exact⟨u,a1,a2,a3.mono af⟩
  refine RelI.sl (H:=K) sz xs l.g l.base cap (fun i j=>(C[l.base+(i*sz+j)]?).getD Go.undef) a9 ae a5 (fun i x hx=>a6 x (cqr hx)) (fun i x j c hx hj=> ?_) (fun i x j c hx hj=> ?_)
  ·grind [XP,Nat.add_assoc]
  grind
theorem Ev{m:Nat→Lc}{H:HV}{B:Nat→Prop}{H0:HV}{gl:Nat→AV}{rest:List (AV×Value)}{st:St}{tmps:Array Value}{w:World}(h:RelS m H B H0 gl rest st tmps w){id ver sz:Nat}{xs:List AV}(a5:lkb st.hp id=some (.own ver sz xs)):∃K:HV,HV.le H K∧RelH (updF m id ⟨0,0,0⟩) K B H0 gl (lkb (pt st.hp id (.own (ver+4096) sz []))) st.nx w∧Env.le (st.env m) (Q6 (lkb (pt st.hp id (.own (ver+4096) sz []))) (updF m id ⟨0,0,0⟩))∧(0< (m id).size→∀o,K (m id).g o=w.cell? ⟨(m id).g,o,none⟩):=by
 classical
 have hE:=L6 (m:=m) (hp:=lkb st.hp) (b':=.own (ver+4096) sz []) (l:=⟨0,0,0⟩) (show ver<ver+4096 by omega) a5 rfl rfl
 obtain⟨ab,au,hb⟩:=h.heap.box id _ a5;have hK:HV.le H (fun b o=>if 0< (m id).size∧b=(m id).g then w.cell? ⟨b,o,none⟩ else H b o):=fun b o v hv=>by
  show(if _ then _ else _)=_
  split
  ·rename_i hc;obtain⟨h0,rfl⟩:=hc;have:=(h.heap.sepR id _ a5 h0).2.2 o
   simp_all
  ·exact hv
 have aq:∀a3 b',a3≠id→lkb st.hp a3=some b'→Real b' (m a3)→∀o,(if 0< (m id).size∧(m a3).g=(m id).g then w.cell? ⟨(m a3).g,o,none⟩ else H (m a3).g o)=none:=fun a3 b' aj aa hr o=>by
  rw[if_neg];·exact(h.heap.sepR a3 b' aa hr).2.2 o
  ·rintro⟨h0,he⟩;exact aj (h.heap.injR a3 id b' _ aa a5 hr h0 he)
 have an:id<st.nx:=by
  rcases Nat.lt_or_ge id st.nx with ai | ah
  ·exact ai
  ·have:=h.heap.fresh id ah;simp_all
 have hh:RelH (updF m id ⟨0,0,0⟩) (fun b o=>if 0< (m id).size∧b=(m id).g then w.cell? ⟨b,o,none⟩ else H b o) B H0 gl (updF (lkb st.hp) id (some (.own (ver+4096) sz []))) st.nx w:=by
  refine {sat:=fun b o v hv=> ?_,old:=fun b o hB=> ?_,low:=h.heap.low,fresh:=fun j hj=> ?_,box:=fun j b hj=> ?_,sepR:=fun j b hj hr=> ?_,injR:=fun i j b1 b2 h1 h2 r1 r2 a6=> ?_,gv:=h.heap.gv,gl:=fun g=>(h.heap.gl g).mono hK,ty:=fun j v cs hj=> ?_}
  ·dsimp only at hv;split at hv;·exact hv
   ·exact h.heap.sat b o v hv
  ·rw[if_neg];·exact h.heap.old b o hB
   ·rintro⟨h0,rfl⟩;exact(h.heap.sepR id _ a5 h0).1 hB
  ·rw[Qz _ _ (by omega)];exact h.heap.fresh j hj
  ·by_cases e:j=id
   ·subst e;rw[Qn] at hj;cases hj;rw[Qn];exact⟨ab,fun x hx=>by simp at hx,.inl ⟨rfl,rfl⟩⟩
   ·rw[Qz _ _ e] at hj ⊢;exact(h.heap.box j b hj).mono hK hE rfl
  ·by_cases e:j=id;·subst e;rw[Qn] at hj hr;cases hj;exact absurd hr (Nat.lt_irrefl 0)
   ·rw[Qz _ _ e] at hj hr ⊢;obtain⟨x,y,z⟩:=h.heap.sepR j b hj hr
    grind
  ·by_cases e1:i=id;·subst e1;rw[Qn] at h1 r1;cases h1;exact absurd r1 (Nat.lt_irrefl 0)
   ·by_cases e2:j=id;·subst e2;rw[Qn] at h2 r2;cases h2;exact absurd r2 (Nat.lt_irrefl 0)
    ·rw[Qz _ _ e1] at a6 h1 r1;rw[Qz _ _ e2] at a6 h2 r2;exact h.heap.injR i j b1 b2 h1 h2 r1 r2 a6
  ·by_cases e:j=id
   ·simp_all [Qn]
   ·rw[Qz _ _ e] at hj ⊢;exact h.heap.ty j v cs hj
 rw[← QV] at hh hE
 grind
theorem Q2a(k:Nat)(p:List Nat)(id ver sz len:Nat)(xs:List AV)(hk:WW p (st.get k)=some (.ow id ver sz len))(a3:lkb st.hp id=some (.own ver sz xs))(a4:len=xs.length):
  Conv gl st ⟨st.n,pt st.sl k (UY p (st.get k) (.sl sz xs)),pt st.hp id (.own (ver+4096) sz []),st.nx⟩:=⟨rfl,fun m H B H0 rest tmps w h=>by
 obtain⟨K,hK,hh,hE,a5⟩:=Ev h a3;exact⟨_,_,EE h hh hK hE k p hk fun u hs=>.imm _ _ (Ew (w:=w) hs (Je a3 rfl) (h.heap.box id _ a3) a4 hK a5)⟩⟩
theorem BA(bx i id ver vb sz len:Nat)(cb xs:List AV)(ak:bx≠id)(ah:lkb st.hp bx=some (.cells vb cb))(hk:cb[i]? =some (.ow id ver sz len))(a6:lkb st.hp id=some (.own ver sz xs))(aa:len=xs.length):
  Conv gl st ⟨st.n,st.sl,pt (pt st.hp id (.own (ver+4096) sz [])) bx (.cells vb (cb.set i (.sl sz xs))),st.nx⟩:=⟨rfl,fun m H B H0 rest tmps w h=>by
 obtain⟨K,hK,hh,hE,ag⟩:=Ev h a6;have h1:RelS (updF m id ⟨0,0,0⟩) K B H0 gl rest ⟨st.n,st.sl,pt st.hp id (.own (ver+4096) sz []),st.nx⟩ tmps w:=⟨hh,h.size,fun k=>(h.slot k).mono hK hE,fun p hp=>(h.rest p hp).mono hK hE⟩
 have a4:lkb (pt st.hp id (.own (ver+4096) sz [])) bx=some (.cells vb cb):=by simp_all [QV,Qz]
 have aj:(updF m id ⟨0,0,0⟩) bx=m bx:=Qz _ _ ak;have a8:=Jt (m:=updF m id ⟨0,0,0⟩) (hp:=lkb (pt st.hp id (.own (ver+4096) sz []))) (b':=.cells vb (cb.set i (.sl sz xs))) (l:=(updF m id ⟨0,0,0⟩) bx) a4 rfl rfl rfl;rw[Vg,← QV] at a8;obtain⟨C,e,hC,hs,ai,a9⟩:=h.heap.box bx _ ah;refine⟨_,_,(h1.reBox (b':=.cells vb (cb.set i (.sl sz xs))) a4 rfl rfl (fun _=>trivial) ?_ (fun v an e=>by cases e;exact hh.ty bx _ _ a4)).1⟩
 rw[aj];refine⟨C,e,hC,hs,by simpa using ai,fun j c hj=> ?_⟩
 rw[List.getElem?_set] at hj;split at hj
 ·rename_i e1;subst e1;split at hj
  ·cases hj;obtain⟨v,a1,a2,a3⟩:=a9 i _ hk;exact⟨v,a1,a2,.imm _ _ (Ew (w:=w) a3 (Je a6 rfl) (h.heap.box id _ a6) aa hK ag)⟩
  ·cases hj
 ·obtain⟨v,a1,a2,a3⟩:=a9 j c hj;exact⟨v,a1,a2,a3.mono hK (hE.trans a8)⟩⟩
theorem BB(k:Nat)(p:List Nat)(id ver off:Nat)(cs:List AV)(hk:WW p (st.get k)=some (.ptr id ver off))(a6:lkb st.hp id=some (.cells ver cs))(au:0<cs.length)(ae:cs.all immA=true):
  Conv gl st ⟨st.n,pt st.sl k (UY p (st.get k) (.ip cs.length [.agg cs] 0 off)),pt st.hp id (.own (ver+4096) 1 []),st.nx⟩:=⟨rfl,fun m H B H0 rest tmps w h=>by
 classical
 have hE:=L6 (m:=m) (hp:=lkb st.hp) (b':=.own (ver+4096) 1 []) (l:=⟨0,0,0⟩) (show ver<ver+4096 by omega) a6 rfl rfl
 have ao:=h.heap.box id _ a6;have hK:HV.le H (fun b o=>if b=(m id).g then w.cell? ⟨b,o,none⟩ else H b o):=fun b o v hv=>by
  show(if _ then _ else _)=_
  split
  ·rename_i hc;subst hc;have:=(h.heap.sepR id _ a6 trivial).2.2 o
   simp_all
  ·exact hv
 have b5:∀a5 b',a5≠id→lkb st.hp a5=some b'→Real b' (m a5)→∀o,(if(m a5).g=(m id).g then w.cell? ⟨(m a5).g,o,none⟩ else H (m a5).g o)=none:=fun a5 b' ag ad hr o=>by
  rw[if_neg];·exact(h.heap.sepR a5 b' ad hr).2.2 o
  ·intro he;exact ag (h.heap.injR a5 id b' _ ad a6 hr trivial he)
 have ay:id<st.nx:=by
  rcases Nat.lt_or_ge id st.nx with ar | aq
  ·exact ar
  ·have:=h.heap.fresh id aq;simp_all
 have hh:RelH (updF m id ⟨0,0,0⟩) (fun b o=>if b=(m id).g then w.cell? ⟨b,o,none⟩ else H b o) B H0 gl (updF (lkb st.hp) id (some (.own (ver+4096) 1 []))) st.nx w:=by
  refine {sat:=fun b o v hv=> ?_,old:=fun b o hB=> ?_,low:=h.heap.low,fresh:=fun j hj=> ?_,box:=fun j b hj=> ?_,sepR:=fun j b hj hr=> ?_,injR:=fun i j b1 b2 h1 h2 r1 r2 a9=> ?_,gv:=h.heap.gv,gl:=fun g=>(h.heap.gl g).mono hK,ty:=fun j v cs hj=> ?_}
  ·dsimp only at hv;split at hv;·exact hv
   ·exact h.heap.sat b o v hv
  ·rw[if_neg];·exact h.heap.old b o hB
   ·intro he;subst he;exact(h.heap.sepR id _ a6 trivial).1 hB
  ·rw[Qz _ _ (by omega)];exact h.heap.fresh j hj
  ·by_cases e:j=id
   ·subst e;rw[Qn] at hj;cases hj;rw[Qn];exact⟨Nat.one_pos,fun x hx=>by simp at hx,.inl ⟨rfl,rfl⟩⟩
   ·rw[Qz _ _ e] at hj ⊢;exact(h.heap.box j b hj).mono hK hE rfl
  ·by_cases e:j=id;·subst e;rw[Qn] at hj hr;cases hj;exact absurd hr (Nat.lt_irrefl 0)
   ·rw[Qz _ _ e] at hj hr ⊢;obtain⟨x,y,z⟩:=h.heap.sepR j b hj hr
    grind
  ·by_cases e1:i=id;·subst e1;rw[Qn] at h1 r1;cases h1;exact absurd r1 (Nat.lt_irrefl 0)
   ·by_cases e2:j=id;·subst e2;rw[Qn] at h2 r2;cases h2;exact absurd r2 (Nat.lt_irrefl 0)
    ·rw[Qz _ _ e1] at a9 h1 r1;rw[Qz _ _ e2] at a9 h2 r2;exact h.heap.injR i j b1 b2 h1 h2 r1 r2 a9
  ·by_cases e:j=id
   ·simp_all [Qn]
   ·rw[Qz _ _ e] at hj ⊢;exact h.heap.ty j v cs hj
 rw[← QV] at hh hE;refine⟨_,_,EE h hh hK hE k p hk fun u hs=> ?_⟩
 obtain⟨a,rfl,_,af⟩:=hs.ptr_inv;obtain rfl:=af _ (Je a6 rfl);obtain⟨C,e,hC,b7,az,ap⟩:=ao;have a8:∀(i:Nat) (x:AV) (j:Nat) (c:AV),[AV.agg cs][i]? =some x→x.cells[j]? =some c→i=0∧∃u,C[(m id).base+j]? =some u∧u.oneCell'=true∧RelI _ c u:=fun i x j c hx hj=>by
  cases i with
  |succ i=>simp at hx
  |zero=>
   simp only[List.getElem?_cons_zero,cqf] at hx;subst hx;obtain⟨u,a1,a2,a3⟩:=ap j c hj;exact⟨rfl,u,a1,a2,(Tg a3 (cqt.1 ae c (cqr hj))).mono hK⟩
 have:=RelI.ip (H:=fun b o=>if b=(m id).g then w.cell? ⟨b,o,none⟩ else H b o) cs.length [.agg cs] (m id).g (m id).base 0 off (fun i j=>(C[(m id).base+j]?).getD Go.undef) au (by simp) (fun i x hx=>by
  cases i with
  |succ i=>simp at hx
  |zero=>simp only[List.getElem?_cons_zero,cqf] at hx;subst hx;rfl) (fun i x j c hx hj=>by
  obtain⟨rfl,u,a1,a2,a3⟩:=a8 i x j c hx hj;rw[a1];refine⟨?_,a2⟩;rw[if_pos rfl,Nat.zero_mul,Nat.add_zero,XP _ _ _ _ _ _ hC,a1];rfl) (fun i x j c hx hj=>by
  grind)
 rw[Nat.zero_mul,Nat.add_zero] at this;exact .imm _ _ this⟩
theorem Q8u{z i off n:Nat}{xs:List AV}{x y:AV}(a3:∀x∈xs,x.cells.length=z)(a4:xs[i]? =some x)(hl:off+n≤z)(hn:y.cells.length=n):(∀u∈xs.set i (putE off n z x y),u.cells.length=z)∧(xs.set i (putE off n z x y)).flatMap AV.cells=(xs.flatMap AV.cells).take (i*z+off)++(y.cells++(xs.flatMap AV.cells).drop (i*z+off+n)):=by
 have hi:=(cqd.1 a4).1;have a8:x.cells.length=z:=a3 _ (cqr a4);generalize hY:putE off n z x y=Y;have a5:Y.cells=x.cells.take off++(y.cells++x.cells.drop (off+n)):=by grind [F3]
 have a6:Y.cells.length=z:=by grind
 have a7:=Kc a3;have a9:i*z+z≤xs.length*z:=by
  have:(i+1)*z≤xs.length*z:=cqp _ hi
  grind
 refine⟨fun u hx=>by
  grind,?_⟩
 rw[ST i x Y a3 a4 a6,a5];have ab:∀j,j<z→(xs.flatMap AV.cells)[i*z+j]? =x.cells[j]? :=fun j hj=>by
  simp_all [Nc,cqc]
 apply List.ext_getElem?;intro j;simp only[List.getElem?_append,List.length_append,List.length_take,List.getElem?_take,List.getElem?_drop,List.length_drop,a7,a8]
 grind
theorem Q6k(id ver z i c a4 v2 z2 len:Nat)(xs ys:List AV)(x:AV)(am:lkb st.hp id=some (.hol ver z xs i c (.ow a4 v2 z2 len)))(a5:lkb st.hp a4=some (.own v2 z2 ys))(ae:len=ys.length)(au:xs[i]? =some x):
  Conv gl st ⟨st.n,st.sl,pt (pt st.hp a4 (.own (v2+4096) z2 [])) id (.own ver z (xs.set i (putE c 1 z x (.sl z2 ys)))),st.nx⟩:=⟨rfl,fun m H B H0 rest tmps w h=>by
 have aq:id≠a4:=fun e=>by simp_all
 obtain⟨K,hK,hh,hE,aj⟩:=Ev h a5;have h1:RelS (updF m a4 ⟨0,0,0⟩) K B H0 gl rest ⟨st.n,st.sl,pt st.hp a4 (.own (v2+4096) z2 []),st.nx⟩ tmps w:=⟨hh,h.size,fun k=>(h.slot k).mono hK hE,fun p hp=>(h.rest p hp).mono hK hE⟩
 have ad:lkb (pt st.hp a4 (.own (v2+4096) z2 [])) id=some (.hol ver z xs i c (.ow a4 v2 z2 len)):=by simp_all [QV,Qz]
 obtain⟨af,a8,an,b6,ar,C,e,hC,hs,ao,ab,u,a1,a2,a3⟩:=h.heap.box id _ am;have ht:RelI K (.sl z2 ys) u:=Ew (w:=w) a3 (Je a5 rfl) (h.heap.box a4 _ a5) ae hK aj;obtain⟨f1,f2⟩:=Q8u (y:=.sl z2 ys) (n:=1) (off:=c) a8 au (by omega) rfl
 have ap:(updF m a4 ⟨0,0,0⟩) id=m id:=Qz _ _ aq;refine⟨_,_,(h1.reBox (b':=.own ver z (xs.set i (putE c 1 z x (.sl z2 ys)))) ad rfl rfl (fun _=>trivial) ?_ (fun _ _ e=>by cases e)).1⟩
 rw[ap];refine⟨af,f1,.inr ⟨ar,C,e,hC,hs,?_,fun j d hj=> ?_⟩⟩
 ·rw[Kc f1,List.length_set,← Kc a8];exact ao
 ·rw[f2] at hj;have ak:=Kc a8;have ay:i*z+z≤xs.length*z:=by
   have:(i+1)*z≤xs.length*z:=cqp _ an
   grind
  simp only[List.getElem?_append,List.length_take,List.getElem?_take,List.getElem?_drop,ak,AV.cells,List.length_singleton] at hj;rw[show min (i*z+c) (xs.length*z)=i*z+c by omega] at hj
  by_cases c1:j<i*z+c
  ·rw[if_pos c1,if_pos c1] at hj;obtain⟨v,b1,b2,b3⟩:=ab j d hj (by omega)
   exact⟨v,b1,b2,b3.mono hK⟩
  ·rw[if_neg c1] at hj;by_cases c2:j - (i*z+c)<1
   ·grind
   ·rw[if_neg c2] at hj;rw[show i*z+c+1+(j - (i*z+c) - 1)=j by omega] at hj
    obtain⟨v,b1,b2,b3⟩:=ab j d hj (by omega)
    exact⟨v,b1,b2,b3.mono hK⟩⟩
end
def YH(ev:Operand→AV)(op:Op):Option (Nat×List AV):=
 match op with
 | .call c=>match c.callee with
  | .value x=>match ev x with
   | .fn f caps=>some (f,c.args.toList.map ev++caps)
   |_=>none
  |_=>none
 |_=>none
def VQ(op:Op):Bool:=
 match op with
 | .call c=>match c.callee with
  | .builtin _=>false
  |_=>true
 |_=>false
abbrev Yr:=Nat→Qq
def Yr.Ok(P:Program)(gl:Nat→AV)(cb:Yr):Prop:=∀b f ts r hp' nx',cb b f ts .nil 0=some (r,hp',nx')→Vr P gl f ts r hp' nx'
theorem L2{P:Program}{gl:Nat→AV}{ch:Qq}(h:ch.Ok P gl):Yr.Ok P gl (fun _=>ch):=fun _ _ _ _ _ _ hk=>(h _ _ _ _ _ _ _ hk).zero
def xo(P:Program)(ch:Yr)(bid:Nat)(dst:Option Nat)(op:Op)(ev:Operand→AV)(hp:Hp):Option (AV×Option (Nat×Box)):=
 if VQ op then(match YH ev op with
  |some (f,args)=>CM (ch bid) hp bid f args
  |none=>none) else xop P bid dst op ev hp
def appTo(x:Operand)(o:Oper):Bool:=match o.op with
 | .call c=>match c.callee with
  | .builtin .append=>match c.args.toList,x with
   | .tmp s::_,.tmp t=>Nat.beq s t
   |_,_=>false
  |_=>false
 |_=>false
def seed(all:List Oper)(o:Oper):Bool:=match o.op with
 | .buildSlice _ len _=>match o.dst with
  |some d=>Nat.beq len 0&&all.any (appTo (.tmp d))
  |none=>false
 |_=>false
def TG(P:Program)(bid:Nat)(op:Op):Option (AV×Option (Nat×Box)):=match op with
 | .buildSlice t len parts=>match Nat.beq len 0&&parts.toList.isEmpty with
  |true=>match elG P t with
   |some (sz,_,_)=>some (.ow bid 0 sz 0,some (bid,.own 0 sz []))
   |none=>none
  |false=>none
 |_=>none
def idOf:AV→List Nat
 | .ptr id _ _=>[id]
 | .bs id _ _ _ _=>[id]
 | .ow id _ _ _=>[id]
 | .oe id _ _ _ _=>[id]
 |_=>[]
def foot(op:Op)(ev:Operand→AV):Option (List Nat):=match op with
 | .load _ x=>some (idOf (ev x))
 | .store _ x _=>some (idOf (ev x))
 | .binOp _ _ x _ _=>some (idOf (ev x))
 | .convert _ _ x=>some (idOf (ev x))
 | .call c=>match c.callee with
  | .builtin .append=>match c.args.toList with
   | [x,y]=>some (idOf (ev x)++idOf (ev y))
   |_=>none
  | .builtin _=>none
  |_=>match YH ev op with
   |some (_,args)=>match optL (tree (fun _=>none) false 12) args with
    |some _=>some []
    |none=>none
   |none=>none
 |_=>none
abbrev Zj:=Nat→Option (List Nat)
def WB(md:Bool)(F:Zj)(bid:Nat)(o:Oper)(ev:Operand→AV):Bool:=match md with
 |false=>true
 |true=>match F bid with
  |none=>true
  |some ids=>match foot o.op ev with
   |some l=>l.all (fun i=>ids.any (Nat.beq i))
   |none=>false
def xoF(P:Program)(ch:Yr)(md:Bool)(F:Zj)(all:List Oper)(bid:Nat)(o:Oper)(ev:Operand→AV)(hp:Hp):Option (AV×Option (Nat×Box)):=
 match WB md F bid o ev with
 |true=>match md&&seed all o with
  |true=>TG P bid o.op
  |false=>xo P ch bid o.dst o.op ev hp
 |false=>none
def M1(all:List Oper)(j:Nat):Option Nat:=
 match all[j]? with
 |some o=>o.dst
 |none=>none
def LH(x:AV)(a3:Bool):Option Bool:=
 match x with
 | .bool t=>some (bif t then a3 else !a3)
 | .tup []=>some false
 |_=>none
def Xp(P:Program)(gl:Nat→AV)(ch:Yr)(md:Bool)(F:Zj)(all:List Oper)(bid:Nat)(o:Oper)(st:St):Option St:=
 if Z2 o.dst st.n&& (lkb st.hp bid).isNone&&Nat.blt bid st.nx then match o.guard with
  |none=>match xoF P ch md F all bid o (st.ev gl) (lkb st.hp) with
   |some r=>some (st.eff o.dst r)
   |none=>none
  |some (j,want)=>match M1 all j with
   |some g=>match LH (st.get g) want with
    |some true=>match xoF P ch md F all bid o (st.ev gl) (lkb st.hp) with
     |some r=>some (st.eff o.dst r)
     |none=>none
    |some false=>some (st.eff o.dst (.tup [],none))
    |none=>none
   |none=>none
 else none
def JV(P:Program)(r:Option Nat)(n:Nat)(B:Nat→Prop)(H0:HV)(gl:Nat→AV)(rest:List (AV×Value))(a:Act)(w:World)(o:Oper)(st':St):Prop:=
 ∀(next:Act→World→Prop) (Q:Exit→Act→World→Prop),
  (∀a' w' m' H',a'.defers=a.defers→Qa B w w'→RelS m' H' B H0 gl rest st' a'.tmps w'→next a' w')→o.wpIn (FW r) n P a w next Q
theorem Xw(a:Act)(d:Option Tmp)(v:Value):(a.put d v).defers=a.defers:=by cases d<;>rfl
theorem Ho{P:Program}{bid:Nat}{dst:Option Nat}{op:Op}{ev:Operand→AV}{hp:Hp}{r:AV×Option (Nat×Box)}(h:xop P bid dst op ev hp=some r):∀c,op≠ .defer c:=by
 intro c e;subst e;simp[xop,xop0,xopX,xopO] at h
section
variable {P : Program} {m : Nat → Lc} {H : HV} {B : Nat → Prop} {H0 : HV} {gl : Nat → AV} {rest : List (AV × Value)} {st : St} {a : Act} {w : World}
theorem OpOk.step{ro:Option Nat}{n:Nat}{o:Oper}{st':St}(h:OpOk P B H0 gl rest a w o.dst st' (execOp a.eval o))(a4:∀c,o.op≠ .defer c):JV P ro n B H0 gl rest a w o st':=by
 intro next Q hn;obtain⟨nx,v,w',m',H',hr,hx,hb,a3⟩:=h;refine⟨fun _ _=>trivial,?_⟩
 rw[Oper.semAt_eq _ _ _ a4,hr];rcases hx with rfl | ⟨rfl,rfl⟩
 ·exact hn _ _ _ _ (Xw _ _ _) hb a3
 ·exact hn _ _ _ _ (Xw _ _ _) hb a3
theorem GH{ev:Operand→AV}{op:Op}{f:Nat}{args:List AV}(h:YH ev op=some (f,args)):∃c x a3,op= .call c∧c.callee= .value x∧ev x= .fn f a3∧args=c.args.toList.map ev++a3:=by
 unfold YH at h;split at h
 ·rename_i c;split at h
  ·rename_i x hx;split at h
   ·rename_i f' a3 hf;cases h;exact⟨c,x,a3,rfl,hx,hf,rfl⟩
   ·cases h
  ·cases h
 ·cases h
theorem SP(h:RelS m H B H0 gl rest st a.tmps w){o:Oper}{f:Nat}{args:List AV}(hc:YH (st.ev gl) o.op=some (f,args)):
  ∃vs:Array Value,(execOp a.eval o).run P w=(callFunc f vs).run P w∧args.length=vs.size∧∀(j:Nat) (x:AV) (v:Value),args[j]? =some x→vs[j]? =some v→RV H (st.env m) x v:=by
 obtain⟨c,x,a9,ho,hx,hf,rfl⟩:=GH hc;have a4:=h.ev x;rw[hf] at a4;obtain⟨us,hu,a7,a8⟩:=a4.fn_inv;have hl:=Ie h c.args.toList;refine⟨c.args.map a.eval++us,?_,by simp[a7],fun j y v hy hv=> ?_⟩
 ·unfold execOp;simp only[ho,resolve,hx,cqv,hu,Deferred.ofValue,Sem.run_pure,cqw,invoke,Array.empty_append]
 ·rw[List.getElem?_append] at hy;rw[Array.getElem?_append] at hv;simp only[List.length_map,Array.length_toList,Array.size_map] at hy hv;split at hy
  ·rename_i hj;rw[if_pos hj] at hv;exact hl.2 j y v hy (by simpa using hv)
  ·rename_i hj;rw[if_neg hj] at hv;exact a8 _ y v hy hv
theorem Lu(h:RelS m H B H0 gl rest st a.tmps w){o:Oper}{f:Nat}{args:List AV}(hc:YH (st.ev gl) o.op=some (f,args)){st':St}(ro:Option Nat)(n:Nat)
  (a4:∀vs:Array Value,args.length=vs.size→(∀(j:Nat) (x:AV) (v:Value),args[j]? =some x→vs[j]? =some v→RV H (st.env m) x v)→
   Ans P f vs w fun e w'=>∃v m' H',e= .returned v∧Qa B w w'∧RelS m' H' B H0 gl rest st' (a.put o.dst v).tmps w'):JV P ro n B H0 gl rest a w o st':=by
 intro next Q hn;obtain⟨vs,a6,hl,hr⟩:=SP h hc;obtain⟨c,x,a8,ho,_⟩:=GH hc;refine⟨fun _ _=>trivial,?_⟩
 rw[Oper.semAt_eq _ _ _ (fun c e=>by rw[ho] at e;cases e),a6]
 rcases a4 vs hl hr with⟨a5,a7⟩ | ⟨v,w',hv,hq⟩
 ·rw[a5 vs w];refine⟨(fun hh=>by simp[FW] at hh),NZ (a7.mono fun e w' hp=> ?_)⟩
  obtain⟨v,m',H',rfl,hb,a3⟩:=hp;exact hn _ _ _ _ (Xw _ _ _) hb a3
 ·rw[hv];obtain⟨v',m',H',he,hb,a3⟩:=hq;cases he;exact hn _ _ _ _ (Xw _ _ _) hb a3
theorem xo_ok{ch:Yr}(a3:ch.Ok P gl)(h:RelS m H B H0 gl rest st a.tmps w){o:Oper}(hd:Z2 o.dst st.n=true){bid:Nat}(hb:lkb st.hp bid=none)(hn:bid<st.nx){r:AV×Option (Nat×Box)}(hk:xo P ch bid o.dst o.op (st.ev gl) (lkb st.hp)=some r)(ro:Option Nat)(n:Nat):
  JV P ro n B H0 gl rest a w o (st.eff o.dst r):=by
 unfold xo at hk;split at hk
 ·split at hk
  ·rename_i f args hc;exact Lu h hc ro n fun vs hl hr=>Of (fun _ _ _ _ _ hk=>a3 _ _ _ _ _ _ hk) h hd hb hn hl hr hk
  ·cases hk
 ·exact(Q1i h hd hb hn hk).step (Ho hk)
theorem Q6l{k bid sz:Nat}(a3:0<sz)(hk:st.get k= .bs bid 0 sz 0 0)(a4:lkb st.hp bid=some (.cells 0 [])):
  Conv gl st ⟨st.n,pt st.sl k (.ow bid 0 sz 0),pt st.hp bid (.own 0 sz []),st.nx⟩:=by
 have:=Ry (gl:=gl) (st:=st) k [] bid 0 sz 0 [] a3 (by rw[hk];rfl) a4 (by simp) (by simp)
 simpa[UY,KF] using this
theorem Pp{d bid:Nat}{v v':AV}{b b':Box}:lkb (pt (st.eff (some d) (v,some (bid,b))).hp bid b')=lkb (st.eff (some d) (v',some (bid,b'))).hp:=by
 show lkb (pt (pt st.hp bid b) bid b')=lkb (pt st.hp bid b');funext k;rw[QV,QV,QV];unfold updF;split<;>rfl
theorem Q9y{d bid:Nat}{v v':AV}{b b':Box}{hp:Tr Box}{n nx k:Nat}:St.get ⟨n,pt (st.eff (some d) (v,some (bid,b))).sl d v',hp,nx⟩ k=(st.eff (some d) (v',some (bid,b'))).get k:=by
 show lk .undef (pt (pt st.sl d v) d v') k=lk .undef (pt st.sl d v') k;rw[UX,UX,UX];split<;>rfl
theorem Qb0{ch:Yr}(aa:ch.Ok P gl)(h:RelS m H B H0 gl rest st a.tmps w){o:Oper}(hd:Z2 o.dst st.n=true){bid:Nat}(hb:lkb st.hp bid=none)(hn:bid<st.nx){d:Nat}(a5:o.dst=some d){r:AV×Option (Nat×Box)}(hk:TG P bid o.op=some r)(ro:Option Nat)(n:Nat):
  JV P ro n B H0 gl rest a w o (st.eff o.dst r):=by
 unfold TG at hk;split at hk
 ·rename_i t len parts ho;split at hk
  ·rename_i hc;rw[cqb] at hc;obtain rfl:=cqa hc.1;have hp:parts.toList=[]:=by simpa using hc.2
   split at hk
   ·rename_i sz ah zs a6;cases hk;have a3:0<sz:=by obtain⟨_,_,_,_,_,_,_,a3,_⟩:=Dh a6;exact a3
    have h0:xo P ch bid o.dst o.op (st.ev gl) (lkb st.hp)=some (.bs bid 0 sz 0 0,some (bid,.cells 0 [])):=by
     unfold xo;rw[if_neg (by rw[ho];simp[VQ]),ho]
     refine ZN ?_;simp[xop0,WK,a6,hp,Me,NW]
    have ae:=xo_ok aa h hd hb hn h0 ro n;intro next Q ad;refine ae next Q fun a' w' m' H' ab a8 a7=> ?_
    rw[a5] at a7;obtain⟨m2,H2,a4⟩:=(Q6l (gl:=gl) (st:=st.eff (some d) (.bs bid 0 sz 0 0,some (bid,.cells 0 []))) (k:=d) (bid:=bid) (sz:=sz) a3 (by
     show lk .undef (pt st.sl d _) d=_;rw[UX,if_pos rfl]) (by
     show lkb (pt st.hp bid _) bid=_;rw[QV,Qn])).2 _ _ _ _ _ _ _ a7
    refine ad a' w' m2 H2 ab a8 ?_;rw[a5];refine⟨?_,a4.size,fun k=> ?_,fun p hp=> ?_⟩
    ·have:=a4.heap
     rwa [Pp] at this
    ·have:=a4.slot k;rw[Q9y] at this;unfold St.env at this ⊢
     rwa [Pp] at this
    ·have:=a4.rest p hp;unfold St.env at this ⊢
     rwa [Pp] at this
   ·cases hk
  ·cases hk
 ·cases hk
theorem xoF_ok{ch:Yr}(a3:ch.Ok P gl)(h:RelS m H B H0 gl rest st a.tmps w){md:Bool}{F:Zj}{all:List Oper}{o:Oper}(hd:Z2 o.dst st.n=true){bid:Nat}(hb:lkb st.hp bid=none)(hn:bid<st.nx){r:AV×Option (Nat×Box)}(hk:xoF P ch md F all bid o (st.ev gl) (lkb st.hp)=some r)(ro:Option Nat)(n:Nat):
  JV P ro n B H0 gl rest a w o (st.eff o.dst r):=by
 unfold xoF at hk;split at hk
 ·split at hk
  ·rename_i hs;rw[cqb] at hs;have:∃d,o.dst=some d:=by
    have hs:=hs.2;unfold seed at hs;split at hs
    ·split at hs;·exact⟨_,by assumption⟩
     ·cases hs
    ·cases hs
   obtain⟨d,a4⟩:=this;exact Qb0 a3 h hd hb hn a4 hk ro n
  ·exact xo_ok a3 h hd hb hn hk ro n
 ·cases hk
theorem Q1p{l:List Oper}{j g:Nat}{t:Bool}(hg:M1 l j=some g)(ht:a.tmps.getD g Go.undef= .bool t):yielded l.toArray a.tmps j=some t:=by
 have a3:g<a.tmps.size:=by
  rcases Nat.lt_or_ge g a.tmps.size with h | h
  ·exact h
  ·rw[cqj,Array.getElem?_eq_none h] at ht;cases ht
 have a6:((l.toArray[j]?).bind (·.dst))=some g:=by
  unfold M1 at hg;simp only[cqi];split at hg;·rename_i o ho;rw[ho];exact hg
  ·cases hg
 rw[cqj,cqh a3,Option.getD_some] at ht;simp only[yielded,a6,Option.bind_some,cqh a3,ht]
theorem Q2z{l:List Oper}{j g:Nat}(hg:M1 l j=some g)(ht:a.tmps.getD g Go.undef= .tuple #[]):yielded l.toArray a.tmps j=none:=by
 have a3:((l.toArray[j]?).bind (·.dst))=some g:=by
  unfold M1 at hg;simp only[cqi];split at hg;·rename_i o ho;rw[ho];exact hg
  ·cases hg
 rcases Nat.lt_or_ge g a.tmps.size with a4 | a6
 ·rw[cqj,cqh a4,Option.getD_some] at ht;simp only[yielded,a3,Option.bind_some,cqh a4,ht]
 ·simp only[yielded,a3,Option.bind_some,Array.getElem?_eq_none a6]
theorem Lj{H:HV}{E:Env}{l:List Oper}{o:Oper}{j g:Nat}{a3 b:Bool}{x:AV}(ho:o.guard=some (j,a3))(hg:M1 l j=some g)(hw:LH x a3=some b)(hv:RV H E x (a.tmps.getD g Go.undef)):Region.wanted o (yielded l.toArray a.tmps)=b:=by
 unfold LH at hw;split at hw
 ·rename_i t;have hy:=Q1p hg hv.bool_inv;cases hw;simp only[Region.wanted,ho,hy];cases t<;>cases a3<;>rfl
 ·cases hw;obtain⟨vs,h1,h2,_⟩:=hv.tup_inv;have:vs= #[]:=Array.eq_empty_of_size_eq_zero (by simpa using h2.symm)
  subst this;simp only[Region.wanted,ho,Q2z hg h1];rfl
 ·cases hw
theorem Nw{ch:Yr}(a8:ch.Ok P gl)(h:RelS m H B H0 gl rest st a.tmps w){md:Bool}{F:Zj}{all:List Oper}{o:Oper}{bid:Nat}{st':St}(hk:Xp P gl ch md F all bid o st=some st')(ro:Option Nat)(n:Nat)
  (next:Act→World→Prop) (Q:Exit→Act→World→Prop) (hn:∀a' w' m' H',a'.defers=a.defers→Qa B w w'→RelS m' H' B H0 gl rest st' a'.tmps w'→next a' w'):
  if Region.wanted o (yielded all.toArray a.tmps) then o.wpIn (FW ro) n P a w next Q else(∀f,o.about P w a.eval=some f→(FW ro).fn f)∧next (a.put o.dst Go.undef) w:=by
 unfold Xp at hk;split at hk
 ·rename_i hc;simp only[cqb,Option.isNone_iff_eq_none] at hc;obtain⟨⟨hd,hb⟩,a3⟩:=hc;have a3:bid<st.nx:=cqe a3;have go:∀r,xoF P ch md F all bid o (st.ev gl) (lkb st.hp)=some r→some (st.eff o.dst r)=some st'→o.wpIn (FW ro) n P a w next Q:=fun r hr he=>by
   cases he;exact xoF_ok a8 h hd hb a3 hr ro n next Q hn
  split at hk
  ·rename_i hg;rw[if_pos (by simp[Region.wanted,hg])]
   split at hk;·rename_i r hr;exact go r hr hk
   ·cases hk
  ·rename_i j ae hg;split at hk
   ·rename_i g a4;split at hk
    ·rename_i ht;rw[if_pos (Lj hg a4 ht (h.slot g))];split at hk;·rename_i r hr;exact go r hr hk
     ·cases hk
    ·rename_i ht;rw[if_neg (by rw[Lj hg a4 ht (h.slot g)];simp)]
     cases hk;exact⟨fun _ _=>trivial,hn _ _ _ _ (Xw _ _ _) (Qa.refl _ _) (h.putO hd (.tup [] #[] rfl (fun j c v hj=>by simp at hj)))⟩
    ·cases hk
   ·cases hk
 ·cases hk
end
structure StEq (a b:St):Prop where
 n:a.n=b.n
 nx:a.nx=b.nx
 get:∀k,a.get k=b.get k
 hp:lkb a.hp=lkb b.hp
theorem StEq.refl(a:St):StEq a a:=⟨rfl,rfl,fun _=>rfl,rfl⟩
theorem StEq.symm{a b:St}(h:StEq a b):StEq b a:=⟨h.n.symm,h.nx.symm,fun k=>(h.get k).symm,h.hp.symm⟩
theorem StEq.trans{a b c:St}(h:StEq a b)(k:StEq b c):StEq a c:=⟨h.n.trans k.n,h.nx.trans k.nx,fun i=>(h.get i).trans (k.get i),h.hp.trans k.hp⟩
theorem StEq.ev{a b:St}(h:StEq a b)(gl:Nat→AV):a.ev gl=b.ev gl:=by
 funext x;cases x<;>first | rfl | exact h.get _
theorem StEq.rel{m:Nat→Lc}{H:HV}{B:Nat→Prop}{H0:HV}{gl:Nat→AV}{rest:List (AV×Value)}{a b:St}{tmps:Array Value}{w:World}(h:StEq a b)(hr:RelS m H B H0 gl rest a tmps w):RelS m H B H0 gl rest b tmps w:=by
 refine⟨by rw[← h.hp,← h.nx];exact hr.heap,by rw[← h.n];exact hr.size,fun k=> ?_,fun p hp=> ?_⟩
 ·show RV H (Q6 (lkb b.hp) m) _ _;rw[← h.hp,← h.get];exact hr.slot k
 ·show RV H (Q6 (lkb b.hp) m) _ _;rw[← h.hp];exact hr.rest p hp
theorem Vb(st:St)(d:Option Nat)(r:AV×Option (Nat×Box))(k:Nat):(st.eff d r).get k=if d=some k then r.1 else st.get k:=by
 have:∀st:St,(st.putO d r.1).get k=if d=some k then r.1 else st.get k:=fun st=>by
  cases d with
  |none=>simp[St.putO]
  |some d=>
   show lk .undef (pt st.sl d r.1) k=_;rw[UX];simp only[cqf];rfl
 obtain⟨v,b⟩:=r;cases b with
 |none=>exact this st
 |some b=>
  have:=this st;cases d<;>exact this
theorem Jf(st:St)(d:Option Nat)(r:AV×Option (Nat×Box)):lkb (st.eff d r).hp=match r.2 with | some (id,b)=>updF (lkb st.hp) id (some b) | none=>lkb st.hp:=by
 obtain⟨v,b⟩:=r;cases b with
 |none=>show lkb (st.putO d v).hp=_;rw[Vz]
 |some b=>cases d<;>exact QV _ _ _
theorem StEq.eff{a b:St}(h:StEq a b)(d:Option Nat)(r:AV×Option (Nat×Box)):StEq (a.eff d r) (b.eff d r):=
 ⟨by rw[MP,MP];exact h.n,by rw[Ca,Ca];exact h.nx,fun k=>by rw[Vb,Vb,h.get],by rw[Jf,Jf,h.hp]⟩
def UG(P:Program)(ch:Yr)(md:Bool)(F:Zj)(all:List Oper)(bid:Nat)(o:Oper)(gv:Option AV)(ev:Operand→AV)(hp:Hp):Option (AV×Option (Nat×Box)):=
 match o.guard with
 |none=>xoF P ch md F all bid o ev hp
 |some (_,want)=>match gv with
  |some x=>match LH x want with
   |some true=>xoF P ch md F all bid o ev hp
   |some false=>some (.tup [],none)
   |none=>none
  |none=>none
def gval(all:List Oper)(o:Oper)(st:St):Option AV:=
 match o.guard with
 |none=>none
 |some (j,_)=>match M1 all j with
  |some g=>some (st.get g)
  |none=>none
theorem V0{P:Program}{gl:Nat→AV}{ch:Yr}{md:Bool}{F:Zj}{all:List Oper}{bid:Nat}{o:Oper}{st:St}:
  Xp P gl ch md F all bid o st=if Z2 o.dst st.n&& (lkb st.hp bid).isNone&&Nat.blt bid st.nx then(match UG P ch md F all bid o (gval all o st) (st.ev gl) (lkb st.hp) with | some r=>some (st.eff o.dst r) | none=>none) else none:=by
 unfold Xp UG gval;split
 ·cases hg:o.guard with
  |none=>rfl
  |some x=>
   obtain⟨j,a3⟩:=x;simp only;cases hgs:M1 all j with
   |none=>rfl
   |some g=>
    simp only;cases hv:LH (st.get g) a3 with
    |none=>rfl
    |some b=>cases b<;>rfl
 ·rfl
theorem StEq.stepO{P:Program}{gl:Nat→AV}{ch:Yr}{md:Bool}{F:Zj}{all:List Oper}{bid:Nat}{o:Oper}{a b s:St}(h:StEq a b)(hk:Xp P gl ch md F all bid o a=some s):∃s',Xp P gl ch md F all bid o b=some s'∧StEq s s':=by
 rw[V0] at hk ⊢;have hg:gval all o a=gval all o b:=by
  unfold gval;split;·rfl
  ·split;·rw[h.get]
   ·rfl
 rw[h.n,h.nx,h.hp,hg,h.ev] at hk;split at hk
 ·rename_i hc;rw[if_pos hc];split at hk
  ·rename_i r hr;cases hk;exact⟨_,rfl,h.eff _ _⟩
  ·cases hk
 ·cases hk
def tmp?:Operand→Option Nat
 | .tmp t=>some t
 |_=>none
def rdO(all:List Oper)(o:Oper):List Nat:=
 o.op.operands.toList.filterMap tmp? ++match o.guard with
  |some (j,_)=>(M1 all j).toList
  |none=>[]
def HJ(c:Call):Bool:=match c.args.toList with | .const _::_=>true | _=>false
def hk(op:Op):Nat:=
 match op with
 | .load .. =>1
 | .lookup .. =>1
 | .store .. =>2
 | .binOp o .. =>match o with
  | .eql | .neq=>1
  |_=>0
 | .convert .. =>1
 | .call c=>match c.callee with
  | .builtin .append=>match HJ c with | true=>1 | false=>2
  | .builtin .unsafeString=>2
  | .builtin _=>0
  |_=>1
 |_=>0
def hkCl(a b:Nat):Bool:=(Nat.beq a 2&& !Nat.beq b 0) || (Nat.beq b 2&& !Nat.beq a 0)
def LI(d:Option Nat)(l:List Nat):Bool:=match d with | some d=>l.contains d | none=>false
def LF(a b:Option (List Nat)):Bool:=match a,b with
 |some l,some k=>l.all fun i=>k.all fun j=> !Nat.beq i j
 |_,_=>false
def HB(all:List Oper)(o p:Oper):Bool:=LI o.dst (rdO all p) || LI o.dst p.dst.toList || LI p.dst (rdO all o)
def M0(md:Bool)(all:List Oper)(o p:Oper):Bool:=HB all o p || (!md&&hkCl (hk o.op) (hk p.op))
section
variable {P : Program} {m : Nat → Lc} {H : HV} {B : Nat → Prop} {H0 : HV} {gl : Nat → AV} {rest : List (AV × Value)} {st : St} {a : Act} {w : World} {ch : Yr}
theorem Q64{bid:Nat}{dst:Option Nat}{op:Op}{ev a3:Operand→AV}{hp:Hp}(h:∀x∈op.operands,ev x=a3 x):xop0 P bid dst op ev hp=xop0 P bid dst op a3 hp:=by
 have a4:∀(o:Option Operand),(∀x∈o.toList,ev x=a3 x)→o.map ev=o.map a3:=fun o ho=>by
  cases o with
  |none=>rfl
  |some x=>simp[ho x (by simp)]
 cases op<;>simp only[Op.operands,List.mem_toArray,List.mem_cons,List.not_mem_nil,or_false,forall_eq_or_imp,forall_eq,List.mem_map,Array.mem_toList_iff] at h<;>(try rfl)<;>simp only[xop0]
 case move=>rw[h]
 case assign=>rw[h]
 case pick=>rw[h.1,h.2.1,h.2.2]
 case box=>rw[h]
 case build t ps=>congr 2;refine List.map_congr_left fun p hp=> ?_;rw[h _ ⟨p,by simpa using hp,rfl⟩]
 case buildSlice t l ps=>congr 1;refine List.map_congr_left fun p hp=> ?_;rw[h _ ⟨p,by simpa using hp,rfl⟩]
 case load=>rw[h]
 case store=>rw[h.1,h.2]
 case nilCheck=>rw[h]
 case binOp=>rw[h.1,h.2]
 case unOp=>rw[h]
 case convert=>rw[h]
 case makeFunc fn first caps=>
  cases fn<;>try rfl
  simp only;split
  ·congr 3;refine List.map_congr_left fun x hx=>h x ?_
   simp at hx ⊢;exact .inr hx
  ·rfl
 case makeSlice=>rw[h.1,h.2]
 case slice t x lo hi mx=>
  have h':∀y,y=x∨y∈lo.toList∨y∈hi.toList∨y∈mx.toList→ev y=a3 y:=fun y hy=>h y (by
   simp only[Array.mem_append,List.mem_toArray,List.mem_singleton,Option.mem_toArray] at*;rcases hy with h1 | h1 | h1 | h1
   ·exact .inl (.inl (.inl (by simp[h1])))
   ·exact .inl (.inl (.inr (by simpa using h1)))
   ·exact .inl (.inr (by simpa using h1))
   ·exact .inr (by simpa using h1))
  rw[h' x (.inl rfl),a4 lo (fun y hy=>h' y (.inr (.inl hy))),a4 hi (fun y hy=>h' y (.inr (.inr (.inl hy)))),a4 mx (fun y hy=>h' y (.inr (.inr (.inr hy))))]
 case fieldAddr=>rw[h]
 case field=>rw[h]
 case indexAddr=>rw[h.1,h.2]
 case index=>rw[h.1,h.2]
 case extract=>rw[h]
 case call c=>
  cases hc:c.callee<;>simp only
  rename_i b;congr 1;refine List.map_congr_left fun x hx=>h x ?_
  simp[Call.operands,hc];simpa using hx
theorem Q66{bid:Nat}{op:Op}{ev a3:Operand→AV}{hp:Hp}(h:∀x∈op.operands,ev x=a3 x):xopX P bid op ev hp=xopX P bid op a3 hp:=by
 cases op<;>(try rfl)
 case binOp=>simp only[Op.operands,List.mem_toArray,List.mem_cons,List.not_mem_nil,or_false,forall_eq_or_imp,forall_eq] at h;simp only[xopX];rw[h.1,h.2]
 case convert=>simp only[Op.operands,List.mem_toArray,List.mem_cons,List.not_mem_nil,or_false,forall_eq] at h;simp only[xopX];rw[h]
 case call c=>
  simp only[xopX];cases hc:c.callee with
  |builtin b=>
   have hl:c.args.toList.map ev=c.args.toList.map a3:=List.map_congr_left fun x hx=>h x (by simp[Op.operands,Call.operands,hc];simpa using hx)
   simp only[hl]
  |value x=>rfl
  |invoke x y=>rfl
theorem Q65{op:Op}{ev a3:Operand→AV}{hp:Hp}(h:∀x∈op.operands,ev x=a3 x):xopO P op ev hp=xopO P op a3 hp:=by
 cases op<;>(try rfl)
 case lookup=>simp only[Op.operands,List.mem_toArray,List.mem_cons,List.not_mem_nil,or_false,forall_eq_or_imp,forall_eq] at h;simp only[xopO];rw[h.1,h.2]
 case call c=>
  simp only[xopO];cases hc:c.callee with
  |builtin b=>
   have hl:c.args.toList.map ev=c.args.toList.map a3:=List.map_congr_left fun x hx=>h x (by simp[Op.operands,Call.operands,hc];simpa using hx)
   simp only[hl]
  |value x=>rfl
  |invoke x y=>rfl
theorem Q7w{bid:Nat}{dst:Option Nat}{op:Op}{ev a3:Operand→AV}{hp:Hp}(h:∀x∈op.operands,ev x=a3 x):xop P bid dst op ev hp=xop P bid dst op a3 hp:=by
 unfold xop;rw[Q64 h,Q66 h,Q65 h]
end
section
variable {P : Program} {m : Nat → Lc} {H : HV} {B : Nat → Prop} {H0 : HV} {gl : Nat → AV} {rest : List (AV × Value)} {st : St} {a : Act} {w : World} {ch : Yr}
theorem NY{op:Op}{ev a3:Operand→AV}(h:∀x∈op.operands,ev x=a3 x):YH ev op=YH a3 op:=by
 unfold YH;split
 ·rename_i c;split
  ·rename_i x hx;have a5:ev x=a3 x:=h x (by simp[Op.operands,Call.operands,hx])
   have hl:c.args.toList.map ev=c.args.toList.map a3:=List.map_congr_left fun y hy=>h y (by simp[Op.operands,Call.operands,hx];simp_all)
   grind
  ·rfl
 ·rfl
theorem Qat{bid:Nat}{dst:Option Nat}{op:Op}{ev a3:Operand→AV}{hp:Hp}(h:∀x∈op.operands,ev x=a3 x):xo P ch bid dst op ev hp=xo P ch bid dst op a3 hp:=by
 grind [xo,NY,Q7w]
theorem xo_hk0{bid:Nat}{dst:Option Nat}{op:Op}{ev:Operand→AV}{hp hp':Hp}(h:hk op=0):xo P ch bid dst op ev hp=xo P ch bid dst op ev hp':=by
 unfold xo;split
 ·rename_i hc;unfold VQ at hc
  grind [hk]
 ·rename_i a3;clear a3;unfold xop;have e0:xop0 P bid dst op ev hp=xop0 P bid dst op ev hp':=by
   cases op<;>first | rfl | (cases h;done) | skip
   case makeFunc fn first caps=>cases fn<;>rfl
   case call c=>
    simp only[xop0];cases hcc:c.callee with
    |builtin b=>
     simp only;cases b<;>first | rfl | grind [hk] | omega
    |value x=>rfl
    |invoke x y=>rfl
  have e1:xopX P bid op ev hp=xopX P bid op ev hp':=by
   cases op<;>first | rfl | (cases h;done) | skip
   case binOp o t x y ty=>
    have a5:∀hp,Md P o t (ev x) (ev y) hp=none:=fun hp=>by
     have ho:∀b,MT o b=none:=fun b=>by cases o<;>first | rfl | (cases h;done)
     unfold Md
     grind
    simp_all [xopX]
   grind [xopX,hk]
  have e2:xopO P op ev hp=xopO P op ev hp':=by
   cases op<;>first | rfl | (cases h;done) | skip
   grind [xopO,hk]
  simp_all
def Ext(hp hp':Hp):Prop:=∀id b,hp id=some b→hp' id=some b
theorem T9{hp:Hp}{id:Nat}{b:Box}(h:hp id=none):Ext hp (updF hp id (some b)):=fun a3 b' h'=>by
 grind [id,Qz]
theorem HM{E:Env}{id ver off:Nat}{v:Value}(h:RV H E (.ptr id ver off) v):E.al id ver:=let⟨_,_,h,_⟩:=h.ptr_inv;h
theorem Eb{E:Env}{id ver sz off len:Nat}{v:Value}(h:RV H E (.bs id ver sz off len) v):E.al id ver:=let⟨_,_,_,h,_⟩:=h.bs_inv;h
theorem ow_al{E:Env}{id ver sz len:Nat}{v:Value}(h:RV H E (.ow id ver sz len) v):E.al id ver:=let⟨_,_,_,h,_⟩:=h.ow_inv;h
theorem oe_al{E:Env}{id ver sz i off:Nat}{v:Value}(h:RV H E (.oe id ver sz i off) v):E.al id ver:=let⟨_,_,h,_⟩:=h.oe_inv;h
theorem Ki{hp:Hp}{m:Nat→Lc}{id ver:Nat}(h:(Q6 hp m).al id ver):∃b,hp id=some b:=let⟨b,h,_⟩:=h;⟨b,h⟩
theorem Cy{f g:AV→Option AV}:∀ {l:List AV},(∀x∈l,f x=g x)→optL f l=optL g l
 | [],_=>rfl
 |x::l,h=>by
  simp only[optL];rw[h x (by simp),Cy (l:=l) fun y hy=>h y (by simp[hy])]
theorem Ah{hp hp':Hp}(hb:∀id b,hp id=some b→Yq H (Q6 hp m) b (m id) w)(he:Ext hp hp')(s:Bool):∀(k:Nat) (x:AV) (v:Value),RV H (Q6 hp m) x v→tree hp' s k x=tree hp s k x
 |0,_,_,_=>rfl
 |k+1,x,v,hx=>by
  have ih:=Ah hb he s k;cases x with
  |bs id ver sz off len=>
   obtain⟨b,a3⟩:=Ki (Eb hx);simp only[tree,he _ _ a3,a3];cases b with
   |cells v' cs=>
    obtain⟨C,e,hC,_,_,a8⟩:=hb _ _ a3
    grind [optL,tree,Cy,List.getElem?_of_mem,List.mem_of_mem_drop,List.mem_of_mem_take]
   |own=>rfl
   |hol=>rfl
   |loop=>rfl
   |defb=>rfl
   |map=>rfl
   |mapI=>rfl
   |dead=>rfl
  |agg cs=>
   obtain⟨vs,rfl,hl,_,hc⟩:=hx.agg_inv;simp only[tree];rw[Cy fun y hy=> ?_]
   obtain⟨j,hj⟩:=List.getElem?_of_mem hy;exact ih y _ (hc j y _ hj (cqh (by grind)))
  |tup cs=>
   obtain⟨vs,rfl,hl,hc⟩:=hx.tup_inv;simp only[tree];rw[Cy fun y hy=> ?_]
   obtain⟨j,hj⟩:=List.getElem?_of_mem hy;exact ih y _ (hc j y _ hj (cqh (by grind)))
  |fn f cs=>
   obtain⟨vs,rfl,hl,hc⟩:=hx.fn_inv;simp only[tree];rw[Cy fun y hy=> ?_]
   obtain⟨j,hj⟩:=List.getElem?_of_mem hy;exact ih y _ (hc j y _ hj (cqh (by grind)))
  |_=>rfl
theorem Qb1{hp hp':Hp}(he:Ext hp hp'){sz:Nat}{x:AV}{v:Value}(hx:RV H (Q6 hp m) x v):xsrc sz x hp'=xsrc sz x hp:=by
 cases x with
 |bs id ver z off len=>
  obtain⟨b,a3⟩:=Ki (Eb hx);simp only[xsrc,he _ _ a3,a3]
 |_=>rfl
theorem Q2v{hp hp':Hp}(he:Ext hp hp'){bid:Nat}{t t':TypeId}{s x:AV}{u v:Value}(hs:RV H (Q6 hp m) s u)(hx:RV H (Q6 hp m) x v):JB P bid t t' s x hp'=JB P bid t t' s x hp:=by
 unfold JB;split
 ·split
  ·rw[Qb1 he hx];split
   ·split;·rfl
    ·cases s with
     |bs id ver z off len=>
      obtain⟨b,a3⟩:=Ki (Eb hs);simp only[UF,he _ _ a3,a3]
     |_=>rfl
   ·rfl
  ·rfl
 ·rfl
theorem Qau(h:RelS m H B H0 gl rest st a.tmps w){hp':Hp}(he:Ext (lkb st.hp) hp'){bid:Nat}{dst:Option Nat}{op:Op}:xop0 P bid dst op (st.ev gl) hp'=xop0 P bid dst op (st.ev gl) (lkb st.hp):=by
      cases op<;>first | rfl | skip
      case makeFunc fn first caps=>cases fn<;>rfl
      case load t x=>
        simp only[xop0,CL];have hx:=h.ev x;generalize st.ev gl x=y at hx ⊢;cases y<;>first | rfl | skip
        · obtain⟨b,a3⟩:=Ki (HM hx)
          simp only[he _ _ a3,a3]
        · obtain⟨b,a3⟩:=Ki (oe_al hx)
          simp only[he _ _ a3,a3]
      case store t x y=>
        simp only[xop0,Dc];have hx:=h.ev x;generalize st.ev gl x=z at hx ⊢;cases z<;>first | rfl | skip
        · obtain⟨b,a3⟩:=Ki (HM hx)
          simp only[he _ _ a3,a3]
        · obtain⟨b,a3⟩:=Ki (oe_al hx)
          simp only[he _ _ a3,a3]
      case call c=>
        simp only[xop0];cases hcc:c.callee<;>first | rfl | skip
        rename_i b;cases b<;>first | rfl | skip
        simp only[V7];split
        · rename_i t t' s x ht hx
          match hh:c.args.toList with
          | []=>simp_all
          | [y]=>simp_all
          | [y,z]=>
            rw[hh] at hx;simp only[List.map_cons,List.map_nil,List.cons.injEq,and_true] at hx;obtain⟨rfl,rfl⟩:=hx;exact Q2v he (h.ev y) (h.ev z)
          |_::_::_::_=>simp_all
        · rfl
theorem Q2y{pt:TypeId}{p n:AV}{hp hp':Hp}(h:∀id ver off,p= .ptr id ver off→hp id=hp' id):LQ P pt p n hp=LQ P pt p n hp':=by
 unfold LQ
 grind
theorem Qay(h:RelS m H B H0 gl rest st a.tmps w){hp':Hp}(he:Ext (lkb st.hp) hp'){bid:Nat}{op:Op}:xopX P bid op (st.ev gl) hp'=xopX P bid op (st.ev gl) (lkb st.hp):=by
 cases op<;>first | rfl | skip
 case binOp o t x y ty=>
  simp only[xopX];congr 1;have hx:=h.ev x;generalize st.ev gl x=z at hx ⊢;cases z<;>first | rfl | skip
  obtain⟨b,a3⟩:=Ki (HM hx);generalize st.ev gl y=y';cases y'<;>first | rfl | simp only[Md,he _ _ a3,a3]
 case convert src to x=>
  simp only[xopX];congr 1;have hx:=h.ev x;generalize st.ev gl x=z at hx ⊢;cases z<;>first | rfl | skip
  ·obtain⟨b,a3⟩:=Ki (HM hx);simp only[Mb,he _ _ a3,a3]
  ·obtain⟨b,a3⟩:=Ki (Eb hx);simp only[Mb,he _ _ a3,a3]
 case call c=>
  simp only[xopX];cases hcc:c.callee<;>first | rfl | skip
  rename_i b;cases b<;>first | rfl | skip
  ·simp only;split
   ·rename_i t t' s x ht hx;obtain⟨y,z,_,rfl,rfl⟩:=Ni hx;unfold MR;split
    ·split
     ·split
      ·split;·rfl
       ·have hs:=h.ev y;generalize st.ev gl y=y' at hs ⊢;cases y'<;>first | rfl | skip
        obtain⟨b,a3⟩:=Ki (Eb hs);simp only[UF,he _ _ a3,a3]
      ·rfl
     ·rfl
    ·rfl
   ·rfl
  ·simp only;split
   ·rename_i pt it p n ht hx;obtain⟨y,z,_,rfl,rfl⟩:=Ni hx;refine Q2y fun id ver off e=> ?_
    have hs:=h.ev y;rw[e] at hs;obtain⟨b,a3⟩:=Ki (HM hs);rw[he _ _ a3,a3]
   ·rfl
theorem Qaj{hp hp':Hp}(he:Ext hp hp'){sz:Nat}{x:AV}{v:Value}(hx:RV H (Q6 hp m) x v):xels sz x hp'=xels sz x hp:=by
 cases x with
 |bs id ver z off len=>
  obtain⟨b,a3⟩:=Ki (Eb hx);simp only[xels,he _ _ a3,a3]
 |ow id ver z len=>
  obtain⟨b,a3⟩:=Ki (ow_al hx);simp only[xels,he _ _ a3,a3]
 |_=>rfl
theorem Q7o{hp hp':Hp}(he:Ext hp hp'){t t':TypeId}{s x:AV}{u v:Value}(hs:RV H (Q6 hp m) s u)(hx:RV H (Q6 hp m) x v):CJ P t t' s x hp'=CJ P t t' s x hp:=by
 cases s with
 |ow id ver z len=>
  obtain⟨b,a3⟩:=Ki (ow_al hs);simp only[CJ,he _ _ a3,a3,Qaj he hx]
 |_=>rfl
theorem Qaw(h:RelS m H B H0 gl rest st a.tmps w){hp':Hp}(he:Ext (lkb st.hp) hp'){op:Op}:xopO P op (st.ev gl) hp'=xopO P op (st.ev gl) (lkb st.hp):=by
 cases op<;>first | rfl | skip
 case lookup t x i ok=>
  simp only[xopO];have hx:=h.ev x;generalize st.ev gl x=y at hx;cases y with
  |mp id=>
   obtain⟨l,_,hl⟩:=hx.mp_inv;have:∃b,lkb st.hp id=some b:=by
    cases a3:lkb st.hp id with
    |some b=>simp_all
    |none=>simp_all [St.env,Q6]
   obtain⟨b,a3⟩:=this;simp only[TD,he _ _ a3,a3]
  |_=>rfl
 case call c=>
  simp only[xopO];cases hcc:c.callee<;>first | rfl | skip
  rename_i b;cases b<;>first | rfl | skip
  simp only;split
  ·rename_i t t' s x ht hx;obtain⟨y,z,_,rfl,rfl⟩:=Ni hx;exact Q7o he (h.ev y) (h.ev z)
  ·rfl
theorem xo_ext(h:RelS m H B H0 gl rest st a.tmps w){hp':Hp}(he:Ext (lkb st.hp) hp'){bid:Nat}{dst:Option Nat}{op:Op}:xo P ch bid dst op (st.ev gl) hp'=xo P ch bid dst op (st.ev gl) (lkb st.hp):=by
 by_cases h0:hk op=0;·exact xo_hk0 h0
 ·unfold xo;split
  ·split
   ·rename_i f args hc;obtain⟨c,x,a3,ho,hx,hf,rfl⟩:=GH hc;unfold CM;have:optL (tree hp' false 12) (c.args.toList.map (st.ev gl)++a3)=optL (tree (lkb st.hp) false 12) (c.args.toList.map (st.ev gl)++a3):=Cy fun y hy=>by
     rw[cqu,List.mem_map] at hy;rcases hy with⟨z,_,rfl⟩ | hy
     ·exact Ah (fun id b a4=>h.heap.box id b a4) he false 12 _ _ (h.ev z)
     ·have a5:=h.ev x;rw[hf] at a5;obtain⟨us,_,ab,a7⟩:=a5.fn_inv;obtain⟨j,hj⟩:=List.getElem?_of_mem hy;exact Ah (fun id b a4=>h.heap.box id b a4) he false 12 _ _ (a7 j y _ hj (cqh (by grind)))
    rw[this]
   ·rfl
  grind [xop,Qau,Qay,Qaw]
theorem Q5g(v:Value):(∀a b c d e,ofV0 v≠ .bs a b c d e)∧∀a b c d,ofV0 v≠ .ow a b c d:=by
 unfold ofV0
 grind
theorem PM(v:Value):(∀a b c d e,ofV v≠ .bs a b c d e)∧∀a b c d,ofV v≠ .ow a b c d:=by
 unfold ofV;split
 ·grind
 ·simp_all
 ·exact Q5g _
theorem AX{c:Call}{ev:Operand→AV}(a3:∀v,ev (.const v)=ofV v)(hn:HJ c=true){s x:AV}(h:c.args.toList.map ev=[s,x]):∃v,s=ofV v:=by
 grind [HJ]
theorem hk_app{c:Call}(hc:c.callee= .builtin .append)(hn:HJ c=false):hk (.call c)=2:=by grind [hk]
theorem Oa{bid e tg sz a3 n:Nat}{ds:List AV}{s:AV}{hp:Hp}{v:AV}{id:Nat}{b:Box}(h:UF bid e tg sz a3 n ds s hp=some (v,some (id,b))):id=bid∨((∃a b c d e,s= .bs a b c d e)∧∃b',hp id=some b'):=by
 unfold UF at h
 grind
theorem Q31{bid:Nat}{c:Call}{ev:Operand→AV}{s x:AV}{hp:Hp}{id:Nat}(hc:c.callee= .builtin .append)(a3:∀v,ev (.const v)=ofV v)(ha:c.args.toList.map ev=[s,x])(h:id=bid∨((∃a b c d e,s= .bs a b c d e)∧∃b',hp id=some b')):id=bid∨(hk (.call c)=2∧∃b',hp id=some b'):=by
 refine h.imp (fun e=>e) fun⟨⟨a,b,d,e,f,hs⟩,hb⟩=>⟨hk_app hc ?_,hb⟩
 cases hn:HJ c with
 |false=>rfl
 |true=>
  obtain⟨v,hv⟩:=AX a3 hn ha
  simp_all [absurd,PM]
theorem Qax{bid:Nat}{op:Op}{ev:Operand→AV}(a4:∀v,ev (.const v)=ofV v){hp:Hp}{v:AV}{id:Nat}{b:Box}(h:xopX P bid op ev hp=some (v,some (id,b))):id=bid∨(hk op=2∧∃b',hp id=some b'):=by
 have a5:∀o:Option AV,xv o≠some (v,some (id,b)):=fun o e=>by cases o<;>simp[xv] at e
 unfold xopX at h;split at h
 ·simp_all
 ·simp_all
 ·rename_i c;split at h
  ·rename_i bb a3;split at h
   ·split at h
    ·rename_i ha;unfold MR at h;split at h
     ·split at h
      ·split at h
       ·split at h;·cases h
        ·exact Q31 a3 a4 ha (Oa h)
       ·cases h
      ·cases h
     ·cases h
    ·cases h
   ·grind
   ·split at h
    ·unfold LQ at h;split at h;·cases h
     ·grind [hk]
     ·cases h
    ·cases h
   ·cases h
  ·cases h
 ·cases h
theorem Qav{op:Op}{ev:Operand→AV}(a4:∀v,ev (.const v)=ofV v){hp:Hp}{v:AV}{id:Nat}{b:Box}(h:xopO P op ev hp=some (v,some (id,b))):hk op=2∧∃b',hp id=some b':=by
 unfold xopO at h;split at h
 ·grind [Kq]
 ·rename_i c;split at h
  ·rename_i a3;split at h
   ·rename_i ha;unfold CJ at h;split at h
    ·split at h
     ·split at h
      ·split at h
       ·rename_i a5;split at h
        ·split at h
         ·split at h
          ·cases h;refine⟨hk_app a3 ?_,_,a5⟩;cases hn:HJ c with
           |false=>rfl
           |true=>
            obtain⟨v,hv⟩:=AX a4 hn ha;exact absurd hv.symm ((PM v).2 _ _ _ _)
          ·cases h
         ·cases h
        ·cases h
       ·cases h
      ·cases h
     ·cases h
    ·cases h
   ·cases h
  ·cases h
 ·cases h
theorem xo_box{bid:Nat}{dst:Option Nat}{op:Op}{ev:Operand→AV}(a6:∀v,ev (.const v)=ofV v){hp:Hp}{v:AV}{id:Nat}{b:Box}(h:xo P ch bid dst op ev hp=some (v,some (id,b))):id=bid∨(hk op=2∧∃b',hp id=some b'):=by
 have a4:∀o:Option AV,xv o≠some (v,some (id,b)):=fun o e=>by cases o<;>simp[xv] at e
 unfold xo at h;split at h
 ·split at h
  ·rename_i f args hc;left;have key:∀s o,UH s bid o=some (v,some (id,b))→id=bid:=fun s o hh=>by
    unfold UH at hh
    grind
   grind [CM]
  ·cases h
 ·unfold xop at h;split at h
  rotate_left
  ·grind [Qax,Qav]
  rename_i r0 h0;cases h;have h:=h0;unfold xop0 at h;split at h<;>first
   | (cases h;done)
   |exact absurd h (a4 _)
   |skip
  ·grind
  ·split at h
   ·split at h;·cases h;omega
    ·cases h
   ·cases h
  ·split at h;·cases h;omega
   ·cases h
  ·unfold WK at h
   grind
  ·rename_i t x y;split at h
   ·right;unfold Dc at h;split at h
    ·split at h
     ·split at h
      ·rename_i a3;split at h;·cases h;exact⟨rfl,_,a3⟩
       ·cases h
      ·cases h
     ·split at h
      ·rename_i a3;split at h;·cases h;exact⟨rfl,_,a3⟩
       ·split at h;·cases h;exact⟨rfl,_,a3⟩
        ·cases h
      ·cases h
     ·cases h
    ·cases h
   ·cases h
  ·simp_all
  ·unfold LP at h
   grind
  ·grind
  ·rename_i c;split at h
   ·rename_i bb a5;unfold V7 at h;split at h
    ·grind
    ·simp_all
    ·simp_all
    ·split at h
     ·rename_i ha;unfold JB at h;split at h
      ·split at h
       ·split at h
        ·split at h
         ·simp_all
         ·exact Q31 a5 a6 ha (Oa h)
        ·cases h
       ·cases h
      ·cases h
     ·cases h
    ·cases h
   ·cases h
theorem Q7u{t:TypeId}{x:AV}{hp hp':Hp}(hh:∀id∈idOf x,hp id=hp' id):CL P t x hp=CL P t x hp':=by
 unfold CL;split;·cases x<;>first | rfl | simp only[hh _ (List.mem_singleton.2 rfl)]
 ·rfl
theorem Q68{t:TypeId}{x y:AV}{hp hp':Hp}(hh:∀id∈idOf x,hp id=hp' id):Dc P t x y hp=Dc P t x y hp':=by
 unfold Dc;split;·cases x<;>first | rfl | simp only[hh _ (List.mem_singleton.2 rfl)]
 ·rfl
theorem Q67{o:BinOp}{t:TypeId}{x y:AV}{hp hp':Hp}(hh:∀id∈idOf x,hp id=hp' id):Md P o t x y hp=Md P o t x y hp':=by
 cases x<;>first | rfl | skip
 cases y<;>first | rfl | simp only[Md,hh _ (List.mem_singleton.2 rfl)]
theorem Q61{t t':TypeId}{x:AV}{hp hp':Hp}(hh:∀id∈idOf x,hp id=hp' id):Mb P t t' x hp=Mb P t t' x hp':=by
 cases x<;>first | rfl | simp only[Mb,hh _ (List.mem_singleton.2 rfl)]
theorem Ob{bid e tg sz a3 n:Nat}{ds:List AV}{s:AV}{hp hp':Hp}(hh:∀id∈idOf s,hp id=hp' id):UF bid e tg sz a3 n ds s hp=UF bid e tg sz a3 n ds s hp':=by
 cases s<;>first | rfl | simp only[UF,hh _ (List.mem_singleton.2 rfl)]
theorem Qb2{sz:Nat}{x:AV}{hp hp':Hp}(hh:∀id∈idOf x,hp id=hp' id):xsrc sz x hp=xsrc sz x hp':=by
 cases x<;>first | rfl | simp only[xsrc,hh _ (List.mem_singleton.2 rfl)]
theorem Qak{sz:Nat}{x:AV}{hp hp':Hp}(hh:∀id∈idOf x,hp id=hp' id):xels sz x hp=xels sz x hp':=by
 cases x<;>first | rfl | simp only[xels,hh _ (List.mem_singleton.2 rfl)]
theorem Qae{bid:Nat}{dst:Option Nat}{c:Call}(hc:c.callee= .builtin .append){x y:Operand}(ha:c.args.toList=[x,y]){ev:Operand→AV}{hp hp':Hp}(hx:∀id∈idOf (ev x),hp id=hp' id)(hy:∀id∈idOf (ev y),hp id=hp' id):xop P bid dst (.call c) ev hp=xop P bid dst (.call c) ev hp':=by
 unfold xop;have e0:xop0 P bid dst (.call c) ev hp=xop0 P bid dst (.call c) ev hp':=by
  simp only[xop0,hc,ha,List.map_cons,List.map_nil,V7];split
  ·rename_i h;cases h;unfold JB;simp only[Qb2 hy];split<;>(try rfl)
   grind [Ob]
  ·rfl
 have e1:xopX P bid (.call c) ev hp=xopX P bid (.call c) ev hp':=by
  simp only[xopX,hc,ha,List.map_cons,List.map_nil];split
  ·rename_i h;cases h;unfold MR;split<;>(try rfl)
   grind [Ob]
  ·rfl
 have e2:xopO P (.call c) ev hp=xopO P (.call c) ev hp':=by
  simp only[xopO,hc,ha,List.map_cons,List.map_nil];split
  ·rename_i h;cases h;unfold CJ;split
   ·rename_i a5;rw[a5] at hx;simp only[Qak hy,hx _ (List.mem_singleton.2 rfl)]
   ·rfl
  ·rfl
 simp_all
theorem BI{c:Call}{ev:Operand→AV}{ids:List Nat}(hc:c.callee= .builtin .append)(hf:foot (.call c) ev=some ids):∃x y,c.args.toList=[x,y]∧ids=idOf (ev x)++idOf (ev y):=by
 simp only[foot,hc] at hf
 grind
theorem xo_foot{bid:Nat}{dst:Option Nat}{op:Op}{ev:Operand→AV}{hp hp':Hp}{ids:List Nat}(hf:foot op ev=some ids)(hh:∀id∈ids,hp id=hp' id):xo P ch bid dst op ev hp=xo P ch bid dst op ev hp':=by
 cases op<;>first | (cases hf;done) | skip
 case load t x=>
  cases hf;unfold xo xop;simp only[VQ,cqk,if_false,xop0,xopX,xopO,Q7u hh]
 case store t x y=>
  cases hf;unfold xo xop;simp only[VQ,cqk,if_false,xop0,xopX,xopO,Q68 hh]
 case binOp o t x y ty=>
  cases hf;unfold xo xop;simp only[VQ,cqk,if_false,xop0,xopX,xopO,Q67 hh]
 case convert t t' x=>
  cases hf;unfold xo xop;simp only[VQ,cqk,if_false,xop0,xopX,xopO,Q61 hh]
 case call c=>
  cases hc:c.callee with
  |builtin b=>
   cases b<;>first | grind [foot] | skip
   obtain⟨x,y,ha,rfl⟩:=BI hc hf;unfold xo;rw[if_neg (by simp[VQ,hc]),if_neg (by simp[VQ,hc])]
   grind [Qae,id,List.mem_append_left,List.mem_append_right]
  |value x=>
   unfold xo;rw[if_pos (by simp[VQ,hc]),if_pos (by simp[VQ,hc])]
   grind [foot,CM]
  |invoke x y=>
   simp_all [foot,YH]
theorem Q19{bid e tg sz a3 n:Nat}{ds:List AV}{s:AV}{hp:Hp}{v:AV}{id:Nat}{b:Box}(h:UF bid e tg sz a3 n ds s hp=some (v,some (id,b))):id=bid∨id∈idOf s:=by
 unfold UF at h;split at h
 ·simp_all
 ·simp_all
 ·split at h
  ·split at h;·cases h;exact .inr (List.mem_singleton.2 rfl)
   ·cases h
  ·cases h
 ·cases h
theorem xo_id{bid:Nat}{dst:Option Nat}{op:Op}{ev:Operand→AV}(hev:∀v,ev (.const v)=ofV v){hp:Hp}{ids:List Nat}(hf:foot op ev=some ids){v:AV}{id:Nat}{b:Box}(h:xo P ch bid dst op ev hp=some (v,some (id,b))):id=bid∨(hk op=2∧(∃b',hp id=some b')∧id∈ids):=by
 rcases xo_box hev h with h0 | ⟨h2,hb⟩
 ·omega
 ·cases op<;>first | (cases h2;done) | skip
  case store t x y=>
   cases hf
   refine .inr ⟨h2,hb,?_⟩
   unfold xo xop at h
   simp only[VQ,cqk,if_false,xop0,xopX,xopO] at h
   split at h
   ·rename_i r hr
    cases h
    split at hr
    ·unfold Dc at hr
     split at hr
     ·split at hr
      ·rename_i e
       split at hr
       ·split at hr
        ·cases hr;rw[e];exact List.mem_singleton.2 rfl
        ·cases hr
       ·cases hr
      ·rename_i e
       split at hr
       ·split at hr
        ·cases hr;rw[e];exact List.mem_singleton.2 rfl
        ·split at hr
         ·cases hr;rw[e];exact List.mem_singleton.2 rfl
         ·cases hr
       ·cases hr
      ·cases hr
     ·cases hr
    ·cases hr
   ·cases h
  case binOp o t x y ty=>exfalso;simp only[hk] at h2;grind
  case call c=>
   cases hc:c.callee with
   |value x=>simp_all [hk]
   |invoke x y=>simp_all [hk]
   |builtin bb=>
    cases bb<;>first | grind [foot] | skip
    obtain⟨x,y,ha,rfl⟩:=BI hc hf
    unfold xo at h
    rw[if_neg (by simp[VQ,hc])] at h
    have done:id=bid∨id∈idOf (ev x)→id=bid∨hk (Op.call c)=2∧(∃b',hp id=some b')∧id∈idOf (ev x)++idOf (ev y):=fun hx=>hx.imp (fun e=>e) fun hx=>⟨h2,hb,List.mem_append_left _ hx⟩
    refine done ?_
    unfold xop at h
    split at h
    ·rename_i r hr
     cases h
     simp only[xop0,hc,ha,List.map_cons,List.map_nil,V7] at hr
     grind [JB,Q19]
    ·split at h
     ·rename_i r hr
      cases h
      simp only[xopX,hc,ha,List.map_cons,List.map_nil] at hr
      split at hr
      ·rename_i he
       cases he
       unfold MR at hr
       grind [Q19]
      ·cases hr
     ·simp only[xopO,hc,ha,List.map_cons,List.map_nil] at h
      split at h
      ·rename_i he
       cases he
       unfold CJ at h
       split at h
       ·rename_i e
        split at h
        ·split at h
         ·split at h
          ·split at h
           ·split at h
            ·split at h
             ·cases h;right;rw[e];exact List.mem_singleton.2 rfl
             ·cases h
            ·cases h
           ·cases h
          ·cases h
         ·cases h
        ·cases h
       ·cases h
      ·cases h
theorem BH{md:Bool}{F:Zj}{bid:Nat}{o:Oper}{ev a3:Operand→AV}(h:∀x∈o.op.operands,ev x=a3 x):WB md F bid o ev=WB md F bid o a3:=by
 have:foot o.op ev=foot o.op a3:=by
  have a4:=NY h;cases hop:o.op<;>rw[hop] at h a4<;>(try rfl)<;>simp only[Op.operands,List.mem_toArray,List.mem_cons,List.not_mem_nil,or_false,forall_eq_or_imp,forall_eq,List.mem_map,Array.mem_toList_iff] at h<;>simp only[foot]
  case load=>rw[h]
  case store=>rw[h.1]
  case binOp=>rw[h.1]
  case convert=>rw[h]
  case call c=>
   cases hc:c.callee with
   |value x=>simp_all
   |invoke x y=>simp_all
   |builtin b=>
    cases b<;>(try rfl)
    simp only;have h':∀x∈c.args.toList,ev x=a3 x:=fun x hx=>h x (by simp[Call.operands,hc];simp_all)
    grind
 simp_all [WB]
theorem Q7v{md:Bool}{F:Zj}{all:List Oper}{bid:Nat}{o:Oper}{ev a3:Operand→AV}{hp:Hp}(h:∀x∈o.op.operands,ev x=a3 x):xoF P ch md F all bid o ev hp=xoF P ch md F all bid o a3 hp:=by
 grind [xoF,BH,Qat]
theorem TF{md:Bool}{F:Zj}{all:List Oper}{bid:Nat}{o:Oper}{ev:Operand→AV}{hp hp':Hp}(h:hk o.op=0):xoF P ch md F all bid o ev hp=xoF P ch md F all bid o ev hp':=by
 grind [xoF,xo_hk0]
theorem TE(h:RelS m H B H0 gl rest st a.tmps w){hp':Hp}(he:Ext (lkb st.hp) hp'){md:Bool}{F:Zj}{all:List Oper}{bid:Nat}{o:Oper}:xoF P ch md F all bid o (st.ev gl) hp'=xoF P ch md F all bid o (st.ev gl) (lkb st.hp):=by
 grind [xoF,xo_ext]
theorem AM{F:Zj}{bid:Nat}{o:Oper}{ev:Operand→AV}{ids:List Nat}(h:WB true F bid o ev=true)(hc:F bid=some ids):∃l,foot o.op ev=some l∧∀i∈l,i∈ids:=by
 unfold WB at h;cases hids:foot o.op ev with
 |none=>simp_all
 |some l=>
  simp_all
theorem Q4m{F:Zj}{all:List Oper}{bid:Nat}{o:Oper}{ev:Operand→AV}{hp hp':Hp}{ids:List Nat}(hc:F bid=some ids)(hh:∀id,id∈ids→hp id=hp' id):xoF P ch true F all bid o ev hp=xoF P ch true F all bid o ev hp':=by
 grind [xoF,AM,xo_foot,id]
theorem Q82{bid:Nat}{op:Op}{v:AV}{id:Nat}{b:Box}(h:TG P bid op=some (v,some (id,b))):id=bid:=by
 unfold TG at h
 grind
theorem xoF_box{md:Bool}{F:Zj}{all:List Oper}{bid:Nat}{o:Oper}{ev:Operand→AV}(a3:∀v,ev (.const v)=ofV v){hp:Hp}{v:AV}{id:Nat}{b:Box}(h:xoF P ch md F all bid o ev hp=some (v,some (id,b))):id=bid∨(hk o.op=2∧(∃b',hp id=some b')∧(md=true→∀ids,F bid=some ids→id∈ids)):=by
 unfold xoF at h;split at h
 ·rename_i hf;split at h
  ·grind [Q82]
  ·rcases xo_box a3 h with h0 | ⟨h2,hb⟩
   ·omega
   ·by_cases hm:md=true∧∃ids,F bid=some ids
    ·obtain⟨rfl,ids,hc⟩:=hm
     grind [AM,xo_id,id]
    simp_all
 ·cases h
theorem Ee{a b:Option (List Nat)}(h:LF a b=true):∃l k,a=some l∧b=some k∧∀i,i∈l→i∈k→False:=by
 unfold LF at h;split at h
 ·rename_i l k;refine⟨l,k,rfl,rfl,fun i hi hj=> ?_⟩
  have:=cqt.1 (cqt.1 h i hi) i hj;simp at this
 ·cases h
end
section
variable {P : Program} {m : Nat → Lc} {H : HV} {B : Nat → Prop} {H0 : HV} {gl : Nat → AV} {rest : List (AV × Value)} {st : St} {a : Act} {w : World} {ch : Yr} {all : List Oper}
theorem MS{md:Bool}{F:Zj}{bid:Nat}{o:Oper}{gv a4:Option AV}{ev a3:Operand→AV}{hp hp':Hp}(hg:gv=a4)(hx:∀x∈o.op.operands,ev x=a3 x)(hh:xoF P ch md F all bid o a3 hp=xoF P ch md F all bid o a3 hp'):UG P ch md F all bid o gv ev hp=UG P ch md F all bid o a4 a3 hp':=by
 grind [UG,Q7v]
theorem Lk{md:Bool}{F:Zj}{bid:Nat}{o:Oper}{gv:Option AV}{ev:Operand→AV}(a3:∀v,ev (.const v)=ofV v){hp:Hp}{v:AV}{id:Nat}{b:Box}(h:UG P ch md F all bid o gv ev hp=some (v,some (id,b))):id=bid∨(hk o.op=2∧(∃b',hp id=some b')∧(md=true→∀ids,F bid=some ids→id∈ids)):=by
 unfold UG at h
 grind [xoF_box]
theorem I8{o p:Oper}(h:HB all o p=false):LI o.dst (rdO all p)=false∧LI o.dst p.dst.toList=false∧LI p.dst (rdO all o)=false:=by
 simp_all [HB,Bool.or_eq_false_iff]
def Apart(md:Bool)(F:Zj)(all:List Oper)(bj bi:Nat)(oj oi:Oper):Prop:=
 HB all oj oi=false∧(hkCl (hk oj.op) (hk oi.op)=false∨(md=true∧LF (F bj) (F bi)=true))
theorem WD{d:Option Nat}{l:List Nat}(h:LI d l=false){k:Nat}(hk:k∈l):d≠some k:=by
 grind [LI,hk]
theorem Nr{o:Oper}{d:Option Nat}(r:AV×Option (Nat×Box))(hd:LI d (rdO all o)=false):(∀x∈o.op.operands,(st.eff d r).ev gl x=st.ev gl x)∧gval all o (st.eff d r)=gval all o st:=by
 refine⟨fun x hx=> ?_,?_⟩
 ·cases x with
  |tmp t=>
   show(st.eff d r).get t=st.get t;rw[Vb,if_neg];refine WD hd ?_;unfold rdO;rw[cqu];exact .inl (List.mem_filterMap.2 ⟨.tmp t,by simp_all,rfl⟩)
  |_=>rfl
 ·unfold gval;split;·rfl
  ·rename_i j a3 hg;split
   ·rename_i g a4;rw[Vb,if_neg]
    grind [WD,rdO,cqu]
   ·rfl
theorem Q7l{f:Hp}{i j:Nat}{x y:Option Box}(h:i≠j):updF (updF f i x) j y=updF (updF f j y) i x:=by
 grind [updF]
theorem swap(h:RelS m H B H0 gl rest st a.tmps w){md:Bool}{F:Zj}{oj oi:Oper}{bj bi:Nat}(bf:bj≠bi)(hc:Apart md F all bj bi oj oi){s1 s2:St}(h1:Xp P gl ch md F all bj oj st=some s1)(h2:Xp P gl ch md F all bi oi s1=some s2):
  ∃t1 t2,Xp P gl ch md F all bi oi st=some t1∧Xp P gl ch md F all bj oj t1=some t2∧StEq t2 s2:=by
 obtain⟨cD,c4⟩:=hc;obtain⟨c1,c2,c3⟩:=I8 cD;rw[V0] at h1;split at h1
 ·rename_i k1;simp only[cqb,Option.isNone_iff_eq_none] at k1;obtain⟨⟨ba,am⟩,bh⟩:=k1;split at h1
  ·rename_i rj bn;cases h1;rw[V0] at h2;split at h2
   ·rename_i k2;simp only[cqb,Option.isNone_iff_eq_none,MP,Ca] at k2;obtain⟨⟨b9,a8⟩,bg⟩:=k2;split at h2
    ·rename_i ri bm;cases h2;obtain⟨e1,e2⟩:=Nr (st:=st) (gl:=gl) (all:=all) (o:=oi) rj c1;have aw:lkb st.hp bi=none:=by
      rw[Jf] at a8;split at a8
      ·grind [id,Qn,Qz]
      ·exact a8
     have bk:xoF P ch md F all bi oi (st.ev gl) (lkb (st.eff oj.dst rj).hp)=xoF P ch md F all bi oi (st.ev gl) (lkb st.hp):=by
      rw[Jf];split
      ·rename_i id b hb;have ag:UG P ch md F all bj oj (gval all oj st) (st.ev gl) (lkb st.hp)=some (rj.1,some (id,b)):=by grind
       rcases Lk (fun _=>rfl) ag with rfl | ⟨af,_,an⟩
       ·grind [TE,T9]
       ·rcases c4 with c4 | ⟨rfl,c4⟩
        ·refine TF ?_
         simp_all [hkCl]
        ·obtain⟨lj,li,n1,n2,ab⟩:=Ee c4;refine Q4m n2 fun ao ad=> ?_
         rw[Qz _ _ fun e=> ?_]
         simp_all
      ·rfl
     have bb:UG P ch md F all bi oi (gval all oi st) (st.ev gl) (lkb st.hp)=some ri:=by
      grind [MS]
     obtain⟨f1,f2⟩:=Nr (st:=st) (gl:=gl) (all:=all) (o:=oj) ri c3;have a6:∀id b,ri.2=some (id,b)→id=bi∨(hk oi.op=2∧(∃b',lkb st.hp id=some b')∧(md=true→∀ids,F bi=some ids→id∈ids)):=fun id b hb=>by
      refine Lk (fun _=>rfl) (v:=ri.1) (b:=b) ?_ (gv:=gval all oi st) (ev:=st.ev gl) (P:=P) (ch:=ch) (all:=all)
      grind
     have ae:∀id b,rj.2=some (id,b)→id=bj∨(hk oj.op=2∧(∃b',lkb st.hp id=some b')∧(md=true→∀ids,F bj=some ids→id∈ids)):=fun id b hb=>by
      refine Lk (fun _=>rfl) (v:=rj.1) (b:=b) ?_ (gv:=gval all oj st) (ev:=st.ev gl) (P:=P) (ch:=ch) (all:=all)
      grind
     have ax:lkb (st.eff oi.dst ri).hp bj=none:=by
      rw[Jf];split
      ·rename_i id b hb;have:bj≠id:=by
        grind
       simp_all [Qz]
      ·exact am
     have bl:xoF P ch md F all bj oj (st.ev gl) (lkb (st.eff oi.dst ri).hp)=xoF P ch md F all bj oj (st.ev gl) (lkb st.hp):=by
      rw[Jf];split
      ·rename_i id b hb;rcases a6 id b hb with rfl | ⟨af,_,an⟩
       ·grind [TE,T9]
       ·rcases c4 with c4 | ⟨rfl,c4⟩
        ·refine TF ?_
         simp_all [hkCl]
        ·obtain⟨lj,li,n1,n2,ab⟩:=Ee c4;refine Q4m n1 fun ao ad=> ?_
         rw[Qz _ _ fun e=> ?_]
         simp_all
      ·rfl
     have bc:UG P ch md F all bj oj (gval all oj (st.eff oi.dst ri)) ((st.eff oi.dst ri).ev gl) (lkb (st.eff oi.dst ri).hp)=some rj:=by
      grind [MS]
     refine⟨st.eff oi.dst ri,(st.eff oi.dst ri).eff oj.dst rj,?_,?_,?_⟩
     ·simp_all [V0,if_pos]
     ·simp_all [V0,if_pos,MP,Ca]
     ·refine⟨by simp only[MP],by simp only[Ca],fun k=> ?_,?_⟩
      ·simp only[Vb];by_cases k1:oj.dst=some k<;>by_cases k2:oi.dst=some k<;>simp only[k1,k2,if_true,if_false]
       grind [absurd,WD]
      ·rw[Jf,Jf,Jf,Jf];cases hrj2:rj.2 with
       |none=>rfl
       |some x=>
        obtain⟨aq,ak⟩:=x;cases hri2:ri.2 with
        |none=>rfl
        |some y=>
         obtain⟨ap,aj⟩:=y;simp only;refine Q7l ?_;rcases a6 ap aj hri2 with rfl | ⟨af,⟨b',b6⟩,hci⟩
         ·grind
         ·rcases ae aq ak hrj2 with rfl | ⟨be,_,b8⟩
          ·grind
          ·rcases c4 with c4 | ⟨rfl,c4⟩
           ·simp_all [hkCl]
           ·obtain⟨lj,li,n1,n2,ab⟩:=Ee c4
            grind
    ·cases h2
   ·cases h2
  ·cases h1
 ·cases h1
theorem RX{ro:Option Nat}{n:Nat}{o:Oper}{next:Act→World→Prop}(h:o.wpIn (FW ro) n P a w next fun _ _ _=>False):∃a' w',next a' w':=by
 obtain⟨_,h⟩:=h;unfold Oper.uponIn at h;split at h
 ·grind
 ·grind
 ·grind
 ·obtain⟨_,_,hc⟩:=h;obtain⟨e,w',fr,hr,_⟩:=hc [] (fun d hd=>by grind [FW])
  cases e with
  |returned v=>grind
  |panicked c=>simp_all
  |outgrown=>obtain⟨_,_,hr⟩:=hr;simp_all
 ·obtain⟨_,hc⟩:=h;obtain⟨v,w',hr,_⟩:=hc default [] (fun d hd=>by grind [FW])
  grind
 ·obtain⟨_,_,hc⟩:=h;obtain⟨e,w',hr,_⟩:=hc default [] (fun d hd=>by grind [FW])
  cases e with
  |returned v=>grind
  |panicked c=>simp_all
  |outgrown=>obtain⟨_,_,hr⟩:=hr;simp_all
 ·grind
 simp_all
theorem Q2x(a4:ch.Ok P gl)(h:RelS m H B H0 gl rest st a.tmps w){md:Bool}{F:Zj}{o:Oper}{bid:Nat}{st':St}(hk:Xp P gl ch md F all bid o st=some st'):∃(a':Act) (w':World) (m':Nat→Lc) (H':HV),RelS m' H' B H0 gl rest st' a'.tmps w':=by
 have:=Nw a4 h hk none 0 (fun a' w'=>∃m' H',RelS m' H' B H0 gl rest st' a'.tmps w') (fun _ _ _=>False) (fun a' w' m' H' _ _ hr=>⟨m',H',hr⟩)
 grind [RX]
def runI(P:Program)(gl:Nat→AV)(ch:Yr)(md:Bool)(F:Zj)(all:List Oper)(base:Nat):List Nat→St→Option St
 | [],st=>some st
 |i::l,st=>match all[i]? with
  |some o=>match Xp P gl ch md F all (base+i) o st with
   |some s=>runI P gl ch md F all base l s
   |none=>none
  |none=>none
theorem Di{md:Bool}{F:Zj}{base:Nat}:∀ {l r:List Nat} {st:St},runI P gl ch md F all base (l++r) st=match runI P gl ch md F all base l st with | some s=>runI P gl ch md F all base r s | none=>none
 | [],r,st=>rfl
 |i::l,r,st=>by
  simp only[List.cons_append,runI];cases all[i]? with
  |none=>rfl
  |some o=>
   simp only;cases Xp P gl ch md F all (base+i) o st with
   |none=>rfl
   |some s=>exact Di
theorem StEq.runI{md:Bool}{F:Zj}{base:Nat}:∀ {l:List Nat} {x y s:St},StEq x y→HY.runI P gl ch md F all base l x=some s→∃s',HY.runI P gl ch md F all base l y=some s'∧StEq s s'
 | [],x,y,s,h,hk=>by simp only[HY.runI,cqf] at hk;subst hk;exact⟨y,rfl,h⟩
 |i::l,x,y,s,h,hk=>by
  simp only[HY.runI] at hk ⊢;cases ho:all[i]? with
  |none=>simp_all
  |some o=>
   rw[ho] at hk;simp only at hk ⊢;cases hs:Xp P gl ch md F all (base+i) o x with
   |none=>simp_all
   |some s1=>
    rw[hs] at hk;obtain⟨s2,h1,h2⟩:=h.stepO hs;rw[h1];exact StEq.runI h2 hk
theorem move(a5:ch.Ok P gl){md:Bool}{F:Zj}{base i:Nat}{oi:Oper}:∀(a3:List Nat) {st:St} {a:Act} {w:World} {m:Nat→Lc} {H:HV} {s1 s2:St},RelS m H B H0 gl rest st a.tmps w→runI P gl ch md F all base a3 st=some s1→Xp P gl ch md F all (base+i) oi s1=some s2→
  (∀j∈a3,j≠i∧∀oj,all[j]? =some oj→Apart md F all (base+j) (base+i) oj oi)→∃t s',Xp P gl ch md F all (base+i) oi st=some t∧runI P gl ch md F all base a3 t=some s'∧StEq s' s2
 | [],st,a,w,m,H,s1,s2,_,h1,h2,_=>by
  simp only[runI,cqf] at h1;subst h1;exact⟨s2,s2,h2,rfl,.refl _⟩
 |j::a3,st,a,w,m,H,s1,s2,h,h1,h2,hc=>by
  simp only[runI] at h1 ⊢;cases hj:all[j]? with
  |none=>simp_all
  |some oj=>
   rw[hj] at h1;simp only at h1 ⊢;cases hs:Xp P gl ch md F all (base+j) oj st with
   |none=>simp_all
   |some s0=>
    rw[hs] at h1;obtain⟨a',w',m',H',hr⟩:=Q2x a5 h hs;obtain⟨t,s',k1,k2,k3⟩:=move a5 a3 hr h1 h2 fun j' a8=>hc j' (by simp[a8])
    have a7:=hc j (by simp)
    obtain⟨t1,t2,e1,e2,e3⟩:=swap h (bj:=base+j) (bi:=base+i) (by omega) (a7.2 oj hj) hs k1
    obtain⟨s3,g1,g2⟩:=StEq.runI e3.symm k2;exact⟨t1,s3,e1,by simp_all,g2.symm.trans k3⟩
end
def Tm(a3:List Nat)(es:List Edge):Nat:=
 match es with
 | []=>0
 |e::r=>if Region.binds .any e then(2^e.on ||| a3.getD e.on 0) ||| Tm a3 r else Tm a3 r
def Zx:List Oper→List Nat→List Nat
 | [],acc=>acc
 |o::l,acc=>Zx l (acc++[Tm acc o.after.toList])
def AJ(md:Bool)(all:List Oper)(ms:List Nat):List Oper→List Oper→Bool
 |_,[]=>true
 |pre,p::l=>(List.range pre.length).all (fun i=>match all[i]? with
   |some o=> !M0 md all o p || (ms.getD pre.length 0).testBit i
   |none=>true)
  &&p.after.toList.all (fun e=> !Region.binds .any e || decide (e.on<pre.length))
  &&AJ md all ms (pre++[p]) l
def mdR(all:List Oper):Bool:=match all.any fun o=>Nat.beq (hk o.op) 2 with
 |true=> !AJ false all (Zx all []) [] all
 |false=>false
def Vm(all:List Oper):Bool:=AJ (mdR all) all (Zx all []) [] all
def IH(F:Zj)(all:List Oper)(base nf:Nat):Prop:=∀i j o p,i<j→j<nf→all[i]? =some o→all[j]? =some p→hkCl (hk o.op) (hk p.op)=true→LF (F (base+i)) (F (base+j))=true∨((Zx all []).getD j 0).testBit i=true
structure CkAt (md:Bool) (all:List Oper) (j:Nat) (p:Oper):Prop where
 pair:∀i o,i<j→all[i]? =some o→M0 md all o p=true→((Zx all []).getD j 0).testBit i=true
 before:∀e∈p.after,Region.binds .any e=true→e.on<j
theorem AK{md:Bool}{all:List Oper}:∀(l a3:List Oper),all=a3++l→AJ md all (Zx all []) a3 l=true→∀j p,a3.length≤j→all[j]? =some p→CkAt md all j p
 | [],a3,he,_,j,p,hj,hp=>by
  simp_all
 |q::l,a3,he,h,j,p,hj,hp=>by
  simp only[AJ,cqb,cqt] at h;obtain⟨⟨h1,h2⟩,h4⟩:=h;by_cases hjl:j=a3.length
  ·have hq:q=p:=by
    simp_all
   subst hq;subst hjl;refine⟨fun i o hi ho hc=> ?_,fun e a5 hb=> ?_⟩
   ·grind
   grind
  ·exact AK l (a3++[q]) (by simp[he]) h4 j p (by simp;omega) hp
theorem Yf{all:List Oper}(h:Vm all=true)(j:Nat)(p:Oper)(hp:all[j]? =some p):CkAt (mdR all) all j p:=
 AK all [] rfl h j p (Nat.zero_le _) hp
def Uj(all:List Oper)(L:Nat→Bool):Prop:=∀j o,all[j]? =some o→L j=true→∀e∈o.after,Region.binds .any e=true→L e.on=true
theorem AT{a3:List Nat}{L:Nat→Bool}(a4:∀p i,(a3.getD p 0).testBit i=true→L p=true→L i=true):∀(es:List Edge),(∀e∈es,Region.binds .any e=true→L e.on=true)→∀i,(Tm a3 es).testBit i=true→L i=true
 | [],_,i,h=>by simp[Tm] at h
 |e::r,hes,i,h=>by
  have ih:=AT a4 r (fun e he=>hes e (List.mem_cons_of_mem _ he)) i
  unfold Tm at h
  grind
theorem AU{all:List Oper}{L:Nat→Bool}(hL:Uj all L):∀(l a4:List Oper) (a3:List Nat),all=a4++l→a3.length=a4.length→(∀p i,(a3.getD p 0).testBit i=true→L p=true→L i=true)→
  ∀p i,((Zx l a3).getD p 0).testBit i=true→L p=true→L i=true
 | [],_,_,_,_,h=>h
 |o::l,a4,a3,he,hlen,h=>by
  refine AU hL l (a4++[o]) _ (by simp[he]) (by simp[hlen]) fun p i hb hp=> ?_
  rcases Nat.lt_trichotomy p a3.length with a8 | a6 | a7
  ·grind
  ·subst a6;rw[List.getD_eq_getElem?_getD,cqq (Nat.le_refl _),Nat.sub_self] at hb;simp only[List.getElem?_cons_zero,Option.getD_some] at hb;have ho:all[a3.length]? =some o:=by simp_all
   exact AT h _ (fun e hm a5=>hL _ o ho hp e (Array.mem_toList_iff.1 hm) a5) i hb
  grind
theorem VR{all:List Oper}{L:Nat→Bool}(hL:Uj all L)(p i:Nat)(h:((Zx all []).getD p 0).testBit i=true)(hp:L p=true):L i=true:=
 AU hL all [] [] rfl rfl (fun p i h=>by simp at h) p i h hp
def pend(n:Nat)(L:Nat→Bool):List Nat:=(List.range n).filter fun i=> !L i
theorem Su{n i:Nat}(h:i<n):List.range n=List.range i++i::List.range' (i+1) (n - i - 1):=by
 have:n=i+(1+(n - i - 1)):=by omega
 rw[this,List.range_add,List.range_add];simp only[List.range_one,List.map_append,List.map_cons,List.map_nil,Nat.add_zero,List.map_map,List.singleton_append];congr 2;rw[show i+(1+(n - i - 1)) - i - 1=n - i - 1 by omega,List.range'_eq_map_range]
 grind [List.map_congr_left]
theorem Ey{n i:Nat}{L:Nat→Bool}(h:i<n)(hL:L i=false):pend n L=(List.range i).filter (fun j=> !L j)++i::(List.range' (i+1) (n - i - 1)).filter fun j=> !L j:=by
 grind [pend,Su]
theorem A3{n i:Nat}{L L':Nat→Bool}(h:i<n)(hi:L' i=true)(ho:∀j,j≠i→L' j=L j):pend n L'=(List.range i).filter (fun j=> !L j)++(List.range' (i+1) (n - i - 1)).filter fun j=> !L j:=by
 unfold pend;rw[Su h,List.filter_append,List.filter_cons];simp only[hi,Bool.not_true,cqk,if_false]
 grind [List.filter_congr]
theorem Vy{listed:Array Bool}{j:Nat}(d:Bool)(h:j<listed.size):listed.getD j d=listed.getD j false:=by
 simp_all
section
variable {P : Program} {B : Nat → Prop} {H0 : HV} {gl : Nat → AV} {rest : List (AV × Value)} {ch : Yr} {all : List Oper}
def PairL(F:Zj)(all:List Oper)(base lo nf:Nat):Prop:=∀i j o p,i<j→lo≤j→j<nf→all[i]? =some o→all[j]? =some p→hkCl (hk o.op) (hk p.op)=true→LF (F (base+i)) (F (base+j))=true∨((Zx all []).getD j 0).testBit i=true
theorem IH.l{F:Zj}{all:List Oper}{base nf:Nat}(h:IH F all base nf):PairL F all base 0 nf:=fun i j o p h1 _ h2=>h i j o p h1 h2
theorem Ms(az:ch.Ok P gl)(b5:Vm all=true){F:Zj}{base lo nf c:Nat}{L0:Nat→Bool}(hF:mdR all=true→PairL F all base lo nf)(bp:nf≤all.length)(ay:∀i,nf≤i→i<all.length→L0 i=false→∀j,j<nf→((Zx all []).getD i 0).testBit j=true){ro:Option Nat}{n:Nat}{d0:List Deferred}{w0:World}{sF:St}{Q:Exit→Act→World→Prop}
  (ax:∀(listed:Array Bool) (a:Act) (w:World) (m:Nat→Lc) (H:HV),listed.size=all.length→(∀j,j<nf→listed.getD j false=true)→(∀j,nf≤j→listed.getD j false=L0 j)→a.defers=d0→Qa B w0 w→RelS m H B H0 gl rest sF a.tmps w→wpAnyIn (FW ro) n P .any all.toArray Q c listed a w):
  ∀(q:Nat) (listed:Array Bool) (a:Act) (w:World) (m:Nat→Lc) (H:HV) (st s:St),listed.size=all.length→(∀j,j<lo→listed.getD j false=true)→(pend nf fun j=>listed.getD j false).length=q→(∀j,nf≤j→listed.getD j false=L0 j)→Uj all (fun j=>listed.getD j false)→
   a.defers=d0→Qa B w0 w→RelS m H B H0 gl rest st a.tmps w→runI P gl ch (mdR all) F all base (pend nf fun j=>listed.getD j false) st=some s→StEq s sF→wpAnyIn (FW ro) n P .any all.toArray Q (q+c) listed a w:=by
 intro q
 induction q with
 |zero=>
  intro listed a w m H st s hs ao hl ai b0 hd hb hr a3 an;have b2:(pend nf fun j=>listed.getD j false)=[]:=cqn hl
  rw[b2] at a3;simp only[runI,cqf] at a3;subst a3;rw[Nat.zero_add];refine ax listed a w m H hs (fun j hj=> ?_) ai hd hb (an.rel hr)
  simp_all [pend,List.mem_filter,List.mem_range]
 |succ q ih=>
  intro listed a w m H st s hs ao hl ai b0 hd hb hr a3 an;have ae:∀i o,all[i]? =some o→(∀e∈o.after,Region.binds .any e=true→listed.getD e.on false=true)→Uj all fun k=>listed.getD k false || k==i:=fun i o ho a6 k o' aq ah e he aa=>by
   by_cases hki:k=i
   ·simp_all
   ·have bb:(k==i)=false:=by grind
    simp only[b0 k o' aq (by simpa[bb] using ah) e he aa,Bool.true_or]
  rw[Nat.add_right_comm];refine⟨fun aj=> ?_,fun i hi=> ?_⟩
  ·exfalso;have a9:∀j,j<all.length→listed.getD j false=true:=by
    intro j
    induction j using Nat.strongRecOn with
    |_ j ihj=>
     intro hj;cases hL:listed.getD j false with
     |true=>rfl
     |false=>
      exfalso;have:j∈Region.ready .any all.toArray listed:=by
       rw[mem_ready];refine⟨by rw[Vy true (by omega)];exact hL,all[j],by simp[hj],fun e he aa=> ?_⟩
       have:=(Yf b5 j all[j] (cqc hj)).before e he aa;exact ihj e.on this (by omega)
      rw[aj] at this;cases this
   have:(pend nf fun j=>listed.getD j false)=[]:=by
    unfold pend;rw[List.filter_eq_nil_iff];intro j hj;simp[a9 j (by have:=List.mem_range.1 hj;omega)]
   rw[this] at hl;simp at hl
  ·rw[mem_ready] at hi;obtain⟨h0,o,ho,a6⟩:=hi;rw[cqi] at ho;have ba:i<all.length:=(cqd.1 ho).1;rw[Vy true (by omega)] at h0
   by_cases a7:nf≤i
   ·exfalso;have a9:∀j,j<nf→listed.getD j false=true:=fun j hj=>by
     have:=VR (ae i o ho a6) i j (ay i a7 ba ((ai i a7).symm.trans h0) j hj) (by simp)
     have ap:(j==i)=false:=by simp;omega
     simpa only[ap,Bool.or_false] using this
    have:(pend nf fun j=>listed.getD j false)=[]:=by
     unfold pend;rw[List.filter_eq_nil_iff];intro j hj;simp[a9 j (List.mem_range.1 hj)]
    rw[this] at hl;simp at hl
   have a7:i<nf:=by omega
   have a8:(listed.setIfInBounds i true).getD i false=true:=by simp[cqj,show i<listed.size by omega]
   have a5:∀j,j≠i→(listed.setIfInBounds i true).getD j false=listed.getD j false:=fun j hj=>getD_set_ne false (Ne.symm hj)
   rw[Ey a7 h0] at a3 hl;have am:=A3 (L:=fun j=>listed.getD j false) (L':=fun j=>(listed.setIfInBounds i true).getD j false) a7 a8 a5
   rw[Di] at a3;cases hr1:runI P gl ch (mdR all) F all base ((List.range i).filter fun j=> !listed.getD j false) st with
   |none=>rw[hr1] at a3;cases a3
   |some s1=>
    rw[hr1] at a3;simp only[runI,ho] at a3;cases hr2:Xp P gl ch (mdR all) F all (base+i) o s1 with
    |none=>rw[hr2] at a3;cases a3
    |some s2=>
     rw[hr2] at a3;simp only at a3;obtain⟨t,s',e1,e2,e3⟩:=move az (oi:=o) _ hr hr1 hr2 fun j hj=>by
      rw[List.mem_filter] at hj;have af:=List.mem_range.1 hj.1;refine⟨by omega,fun oj b4=> ?_⟩
      have b3:((Zx all []).getD i 0).testBit j=true→False:=fun ab=>by
       have:=VR (ae i o ho a6) i j ab (by simp)
       have ap:(j==i)=false:=by simp;omega
       simp only[ap,Bool.or_false] at this;rw[this] at hj;simp at hj
      have ad:M0 (mdR all) all oj o=false:=by
       cases ad:M0 (mdR all) all oj o with
       |false=>rfl
       |true=>exact(b3 ((Yf b5 i o ho).pair j oj af b4 ad)).elim
      simp only[M0,Bool.or_eq_false_iff] at ad;refine⟨ad.1,?_⟩;cases hkc:hkCl (hk oj.op) (hk o.op) with
      |false=>exact .inl rfl
      |true=>
       have b1:mdR all=true:=by
        have:=ad.2;rw[hkc] at this;simpa using this
       have bc:lo≤i:=by
        rcases Nat.lt_or_ge i lo with hx | hx
        ·rw[ao i hx] at h0;cases h0
        ·exact hx
       rcases hF b1 j i oj o af bc a7 b4 ho hkc with hd | ab
       ·exact .inr ⟨b1,hd⟩
       ·exact(b3 ab).elim
     obtain⟨s3,f1,f2⟩:=StEq.runI e3.symm a3;have ar:runI P gl ch (mdR all) F all base (pend nf fun j=>(listed.setIfInBounds i true).getD j false) t=some s3:=by
      rw[am,Di,e2];exact f1
     have au:=Nw az hr e1 ro n (wpAnyIn (FW ro) n P .any all.toArray Q (q+c) (listed.setIfInBounds i true)) Q (fun a' w' m' H' b9 b8 be=>
      ih _ a' w' m' H' t s3 (by simp[hs]) (fun j hj=>by
       by_cases af:j=i;·subst af;exact a8
       ·rw[a5 j af];exact ao j hj) (by
       rw[am];simp only[List.length_append,List.length_cons] at hl ⊢;omega) (fun j hj=>by rw[a5 j (by omega)];exact ai j hj) (fun k o' aq ah e he aa=>by
        have:∀q,(listed.setIfInBounds i true).getD q false=(listed.getD q false || q==i):=fun q=>by
         by_cases hq:q=i;·subst hq;rw[a8];simp
         ·rw[a5 q hq];have:(q==i)=false:=by simpa using hq
          simp[this]
        simp only[this] at ah ⊢;exact ae i o ho a6 k o' aq ah e he aa) (b9.trans hd) (hb.trans b8) be ar (f2.symm.trans an))
     unfold wpOpIn;simp only[cqi,ho];exact au
theorem Lf{listed:Array Bool}(hs:listed.size=all.length)(h:∀j,j<all.length→listed.getD j false=true):Region.ready .any all.toArray listed=[]:=by
 refine List.eq_nil_iff_forall_not_mem.2 fun j hj=> ?_
 rw[mem_ready] at hj
 grind
theorem pickI(a6:ch.Ok P gl)(ab:Vm all=true)(ai:mdR all=false){F:Zj}{base i:Nat}{o:Oper}{l1 l2:List Nat}{st s:St}{a:Act}{w:World}{m:Nat→Lc}{H:HV}{L:Nat→Bool}(hr:RelS m H B H0 gl rest st a.tmps w)(ho:all[i]? =some o)(a7:Uj all fun k=>L k || k==i)
  (hl:∀j∈l1,j<i∧L j=false) (a3:runI P gl ch (mdR all) F all base (l1++i::l2) st=some s):∃t s',Xp P gl ch (mdR all) F all (base+i) o st=some t∧runI P gl ch (mdR all) F all base (l1++l2) t=some s'∧StEq s s':=by
 rw[Di] at a3;cases hr1:runI P gl ch (mdR all) F all base l1 st with
 |none=>simp_all
 |some s1=>
  rw[hr1] at a3;simp only[runI,ho] at a3;cases hr2:Xp P gl ch (mdR all) F all (base+i) o s1 with
  |none=>simp_all
  |some s2=>
   rw[hr2] at a3;simp only at a3;obtain⟨t,s',e1,e2,e3⟩:=move a6 (oi:=o) _ hr hr1 hr2 fun j hj=>by
    obtain⟨a8,hj⟩:=hl j hj;refine⟨by omega,fun oj aa=> ?_⟩
    have a9:((Zx all []).getD i 0).testBit j=true→False:=fun a5=>by
     have:=VR a7 i j a5 (by simp)
     grind
    have a4:M0 (mdR all) all oj o=false:=by
     cases a4:M0 (mdR all) all oj o with
     |false=>rfl
     |true=>exact(a9 ((Yf ab i o ho).pair j oj a8 aa a4)).elim
    simp only[M0,Bool.or_eq_false_iff] at a4;refine⟨a4.1,?_⟩
    simp_all
   obtain⟨s3,f1,f2⟩:=StEq.runI e3.symm a3
   simp_all [Di]
theorem Fd{listed:Array Bool}{i:Nat}(hi:i<listed.size)(h:Uj all fun k=>listed.getD k false || k==i):Uj all fun k=>(listed.setIfInBounds i true).getD k false:=fun k o' a5 a3 e he a4=>by
 have:∀q,(listed.setIfInBounds i true).getD q false=(listed.getD q false || q==i):=fun q=>by
  by_cases hq:q=i
  ·simp_all
  simp_all [Ne.symm]
 simp only[this] at a3 ⊢;exact h k o' a5 a3 e he a4
theorem Q8q(a9:ch.Ok P gl)(ag:Vm all=true)(ax:mdR all=false){F:Zj}{base b f c:Nat}(b6:b≤all.length)(bc:b<f)(ap:∀i,b≤i→i<all.length→i≠f→∀j,j<b→((Zx all []).getD i 0).testBit j=true){ro:Option Nat}{n:Nat}{d0:List Deferred}{w0:World}{sA sB:St}{Q:Exit→Act→World→Prop}
  (hA:∀(listed:Array Bool) (a:Act) (w:World) (m:Nat→Lc) (H:HV),listed.size=all.length→(∀j,j<b→listed.getD j false=true)→(∀j,b≤j→listed.getD j false=(j==f))→a.defers=d0→Qa B w0 w→RelS m H B H0 gl rest sA a.tmps w→wpAnyIn (FW ro) n P .any all.toArray Q c listed a w)
  (hB:∀(listed:Array Bool) (a:Act) (w:World) (m:Nat→Lc) (H:HV),listed.size=all.length→(∀j,j<b→listed.getD j false=true)→(∀j,b≤j→listed.getD j false=false)→a.defers=d0→Qa B w0 w→RelS m H B H0 gl rest sB a.tmps w→
   (Region.ready .any all.toArray listed≠[])∧∀i∈Region.ready .any all.toArray listed,i≠f→wpOpIn (FW ro) n P all.toArray Q i (wpAnyIn (FW ro) n P .any all.toArray Q c (listed.setIfInBounds i true)) a w):
  ∀(q:Nat) (listed:Array Bool) (a:Act) (w:World) (m:Nat→Lc) (H:HV) (st s s':St),listed.size=all.length→(pend b fun j=>listed.getD j false).length=q→(∀j,b≤j→listed.getD j false=false)→Uj all (fun j=>listed.getD j false)→
   a.defers=d0→Qa B w0 w→RelS m H B H0 gl rest st a.tmps w→runI P gl ch (mdR all) F all base (pend b fun j=>listed.getD j false) st=some s→StEq s sB→runI P gl ch (mdR all) F all base ((pend b fun j=>listed.getD j false)++[f]) st=some s'→StEq s' sA→wpAnyIn (FW ro) n P .any all.toArray Q (q+1+c) listed a w:=by
 have aj:∀ {listed:Array Bool} {i:Nat},i<listed.size→(listed.setIfInBounds i true).getD i false=true:=fun h=>by simp_all
 have a4:∀ {listed:Array Bool} {i:Nat} (j:Nat),j≠i→(listed.setIfInBounds i true).getD j false=listed.getD j false:=fun j hj=>getD_set_ne false (Ne.symm hj)
 have b1:∀ {listed:Array Bool} {i:Nat} {o:Oper},Uj all (fun j=>listed.getD j false)→all[i]? =some o→(∀e∈o.after,Region.binds .any e=true→listed.getD e.on false=true)→Uj all fun k=>listed.getD k false || k==i:=fun {listed i o} ak ho ah k o' ho' hLk e he au=>by
  by_cases hki:k=i
  ·simp_all
  ·have be:(k==i)=false:=by grind
   simp only[ak k o' ho' (by grind) e he au,Bool.true_or]
 intro q
 induction q with
 |zero=>
  intro listed a w m H st s s' hs hl af ak hd hb hr ab aw a5 am;have aq:(pend b fun j=>listed.getD j false)=[]:=cqn hl
  rw[aq] at ab a5;simp only[runI,cqf] at ab;subst ab;have a6:∀j,j<b→listed.getD j false=true:=fun j hj=>by
   cases hL:listed.getD j false with
   |true=>rfl
   |false=>
    have:j∈pend b fun j=>listed.getD j false:=by
     unfold pend;rw[List.mem_filter];exact⟨List.mem_range.2 hj,by simp[hL]⟩
    rw[aq] at this;cases this
  obtain⟨e0,e1⟩:=hB listed a w m H hs a6 af hd hb (aw.rel hr);rw[Nat.zero_add,Nat.add_comm];refine⟨fun a8=>(e0 a8).elim,fun i hi=> ?_⟩
  by_cases hif:i=f
  ·subst hif;rw[mem_ready] at hi;obtain⟨h0,o,ho,ah⟩:=hi;rw[cqi] at ho;have b2:i<all.length:=(cqd.1 ho).1;simp only[List.nil_append,runI,ho] at a5;cases hr2:Xp P gl ch (mdR all) F all (base+i) o st with
   |none=>rw[hr2] at a5;cases a5
   |some s2=>
    rw[hr2] at a5;simp only[cqf] at a5;subst a5;have ay:=Nw a9 hr hr2 ro n (wpAnyIn (FW ro) n P .any all.toArray Q c (listed.setIfInBounds i true)) Q (fun a' w' m' H' ae ad ai=>
     hA _ a' w' m' H' (by simp[hs]) (fun j hj=>by rw[a4 j (by omega)];exact a6 j hj) (fun j hj=>by
      by_cases hji:j=i;·subst hji;rw[aj (by omega)];simp
      ·rw[a4 j hji,af j hj];have:(j==i)=false:=by simpa using hji
       rw[this]) (ae.trans hd) (hb.trans ad) (am.rel ai))
    unfold wpOpIn;simp only[cqi,ho];exact ay
  ·exact e1 i hi hif
 |succ q ih=>
  intro listed a w m H st s s' hs hl af ak hd hb hr ab aw a5 am;rw[show q+1+1+c=(q+1+c)+1 by omega]
  refine⟨fun a8=> ?_,fun i hi=> ?_⟩
  ·exfalso;have a6:∀j,j<all.length→listed.getD j false=true:=by
    intro j
    induction j using Nat.strongRecOn with
    |_ j ihj=>
     intro hj;cases hL:listed.getD j false with
     |true=>rfl
     |false=>
      exfalso;have:j∈Region.ready .any all.toArray listed:=by
       rw[mem_ready];refine⟨by rw[Vy true (by omega)];exact hL,all[j],by simp[hj],fun e he au=> ?_⟩
       have:=(Yf ag j all[j] (cqc hj)).before e he au;exact ihj e.on this (by omega)
      rw[a8] at this;cases this
   have:(pend b fun j=>listed.getD j false)=[]:=by
    unfold pend;rw[List.filter_eq_nil_iff];intro j hj;simp[a6 j (by have:=List.mem_range.1 hj;omega)]
   rw[this] at hl;simp at hl
  ·rw[mem_ready] at hi;obtain⟨h0,o,ho,ah⟩:=hi;rw[cqi] at ho;have b2:i<all.length:=(cqd.1 ho).1;rw[Vy true (by omega)] at h0
   have a7:=b1 ak ho ah;unfold wpOpIn;simp only[cqi,ho];by_cases hif:i=f
   ·subst hif;obtain⟨t,s2,e1,e2,e3⟩:=pickI a9 ag ax (L:=fun j=>listed.getD j false) (l2:=[]) hr ho a7 (fun j hj=>by
     unfold pend at hj;rw[List.mem_filter] at hj;exact⟨by have:=List.mem_range.1 hj.1;omega,by simpa using hj.2⟩) a5
    rw[List.append_nil] at e2;have hp:(pend b fun j=>(listed.setIfInBounds i true).getD j false)=pend b fun j=>listed.getD j false:=by
     unfold pend;refine List.filter_congr fun j hj=> ?_
     have:=List.mem_range.1 hj;simp only[a4 (listed:=listed) (i:=i) j (by omega)]
    exact Nw a9 hr e1 ro n (wpAnyIn (FW ro) n P .any all.toArray Q (q+1+c) (listed.setIfInBounds i true)) Q (fun a' w' m' H' ae ad ai=>
     Ms (L0:=fun j=>j==i) (c:=c) (lo:=0) (nf:=b) (F:=F) (base:=base) a9 ag (fun e=>by simp_all) b6 (fun k h1 h2 h3=>ap k h1 h2 (by simpa using h3)) hA (q+1) (listed.setIfInBounds i true) a' w' m' H' t s2 (by simp[hs]) (fun j hj=>absurd hj (Nat.not_lt_zero j)) (by rw[hp];exact hl) (fun j hj=>by
      by_cases hji:j=i;·subst hji;rw[aj (by omega)];simp
      ·rw[a4 j hji,af j hj];have:(j==i)=false:=by simpa using hji
       rw[this]) (Fd (by omega) a7) (ae.trans hd) (hb.trans ad) ai (by rw[hp];exact e2) (e3.symm.trans am))
   ·by_cases an:b≤i
    ·exfalso;have a6:∀j,j<b→listed.getD j false=true:=fun j hj=>by
      have:=VR a7 i j (ap i an b2 hif j hj) (by simp)
      have b7:(j==i)=false:=by simp;omega
      simpa only[b7,Bool.or_false] using this
     have:(pend b fun j=>listed.getD j false)=[]:=by
      unfold pend;rw[List.filter_eq_nil_iff];intro j hj;simp[a6 j (List.mem_range.1 hj)]
     rw[this] at hl;simp at hl
    ·have an:i<b:=by omega
     have hp:=A3 (L:=fun j=>listed.getD j false) (L':=fun j=>(listed.setIfInBounds i true).getD j false) an (aj (by omega)) a4
     rw[Ey an h0] at ab a5 hl;have hc:∀j∈ (List.range i).filter (fun j=> !listed.getD j false),j<i∧listed.getD j false=false:=fun j hj=>by
      rw[List.mem_filter] at hj;exact⟨List.mem_range.1 hj.1,by simpa using hj.2⟩
     obtain⟨t,s2,e1,e2,e3⟩:=pickI a9 ag ax (L:=fun j=>listed.getD j false) hr ho a7 hc ab
     rw[List.append_assoc,List.cons_append] at a5;obtain⟨t',s3,g1,g2,g3⟩:=pickI a9 ag ax (L:=fun j=>listed.getD j false) hr ho a7 hc a5
     rw[e1] at g1;cases g1;exact Nw a9 hr e1 ro n (wpAnyIn (FW ro) n P .any all.toArray Q (q+1+c) (listed.setIfInBounds i true)) Q (fun a' w' m' H' ae ad ai=>
      ih _ a' w' m' H' t s2 s3 (by simp[hs]) (by
       rw[hp];simp only[List.length_append,List.length_cons] at hl ⊢;omega) (fun j hj=>by rw[a4 j (by omega)];exact af j hj) (Fd (by omega) a7) (ae.trans hd) (hb.trans ad) ai (by rw[hp];exact e2) (e3.symm.trans aw) (by rw[hp,List.append_assoc];exact g2) (g3.symm.trans am))
theorem CC(nf:Nat):(pend nf fun j=>(Array.replicate all.toArray.size false).getD j false)=List.range nf:=by
 unfold pend;rw[List.filter_eq_self];intro j hj;simp only[cqj,Array.getElem?_replicate]
 grind
theorem Ct(j:Nat):(Array.replicate all.toArray.size false).getD j false=false:=by
 simp only[cqj,Array.getElem?_replicate]
 grind
def okF(F:Zj)(all:List Oper)(base i:Nat)(k:Nat)(ft:Option (List Nat)):Bool:=(List.range i).all fun j=>match all[j]? with
 |some oj=>match hkCl (hk oj.op) k with
  |true=>match LF (F (base+j)) ft with
   |true=>true
   |false=>((Zx all []).getD i 0).testBit j
  |false=>true
 |none=>true
def updT(F:Zj)(k:Nat)(x:Option (List Nat)):Zj:=fun j=>bif Nat.beq j k then x else F j
theorem TA{F:Zj}{k:Nat}{x:Option (List Nat)}:updT F k x k=x:=by simp[updT]
theorem Q4a{F:Zj}{k j:Nat}{x:Option (List Nat)}(h:j≠k):updT F k x j=F j:=by
 simp_all [updT,Rt]
theorem Q03{F G:Zj}{base i:Nat}{p:Oper}{ft:Option (List Nat)}(h:okF F all base i (hk p.op) ft=true)(a4:∀j,j<i→G (base+j)=F (base+j))(hi:G (base+i)=ft):∀j o,j<i→all[j]? =some o→hkCl (hk o.op) (hk p.op)=true→LF (G (base+j)) (G (base+i))=true∨((Zx all []).getD i 0).testBit j=true:=fun j o hj ho hc=>by
 have:=cqt.1 h j (List.mem_range.2 hj)
 grind
def Cs(all:List Oper)(o:Oper)(gv:Option AV)(ev:Operand→AV):Option (List Nat):=match o.guard with
 |none=>foot o.op ev
 |some (_,want)=>match gv with
  |some x=>match LH x want with
   |some true=>foot o.op ev
   |_=>some []
  |none=>none
def runF(P:Program)(gl:Nat→AV)(ch:Yr)(all:List Oper)(base:Nat):List Nat→Zj→St→Option St
 | [],_,st=>some st
 |i::l,F,st=>match all[i]? with
  |some o=>match okF F all base i (hk o.op) (Cs all o (gval all o st) (st.ev gl)) with
   |true=>match Xp P gl ch true (updT F (base+i) (Cs all o (gval all o st) (st.ev gl))) all (base+i) o st with
    |some s=>runF P gl ch all base l (updT F (base+i) (Cs all o (gval all o st) (st.ev gl))) s
    |none=>none
   |false=>none
  |none=>none
theorem Q1n{F G:Zj}{md:Bool}{bid:Nat}{o:Oper}{st:St}(h:F bid=G bid):Xp P gl ch md F all bid o st=Xp P gl ch md G all bid o st:=by
 simp only[V0,UG,xoF,WB,h]
theorem Q3r{base:Nat}:∀(n k:Nat) (F:Zj) (st s:St),runF P gl ch all base (List.range' k n) F st=some s→
  ∃G:Zj,(∀j,j<k→G (base+j)=F (base+j))∧runI P gl ch true G all base (List.range' k n) st=some s∧∀i j o p,i<j→k≤j→j<k+n→all[i]? =some o→all[j]? =some p→hkCl (hk o.op) (hk p.op)=true→LF (G (base+i)) (G (base+j))=true∨((Zx all []).getD j 0).testBit i=true
 |0,k,F,st,s,h=>⟨F,fun _ _=>rfl,by simp_all [runF,runI],fun i j o p h1 h2 h3=>by omega⟩
 |n+1,k,F,st,s,h=>by
  simp only[List.range'_succ,runF] at h;split at h
  ·rename_i o ho;split at h
   ·rename_i a5;split at h
    ·rename_i s1 ad;obtain⟨G,h1,h2,h3⟩:=Q3r n (k+1) _ s1 s h;have hk:G (base+k)=Cs all o (gval all o st) (st.ev gl):=by simp_all [TA]
     have a3:∀j,j<k→G (base+j)=F (base+j):=fun j hj=>by grind [Q4a]
     refine⟨G,a3,?_,fun i j o' p h4 h5 h6 a4 hp hc=> ?_⟩
     ·grind [List.range'_succ,runI,Q1n,updT,Cs,gval,hk,TA]
     ·by_cases e:j=k
      ·subst e;rw[ho] at hp;cases hp;exact Q03 a5 a3 hk i o' h4 a4 hc
      grind
    ·cases h
   ·cases h
  ·cases h
theorem Q7d{base nf:Nat}{st s:St}(h:runF P gl ch all base (List.range nf) (fun _=>none) st=some s):∃G:Zj,runI P gl ch true G all base (List.range nf) st=some s∧IH G all base nf:=by
 rw[List.range_eq_range'] at h ⊢;obtain⟨G,_,h2,h3⟩:=Q3r nf 0 _ st s h;exact⟨G,h2,fun i j o p h4 h5=>h3 i j o p h4 (Nat.zero_le _) (by omega)⟩
def E9(all:List Oper):Bool:=
 let m:=(Zx all []).getD (all.length - 1) 0
 (List.range (all.length - 1)).all fun j=>m.testBit j
def T0(ms:List Nat):Nat→Nat
 |0=>0
 |k+1=>match Nat.beq (ms.getD k 0) (2^k - 1) with
  |true=>T0 ms k
  |false=>k+1
def QL(all:List Oper):Nat:=T0 (Zx all []) all.length
theorem Dk{ms:List Nat}:∀k,T0 ms k≤k∧∀i,T0 ms k≤i→i<k→∀j,j<i→(ms.getD i 0).testBit j=true
 |0=>⟨Nat.le_refl _,fun i h1 h2=>by omega⟩
 |k+1=>by
  obtain⟨h1,h2⟩:=Dk (ms:=ms) k;unfold T0;split
  ·grind [cqa,Nat.testBit_two_pow_sub_one]
  grind
def B8(all:List Oper)(b:Nat):Bool:=match Zx all [] with
 |ms=>(Nat.blt b (QL all)&&Nat.beq (ms.getD b 0) (2^b - 1))&& (List.range' (b+1) (all.length - (b+1))).all fun i=>(List.range (b+1)).all fun j=>(ms.getD i 0).testBit j
theorem Q5e {all : List Oper} {b : Nat} (h : B8 all b = true) : b < QL all ∧ QL all ≤ all.length ∧ (∀ i, b ≤ i → i < all.length → ∀ j, j < b → ((Zx all []).getD i 0).testBit j = true) ∧ ∀ i, b < i → i < all.length → ∀ j, j < b + 1 → ((Zx all []).getD i 0).testBit j = true := by
 simp only [B8, cqb, cqt, List.mem_range'_1, List.mem_range] at h
 obtain ⟨⟨h1, h2⟩, h3⟩ := h
 have h1 : b < QL all := by simp_all
 have h4 := (Dk (ms := Zx all []) all.length).1
 grind [QL, Zx, Nat.lt_or_ge, cqa, Nat.testBit_two_pow_sub_one]
def midF(all:List Oper)(b f:Nat):Bool:=match Zx all [] with
 |ms=>((!mdR all&&Nat.blt b f)&& (Nat.blt f (QL all)&&Nat.beq (ms.getD b 0) (2^b - 1)))&& ((match all[f]? with
  |some o=>o.after.toList.isEmpty
  |none=>false)&& (List.range' (b+1) (all.length - (b+1))).all fun i=>Nat.beq i f || (List.range (b+1)).all fun j=>(ms.getD i 0).testBit j)
theorem Q73{all:List Oper}{b f:Nat}(h:midF all b f=true):mdR all=false∧b<f∧f<QL all∧QL all≤all.length∧(∀o,all[f]? =some o→∀e∈o.after,False)∧(∀i,b≤i→i<all.length→i≠f→∀j,j<b→((Zx all []).getD i 0).testBit j=true)∧∀i,b<i→i<all.length→i≠f→((Zx all []).getD i 0).testBit b=true:=by
 simp only[midF,cqb,cqt,List.mem_range'_1,List.mem_range,Bool.or_eq_true,Bool.not_eq_true'] at h;obtain⟨⟨⟨h1,h2⟩,h3,h4⟩,h5,h6⟩:=h;have h2:b<f:=by simp_all
 have h3:f<QL all:=by simp_all
 have h7:=(Dk (ms:=Zx all []) all.length).1
 grind [QL,Zx,absurd,cqa,List.isEmpty_iff,Array.mem_def,Nat.lt_or_ge,Nat.testBit_two_pow_sub_one]
theorem pendM{nf lo:Nat}(h:lo≤nf){L:Nat→Bool}(h1:∀j,j<lo→L j=true)(h2:∀j,lo≤j→L j=false):pend nf L=List.range' lo (nf - lo):=by
 unfold pend;have e:List.range nf=List.range lo++List.range' lo (nf - lo):=by
  have:=List.range'_append_1 (s:=0) (m:=lo) (n:=nf - lo)
  simp_all [Nat.zero_add,Nat.add_sub_cancel',List.range_eq_range']
 grind [List.filter_eq_nil_iff,List.filter_eq_self]
theorem Ij(a7:ch.Ok P gl)(a4:P.follows .mixedOrders=true)(aa:Vm all=true){F:Zj}{ro:Option Nat}{n:Nat}{m:Nat→Lc}{H:HV}{st sF:St}{a:Act}{w:World}{id nf:Nat}(a9:nf≤all.length)
  (a3:∀i,nf≤i→i<all.length→∀j,j<nf→((Zx all []).getD i 0).testBit j=true)
  (h:RelS m H B H0 gl rest st a.tmps w) (a5:runI P gl ch (mdR all) F all st.nx (List.range nf) (st.bump all.length)=some sF) (hF:mdR all=true→IH F all st.nx nf) {Q:Exit→Act→World→Prop}
  (hQ:∀(listed:Array Bool) (a':Act) (w':World) (m:Nat→Lc) (H:HV),listed.size=all.length→(∀j,j<nf→listed.getD j false=true)→(∀j,nf≤j→listed.getD j false=false)→a'.defers=a.defers→Qa B w w'→RelS m H B H0 gl rest sF a'.tmps w'→wpAnyIn (FW ro) n P .any all.toArray Q (all.length - nf) listed a' w'):(Code.region id all.toArray true).wpIn (FW ro) n P Q a w:=by
 refine wpIn_region_any a4 ?_;have hb:Below w.heap.size w {w with drawn:=w.drawn+1}:=⟨rfl,rfl,rfl,Nat.le_refl _,fun _ _=>rfl⟩
 have ab:RelS m H B H0 gl rest (st.bump all.length) a.tmps {w with drawn:=w.drawn+1}:=by
  have hh:=h.heap.ext hb;exact⟨{hh with fresh:=fun id a8=>hh.fresh id (Nat.le_trans (Nat.le_add_right _ _) a8)},h.size,h.slot,h.rest⟩
 have:=Ms (L0:=fun _=>false) (c:=all.length - nf) (sF:=sF) (base:=st.nx) (lo:=0) (nf:=nf) (ro:=ro) (n:=n) (d0:=a.defers) (w0:=w) (Q:=Q) a7 aa (fun e=>(hF e).l) a9 (fun i h1 h2 _=>a3 i h1 h2) hQ _ (Array.replicate all.toArray.size false) a _ m H (st.bump all.length) sF (by simp) (fun j hj=>absurd hj (Nat.not_lt_zero j)) rfl (fun j _=>Ct j) (fun j o ho hL=>by grind [Array.replicate,Ct]) rfl (Qa.of hb h.heap.low) ab (by rw[CC];exact a5) (.refl _)
 rw[CC,List.length_range] at this
 simp_all
theorem Q2k(a7:ch.Ok P gl)(a4:P.follows .mixedOrders=true)(a9:Vm all=true){F:Zj}{ro:Option Nat}{n:Nat}{m:Nat→Lc}{H:HV}{st sF:St}{a:Act}{w:World}{id:Nat}
  (h:RelS m H B H0 gl rest st a.tmps w) (a5:runI P gl ch (mdR all) F all st.nx (List.range all.length) (st.bump all.length)=some sF) (hF:mdR all=true→IH F all st.nx all.length) {Q:Exit→Act→World→Prop}
  (hQ:∀(a':Act) (w':World) (m:Nat→Lc) (H:HV),a'.defers=a.defers→Qa B w w'→RelS m H B H0 gl rest sF a'.tmps w'→Q .normal a' w'):(Code.region id all.toArray true).wpIn (FW ro) n P Q a w:=by
 refine wpIn_region_any a4 ?_;have hb:Below w.heap.size w {w with drawn:=w.drawn+1}:=⟨rfl,rfl,rfl,Nat.le_refl _,fun _ _=>rfl⟩
 have aa:RelS m H B H0 gl rest (st.bump all.length) a.tmps {w with drawn:=w.drawn+1}:=by
  have hh:=h.heap.ext hb;exact⟨{hh with fresh:=fun id a8=>hh.fresh id (Nat.le_trans (Nat.le_add_right _ _) a8)},h.size,h.slot,h.rest⟩
 have:=Ms (L0:=fun _=>false) (c:=all.length - all.length) (sF:=sF) (base:=st.nx) (lo:=0) (nf:=all.length) (ro:=ro) (n:=n) (d0:=a.defers) (w0:=w) (Q:=Q) a7 a9 (fun e=>(hF e).l) (Nat.le_refl _) (fun i h1 h2 _=>by omega) (fun listed a' w' m' H' hs h1 _ hd a6 hr=>by
  rw[Nat.sub_self];exact⟨Lf hs h1,hQ a' w' m' H' hd a6 hr⟩) _ (Array.replicate all.toArray.size false) a _ m H (st.bump all.length) sF (by simp) (fun j hj=>absurd hj (Nat.not_lt_zero j)) rfl (fun j _=>Ct j) (fun j o ho hL=>by grind [Array.replicate,Ct]) rfl (Qa.of hb h.heap.low) aa (by rw[CC];exact a5) (.refl _)
 rw[CC,Nat.sub_self,Nat.add_zero,List.length_range] at this;omega
theorem F5(ah:ch.Ok P gl)(a6:P.follows .mixedOrders=true)(a8:Vm all=true){F:Zj}(ao:E9 all=true){ol:Oper}(hol:all[all.length - 1]? =some ol)(hg:ol.guard=none){ro:Option Nat}{n:Nat}{m:Nat→Lc}{H:HV}{st sF:St}{a:Act}{w:World}{id:Nat}
  (h:RelS m H B H0 gl rest st a.tmps w) (a9:runI P gl ch (mdR all) F all st.nx (List.range (all.length - 1)) (st.bump all.length)=some sF) (hF:mdR all=true→IH F all st.nx (all.length - 1)) {Q:Exit→Act→World→Prop}
  (hQ:∀(a':Act) (w':World) (m:Nat→Lc) (H:HV) (K:Act→World→Prop),a'.defers=a.defers→Qa B w w'→RelS m H B H0 gl rest sF a'.tmps w'→(∀a2 w2,Q .normal a2 w2→K a2 w2)→ol.wpIn (FW ro) n P a' w' K Q):(Code.region id all.toArray true).wpIn (FW ro) n P Q a w:=by
 refine wpIn_region_any a6 ?_;have ar:0<all.length:=by grind
 have hb:Below w.heap.size w {w with drawn:=w.drawn+1}:=⟨rfl,rfl,rfl,Nat.le_refl _,fun _ _=>rfl⟩
 have am:RelS m H B H0 gl rest (st.bump all.length) a.tmps {w with drawn:=w.drawn+1}:=by
  have hh:=h.heap.ext hb;exact⟨{hh with fresh:=fun id ai=>hh.fresh id (Nat.le_trans (Nat.le_add_right _ _) ai)},h.size,h.slot,h.rest⟩
 have a4:∀i,all.length - 1≤i→i<all.length→∀j,j<all.length - 1→((Zx all []).getD i 0).testBit j=true:=fun i h1 h2 j hj=>by
  grind [E9,cqt]
 have:=Ms (L0:=fun _=>false) (c:=all.length - (all.length - 1)) (sF:=sF) (base:=st.nx) (lo:=0) (nf:=all.length - 1) (ro:=ro) (n:=n) (d0:=a.defers) (w0:=w) (Q:=Q) ah a8 (fun e=>(hF e).l) (by omega) (fun i h1 h2 _=>a4 i h1 h2) (fun listed a' w' m' H' hs h1 h2 hd af hr=>by
  rw[show all.length - (all.length - 1)=0+1 by omega]
  have a5:Region.ready .any all.toArray (listed.setIfInBounds (all.length - 1) true)=[]:=Lf (by simp[hs]) fun j hj=>by
   by_cases e:j=all.length - 1
   ·simp_all
   ·rw[getD_set_ne false (Ne.symm e)];grind
  refine⟨fun ad=> ?_,fun i hi=> ?_⟩
  ·exfalso;have:all.length - 1∈Region.ready .any all.toArray listed:=by
    rw[mem_ready];refine⟨by grind,ol,by simp_all,fun e he ag=>h1 e.on ?_⟩
    exact(Yf a8 _ ol hol).before e he ag
   simp_all
  ·rw[mem_ready] at hi;obtain⟨h0,o,ho,au⟩:=hi;rw[cqi] at ho;have b0:i<all.length:=(cqd.1 ho).1;rw[Vy true (by omega)] at h0
   have aj:i=all.length - 1:=by
    grind
   subst aj;rw[hol] at ho;cases ho;unfold wpOpIn;simp only[cqi,hol];rw[if_pos (by simp[Region.wanted,hg])]
   exact hQ a' w' m' H' _ hd af hr fun a2 w2 hq=>⟨a5,hq⟩) _ (Array.replicate all.toArray.size false) a _ m H (st.bump all.length) sF (by simp) (fun j hj=>absurd hj (Nat.not_lt_zero j)) rfl (fun j _=>Ct j) (fun j o ho hL=>by grind [Array.replicate,Ct]) rfl (Qa.of hb h.heap.low) am (by rw[CC];exact a9) (.refl _)
 rw[CC,List.length_range,show all.length - 1+(all.length - (all.length - 1))=all.length by omega] at this
 omega
end
def runG(stp:Nat→Oper→St→Option St)(all:List Oper):List Nat→St→Option St
 | [],st=>some st
 |i::l,st=>match all[i]? with
  |some o=>match stp i o st with
   |some s=>runG stp all l s
   |none=>none
  |none=>none
structure II (P:Program) (B:Nat→Prop) (H0:HV) (gl:Nat→AV) (rest:List (AV×Value)) (all:List Oper) (stp:Nat→Oper→St→Option St):Prop where
 sound:∀ {i:Nat} {o:Oper} {st s:St} {a:Act} {w:World} {m:Nat→Lc} {H:HV},RelS m H B H0 gl rest st a.tmps w→stp i o st=some s→∀(ro:Option Nat) (n:Nat) (next:Act→World→Prop) (Q:Exit→Act→World→Prop),
  (∀a' w' m' H',a'.defers=a.defers→Qa B w w'→RelS m' H' B H0 gl rest s a'.tmps w'→next a' w')→
  if Region.wanted o (yielded all.toArray a.tmps) then o.wpIn (FW ro) n P a w next Q else(∀f,o.about P w a.eval=some f→(FW ro).fn f)∧next (a.put o.dst Go.undef) w
 eq:∀ {i:Nat} {o:Oper} {x y s:St},StEq x y→stp i o x=some s→∃s',stp i o y=some s'∧StEq s s'
 swap:∀ {j i:Nat} {oj oi:Oper} {st s1 s2:St} {a:Act} {w:World} {m:Nat→Lc} {H:HV},j<i→all[j]? =some oj→all[i]? =some oi→((Zx all []).getD i 0).testBit j=false→RelS m H B H0 gl rest st a.tmps w→
  stp j oj st=some s1→stp i oi s1=some s2→∃t1 t2,stp i oi st=some t1∧stp j oj t1=some t2∧StEq t2 s2
section
variable {P : Program} {B : Nat → Prop} {H0 : HV} {gl : Nat → AV} {rest : List (AV × Value)} {all : List Oper} {stp : Nat → Oper → St → Option St}
theorem Hl:∀ {l r:List Nat} {st:St},runG stp all (l++r) st=match runG stp all l st with | some s=>runG stp all r s | none=>none
 | [],r,st=>rfl
 |i::l,r,st=>by
  simp only[List.cons_append,runG];cases all[i]? with
  |none=>rfl
  |some o=>
   simp only;cases stp i o st with
   |none=>rfl
   |some s=>exact Hl
theorem StEq.runG(hS:II P B H0 gl rest all stp):∀ {l:List Nat} {x y s:St},StEq x y→HY.runG stp all l x=some s→∃s',HY.runG stp all l y=some s'∧StEq s s'
 | [],x,y,s,h,hk=>by simp only[HY.runG,cqf] at hk;subst hk;exact⟨y,rfl,h⟩
 |i::l,x,y,s,h,hk=>by
  simp only[HY.runG] at hk ⊢;cases ho:all[i]? with
  |none=>rw[ho] at hk;cases hk
  |some o=>
   rw[ho] at hk;simp only at hk ⊢;cases hs:stp i o x with
   |none=>rw[hs] at hk;cases hk
   |some s1=>
    rw[hs] at hk;obtain⟨s2,h1,h2⟩:=hS.eq h hs;rw[h1];exact StEq.runG hS h2 hk
theorem II.real(hS:II P B H0 gl rest all stp){st:St}{a:Act}{w:World}{m:Nat→Lc}{H:HV}(h:RelS m H B H0 gl rest st a.tmps w){i:Nat}{o:Oper}{st':St}(hk:stp i o st=some st'):∃(a':Act) (w':World) (m':Nat→Lc) (H':HV),RelS m' H' B H0 gl rest st' a'.tmps w':=by
 have:=hS.sound h hk none 0 (fun a' w'=>∃m' H',RelS m' H' B H0 gl rest st' a'.tmps w') (fun _ _ _=>False) (fun a' w' m' H' _ _ hr=>⟨m',H',hr⟩)
 split at this;·obtain⟨a',w',m',H',hr⟩:=RX this;exact⟨a',w',m',H',hr⟩
 ·obtain⟨_,m',H',hr⟩:=this;exact⟨_,_,m',H',hr⟩
theorem moveG(hS:II P B H0 gl rest all stp){i:Nat}{oi:Oper}(a6:all[i]? =some oi):∀(a3:List Nat) {st:St} {a:Act} {w:World} {m:Nat→Lc} {H:HV} {s1 s2:St},RelS m H B H0 gl rest st a.tmps w→runG stp all a3 st=some s1→stp i oi s1=some s2→
  (∀j∈a3,j<i∧((Zx all []).getD i 0).testBit j=false)→∃t s',stp i oi st=some t∧runG stp all a3 t=some s'∧StEq s' s2
 | [],st,a,w,m,H,s1,s2,_,h1,h2,_=>by
  simp only[runG,cqf] at h1;subst h1;exact⟨s2,s2,h2,rfl,.refl _⟩
 |j::a3,st,a,w,m,H,s1,s2,h,h1,h2,hc=>by
  simp only[runG] at h1 ⊢;cases hj:all[j]? with
  |none=>rw[hj] at h1;cases h1
  |some oj=>
   rw[hj] at h1;simp only at h1 ⊢;cases hs:stp j oj st with
   |none=>rw[hs] at h1;cases h1
   |some s0=>
    rw[hs] at h1;obtain⟨a',w',m',H',hr⟩:=hS.real h hs;obtain⟨t,s',k1,k2,k3⟩:=moveG hS a6 a3 hr h1 h2 fun j' a8=>hc j' (by simp[a8])
    have a5:=hc j (by simp)
    obtain⟨t1,t2,e1,e2,e3⟩:=hS.swap a5.1 hj a6 a5.2 h hs k1;obtain⟨s3,g1,g2⟩:=StEq.runG hS e3.symm k2;exact⟨t1,s3,e1,by rw[e2];exact g1,g2.symm.trans k3⟩
theorem PD(hS:II P B H0 gl rest all stp)(b3:Vm all=true){nf:Nat}(bc:nf≤all.length)(ar:∀i,nf≤i→i<all.length→∀j,j<nf→((Zx all []).getD i 0).testBit j=true){ro:Option Nat}{n:Nat}{d0:List Deferred}{w0:World}{sF:St}{Q:Exit→Act→World→Prop}
  (aq:∀(listed:Array Bool) (a:Act) (w:World) (m:Nat→Lc) (H:HV),listed.size=all.length→(∀j,j<nf→listed.getD j false=true)→(∀j,nf≤j→listed.getD j false=false)→a.defers=d0→Qa B w0 w→RelS m H B H0 gl rest sF a.tmps w→wpAnyIn (FW ro) n P .any all.toArray Q (all.length - nf) listed a w):
  ∀(q:Nat) (listed:Array Bool) (a:Act) (w:World) (m:Nat→Lc) (H:HV) (st s:St),listed.size=all.length→(pend nf fun j=>listed.getD j false).length=q→(∀j,nf≤j→listed.getD j false=false)→Uj all (fun j=>listed.getD j false)→
   a.defers=d0→Qa B w0 w→RelS m H B H0 gl rest st a.tmps w→runG stp all (pend nf fun j=>listed.getD j false) st=some s→StEq s sF→wpAnyIn (FW ro) n P .any all.toArray Q (q+(all.length - nf)) listed a w:=by
 intro q
 induction q with
 |zero=>
  intro listed a w m H st s hs hl am au hd hb hr a3 ak;have ai:(pend nf fun j=>listed.getD j false)=[]:=cqn hl
  rw[ai] at a3;simp only[runG,cqf] at a3;subst a3;rw[Nat.zero_add];refine aq listed a w m H hs (fun j hj=> ?_) am hd hb (ak.rel hr)
  cases hL:listed.getD j false with
  |true=>rfl
  |false=>
   have:j∈pend nf fun j=>listed.getD j false:=by
    unfold pend;rw[List.mem_filter];exact⟨List.mem_range.2 hj,by simp[hL]⟩
   rw[ai] at this;cases this
 |succ q ih=>
  intro listed a w m H st s hs hl am au hd hb hr a3 ak;have a9:∀i o,all[i]? =some o→(∀e∈o.after,Region.binds .any e=true→listed.getD e.on false=true)→Uj all fun k=>listed.getD k false || k==i:=fun i o ho a5 k o' aa ad e he a6=>by
   by_cases hki:k=i
   ·subst hki;rw[ho] at aa;cases aa;simp only[a5 e he a6,Bool.true_or]
   ·have b2:(k==i)=false:=by simpa using hki
    simp only[au k o' aa (by simpa[b2] using ad) e he a6,Bool.true_or]
  rw[Nat.add_right_comm];refine⟨fun af=> ?_,fun i hi=> ?_⟩
  ·exfalso;have a8:∀j,j<all.length→listed.getD j false=true:=by
    intro j
    induction j using Nat.strongRecOn with
    |_ j ihj=>
     intro hj;cases hL:listed.getD j false with
     |true=>rfl
     |false=>
      exfalso;have:j∈Region.ready .any all.toArray listed:=by
       rw[mem_ready];refine⟨by rw[Vy true (by omega)];exact hL,all[j],by simp[hj],fun e he a6=> ?_⟩
       have:=(Yf b3 j all[j] (cqc hj)).before e he a6;exact ihj e.on this (by omega)
      rw[af] at this;cases this
   have:(pend nf fun j=>listed.getD j false)=[]:=by
    unfold pend;rw[List.filter_eq_nil_iff];intro j hj;simp[a8 j (by have:=List.mem_range.1 hj;omega)]
   rw[this] at hl;simp at hl
  ·rw[mem_ready] at hi;obtain⟨h0,o,ho,a5⟩:=hi;rw[cqi] at ho;have b0:i<all.length:=(cqd.1 ho).1;rw[Vy true (by omega)] at h0
   by_cases ae:nf≤i
   ·exfalso;have a8:∀j,j<nf→listed.getD j false=true:=fun j hj=>by
     have:=VR (a9 i o ho a5) i j (ar i ae b0 j hj) (by simp)
     have an:(j==i)=false:=by simp;omega
     simpa only[an,Bool.or_false] using this
    have:(pend nf fun j=>listed.getD j false)=[]:=by
     unfold pend;rw[List.filter_eq_nil_iff];intro j hj;simp[a8 j (List.mem_range.1 hj)]
    rw[this] at hl;simp at hl
   have ae:i<nf:=by omega
   have ag:(listed.setIfInBounds i true).getD i false=true:=by simp[cqj,show i<listed.size by omega]
   have a7:∀j,j≠i→(listed.setIfInBounds i true).getD j false=listed.getD j false:=fun j hj=>getD_set_ne false (Ne.symm hj)
   rw[Ey ae h0] at a3 hl;have aj:=A3 (L:=fun j=>listed.getD j false) (L':=fun j=>(listed.setIfInBounds i true).getD j false) ae ag a7
   rw[Hl] at a3;cases hr1:runG stp all ((List.range i).filter fun j=> !listed.getD j false) st with
   |none=>rw[hr1] at a3;cases a3
   |some s1=>
    rw[hr1] at a3;simp only[runG,ho] at a3;cases hr2:stp i o s1 with
    |none=>rw[hr2] at a3;cases a3
    |some s2=>
     rw[hr2] at a3;simp only at a3;obtain⟨t,s',e1,e2,e3⟩:=moveG hS ho _ hr hr1 hr2 fun j hj=>by
      rw[List.mem_filter] at hj;have b1:=List.mem_range.1 hj.1;refine⟨b1,?_⟩;cases hbit:((Zx all []).getD i 0).testBit j with
      |false=>rfl
      |true=>
       have:=VR (a9 i o ho a5) i j hbit (by simp)
       have an:(j==i)=false:=by simp;omega
       simp only[an,Bool.or_false] at this;rw[this] at hj;simp at hj
     obtain⟨s3,f1,f2⟩:=StEq.runG hS e3.symm a3;have ao:runG stp all (pend nf fun j=>(listed.setIfInBounds i true).getD j false) t=some s3:=by
      rw[aj,Hl,e2];exact f1
     have ap:=hS.sound hr e1 ro n (wpAnyIn (FW ro) n P .any all.toArray Q (q+(all.length - nf)) (listed.setIfInBounds i true)) Q (fun a' w' m' H' az ay b4=>
      ih _ a' w' m' H' t s3 (by simp[hs]) (by
       rw[aj];simp only[List.length_append,List.length_cons] at hl ⊢;omega) (fun j hj=>by rw[a7 j (by omega)];exact am j hj) (fun k o' aa ad e he a6=>by
        have:∀q,(listed.setIfInBounds i true).getD q false=(listed.getD q false || q==i):=fun q=>by
         by_cases hq:q=i;·subst hq;rw[ag];simp
         ·rw[a7 q hq];have:(q==i)=false:=by simpa using hq
          simp[this]
        simp only[this] at ad ⊢;exact a9 i o ho a5 k o' aa ad e he a6) (az.trans hd) (hb.trans ay) b4 ao (f2.symm.trans ak))
     unfold wpOpIn;simp only[cqi,ho];exact ap
theorem Q0m(hS:II P B H0 gl rest all stp)(a4:P.follows .mixedOrders=true)(a8:Vm all=true){ro:Option Nat}{n:Nat}{m:Nat→Lc}{H:HV}{st sF:St}{a:Act}{w:World}{id:Nat}
  (h:RelS m H B H0 gl rest st a.tmps w) (a5:runG stp all (List.range all.length) (st.bump all.length)=some sF) {Q:Exit→Act→World→Prop}
  (hQ:∀(a':Act) (w':World) (m:Nat→Lc) (H:HV),a'.defers=a.defers→Qa B w w'→RelS m H B H0 gl rest sF a'.tmps w'→Q .normal a' w'):(Code.region id all.toArray true).wpIn (FW ro) n P Q a w:=by
 refine wpIn_region_any a4 ?_;have hb:Below w.heap.size w {w with drawn:=w.drawn+1}:=⟨rfl,rfl,rfl,Nat.le_refl _,fun _ _=>rfl⟩
 have a9:RelS m H B H0 gl rest (st.bump all.length) a.tmps {w with drawn:=w.drawn+1}:=by
  have hh:=h.heap.ext hb;exact⟨{hh with fresh:=fun id a7=>hh.fresh id (Nat.le_trans (Nat.le_add_right _ _) a7)},h.size,h.slot,h.rest⟩
 have:=PD (sF:=sF) (nf:=all.length) (ro:=ro) (n:=n) (d0:=a.defers) (w0:=w) (Q:=Q) hS a8 (Nat.le_refl _) (fun i h1 h2=>by omega) (fun listed a' w' m' H' hs h1 _ hd a6 hr=>by
  rw[Nat.sub_self];exact⟨Lf hs h1,hQ a' w' m' H' hd a6 hr⟩) _ (Array.replicate all.toArray.size false) a _ m H (st.bump all.length) sF (by simp) rfl (fun j _=>Ct j) (fun j o ho hL=>by have hL:(Array.replicate all.toArray.size false).getD j false=true:=hL;rw[Ct] at hL;cases hL) rfl (Qa.of hb h.heap.low) a9 (by rw[CC];exact a5) (.refl _)
 rw[CC,Nat.sub_self,Nat.add_zero,List.length_range] at this;simpa using this
theorem A8(hS:II P B H0 gl rest all stp)(a8:P.follows .mixedOrders=true)(aa:Vm all=true)(a4:E9 all=true){ol:Oper}(hol:all[all.length - 1]? =some ol)(hg:ol.guard=none){ro:Option Nat}{n:Nat}{m:Nat→Lc}{H:HV}{st sF:St}{a:Act}{w:World}{id:Nat}
  (h:RelS m H B H0 gl rest st a.tmps w) (ab:runG stp all (List.range (all.length - 1)) (st.bump all.length)=some sF) {Q:Exit→Act→World→Prop}
  (hQ:∀(a':Act) (w':World) (m:Nat→Lc) (H:HV) (K:Act→World→Prop),a'.defers=a.defers→Qa B w w'→RelS m H B H0 gl rest sF a'.tmps w'→(∀a2 w2,Q .normal a2 w2→K a2 w2)→ol.wpIn (FW ro) n P a' w' K Q):(Code.region id all.toArray true).wpIn (FW ro) n P Q a w:=by
 refine wpIn_region_any a8 ?_;have au:0<all.length:=by have:=(cqd.1 hol).1;omega
 have hb:Below w.heap.size w {w with drawn:=w.drawn+1}:=⟨rfl,rfl,rfl,Nat.le_refl _,fun _ _=>rfl⟩
 have am:RelS m H B H0 gl rest (st.bump all.length) a.tmps {w with drawn:=w.drawn+1}:=by
  have hh:=h.heap.ext hb;exact⟨{hh with fresh:=fun id ai=>hh.fresh id (Nat.le_trans (Nat.le_add_right _ _) ai)},h.size,h.slot,h.rest⟩
 have a6:∀i,all.length - 1≤i→i<all.length→∀j,j<all.length - 1→((Zx all []).getD i 0).testBit j=true:=fun i h1 h2 j hj=>by
  have:i=all.length - 1:=by omega
  subst this;simp only[E9,cqt] at a4;exact a4 j (List.mem_range.2 hj)
 have:=PD (sF:=sF) (nf:=all.length - 1) (ro:=ro) (n:=n) (d0:=a.defers) (w0:=w) (Q:=Q) hS aa (by omega) a6 (fun listed a' w' m' H' hs h1 h2 hd ag hr=>by
  rw[show all.length - (all.length - 1)=0+1 by omega]
  have a7:Region.ready .any all.toArray (listed.setIfInBounds (all.length - 1) true)=[]:=Lf (by simp[hs]) fun j hj=>by
   by_cases e:j=all.length - 1;·subst e;simp[cqj,show all.length - 1<listed.size by omega]
   ·rw[getD_set_ne false (Ne.symm e)];exact h1 j (by omega)
  refine⟨fun a3=> ?_,fun i hi=> ?_⟩
  ·exfalso;have:all.length - 1∈Region.ready .any all.toArray listed:=by
    rw[mem_ready];refine⟨by rw[Vy true (by omega)];exact h2 _ (Nat.le_refl _),ol,by rw[cqi];exact hol,fun e he ah=>h1 e.on ?_⟩
    exact(Yf aa _ ol hol).before e he ah
   rw[a3] at this;cases this
  ·rw[mem_ready] at hi;obtain⟨h0,o,ho,aw⟩:=hi;rw[cqi] at ho;have b1:i<all.length:=(cqd.1 ho).1;rw[Vy true (by omega)] at h0
   have aj:i=all.length - 1:=by
    rcases Nat.lt_or_ge i (all.length - 1) with ak | b0
    ·rw[h1 i ak] at h0;cases h0
    ·omega
   subst aj;rw[hol] at ho;cases ho;unfold wpOpIn;simp only[cqi,hol];rw[if_pos (by simp[Region.wanted,hg])]
   exact hQ a' w' m' H' _ hd ag hr fun a2 w2 hq=>⟨a7,hq⟩) _ (Array.replicate all.toArray.size false) a _ m H (st.bump all.length) sF (by simp) rfl (fun j _=>Ct j) (fun j o ho hL=>by have hL:(Array.replicate all.toArray.size false).getD j false=true:=hL;rw[Ct] at hL;cases hL) rfl (Qa.of hb h.heap.low) am (by rw[CC];exact ab) (.refl _)
 rw[CC,List.length_range,show all.length - 1+(all.length - (all.length - 1))=all.length by omega] at this
 simpa using this
end
end HY
