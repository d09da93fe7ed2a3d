/- Proved in the last of these texts: for every input the law returns true and its arguments read afterwards as they read before. This text: a part of the proof. -/
import Derived.Test.YtkgphhemcglgnaaGreatDoorP1
import Derived.Laws.Cover4
import Derived.Laws.IdiomCopy
import Derived.OrdersIn
import Derived.RangeFuncLeaves
import Derived.RangeFuncOwn
set_option linter.unusedVariables false
set_option linter.unusedSimpArgs false
section
namespace HY
open Go Go.RowKit
def xv(o:Option AV):Option (AV×Option (Nat×Box)):=match o with | some v=>some (v,none) | none=>none
def Jl(P:Program)(bid:Nat)(b:Builtin)(ts:List TypeId)(xs:List AV)(hp:Hp):Option (AV×Option (Nat×Box)):=
 match b with
 | .len=>match ts,xs with
  | [t],[x]=>xv (xlen P t x)
  |_,_=>none
 | .max=>xv (xmax true xs)
 | .min=>xv (xmax false xs)
 | .append=>match ts,xs with
  | [t,t'],[s,x]=>Gr P bid t t' s x hp
  |_,_=>none
 |_=>none
def xop0(P:Program)(bid:Nat)(dst:Option Nat)(op:Op)(ev:Operand→AV)(hp:Hp):Option (AV×Option (Nat×Box)):=
 match op with
 | .move x=>some (ev x,none)
 | .assign x=>some (ev x,none)
 | .pick c x y=>match ev c with
  | .bool b=>some (if b=true then ev x else ev y,none)
  |_=>none
 | .alloc t=>match Al P t with
  |some z=>if z.okc=true then some (xnewT (tagT P t) bid z.cells) else none
  |none=>none
 | .box _ x=>if(ev x).okc=true then some (xnew bid (ev x).cells) else none
 | .build t parts=>xv (BJ P t (parts.toList.map fun p=>(p.1,ev p.2)))
 | .buildSlice t len parts=>Wv P bid t len (parts.toList.map fun p=>(p.1,ev p.2))
 | .load t x=>xv (W4 P t (ev x) hp)
 | .store t x y=>if dst.isNone then DQ P t (ev x) (ev y) hp else none
 | .binOp op t x y _=>xv (xbin P op t (ev x) (ev y))
 | .unOp op _ x=>xv (xun op (ev x))
 | .convert src to x=>xv (Ac P src to (ev x))
 | .makeFunc (.func f) first caps=>if first.size=0 then some (.fn f (caps.toList.map ev),none) else none
 | .makeSlice t l c=>Lh P bid t (ev l) (ev c)
 | .slice t x lo hi mx=>xv (Uv P t (ev x) (lo.map ev) (hi.map ev) (mx.map ev))
 | .fieldAddr s x f=>xv (HS P s (ev x) f)
 | .field s x f=>xv (BL P s (ev x) f)
 | .indexAddr t x i=>xv (K8 P t (ev x) (ev i))
 | .index t x i=>xv (H9 P t (ev x) (ev i))
 | .extract x j=>xv (S7 (ev x) j)
 | .nilCheck x=>match ev x with
  | .ptr id ver off=>some (.ptr id ver off,none)
  | .ip sz xs i off=>some (.ip sz xs i off,none)
  | .fn f cs=>some (.fn f cs,none)
  | .yld id=>some (.yld id,none)
  |_=>none
 | .call c=>match c.callee with
  | .builtin b=>Jl P bid b c.argTypes.toList (c.args.toList.map ev) hp
  |_=>none
 |_=>none
section
variable {P : Program} {m : Nat → Lc} {H : HV} {B : Nat → Prop} {H0 : HV} {gl : Nat → AV} {rest : List (AV × Value)} {st : St} {a : Act} {w : World}
theorem KG{o:Option AV}{r:AV×Option (Nat×Box)}(h:xv o=some r):∃v,o=some v∧r=(v,none):=by
 cases o with
 |none=>cases h
 |some v=>cases h;exact⟨v,rfl,rfl⟩
theorem Fj(h:RelS m H B H0 gl rest st a.tmps w)(ps:List (Nat×Operand)):
  (ps.map fun p=>(p.1,st.ev gl p.2)).length=(ps.map fun p=>(p.1,a.eval p.2)).length∧
   ∀(k:Nat) (x:Nat×AV) (y:Nat×Value),(ps.map fun p=>(p.1,st.ev gl p.2))[k]? =some x→(ps.map fun p=>(p.1,a.eval p.2))[k]? =some y→x.1=y.1∧RV H (st.env m) x.2 y.2:=by
 refine⟨by simp,fun k x y hx hy=> ?_⟩
 simp only[List.getElem?_map,Option.map_eq_some_iff] at hx hy;obtain⟨p,hp,rfl⟩:=hx;obtain⟨q,hq,rfl⟩:=hy;rw[hp] at hq;cases hq;exact⟨rfl,h.ev p.2⟩
theorem LJ(h:RelS m H B H0 gl rest st a.tmps w)(xs:List Operand):
  (xs.map (st.ev gl)).length=(xs.map a.eval).length∧∀(j:Nat) (c:AV) (v:Value),(xs.map (st.ev gl))[j]? =some c→(xs.map a.eval)[j]? =some v→RV H (st.env m) c v:=by
 refine⟨by simp,fun k x y hx hy=> ?_⟩
 simp only[List.getElem?_map,Option.map_eq_some_iff] at hx hy;obtain⟨p,hp,rfl⟩:=hx;obtain⟨q,hq,rfl⟩:=hy;rw[hp] at hq;cases hq;exact h.ev p
theorem AN(h:RelS m H B H0 gl rest st a.tmps w)(o:Option Operand):(o.map (st.ev gl)=none∧o.map a.eval=none)∨∃x u,o.map (st.ev gl)=some x∧o.map a.eval=some u∧RV H (st.env m) x u:=by
 cases o with
 |none=>exact .inl ⟨rfl,rfl⟩
 |some x=>exact .inr ⟨_,_,rfl,rfl,h.ev x⟩
set_option maxHeartbeats 1000000 in
theorem xop0_ok(h:RelS m H B H0 gl rest st a.tmps w){o:Oper}(hd:Z4 o.dst st.n=true){bid:Nat}(hb:lkb st.hp bid=none)(hn:bid<st.nx){r:AV×Option (Nat×Box)}(hk:xop0 P bid o.dst o.op (st.ev gl) (lkb st.hp)=some r):
  OpOk P B H0 gl rest a w o.dst (st.eff o.dst r) (execOp a.eval o):=by
 unfold xop0 at hk;unfold execOp;split at hk;·rename_i x ho;simp only[ho];cases hk;exact OpOk.val h hd rfl (h.ev x)
 ·rename_i x ho;simp only[ho];cases hk;exact OpOk.val h hd rfl (h.ev x)
 ·rename_i c x y ho;simp only[ho];split at hk
  ·rename_i b hc;have ac:=h.ev c;rw[hc] at ac;have ac:=ac.bool_inv;cases hk;cases b;·exact OpOk.val h hd (by simp[ac,asBool]) (h.ev y)
   ·exact OpOk.val h hd (by simp[ac,asBool]) (h.ev x)
  ·cases hk
 ·rename_i t ho;simp only[ho];split at hk
  ·rename_i z hz;split at hk
   ·rename_i ag;cases hk;obtain⟨i,v,hi,hv,rfl⟩:=R5 hz;exact Q1c h hd hb hn (.imm _ _ (Do H v)) ag (Q4h P t) (by simp[Instr.alloc,zeroValue,typeInfo,hi,hv,newVar,newRow])
   ·cases hk
  ·cases hk
 ·rename_i t x ho;simp only[ho];split at hk
  ·rename_i ag;cases hk;exact new_ok h hd hb hn (h.ev x) ag (by simp[Instr.box,newVar,newRow];rfl)
  ·cases hk
 ·rename_i t ps ho;simp only[ho];obtain⟨v,h1,rfl⟩:=KG hk;have hp:=Fj h ps.toList;obtain⟨u,h2,h3⟩:=Q4l (P:=P) (w:=w) (parts:=ps.map fun p=>(p.1,a.eval p.2)) (by rw[Array.toList_map];exact hp) h1
  exact OpOk.val h hd (by rw[Sem.run_bind,h2];rfl) h3
 ·rename_i t len ps ho;simp only[ho];have hp:=Fj h ps.toList;have hp':(ps.toList.map fun p=>(p.1,st.ev gl p.2)).length=(ps.map fun p=>(p.1,a.eval p.2)).toList.length∧∀(k:Nat) (x:Nat×AV) (y:Nat×Value),(ps.toList.map fun p=>(p.1,st.ev gl p.2))[k]? =some x→(ps.map fun p=>(p.1,a.eval p.2)).toList[k]? =some y→x.1=y.1∧RV H (st.env m) x.2 y.2:=by rw[Array.toList_map];exact hp
  have:=AX (P:=P) h hd hb hn hp' hk;exact this
 ·rename_i t x ho;simp only[ho];obtain⟨v,h1,rfl⟩:=KG hk;obtain⟨u,h2,h3⟩:=BM (P:=P) h.heap (h.ev x) h1;exact OpOk.val h hd (by rw[Sem.run_bind,h2];rfl) h3
 ·rename_i t x y ho;simp only[ho];split at hk
  ·rename_i an;exact Q50 h (by simpa using an) (h.ev x) (h.ev y) hk
  ·cases hk
 ·rename_i op t x y ty ho;simp only[ho];obtain⟨v,h1,rfl⟩:=KG hk;obtain⟨u,h2,hg,h3⟩:=xbin_ok (P:=P) (w:=w) (ox:=x) (oy:=y) (h.ev x) (h.ev y) h1;exact OpOk.val h hd (v:=u) (by simp[hg,h2]) (.imm _ _ (h3 _))
 ·rename_i op t x ho;simp only[ho];obtain⟨v,h1,rfl⟩:=KG hk;obtain⟨u,h2,h3⟩:=xun_ok (P:=P) (w:=w) (h.ev x) h1;exact OpOk.val h hd (v:=u) (by simp[h2]) (.imm _ _ (h3 _))
 ·rename_i b1 to x ho;simp only[ho];obtain⟨v,h1,rfl⟩:=KG hk;obtain⟨u,h2,h3⟩:=Q6h (P:=P) (w:=w) (h.ev x) h1;exact OpOk.val h hd (v:=u) (by simp[h2]) (.imm _ _ (h3 _))
 ·rename_i f af ae ho;simp only[ho];split at hk
  ·rename_i h0;cases hk;have:af= #[]:=Array.eq_empty_of_size_eq_zero h0;subst this;have hl:=LJ h ae.toList;refine OpOk.val h hd (v:=.func (.func f) #[] (ae.map a.eval)) (by simp[Instr.makeFunc]) ?_
   refine .fn f _ _ (by simp) fun j c v hj hv=> ?_
   exact hl.2 j c v hj (by rw[← hv];simp)
  ·cases hk
 ·rename_i t l c ho;simp only[ho];exact Pl h hd hb hn (h.ev l) (h.ev c) hk
 ·rename_i t x lo hi mx ho;simp only[ho];obtain⟨v,h1,rfl⟩:=KG hk;obtain⟨u,h2,h3⟩:=Q4z (P:=P) (w:=w) (h.ev x) (AN h lo) (AN h hi) (AN h mx) h1;exact OpOk.val h hd (v:=u) (by simp[h2]) h3
 ·rename_i s x f ho;simp only[ho];obtain⟨v,h1,rfl⟩:=KG hk;obtain⟨u,h2,h3⟩:=Pj (P:=P) (w:=w) (h.ev x) h1;exact OpOk.val h hd (v:=u) (by simp[h2]) h3
 ·rename_i s x f ho;simp only[ho];obtain⟨v,h1,rfl⟩:=KG hk;obtain⟨u,h2,h3⟩:=Q4o (P:=P) (w:=w) (h.ev x) h1;exact OpOk.val h hd (v:=u) (by simp[h2]) h3
 ·rename_i t x i ho;simp only[ho];obtain⟨v,h1,rfl⟩:=KG hk;obtain⟨u,h2,h3⟩:=Pk (P:=P) (w:=w) (h.ev x) (h.ev i) h1;exact OpOk.val h hd (v:=u) (by simp[h2]) h3
 ·rename_i t x i ho;simp only[ho];obtain⟨v,h1,rfl⟩:=KG hk;obtain⟨u,h2,h3⟩:=Q4p (P:=P) (w:=w) (h.ev x) (h.ev i) h1;exact OpOk.val h hd (v:=u) (by simp[h2]) h3
 ·rename_i x j ho;simp only[ho];obtain⟨v,h1,rfl⟩:=KG hk;obtain⟨u,h2,h3⟩:=Q0s (P:=P) (w:=w) (h.ev x) h1;exact OpOk.val h hd (v:=u) (by simp[h2]) h3
 ·rename_i x ho;simp only[ho];have hx:=h.ev x;split at hk
  ·rename_i id ver off he;cases hk;rw[he] at hx;have aa:=hx;obtain⟨ad,hp,_⟩:=hx.ptr_inv;exact OpOk.val h hd (v:=a.eval x) (by rw[hp];rfl) aa
  ·rename_i sz xs i off he;cases hk;rw[he] at hx;have aa:=hx;have:∃ad,a.eval x= .pointer (some ad):=by
    have:=hx.ip_inv;generalize a.eval x=u at this;cases this;exact⟨_,rfl⟩
   obtain⟨ad,hp⟩:=this;exact OpOk.val h hd (v:=a.eval x) (by rw[hp];rfl) aa
  ·rename_i f cs he;cases hk;rw[he] at hx;have aa:=hx;obtain⟨vs,hp,_⟩:=hx.fn_inv;exact OpOk.val h hd (v:=a.eval x) (by rw[hp];rfl) aa
  ·rename_i id he;cases hk;rw[he] at hx;have aa:=hx;obtain⟨l,hp,_⟩:=hx.yld_inv;exact OpOk.val h hd (v:=a.eval x) (by rw[hp];rfl) aa
  ·cases hk
 ·rename_i c ho;simp only[ho];split at hk
  ·rename_i b ah;obtain⟨aj,args,a3⟩:=c;dsimp only at ah;subst ah;simp only[resolve];have ab:args.map a.eval=(args.toList.map a.eval).toArray:=by apply Array.ext';rw[Array.toList_map]
   have hl:=LJ h args.toList;unfold Jl at hk;split at hk
   ·split at hk
    ·rename_i t x ht hx;obtain⟨v,h1,rfl⟩:=KG hk;obtain⟨y,hy,rfl⟩:∃y,args.toList=[y]∧st.ev gl y=x:=by
      match hh:args.toList with
      | []=>rw[hh] at hx;cases hx
      | [y]=>rw[hh] at hx;simp only[List.map_cons,List.map_nil,List.cons.injEq,and_true] at hx;exact⟨y,rfl,hx⟩
      |_::_::_=>rw[hh] at hx;simp at hx
     have e1:a3= #[t]:=by cases a3;simpa using ht
     have e2:args= #[y]:=by cases args;simpa using hy
     subst e1;subst e2;obtain⟨u,h2,h3⟩:=xlen_ok (P:=P) (w:=w) (ty:=o.type) (h.ev y) h1;refine OpOk.val h hd (v:=u) ?_ (.imm _ _ (h3 _));simp only[Sem.run_bind,Sem.run_pure,Result.andThen_ok,invoke,builtin,List.map_toArray,List.map_cons,List.map_nil,h2]
    ·cases hk
   ·obtain⟨v,h1,rfl⟩:=KG hk;obtain⟨u,h2,h3⟩:=Q2c (P:=P) (w:=w) true hl h1 a3 o.type;refine OpOk.val h hd (v:=u) ?_ (.imm _ _ (h3 _));rw[if_pos rfl] at h2;simp only[Sem.run_bind,Sem.run_pure,Result.andThen_ok,invoke,builtin];rw[ab,h2];rfl
   ·obtain⟨v,h1,rfl⟩:=KG hk;obtain⟨u,h2,h3⟩:=Q2c (P:=P) (w:=w) false hl h1 a3 o.type;refine OpOk.val h hd (v:=u) ?_ (.imm _ _ (h3 _));rw[if_neg (by simp)] at h2
    simp only[Sem.run_bind,Sem.run_pure,Result.andThen_ok,invoke,builtin];rw[ab,h2];rfl
   ·split at hk
    ·rename_i t t' s x ht hx;obtain⟨y,z,hy,rfl,rfl⟩:∃y z,args.toList=[y,z]∧st.ev gl y=s∧st.ev gl z=x:=by
      match hh:args.toList with
      | []=>rw[hh] at hx;cases hx
      | [y]=>rw[hh] at hx;simp at hx
      | [y,z]=>rw[hh] at hx;simp only[List.map_cons,List.map_nil,List.cons.injEq,and_true] at hx;exact⟨y,z,rfl,hx⟩
      |_::_::_::_=>rw[hh] at hx;simp at hx
     have e1:a3= #[t,t']:=by cases a3;simpa using ht
     have e2:args= #[y,z]:=by cases args;simpa using hy
     subst e1;subst e2;have:=Q3h (ty:=o.type) h hd hb hn (h.ev y) (h.ev z) hk;simpa only[List.map_toArray,List.map_cons,List.map_nil,invoke,builtin,pure_bind] using this
    ·cases hk
   ·cases hk
  ·cases hk
 ·cases hk
def xopX(P:Program)(bid:Nat)(op:Op)(ev:Operand→AV)(hp:Hp):Option (AV×Option (Nat×Box)):=
 match op with
 | .binOp o t x y _=>xv (NK P o t (ev x) (ev y) hp)
 | .convert src to x=>xv (NI P src to (ev x) hp)
 | .call c=>match c.callee with
  | .builtin b=>match b with
   | .append=>match c.argTypes.toList,c.args.toList.map ev with
    | [t,t'],[s,x]=>Lg P bid t t' s x hp
    |_,_=>none
   | .unsafeSliceData=>match c.args.toList.map ev with
    | [x]=>xv (R3 x)
    |_=>none
   | .unsafeString=>match c.argTypes.toList,c.args.toList.map ev with
    | [pt,_],[p,n]=>Li P pt p n hp
    |_,_=>none
   |_=>none
  |_=>none
 |_=>none
def xopO(P:Program)(op:Op)(ev:Operand→AV)(hp:Hp):Option (AV×Option (Nat×Box)):=
 match op with
 | .lookup t x i ok=>xv (Rz P t (ev x) (ev i) ok hp)
 | .call c=>match c.callee with
  | .builtin .append=>match c.argTypes.toList,c.args.toList.map ev with
   | [t,t'],[s,x]=>WP P t t' s x hp
   |_,_=>none
  |_=>none
 |_=>none
def xop(P:Program)(bid:Nat)(dst:Option Nat)(op:Op)(ev:Operand→AV)(hp:Hp):Option (AV×Option (Nat×Box)):=
 match xop0 P bid dst op ev hp with
 |some r=>some r
 |none=>match xopX P bid op ev hp with
  |some r=>some r
  |none=>xopO P op ev hp
theorem ZL{bid:Nat}{dst:Option Nat}{op:Op}{ev:Operand→AV}{hp:Hp}{r:AV×Option (Nat×Box)}(h:xop0 P bid dst op ev hp=some r):xop P bid dst op ev hp=some r:=by unfold xop;rw[h]
theorem Lp{bid:Nat}{dst:Option Nat}{op:Op}{ev:Operand→AV}{hp:Hp}{r:AV×Option (Nat×Box)}(h0:xop0 P bid dst op ev hp=none)(h:xopX P bid op ev hp=some r):xop P bid dst op ev hp=some r:=by unfold xop;rw[h0];simp only[h]
theorem xop_ofO{bid:Nat}{dst:Option Nat}{op:Op}{ev:Operand→AV}{hp:Hp}{r:AV×Option (Nat×Box)}(h0:xop0 P bid dst op ev hp=none)(h1:xopX P bid op ev hp=none)(h:xopO P op ev hp=some r):xop P bid dst op ev hp=some r:=by unfold xop;rw[h0];simp only[h1,h]
theorem N1{args:Array Operand}{f:Operand→AV}{s x:AV}(h:args.toList.map f=[s,x]):∃y z,args= #[y,z]∧f y=s∧f z=x:=by
 match hh:args.toList with
 | []=>rw[hh] at h;cases h
 | [y]=>rw[hh] at h;simp at h
 | [y,z]=>rw[hh] at h;simp only[List.map_cons,List.map_nil,List.cons.injEq,and_true] at h;exact⟨y,z,by cases args;simpa using hh,h.1,h.2⟩
 |_::_::_::_=>rw[hh] at h;simp at h
theorem Rp{args:Array Operand}{f:Operand→AV}{s:AV}(h:args.toList.map f=[s]):∃y,args= #[y]∧f y=s:=by
 match hh:args.toList with
 | []=>rw[hh] at h;cases h
 | [y]=>rw[hh] at h;simp only[List.map_cons,List.map_nil,List.cons.injEq,and_true] at h;exact⟨y,by cases args;simpa using hh,h⟩
 |_::_::_=>rw[hh] at h;simp at h
theorem In{ts:Array TypeId}{t t':TypeId}(h:ts.toList=[t,t']):ts= #[t,t']:=by cases ts;simpa using h
theorem xopX_ok(h:RelS m H B H0 gl rest st a.tmps w){o:Oper}(hd:Z4 o.dst st.n=true){bid:Nat}(hb:lkb st.hp bid=none)(hn:bid<st.nx){r:AV×Option (Nat×Box)}(hk:xopX P bid o.op (st.ev gl) (lkb st.hp)=some r):
  OpOk P B H0 gl rest a w o.dst (st.eff o.dst r) (execOp a.eval o):=by
 unfold xopX at hk;unfold execOp;split at hk
 ·rename_i op t x y ty ho;simp only[ho];obtain⟨v,h1,rfl⟩:=KG hk;obtain⟨u,h2,hg,h3⟩:=Q4t (P:=P) (ox:=x) (oy:=y) h.heap (h.ev x) (h.ev y) h1;exact OpOk.val h hd (v:=u) (by simp[hg,h2]) (.imm _ _ (h3 _))
 ·rename_i af to x ho;simp only[ho];obtain⟨v,h1,rfl⟩:=KG hk;obtain⟨u,h2,h3⟩:=Q4n (P:=P) h.heap (h.ev x) h1;exact OpOk.val h hd (v:=u) (by simp[h2]) h3
 ·rename_i c ho;simp only[ho];split at hk
  ·rename_i b a7;obtain⟨ab,args,a3⟩:=c;dsimp only at a7;subst a7;simp only[resolve];split at hk
   ·split at hk
    ·rename_i t t' s x ht hx;obtain⟨y,z,rfl,rfl,rfl⟩:=N1 hx;obtain rfl:=In ht;have:=Q6d (ty:=o.type) h hd hb hn (h.ev y) (h.ev z) hk;simpa only[List.map_toArray,List.map_cons,List.map_nil,invoke,builtin,pure_bind] using this
    ·cases hk
   ·split at hk
    ·rename_i x hx;obtain⟨v,h1,rfl⟩:=KG hk;obtain⟨y,rfl,rfl⟩:=Rp hx;obtain⟨u,h2,h3⟩:=Q4x (P:=P) (w:=w) (ts:=a3) (ty:=o.type) (h.ev y) h1;refine OpOk.val h hd (v:=u) ?_ h3;simp only[Sem.run_bind,Sem.run_pure,Result.andThen_ok,invoke,builtin,List.map_toArray,List.map_cons,List.map_nil,h2]
    ·cases hk
   ·split at hk
    ·rename_i pt it p n ht hx;obtain⟨y,z,rfl,rfl,rfl⟩:=N1 hx;obtain rfl:=In ht;have:=Q73 (it:=it) (ty:=o.type) h hd (h.ev y) (h.ev z) hk;simpa only[List.map_toArray,List.map_cons,List.map_nil,invoke,builtin,pure_bind] using this
    ·cases hk
   ·cases hk
  ·cases hk
 ·cases hk
theorem xopO_ok(h:RelS m H B H0 gl rest st a.tmps w){o:Oper}(hd:Z4 o.dst st.n=true){r:AV×Option (Nat×Box)}(hk:xopO P o.op (st.ev gl) (lkb st.hp)=some r):
  OpOk P B H0 gl rest a w o.dst (st.eff o.dst r) (execOp a.eval o):=by
 unfold xopO at hk;unfold execOp;split at hk
 ·rename_i t x i ok ho;simp only[ho];obtain⟨v,h1,rfl⟩:=KG hk;obtain⟨y,h2,h3⟩:=Q3k (P:=P) h.heap (h.ev x) (h.ev i) h1;exact OpOk.val h hd (v:=y) (by simp[h2]) h3
 ·rename_i c ho;simp only[ho];split at hk
  ·rename_i a4;obtain⟨a5,args,a3⟩:=c;dsimp only at a4;subst a4;simp only[resolve];split at hk
   ·rename_i t t' s x ht hx;obtain⟨y,z,rfl,rfl,rfl⟩:=N1 hx;obtain rfl:=In ht;have:=BF (ty:=o.type) h hd (h.ev y) (h.ev z) hk;simpa only[List.map_toArray,List.map_cons,List.map_nil,invoke,builtin,pure_bind] using this
   ·cases hk
  ·cases hk
 ·cases hk
theorem BP(h:RelS m H B H0 gl rest st a.tmps w){o:Oper}(hd:Z4 o.dst st.n=true){bid:Nat}(hb:lkb st.hp bid=none)(hn:bid<st.nx){r:AV×Option (Nat×Box)}(hk:xop P bid o.dst o.op (st.ev gl) (lkb st.hp)=some r):
  OpOk P B H0 gl rest a w o.dst (st.eff o.dst r) (execOp a.eval o):=by
 unfold xop at hk;split at hk;·rename_i r' hr;cases hk;exact xop0_ok h hd hb hn hr
 ·split at hk;·rename_i r' hr;cases hk;exact xopX_ok h hd hb hn hr
  ·exact xopO_ok h hd hk
end
end HY
end
section
namespace HY
open Go Go.RowKit Go.MapKept
def mput(k:List UInt8)(v:AV)(es:List (List UInt8×AV)):List (List UInt8×AV):=
 match Ig k es 0 with
 |some (i,_)=>es.set i (k,v)
 |none=>es++[(k,v)]
def HB(P:Program)(t:TypeId):Bool:=match P.underlying t with
 |some (.slice e)=>match P.underlying e with
  |some (.int .i32)=>true
  |_=>false
 |_=>false
theorem Q0b{P:Program}{t:TypeId}(h:HB P t=true):∃e,P.underlying t=some (.slice e)∧P.underlying e=some (.int .i32):=by
 unfold HB at h;split at h
 ·rename_i e he;split at h;·rename_i hi;exact⟨e,he,hi⟩
  ·cases h
 ·cases h
def SV:List AV→Option (List Int)
 | []=>some []
 | .int .i32 n::r=>match SV r with
  |some l=>some (n::l)
  |none=>none
 |_::_=>none
def Sq:List Int→Option (List UInt8)
 | []=>some []
 |n::r=>bif decide (0≤n)&&decide (n<128) then(match Sq r with
  |some l=>some (UInt8.ofNat n.toNat::l)
  |none=>none) else none
def BS(P:Program)(a3 to:TypeId)(x:AV)(hp:Hp):Option AV:=
 bif HB P a3&&J2 P to then(match x with
  | .bs id ver sz off len=>match hp id with
   |some (.cells v cs)=>match Nat.beq v ver&& (Nat.beq sz 1&&Nat.ble (off+len) cs.length) with
    |true=>match SV ((cs.drop off).take len) with
     |some ns=>match Sq ns with
      |some s=>some (.str s)
      |none=>none
     |none=>none
    |false=>none
   |_=>none
  | .nil=>some (.str [])
  |_=>none) else none
theorem T0:∀(ns:List Int) (s:List UInt8) (b:ByteArray),Sq ns=some s→ns.foldl (fun r n=>r++Utf8.encode n) b=b++⟨s.toArray⟩
 | [],s,b,h=>by
  cases h;rw[show(⟨([]:List UInt8).toArray⟩:ByteArray)=ByteArray.empty from rfl];simp
 |n::r,s,b,h=>by
  simp only[Sq] at h;cases hc:(decide (0≤n)&&decide (n<128)) with
  |false=>rw[hc] at h;cases h
  |true=>
   rw[hc] at h;simp only[cond_true] at h;rw[Bool.and_eq_true,decide_eq_true_eq,decide_eq_true_eq] at hc;split at h
   ·rename_i l hl;cases h;rw[List.foldl_cons,T0 r l _ hl];have he:Utf8.encode n=⟨#[UInt8.ofNat n.toNat]⟩:=by
     unfold Utf8.encode;have hv:Utf8.valid n=true:=by unfold Utf8.valid;simp;omega
     simp only[hv,if_true];rw[if_pos (by omega)]
    rw[he];apply ByteArray.ext;simp
   ·cases h
theorem Tg:∀(cs:List AV) (ns:List Int),SV cs=some ns→cs=ns.map (AV.int .i32)
 | [],ns,h=>by cases h;rfl
 |c::r,ns,h=>by
  unfold SV at h;split at h;·rename_i h1;cases h1
  ·rename_i n r' h1;cases h1;split at h
   ·rename_i l hl;cases h;rw[Tg _ _ hl];rfl
   ·cases h
  ·cases h
def xmput(P:Program)(t:TypeId)(x i v:AV)(hp:Hp):Option (AV×Option (Nat×Box)):=
 match x with
 | .mp id=>match hp id with
  |some (.map es)=>match i with
   | .str k=>match IX P t with
    |some _=>some (.undef,some (id,.map (mput k v es)))
    |none=>none
   |_=>none
  |_=>none
 |_=>none
abbrev CallX:=Nat→List AV→Tr Box→Nat→Option (AV×Tr Box×Nat)
def mdel(k:List UInt8)(es:List (List UInt8×AV)):List (List UInt8×AV):=
 match Ig k es 0 with
 |some (i,_)=>es.eraseIdx i
 |none=>es
def xmdel(P:Program)(t:TypeId)(x i:AV)(hp:Hp):Option (AV×Option (Nat×Box)):=
 match x with
 | .mp id=>match hp id with
  |some (.map es)=>match i with
   | .str k=>match IX P t with
    |some _=>some (.tup [],some (id,.map (mdel k es)))
    |none=>none
   |_=>none
  |_=>none
 |_=>none
def RE(sz n:Nat)(zs:List AV):List AV:=(List.range (n*sz)).map fun i=>(zs[i%sz]?).getD .undef
def BK(P:Program)(t:TypeId)(x:AV)(hp:Hp):Option (AV×Option (Nat×Box)):=
 match elG P t with
 |some (sz,_,zs)=>match x with
  | .nil=>some (.tup [],none)
  | .bs id ver z off len=>match hp id with
   |some (.cells v cs)=>match Nat.beq v ver&& (Nat.beq z sz&&Nat.ble (off+len*sz) cs.length) with
    |true=>match Nat.beq len 0 with
     |true=>some (.tup [],none)
     |false=>some (.tup [],some (id,.cells v (cs.take off++(RE sz len zs++cs.drop (off+len*sz)))))
    |false=>none
   |_=>none
  |_=>none
 |none=>none
def xdel(nf sz:Nat)(zs:List AV):CallX:=fun f args hp nx=>bif Nat.beq f nf then(match args with
 | [.bs id ver z off len,.int .i64 i,.int .i64 j]=>match lkb hp id with
  |some (.cells v cs)=>match Nat.beq v ver&& (Nat.beq z sz&& (Nat.ble (off+len*sz) cs.length&& (decide (0≤i)&& (decide (i<len)&&decide (j=i+1))))) with
   |true=>some (.bs id ver z off (len - 1),pt hp id (.cells v (cs.take (off+i.toNat*sz)++((cs.drop (off+(i.toNat+1)*sz)).take ((len - (i.toNat+1))*sz)++(zs++cs.drop (off+len*sz))))),nx)
   |false=>none
  |_=>none
 |_=>none) else none
def xmlen(P:Program)(t:TypeId)(x:AV)(hp:Hp):Option AV:=
 match x with
 | .mp id=>match hp id with
  |some (.map es)=>match IX P t with
   |some _=>some (.int .i64 es.length)
   |none=>none
  |_=>none
 |_=>none
def xcopy(P:Program)(t:TypeId)(x y:AV)(hp:Hp):Option (AV×Option (Nat×Box)):=
 match elG P t with
 |some (sz,_,_)=>match xsrc sz y hp with
  |some (n,ds)=>match x with
   | .bs id ver z off len=>match hp id with
    |some (.cells v cs)=>match Nat.beq v ver&& (Nat.beq z sz&&Nat.ble (off+len*sz) cs.length) with
     |true=>match Nat.beq (Nat.min n len) 0 with
      |true=>some (.int .i64 0,none)
      |false=>some (.int .i64 (Nat.min n len),some (id,.cells v (cs.take off++(ds.take (Nat.min n len*sz)++cs.drop (off+Nat.min n len*sz)))))
     |false=>none
    |_=>none
   |_=>none
  |none=>none
 |none=>none
def xopM(P:Program)(bid:Nat)(dst:Option Nat)(op:Op)(ev:Operand→AV)(hp:Hp):Option (AV×Option (Nat×Box)):=
 match op with
 | .makeMap _ none=>some (.mp bid,some (bid,.map []))
 | .convert src to x=>xv (BS P src to (ev x) hp)
 | .mapUpdate t x i v=>if dst.isNone then xmput P t (ev x) (ev i) (ev v) hp else none
 | .call c=>match c.callee with
  | .builtin .copy=>match c.argTypes.toList,c.args.toList.map ev with
   | [t,_],[x,y]=>xcopy P t x y hp
   |_,_=>none
  | .builtin .clear=>match c.argTypes.toList,c.args.toList.map ev with
   | [t],[x]=>BK P t x hp
   |_,_=>none
  | .builtin .len=>match c.argTypes.toList,c.args.toList.map ev with
   | [t],[x]=>xv (xmlen P t x hp)
   |_,_=>none
  | .builtin .delete=>match c.argTypes.toList,c.args.toList.map ev with
   | [t,_],[x,y]=>xmdel P t x y hp
   |_,_=>none
  |_=>none
 |_=>none
section
variable {P : Program} {m : Nat → Lc} {H : HV} {B : Nat → Prop} {H0 : HV} {gl : Nat → AV} {rest : List (AV × Value)} {st : St} {a : Act} {w : World}
theorem RelH.newObj{hp:Hp}{nx:Nat}(h:RelH m H B H0 gl hp nx w){id:Nat}(hn:hp id=none){nx':Nat}(a7:id<nx')(a8:nx≤nx')(o:Obj)(b:Box)(a3:b.ver? =none)(hb:YK H (Q8 (updF hp id (some b)) (updF m id ⟨w.heap.size,0,0⟩)) b ⟨w.heap.size,0,0⟩ (w.alloc o)):
  RelH (updF m id ⟨w.heap.size,0,0⟩) H B H0 gl (updF hp id (some b)) nx' (w.alloc o)∧Env.le (Q8 hp m) (Q8 (updF hp id (some b)) (updF m id ⟨w.heap.size,0,0⟩)):=by
 have hE:=NX (m:=m) (hp:=hp) (b:=b) (l:=⟨w.heap.size,0,0⟩) hn;have a5:∀o,H w.heap.size o=none:=fun o=>by
  cases hh:H w.heap.size o with
  |none=>rfl
  |some v=>have:=Uu h.sat hh;omega
 exact⟨h.one (l:=⟨w.heap.size,0,0⟩) (fun k hk _=>US w _ k hk) (by rw[Yc];omega) hE ⟨h.notB,by rw[Yc];show w.heap.size<_;omega,a5⟩ (fun a6 b' _ a4 hr=>by
  have:=(h.sepR a6 b' a4 hr).2.1;show(m a6).g≠w.heap.size;omega) a7 a8 hb (fun ver cs e=>by subst e;cases a3) (Box.elder_real (Box.nover a3) _),hE⟩
theorem RelH.putObj{hp:Hp}{nx:Nat}(h:RelH m H B H0 gl hp nx w){id:Nat}{b b':Box}(a3:hp id=some b)(h1:b.ver? =none)(h2:b'.ver? =none)(o:Obj)(h3:∀(C:Array Value) (e:TypeId) (fr:Nat×Nat),w.heap[(m id).g]? ≠some (Obj.cells C e fr))
  (hb:∀E',Env.le (Q8 hp m) E'→YK H E' b' (m id) (w.putObj (m id).g o)):RelH m H B H0 gl (updF hp id (some b')) nx (w.putObj (m id).g o)∧Env.le (Q8 hp m) (Q8 (updF hp id (some b')) m)∧Qd B w (w.putObj (m id).g o):=by
 have hm:updF m id (m id)=m:=by funext k;simp only[updF];split<;>simp[*]
 have hE:=env_obj (m:=m) (hp:=hp) (l:=m id) a3 h1 h2 rfl;have a5:=Box.elder_real (Box.nover h1) (m id);obtain⟨s1,s2,s3⟩:=h.sepR id b a3 a5;have a4:id<nx:=by
  rcases Nat.lt_or_ge id nx with aa | a9
  ·exact aa
  ·have:=h.fresh id a9;rw[this] at a3;cases a3
 have:=h.one (id:=id) (b:=b') (l:=m id) (w':=w.putObj (m id).g o) (fun k _ hk=>World.putObj_heap_other hk) (by simp) hE ⟨s1,by simpa using s2,s3⟩ (fun ac b2 ab a8 hr e=>ab (h.injR ac id b2 b a8 a3 hr a5 e)) a4 (Nat.le_refl _) (hb _ hE) (fun ver cs e=>by subst e;cases h2) (Box.elder_real (Box.nover h2) _)
 rw[hm] at this hE;exact⟨this,hE,rfl,rfl,rfl,by simp,fun k hk=>World.putObj_heap_other (fun e=>by subst e;exact s1 hk),fun k C e fr hk=>by
  by_cases hkg:k=(m id).g;·subst hkg;exact absurd hk (h3 C e fr)
  ·exact⟨C,fr,by rw[World.putObj_heap_other hkg];exact hk,rfl⟩⟩
theorem Q1b{E':Env}{es:List (List UInt8×AV)}{A:Array MapEntry}(h:MX H E' es A)(s:List UInt8){v:AV}{u:Value}(hv:RV H E' v u)(c:Nat):
  match Ig s es 0 with
  |none=>MX H E' (mput s v es) (A.push {key:=.string ⟨s.toArray⟩,val:=u,born:=c})
  |some (j,_)=>MX H E' (mput s v es) (A.modify j fun e=> {e with key:=.string ⟨s.toArray⟩,val:=u}):=by
 unfold mput;split
 ·rename_i hm;rw[hm];refine⟨by simp[h.1],fun j k x e hj he=> ?_⟩
  rw[Array.getElem?_push] at he;by_cases hl:j<es.length
  ·rw[List.getElem?_append_left hl] at hj;rw[if_neg (by rw[h.1];omega)] at he
   exact h.2 j k x e hj he
  ·rw[List.getElem?_append_right (by omega)] at hj
   have a4:j - es.length=0:=by
    have:=(List.getElem?_eq_some_iff.1 hj).1;simpa using this
   rw[a4] at hj;simp only[List.getElem?_cons_zero,Option.some.injEq,Prod.mk.injEq] at hj;obtain⟨rfl,rfl⟩:=hj;rw[if_pos (by rw[h.1];omega)] at he
   cases he;exact⟨rfl,hv⟩
 ·rename_i i x hm;rw[hm];refine⟨by simp[h.1],fun j k x e hj he=> ?_⟩
  rw[Array.getElem?_modify] at he;rw[List.getElem?_set] at hj;by_cases hij:i=j
  ·subst hij;rw[if_pos rfl] at he hj;split at hj
   ·simp only[Option.some.injEq,Prod.mk.injEq] at hj;obtain⟨rfl,rfl⟩:=hj;simp only[Option.map_eq_some_iff] at he;obtain⟨e0,_,rfl⟩:=he;exact⟨rfl,hv⟩
   ·cases hj
  ·rw[if_neg hij] at he hj;exact h.2 j k x e hj he
theorem Q6p(h:RelS m H B H0 gl rest st a.tmps w){t:TypeId}{x i y:AV}{u v z:Value}{r:AV×Option (Nat×Box)}(hx:RV H (st.env m) x u)(hi:RV H (st.env m) i v)(hy:RV H (st.env m) y z)(hk:xmput P t x i y (lkb st.hp)=some r){dst:Option Nat}(hd:Z4 dst st.n=true){s:Sem Next}
  (hs:∀w',(Instr.mapUpdate t u v z).run P w= .ok () w'→s.run P w= .ok .skip w'):OpOk P B H0 gl rest a w dst (st.eff dst r) s:=by
 unfold xmput at hk;split at hk<;>first | cases hk | skip
 split at hk<;>first | cases hk | skip
 rename_i id _ es a7;split at hk<;>first | cases hk | skip
 rename_i _ k;split at hk<;>first | cases hk | skip
 rename_i e he;obtain⟨kt,hm,a4⟩:=Im he;obtain⟨A,c,hA,a3,ah⟩:=Px h.heap a7;obtain⟨l,rfl,hl⟩:=hx.mp_inv;have ag:l=(m id).g:=by have:(st.env m).lp id=some (m id).g:=ah;rw[this] at hl;exact(Option.some.inj hl).symm
 subst ag;rw[hi.str_inv] at hs;have ai:(m id).g<w.heap.size:=(h.heap.sep id _ a7).2.1;have key:∃A' c',(Instr.mapUpdate t (.map (some (m id).g)) (.string ⟨k.toArray⟩) z).run P w= .ok () (w.putObj (m id).g (.map A' c'))∧∀E',Env.le (st.env m) E'→MX H E' (mput k y es) A':=by
  have hf:=HC a3 k;split at hf
  ·rename_i a8;refine⟨A.push {key:=.string ⟨k.toArray⟩,val:=z,born:=c},c+1,?_,fun E' hE=> ?_⟩
   ·simp[Instr.mapUpdate,run_underlying hm,run_getObj_map hA,run_checkKey a4 (isK k),run_findKey a4 hf,run_setObj_map _ hA,Result.andThen];rfl
   ·have:=Q1b (E':=E') (es:=es) (A:=A) ⟨a3.1,fun j k x e h1 h2=>let⟨a,b⟩:=a3.2 j k x e h1 h2;⟨a,b.mono (.refl _) hE⟩⟩ k (hy.mono (.refl _) hE) c
    rw[a8] at this;exact this
  ·rename_i j x a8;obtain⟨en,f1,f2,f3⟩:=hf;obtain⟨aa,_⟩:=a3.2 j k x en f3 f2;refine⟨A.modify j fun e=> {e with key:=.string ⟨k.toArray⟩,val:=z},c,?_,fun E' hE=> ?_⟩
   ·simp[Instr.mapUpdate,run_underlying hm,run_getObj_map hA,run_checkKey a4 (isK k),run_findKey a4 f1,f2,aa,run_keyThatStays (isK k),run_setObj_map _ hA,Result.andThen];rfl
   ·have:=Q1b (E':=E') (es:=es) (A:=A) ⟨a3.1,fun j k x e h1 h2=>let⟨a,b⟩:=a3.2 j k x e h1 h2;⟨a,b.mono (.refl _) hE⟩⟩ k (hy.mono (.refl _) hE) c
    rw[a8] at this;exact this
 obtain⟨A',c',ab,a5⟩:=key;obtain⟨hh,hE,hb⟩:=h.heap.putObj a7 rfl (b':=.map (mput k y es)) rfl (.map A' c') (fun C e fr q=>by rw[hA] at q;cases q) (fun E' a9=>⟨A',c',World.putObj_heap_same ai,(a5 E' a9).1,(a5 E' a9).2⟩)
 exact OpOk.heap h hd (hs _ ab) (.inr ⟨rfl,rfl⟩) hb hh hE (.imm _ _ (.undef _))
theorem mdel_at{E':Env}{es:List (List UInt8×AV)}{A:Array MapEntry}(h:MX H E' es A)(j:Nat):MX H E' (es.eraseIdx j) (A.eraseIdxIfInBounds j):=by
 obtain⟨h1,h2⟩:=h;have a4:(A.eraseIdxIfInBounds j).toList=A.toList.eraseIdx j:=by simp
 refine⟨?_,fun q k x e hj he=> ?_⟩
 ·have:=congrArg List.length a4;simp only[Array.length_toList,List.length_eraseIdx] at this;rw[this,List.length_eraseIdx,h1]
 ·have a3:(A.toList.eraseIdx j)[q]? =some e:=by rw[← a4,Array.getElem?_toList];exact he
  rw[List.getElem?_eraseIdx] at hj a3;split at hj;·rename_i hq;rw[if_pos hq,Array.getElem?_toList] at a3;exact h2 q k x e hj a3
  ·rename_i hq;rw[if_neg hq,Array.getElem?_toList] at a3;exact h2 (q+1) k x e hj a3
theorem Q6m(h:RelS m H B H0 gl rest st a.tmps w){t t' ty:TypeId}{x i:AV}{u v:Value}{r:AV×Option (Nat×Box)}(hx:RV H (st.env m) x u)(hi:RV H (st.env m) i v)(hk:xmdel P t x i (lkb st.hp)=some r){dst:Option Nat}(hd:Z4 dst st.n=true):
  OpOk P B H0 gl rest a w dst (st.eff dst r) (do pure (.value (← Builtin.delete_ #[t,t'] ty #[u,v]))):=by
 unfold xmdel at hk;split at hk<;>first | cases hk | skip
 split at hk<;>first | cases hk | skip
 rename_i id _ es a6;split at hk<;>first | cases hk | skip
 rename_i _ k;split at hk<;>first | cases hk | skip
 rename_i e he;obtain⟨kt,hm,a4⟩:=Im he;obtain⟨A,c,hA,a3,af⟩:=Px h.heap a6;obtain⟨l,rfl,hl⟩:=hx.mp_inv;have ae:l=(m id).g:=by have:(st.env m).lp id=some (m id).g:=af;rw[this] at hl;exact(Option.some.inj hl).symm
 subst ae;rw[hi.str_inv];have ag:(m id).g<w.heap.size:=(h.heap.sep id _ a6).2.1;have key:∃A',(Builtin.delete_ #[t,t'] ty #[.map (some (m id).g),.string ⟨k.toArray⟩]).run P w= .ok (.tuple #[]) (w.putObj (m id).g (.map A' c))∧∀E',Env.le (st.env m) E'→MX H E' (mdel k es) A':=by
  have hf:=HC a3 k;unfold mdel;split at hf
  ·rename_i a7;refine⟨A,?_,fun E' hE=> ?_⟩
   ·simp[Builtin.delete_,run_underlying hm,run_getObj_map hA,run_checkKey a4 (isK k),run_findKey a4 hf,run_setObj_map _ hA,Result.andThen];rfl
   ·rw[a7];exact⟨a3.1,fun j k x e h1 h2=>let⟨a,b⟩:=a3.2 j k x e h1 h2;⟨a,b.mono (.refl _) hE⟩⟩
  ·rename_i j x a7;obtain⟨en,f1,f2,f3⟩:=hf;refine⟨A.eraseIdxIfInBounds j,?_,fun E' hE=> ?_⟩
   ·simp[Builtin.delete_,run_underlying hm,run_getObj_map hA,run_checkKey a4 (isK k),run_findKey a4 f1,run_setObj_map _ hA,Result.andThen];rfl
   ·rw[a7];exact mdel_at ⟨a3.1,fun j k x e h1 h2=>let⟨a,b⟩:=a3.2 j k x e h1 h2;⟨a,b.mono (.refl _) hE⟩⟩ j
 obtain⟨A',aa,a5⟩:=key;obtain⟨hh,hE,hb⟩:=h.heap.putObj a6 rfl (b':=.map (mdel k es)) rfl (.map A' c) (fun C e fr q=>by rw[hA] at q;cases q) (fun E' a9=>⟨A',c,World.putObj_heap_same ag,(a5 E' a9).1,(a5 E' a9).2⟩)
 exact OpOk.heap h hd (nx:=.value (.tuple #[])) (by rw[Sem.run_bind,aa];rfl) (.inl rfl) hb hh hE (.imm _ _ (.tup _ _ rfl (fun j c v hj=>by simp at hj)))
theorem Q6o(h:RelS m H B H0 gl rest st a.tmps w){t ty:TypeId}{x r:AV}{u:Value}(hx:RV H (st.env m) x u)(hk:xmlen P t x (lkb st.hp)=some r):
  ∃y,(Builtin.len_ #[t] ty #[u]).run P w= .ok y w∧RV H (st.env m) r y:=by
 unfold xmlen at hk;split at hk<;>first | cases hk | skip
 split at hk<;>first | cases hk | skip
 rename_i id _ es a4;split at hk<;>first | cases hk | skip
 rename_i e he;obtain⟨kt,hm,a8⟩:=Im he;obtain⟨A,c,hA,a3,a6⟩:=Px h.heap a4;obtain⟨l,rfl,hl⟩:=hx.mp_inv;have a5:l=(m id).g:=by have:(st.env m).lp id=some (m id).g:=a6;rw[this] at hl;exact(Option.some.inj hl).symm
 subst a5;refine⟨.int .i64 A.size,?_,by rw[a3.1];exact .imm _ _ (.int _ _)⟩
 simp[Builtin.len_,run_underlying hm,run_getObj_map hA,goInt,Result.andThen]
theorem Q4w{nx:Nat}{hp:Hp}(h:RelH m H B H0 gl hp nx w){a3 to:TypeId}{x r:AV}{u:Value}(hx:RV H (Q8 hp m) x u)(hk:BS P a3 to x hp=some r):
  ∃y,(convert a3 to u).run P w= .ok y w∧RV H (Q8 hp m) r y:=by
 unfold BS at hk;cases hc:(HB P a3&&J2 P to) with
 |false=>rw[hc] at hk;cases hk
 |true=>
  rw[hc] at hk;simp only[cond_true] at hk;rw[Bool.and_eq_true] at hc;obtain⟨e,hs,he⟩:=Q0b hc.1;have hd:=GK hc.2;split at hk<;>first | cases hk | skip
  ·rename_i id ver sz off len;split at hk<;>first | cases hk | skip
   rename_i v cs a7;split at hk<;>first | cases hk | skip
   rename_i a4;split at hk<;>first | cases hk | skip
   rename_i ns ab;split at hk<;>first | cases hk | skip
   rename_i s ac;simp only[Bool.and_eq_true] at a4;obtain rfl:=Nat.eq_of_beq_eq_true a4.1;obtain rfl:=Nat.eq_of_beq_eq_true a4.2.1;have am:=Nat.le_of_ble_eq_true a4.2.2;obtain⟨a,cap,rfl,_,_,_,a8⟩:=hx.bs_inv;obtain⟨rfl,_⟩:=a8 (m id) (Y8 a7);obtain⟨C,e',hC,ao,ak,aa⟩:=h.box id _ a7;have a6:=Tg _ _ ab;have an:ns.length=len:=by have:=congrArg List.length a6;simp at this;omega
   refine⟨.string (runesBytes (ns.take len)),run_convert_runes w a3 to e _ len cap ns (by omega) hs he hd fun j hj=> ?_,?_⟩
   ·have h1:cs[off+j]? =some (.int .i32 (ns.getD j 0)):=by
     have h2:((cs.drop off).take len)[j]? =(ns.map (AV.int .i32))[j]? :=by rw[a6]
     rw[List.getElem?_take,if_pos (by omega),List.getElem?_drop,List.getElem?_map,List.getElem?_eq_getElem hj] at h2
     rw[h2,List.getD_eq_getElem?_getD,List.getElem?_eq_getElem hj];rfl
    obtain⟨v,f1,f2,f3⟩:=aa _ _ h1;cases f3 with
    |imm _ _ f3=>
     cases f3;rw[Xb];simp only[World.cell?,hC];rw[← f1,Nat.add_assoc];rfl
   ·rw[List.take_of_length_le (by omega)]
    have:=T0 ns s ByteArray.empty ac;unfold runesBytes;rw[this,ByteArray.empty_append];exact .imm _ _ (.str s)
  ·rw[hx.nil_inv];exact⟨_,run_convert_runes_nil w a3 to e 0 0 hs he hd,.imm _ _ (.str [])⟩
theorem Q0n(t t' ty e:TypeId)(i:TypeInfo)(ht:P.underlying t=some (.slice e))(hi:P.info? e=some i)
  (g o a4 a7:Nat) (a0:Addr) (a3 a6:Nat) (a5:Array Value) (e':TypeId) (vs:List Value) (hg:w.heap[g]? =some (.cells a5 e' (0,0))) (hl:vs.length=Nat.min a3 a4*i.size)
  (a9:∀(j:Nat) (v:Value),vs[j]? =some v→w.cell? (a0.add j)=some v) (a8:o+vs.length≤a5.size) (h1:∀v∈vs,v.oneCell'=true):
  (Builtin.copy_ #[t,t'] ty #[.slice (some ⟨g,o,none⟩) a4 a7,.slice (some a0) a3 a6]).run P w=
   .ok (goInt (Nat.min a3 a4)) (w.setRow g (a5.toList.take o++vs++a5.toList.drop (o+vs.length)).toArray):=by
 have hf:=run_firstCells_some (P:=P) (w:=w) i.size (Nat.min a3 a4) a0 a3 a6 vs hl a9;have aa:=run_storeCells_at P g o e' vs 0 a5 w hg (by simpa using a8) h1
 simp only[Nat.add_zero] at aa;simp[Builtin.copy_,run_underlying ht,Go.sizeOf,typeInfo,hi,Builtin.lenOf,hf,aa]
theorem Pf(t t' ty e:TypeId)(i:TypeInfo)(ht:P.underlying t=some (.slice e))(hi:P.info? e=some i)(b a0:Option Addr)(n c m c':Nat)(h0:Nat.min m n=0):
  (Builtin.copy_ #[t,t'] ty #[.slice b n c,.slice a0 m c']).run P w= .ok (goInt 0) w:=by
 cases a0 with
 |none=>cases b<;>simp[Builtin.copy_,run_underlying ht,Go.sizeOf,typeInfo,hi,Builtin.lenOf,Builtin.firstCells,h0,storeCells]
 |some a=>cases b<;>simp[Builtin.copy_,run_underlying ht,Go.sizeOf,typeInfo,hi,Builtin.lenOf,Builtin.firstCells,h0,storeCells,loadCells,loadCellsFrom]
theorem Q6i(h:RelS m H B H0 gl rest st a.tmps w){dst:Option Nat}(hd:Z4 dst st.n=true){t t' ty:TypeId}{x y:AV}{u v:Value}{r:AV×Option (Nat×Box)}(hx:RV H (st.env m) x u)(hy:RV H (st.env m) y v)(hk:xcopy P t x y (lkb st.hp)=some r):
  OpOk P B H0 gl rest a w dst (st.eff dst r) (do pure (.value (← Builtin.copy_ #[t,t'] ty #[u,v]))):=by
 unfold xcopy at hk;split at hk<;>first | cases hk | skip
 rename_i sz ba zs ht;obtain⟨e,i,z0,ak,hi,hz,bu,ah,ae,bf,bo,rfl⟩:=Dk ht;split at hk<;>first | cases hk | skip
 rename_i n ds aj;obtain⟨ad,c,vs,rfl,hr,bh,ab⟩:=RD h.heap hy aj ah;split at hk<;>first | cases hk | skip
 rename_i id ver z off len;split at hk<;>first | cases hk | skip
 rename_i v' cs a4;split at hk<;>first | cases hk | skip
 rename_i hc;simp only[Bool.and_eq_true] at hc;obtain rfl:=Nat.eq_of_beq_eq_true hc.1;obtain rfl:=Nat.eq_of_beq_eq_true hc.2.1;have b7:=Nat.le_of_ble_eq_true hc.2.2;obtain⟨b,cap,rfl,bn,bg,_,ag⟩:=hx.bs_inv;obtain⟨rfl,ax⟩:=ag (m id) (Y8 a4);split at hk
 ·rename_i h0;cases hk;have h0:=Nat.eq_of_beq_eq_true h0;exact OpOk.val h hd (by rw[Sem.run_bind,Pf t t' ty e i ak hi _ ad len cap n c h0];rfl) (.imm _ _ (.int _ _))
 ·rename_i h0;cases hk;have h0:Nat.min n len≠0:=fun e=>by rw[e] at h0;cases h0
  generalize hkk:Nat.min n len=k at*;have az:k≤n:=by rw[← hkk];exact Nat.min_le_left _ _
  have b0:k≤len:=by rw[← hkk];exact Nat.min_le_right _ _
  obtain⟨a0,rfl,a9⟩:=ab (by omega)
  obtain⟨C,e2,hC,hs,b1,au⟩:=h.heap.box id _ a4;have bm:k*z≤n*z:=Nat.mul_le_mul_right _ az;have bl:k*z≤len*z:=Nat.mul_le_mul_right _ b0;have aw:ds.length=vs.length:=hr.1;have an:QZ (RV H (st.env m)) (ds.take (k*z)) (vs.take (k*z)):=⟨by simp[aw],fun j c hj=>by
   rw[List.getElem?_take] at hj ⊢;split at hj
   ·rename_i ac;rw[if_pos ac];exact hr.2 j c hj
   ·cases hj⟩
  have am:(vs.take (k*z)).length=k*z:=by simp;omega
  have a7:(ds.take (k*z)).length=k*z:=by simp;omega
  have hE:=TH (m:=m) (hp:=lkb st.hp) (cs':=cs.take off++(ds.take (k*z)++cs.drop (off+k*z))) (l:=m id) a4 rfl;have a8:=h.heap.sep id _ a4;have ai:=AQ (base:=(m id).base) (off:=off) b1 au an (by omega) (by omega)
  have hh:=h.heap.one (id:=id) (b:=.cells v' (cs.take off++(ds.take (k*z)++cs.drop (off+k*z)))) (l:=m id) (w':=w.setRow (m id).g (C.toList.take ((m id).base+off)++vs.take (k*z)++C.toList.drop ((m id).base+off+(vs.take (k*z)).length)).toArray)
   (fun k _ hk=>setRow_other w _ k _ hk) (by simp[World.setRow]) hE ⟨a8.1,by simp[World.setRow];exact a8.2.1,a8.2.2⟩ (fun b3 b' b2 ar hr e=>b2 (h.heap.injR b3 id b' _ ar a4 hr trivial e)) (by
    rcases Nat.lt_or_ge id st.nx with ac | ay
    ·exact ac
    ·have:=h.heap.fresh id ay;rw[this] at a4;cases a4) (Nat.le_refl _) (by
    refine⟨_,e2,setRow_heap w _ C _ e2 _ hC,?_,?_,fun j c hj=> ?_⟩
    ·simp;omega
    ·simp;omega
    ·rw[← a7] at hj;simp only[a7] at hj;obtain⟨v2,a1,a2,a3⟩:=ai j c (by rw[a7];exact hj)
     exact⟨v2,a1,a2,a3.mono (.refl _) hE⟩) (fun ver bb e3=>by
    cases e3;rcases h.heap.ty id _ _ a4 with h0 | ⟨h1,C2,fr,h2⟩
    ·exact .inl h0
    ·rw[hC] at h2;cases h2;exact .inr ⟨h1,_,_,setRow_heap w _ C _ _ _ hC⟩)
  have hm:updF m id (m id)=m:=by funext k;simp only[updF];split<;>simp[*]
  refine OpOk.heap (v:=goInt k) h hd ?_ (.inl rfl) (Cq h.heap a4 _ (fun C0 e0 bc h0=>by rw[hC] at h0;cases h0;simp;omega)) hh hE (.imm _ _ (.int _ _))
  have aa:=Q0n (P:=P) (w:=w) t t' ty e i ak hi (m id).g ((m id).base+off) len cap a0 n c C e2 (vs.take (k*z)) hC (by rw[am,hkk,ae]) (fun j v hj=>by
   rw[List.getElem?_take] at hj;split at hj;·exact a9 j v hj
   ·cases hj) (by rw[am];omega) an.mem
  rw[hkk] at aa;rw[Sem.run_bind,aa];rfl
theorem Gq{e:TypeId}{fr:Nat×Nat}(b:Nat):∀(vs:List Value) (o:Nat) (w:World) (C:Array Value),w.heap[b]? =some (.cells C e fr)→o+vs.length≤C.size→
  ∃C',(w.setCells b o vs).heap[b]? =some (.cells C' e fr)∧C'.size=C.size∧(∀j,j<vs.length→C'[o+j]? =vs[j]?)∧(∀k,k<o∨o+vs.length≤k→C'[k]? =C[k]?)∧(w.setCells b o vs).heap.size=w.heap.size
 | [],o,w,C,h,_=>⟨C,h,rfl,fun j hj=>by simp at hj,fun _ _=>rfl,rfl⟩
 |v::vs,o,w,C,h,ho=>by
  simp only[List.length_cons] at ho;have hb:b<w.heap.size:=(Array.getElem?_eq_some_iff.1 h).1;have h0:(w.setCell ⟨b,o,none⟩ v).heap[b]? =some (.cells (C.setIfInBounds o v) e fr):=by
   show(w.heap.modify b _)[b]? =_;rw[Array.getElem?_modify,if_pos rfl,h];rfl
  obtain⟨C',a1,a2,a3,a4,a5⟩:=Gq b vs (o+1) (w.setCell ⟨b,o,none⟩ v) _ h0 (by simp;omega)
  refine⟨C',a1,by rw[a2];simp,fun j hj=> ?_,fun k hk=> ?_,by rw[show(w.setCells b o (v::vs))=(w.setCell ⟨b,o,none⟩ v).setCells b (o+1) vs from rfl,a5];show(w.heap.modify b _).size=_;simp⟩
  ·cases j with
   |zero=>
    rw[Nat.add_zero,a4 o (by omega),Array.getElem?_setIfInBounds];simp;omega
   |succ j=>
    have:=a3 j (by simp at hj;omega)
    rw[show o+(j+1)=o+1+j by omega,this];rfl
  ·simp only[List.length_cons] at hk;rw[a4 k (by omega),Array.getElem?_setIfInBounds,if_neg (by omega)]
theorem WO(b:Nat):∀(vs:List Value) (o:Nat) (w:World),(w.setCells b o vs).os=w.os∧(w.setCells b o vs).tape=w.tape∧(w.setCells b o vs).output=w.output∧∀k,k≠b→(w.setCells b o vs).heap[k]? =w.heap[k]?
 | [],o,w=>⟨rfl,rfl,rfl,fun _ _=>rfl⟩
 |v::vs,o,w=>by
  obtain⟨a1,a2,a3,a4⟩:=WO b vs (o+1) (w.setCell ⟨b,o,none⟩ v);refine⟨a1,a2,a3,fun k hk=>(a4 k hk).trans ?_⟩
  show(w.heap.modify b _)[k]? =_;rw[Array.getElem?_modify,if_neg (Ne.symm hk)]
structure PutC (H:HV) (E:Env) (w W:World) (l:Lc) (cs':List AV):Prop where
 os:W.os=w.os
 tape:W.tape=w.tape
 out:W.output=w.output
 size:w.heap.size≤W.heap.size
 oth:∀k,k<w.heap.size→k≠l.g→W.heap[k]? =w.heap[k]?
 row:∀C e,w.heap[l.g]? =some (.cells C e (0,0))→∃C',W.heap[l.g]? =some (.cells C' e (0,0))∧C'.size=C.size∧l.base+cs'.length≤C.size∧
  ∀j c,cs'[j]? =some c→∃v,C'[l.base+j]? =some v∧v.oneCell'=true∧RV H E c v
theorem Mt{hp:Hp}{nx:Nat}{W:World}{id ver:Nat}{cs cs':List AV}(hh:RelH m H B H0 gl hp nx w)(a3:hp id=some (.cells ver cs))(hW:PutC H (Q8 hp m) w W (m id) cs'):
  RelH m H B H0 gl (updF hp id (some (.cells ver cs'))) nx W∧Env.le (Q8 hp m) (Q8 (updF hp id (some (.cells ver cs'))) m)∧Qd B w W:=by
 have hn:id<nx:=by
  rcases Nat.lt_or_ge id nx with h | h
  ·exact h
  ·rw[hh.fresh id h] at a3;cases a3
 obtain⟨hb,ad,a8⟩:=hh.sep id _ a3;obtain⟨C,e,h1,h2,h3,h4⟩:=hh.box id _ a3;obtain⟨C',g1,g2,g3,g4⟩:=hW.row C e h1;have hE:=TH (m:=m) (hp:=hp) (cs':=cs') (l:=m id) a3 rfl;have hm:updF m id (m id)=m:=by funext k;simp only[updF];split<;>simp[*]
 have a4:=hW.oth;have:=hh.one (id:=id) (nx':=nx) (b:=.cells ver cs') (l:=m id) (w':=W) (fun k hk a7=>a4 k hk a7) hW.size hE ⟨hb,Nat.lt_of_lt_of_le ad hW.size,a8⟩
  (fun ae b' a7 ab hr e=>a7 (hh.injR ae id b' _ ab a3 hr trivial e)) hn (Nat.le_refl _) ⟨C',e,g1,by rw[g2];exact h2,by rw[g2];exact g3,fun j c hj=>let⟨v,a,b,c'⟩:=g4 j c hj;⟨v,a,b,c'.mono (.refl _) hE⟩⟩ (fun af ag e3=>by
   cases e3;rcases hh.ty id _ _ a3 with h0 | ⟨q1,C2,fr,q2⟩
   ·exact .inl h0
   ·rw[h1] at q2;cases q2;exact .inr ⟨q1,_,_,g1⟩)
 rw[hm] at this hE;refine⟨this,hE,⟨hW.os,hW.tape,hW.out,hW.size,fun k hk=>a4 k (hh.low k hk) fun e=>hb (e▸hk),fun k C2 e2 fr hk=> ?_⟩⟩
 have ac:k<w.heap.size:=by
  rcases Nat.lt_or_ge k w.heap.size with h | h
  ·exact h
  ·rw[Array.getElem?_eq_none h] at hk;cases hk
 by_cases hkg:k=(m id).g
 ·subst hkg;rw[h1] at hk;cases hk;exact⟨_,_,g1,g2⟩
 ·rw[a4 k ac hkg];exact⟨_,_,hk,rfl⟩
theorem Cz{hp:Hp}{nx:Nat}{id ver off:Nat}{cs ds:List AV}{vs:List Value}(hh:RelH m H B H0 gl hp nx w)(a7:hp id=some (.cells ver cs))(hr:QZ (RV H (Q8 hp m)) ds vs)(ac:off+ds.length≤cs.length):
  PutC H (Q8 hp m) w (w.setCells (m id).g ((m id).base+off) vs) (m id) (cs.take off++(ds++cs.drop (off+ds.length))):=by
 obtain⟨C,e,h1,h2,h3,h4⟩:=hh.box id _ a7;have ai:ds.length=vs.length:=hr.1;obtain⟨C',b1,b2,b3,b4,b5⟩:=Gq (e:=e) (fr:=(0,0)) (m id).g vs ((m id).base+off) w C h1 (by omega)
 obtain⟨s1,s2,s3,s4⟩:=WO (m id).g vs ((m id).base+off) w;refine⟨s1,s2,s3,by rw[b5];exact Nat.le_refl _,fun k _ hk=>s4 k hk,fun C0 e0 h0=> ?_⟩
 rw[h1] at h0;cases h0;refine⟨C',b1,b2,by simp;omega,fun j c hj=> ?_⟩
 have a5:(cs.take off).length=off:=by rw[List.length_take];omega
 by_cases q1:j<off
 ·rw[List.getElem?_append_left (by rw[a5];exact q1),List.getElem?_take,if_pos q1] at hj
  obtain⟨v,a1,a2,a3⟩:=h4 j c hj;exact⟨v,by rw[b4 _ (by omega)];exact a1,a2,a3⟩
 ·rw[List.getElem?_append_right (by rw[a5];omega),a5] at hj
  by_cases q2:j - off<ds.length
  ·rw[List.getElem?_append_left q2] at hj;obtain⟨v,a1,a2,a3⟩:=hr.2 _ c hj;refine⟨v,?_,a2,a3⟩;have:=b3 (j - off) (by omega)
   rw[show(m id).base+off+(j - off)=(m id).base+j by omega] at this
   rw[this];exact a1
  ·rw[List.getElem?_append_right (by omega),List.getElem?_drop] at hj
   obtain⟨v,a1,a2,a3⟩:=h4 _ c hj;refine⟨v,?_,a2,a3⟩;rw[b4 _ (by omega),← a1]
   congr 1;omega
theorem Q52{E:Env}{sz n:Nat}{z:Value}(hz:z.cells.size=sz)(a4:0<sz)(a8:(ofV z).okc=true):QZ (RV H E) (RE sz n (ofV z).cells) (Builtin.zeroCells z.cells n).toList:=by
 have hr:=(RV.imm (H:=H) (E:=E) _ _ (Do H z)).cellsRel a8;have hl:(ofV z).cells.length=sz:=by rw[hr.1];simpa using hz
 refine⟨by simp[RE,Builtin.zeroCells,hz],fun j c hj=> ?_⟩
 unfold RE at hj;rw[List.getElem?_map,Option.map_eq_some_iff] at hj;obtain⟨i,hi,rfl⟩:=hj;have a5:i=j∧j<n*sz:=by
  have h1:=List.getElem?_eq_some_iff.1 hi;obtain⟨h2,h3⟩:=h1;simp at h2 h3;exact⟨h3.symm,h2⟩
 obtain⟨rfl,a7⟩:=a5;have hm:i%sz<sz:=Nat.mod_lt _ a4;obtain⟨v,a1,a2,a3⟩:=hr.2 (i%sz) ((ofV z).cells[i%sz]'(by omega)) (List.getElem?_eq_getElem (by omega))
 refine⟨v,?_,a2,by rw[List.getElem?_eq_getElem (by omega)];exact a3⟩
 rw[Array.getElem?_toList] at a1 ⊢;unfold Builtin.zeroCells;rw[hz];rw[Array.getElem?_map,Array.getElem?_range];rw[if_pos a7];simp only[Option.map_some];have:i%sz<z.cells.size:=by omega
 rw[getElem!_pos z.cells (i%sz) this];rw[Array.getElem?_eq_getElem this] at a1;exact congrArg some (Option.some.inj a1)
theorem Q4m(h:RelS m H B H0 gl rest st a.tmps w){t ty:TypeId}{x:AV}{u:Value}{r:AV×Option (Nat×Box)}(hx:RV H (st.env m) x u)(hk:BK P t x (lkb st.hp)=some r){dst:Option Nat}(hd:Z4 dst st.n=true):
  OpOk P B H0 gl rest a w dst (st.eff dst r) (do pure (.value (← Builtin.clear_ #[t] ty #[u]))):=by
 unfold BK at hk;split at hk<;>first | cases hk | skip
 rename_i sz ar zs ht;obtain⟨e,i,z0,ad,hi,hz,an,aa,am,aw,ak,rfl⟩:=Dk ht;have a8:∀w,(zeroValue e).run P w= .ok z0 w:=fun w=>by simp[zeroValue,typeInfo,hi,hz,Result.andThen]
 have a4:∀(b:Option Addr) (c:Nat),(Builtin.clear_ #[t] ty #[.slice b 0 c]).run P w= .ok (.tuple #[]) w:=fun b c=>by
  cases b<;>simp[Builtin.clear_,run_underlying ad]
 split at hk<;>first | cases hk | skip
 ·rw[hx.nil_inv];exact OpOk.val h hd (by rw[Sem.run_bind,a4];rfl) (.imm _ _ (.tup _ _ rfl (fun j c v hj=>by simp at hj)))
 ·rename_i id ver z off len;split at hk<;>first | cases hk | skip
  rename_i v' cs a5;split at hk<;>first | cases hk | skip
  rename_i hc;simp only[Bool.and_eq_true] at hc;obtain rfl:=Nat.eq_of_beq_eq_true hc.1;obtain rfl:=Nat.eq_of_beq_eq_true hc.2.1;have b1:=Nat.le_of_ble_eq_true hc.2.2;obtain⟨b,cap,rfl,b0,ax,_,a9⟩:=hx.bs_inv;obtain⟨rfl,aj⟩:=a9 (m id) (Y8 a5);split at hk
  ·rename_i h0;cases hk;obtain rfl:=Nat.eq_of_beq_eq_true h0;exact OpOk.val h hd (by rw[Sem.run_bind,a4];rfl) (.imm _ _ (.tup _ _ rfl (fun j c v hj=>by simp at hj)))
  ·rename_i h0;cases hk;have ap:len≠0:=fun e=>by rw[e] at h0;simp at h0
   have a3:=Q52 (H:=H) (E:=st.env m) (n:=len) an aa ak;have ae:(RE z len (ofV z0).cells).length=len*z:=by simp[RE]
   have a6:=Cz (m:=m) (H:=H) (off:=off) h.heap a5 a3 (by omega)
   rw[ae] at a6;obtain⟨hh,hE,hb⟩:=Mt h.heap a5 a6;refine OpOk.heap (v:=.tuple #[]) h hd ?_ (.inl rfl) hb hh hE (.imm _ _ (.tup _ _ rfl (fun j c v hj=>by simp at hj)))
   obtain⟨C,e2,h1,h2,h3,h4⟩:=h.heap.box id _ a5;have b3:(Builtin.zeroCells z0.cells len).toList.length=len*z:=by rw[← a3.1];exact ae
   have ac:=run_storeCells_cells (P:=P) (m id).g ((m id).base+off) (Builtin.zeroCells z0.cells len).toList 0 w (fun j hj=>by
    have:(m id).base+off+(0+j)<C.size:=by omega
    simp[World.cell?,h1];omega) (fun j hj=>by simp[World.frozen?,h1]) a3.mem
   simp only[Nat.add_zero] at ac;obtain⟨k,rfl⟩:∃k,len=k+1:=⟨len - 1,by omega⟩
   rw[Sem.run_bind];have ab:(Builtin.clear_ #[t] ty #[.slice (some ⟨(m id).g,(m id).base+off,none⟩) (k+1) cap]).run P w= .ok (.tuple #[]) (w.setCells (m id).g ((m id).base+off) (Builtin.zeroCells z0.cells (k+1)).toList):=by
    simp[Builtin.clear_,run_underlying ad,a8,ac]
   rw[ab];rfl
theorem Q2f(h:RelS m H B H0 gl rest st a.tmps w){o:Oper}(hd:Z4 o.dst st.n=true){bid:Nat}(hb:lkb st.hp bid=none)(hn:bid<st.nx){r:AV×Option (Nat×Box)}(hk:xopM P bid o.dst o.op (st.ev gl) (lkb st.hp)=some r):
  OpOk P B H0 gl rest a w o.dst (st.eff o.dst r) (execOp a.eval o):=by
 unfold xopM at hk;unfold execOp;split at hk
 ·rename_i t ho;simp only[ho];cases hk;obtain⟨hh,hE⟩:=h.heap.newObj hb hn (Nat.le_refl _) (.map #[] 0) (.map []) rfl ⟨#[],0,Xl w _,rfl,fun j k x e hj=>by simp at hj⟩
  refine OpOk.heap h hd (nx:=.value (.map (some w.heap.size))) ?_ (.inl rfl) (Md h _) hh hE (.mp _ _ (by simp[Q8,Qh]))
  simp[Instr.makeMap]
 ·rename_i ak to x ho;simp only[ho];obtain⟨v,h1,rfl⟩:=KG hk;obtain⟨y,h2,h3⟩:=Q4w (P:=P) h.heap (h.ev x) h1;exact OpOk.val h hd (v:=y) (by simp[h2]) h3
 ·rename_i t x i v ho;simp only[ho];split at hk;·exact Q6p h (h.ev x) (h.ev i) (h.ev v) hk hd (fun w' af=>by simp[af])
  ·cases hk
 ·rename_i c ho;simp only[ho];split at hk
  ·rename_i a4;split at hk
   ·rename_i t t' x y a6 a3;obtain⟨a8,a5,a7⟩:=c;dsimp only at a4 a6 a3 hk;subst a4;obtain⟨l1⟩:=a7;obtain⟨l2⟩:=a5;dsimp only at a6 a3;subst a6
    match l2,a3 with
    | [o1,o2],a3=>
     cases a3;have:=Q6i (t':=t') (ty:=o.type) h hd (h.ev o1) (h.ev o2) hk;simp only[resolve];simpa only[List.map_toArray,List.map_cons,List.map_nil,invoke,builtin,pure_bind] using this
   ·cases hk
  ·rename_i a4;split at hk
   ·rename_i t x a6 a3;obtain⟨a8,a5,a7⟩:=c;dsimp only at a4 a6 a3 hk;subst a4;obtain⟨l1⟩:=a7;obtain⟨l2⟩:=a5;dsimp only at a6 a3;subst a6
    match l2,a3 with
    | [o1],a3=>
     cases a3;have:=Q4m (ty:=o.type) h (h.ev o1) hk hd;simp only[resolve];simpa only[List.map_toArray,List.map_cons,List.map_nil,invoke,builtin,pure_bind] using this
   ·cases hk
  ·rename_i a4;split at hk
   ·rename_i t x a6 a3;obtain⟨a8,a5,a7⟩:=c;dsimp only at a4 a6 a3 hk;subst a4;obtain⟨l1⟩:=a7;obtain⟨l2⟩:=a5;dsimp only at a6 a3;subst a6
    match l2,a3 with
    | [o1],a3=>
     cases a3;obtain⟨v,h1,rfl⟩:=KG hk;obtain⟨y,h2,h3⟩:=Q6o (P:=P) (ty:=o.type) h (h.ev o1) h1;refine OpOk.val h hd (v:=y) ?_ h3;simp[resolve,invoke,builtin,h2]
   ·cases hk
  ·rename_i a4;split at hk
   ·rename_i t t' x y a6 a3;obtain⟨a8,a5,a7⟩:=c;dsimp only at a4 a6 a3 hk;subst a4;obtain⟨l1⟩:=a7;obtain⟨l2⟩:=a5;dsimp only at a6 a3;subst a6
    match l2,a3 with
    | [o1,o2],a3=>
     cases a3;have:=Q6m (t':=t') (ty:=o.type) h (h.ev o1) (h.ev o2) hk hd;simp only[resolve];simpa only[List.map_toArray,List.map_cons,List.map_nil,invoke,builtin,pure_bind] using this
   ·cases hk
  ·cases hk
 ·cases hk
theorem R2{bid:Nat}{dst:Option Nat}{op:Op}{ev:Operand→AV}{hp:Hp}{r:AV×Option (Nat×Box)}(h:xopM P bid dst op ev hp=some r):∀c,op≠ .defer c:=by
 intro c e;subst e;simp[xopM] at h
end
end HY
end
section
namespace HY
open Go Go.RowKit
def FW(r:Option Nat):Fence:= {fn:=fun _=>True,depth:=none,alive:=false,round:=r}
theorem Nx{r:Option Nat}{n:Nat}{P:Program}{f:FuncId}{args:Array Value}{w:World}{R:Ending→World→Prop}(h:Calls P f args w R):CallsIn (FW r) n P f args w R:=
 show CallsIn Fence.wide n P f args w R from callsIn_wide.2 h
def Nc(P:Program)(f:FuncId):Prop:=∀args w,(callFunc f args).run P w= .ok (.enter f args) w
theorem N7{P:Program}{f:FuncId}{fn:Func}(hf:P.funcs[f]? =some fn)(hn:(fn.name== "runtime.NumGoroutine")=false)(hb:fn.body.isSome=true):Nc P f:=by
 intro args w;have a3:fn.body.isNone=false:=by rw[Option.isNone_eq_false_iff];exact hb
 simp only[callFunc,Sem.run_bind,run_program,Result.andThen_ok,hf,hn,a3,Bool.false_eq_true,if_false,Sem.run_pure]
def Ans(P:Program)(f:FuncId)(vs:Array Value)(w:World)(Q:Ending→World→Prop):Prop:=
 (Nc P f∧Calls P f vs w Q)∨∃v w',(callFunc f vs).run P w= .ok (.value v) w'∧Q (.returned v) w'
theorem Ans.mono{P:Program}{f:FuncId}{vs:Array Value}{w:World}{Q Q':Ending→World→Prop}(h:Ans P f vs w Q)(hq:∀e w',Q e w'→Q' e w'):Ans P f vs w Q':=by
 rcases h with⟨h1,h2⟩ | ⟨v,w',h1,h2⟩
 ·exact .inl ⟨h1,h2.mono hq⟩
 ·exact .inr ⟨v,w',h1,hq _ _ h2⟩
theorem Ans.calls{P:Program}{f:FuncId}{vs:Array Value}{w:World}{Q:Ending→World→Prop}(h:Ans P f vs w Q)(he:Nc P f):Calls P f vs w Q:=by
 rcases h with⟨_,h2⟩ | ⟨v,w',h1,_⟩
 ·exact h2
 ·rw[he vs w] at h1;cases h1
def Ee(P:Program)(gl:Nat→AV)(f:FuncId)(args:List AV)(hp:Tr Box)(nx:Nat)(r:AV)(hp':Tr Box)(nx':Nat):Prop:=
 ∀(m:Nat→Lc) (H:HV) (B:Nat→Prop) (H0:HV) (rest:List (AV×Value)) (w:World) (vs:Array Value),RelH m H B H0 gl (lkb hp) nx w→args.length=vs.size→
  (∀(j:Nat) (x:AV) (v:Value),args[j]? =some x→vs[j]? =some v→RV H (Q8 (lkb hp) m) x v)→(∀p∈rest,RV H (Q8 (lkb hp) m) p.1 p.2)→
  Ans P f vs w fun e w'=>∃v m' H',e= .returned v∧Qd B w w'∧RelH m' H' B H0 gl (lkb hp') nx' w'∧RV H' (Q8 (lkb hp') m') r v∧∀p∈rest,RV H' (Q8 (lkb hp') m') p.1 p.2
def Jc(P:Program)(gl:Nat→AV)(f:FuncId)(args:List AV)(r:AV)(hp':Tr Box)(nx':Nat):Prop:=
 ∀(m:Nat→Lc) (H:HV) (B:Nat→Prop) (H0:HV) (w:World) (vs:Array Value),RelH m H B H0 gl (lkb .nil) 0 w→args.length=vs.size→
  (∀(j:Nat) (x:AV) (v:Value),args[j]? =some x→vs[j]? =some v→RV H (Q8 (lkb .nil) m) x v)→
  Ans P f vs w fun e w'=>∃v m' H',e= .returned v∧Qd B w w'∧RelH m' H' B H0 gl (lkb hp') nx' w'∧RV H' (Q8 (lkb hp') m') r v
abbrev Qo:=Nat→List AV→Tr Box→Nat→Option (AV×Tr Box×Nat)
def Qo.Ok(P:Program)(gl:Nat→AV)(ch:Qo):Prop:=∀f args hp nx r hp' nx',ch f args hp nx=some (r,hp',nx')→Ee P gl f args hp nx r hp' nx'
def optL(f:AV→Option AV):List AV→Option (List AV)
 | []=>some []
 |x::xs=>match f x with
  |some y=>match optL f xs with
   |some ys=>some (y::ys)
   |none=>none
  |none=>none
def Gd(sz len:Nat)(ds:List AV):List AV:=(List.range len).map fun i=>.agg ((ds.drop (i*sz)).take sz)
def tree(hp:Hp)(a3:Bool):Nat→AV→Option AV
 |0,_=>none
 |k+1,x=>match x with
  | .bs id ver sz off len=>match hp id with
   |some (.cells v cs)=>if v=ver∧off+len*sz≤cs.length∧0<sz then(match optL (tree hp a3 k) ((cs.drop off).take (len*sz)) with
    |some ds=>some (.sl sz (Gd sz len ds))
    |none=>none) else none
   |_=>none
  | .agg cs=>match optL (tree hp a3 k) cs with
   |some ds=>some (.agg ds)
   |none=>none
  | .tup cs=>match optL (tree hp a3 k) cs with
   |some ds=>some (.tup ds)
   |none=>none
  | .sl sz xs=>if a3&& !xs.isEmpty then none else some (.sl sz xs)
  | .ip sz xs i off=>if a3 then none else some (.ip sz xs i off)
  | .fn f cs=>match optL (tree hp a3 k) cs with
   |some ds=>some (.fn f ds)
   |none=>none
  | .ptr .. =>none
  | .ow .. =>none
  | .oe .. =>none
  | .yld _=>none
  | .mp _=>none
  |x=>some x
theorem Cy{f:AV→Option AV}:∀ {xs ys:List AV},optL f xs=some ys→ys.length=xs.length∧∀(j:Nat) (y:AV),ys[j]? =some y→∃x,xs[j]? =some x∧f x=some y
 | [],ys,h=>by simp only[optL,Option.some.injEq] at h;subst h;exact⟨rfl,fun j y hj=>by simp at hj⟩
 |x::xs,ys,h=>by
  simp only[optL] at h;split at h
  ·rename_i y hy;split at h
   ·rename_i zs hz;cases h;obtain⟨h1,h2⟩:=Cy hz;refine⟨by simp[h1],fun j y' hj=> ?_⟩
    cases j with
    |zero=>simp only[List.getElem?_cons_zero,Option.some.injEq] at hj;subst hj;exact⟨x,rfl,hy⟩
    |succ j=>exact h2 j y' (by simpa using hj)
   ·cases h
  ·cases h
noncomputable def snap(H:HV)(hp:Hp)(m:Nat→Lc)(w:World):HV:=fun b o=>
 open Classical in if ∃id bx ver,hp id=some bx∧bx.ver? =some ver∧Real bx (m id)∧(m id).g=b then w.cell? ⟨b,o,none⟩ else H b o
theorem TY{H:HV}{hp:Hp}{m:Nat→Lc}{w:World}(h:HV.sat H w):HV.sat (snap H hp m w) w:=by
 intro b o v hv;unfold snap at hv;split at hv;·exact hv
 ·exact h b o v hv
theorem IW{H:HV}{hp:Hp}{m:Nat→Lc}{w:World}(hd:∀id bx,hp id=some bx→Real bx (m id)→∀o,H (m id).g o=none):HV.le H (snap H hp m w):=fun b o u hu=>by
 unfold snap;split
 ·rename_i hh;obtain⟨id,bx,ver,h1,_,h3,rfl⟩:=hh;rw[hd id bx h1 h3 o] at hu;cases hu
 ·exact hu
theorem M5{H:HV}{hp:Hp}{m:Nat→Lc}{w:World}{E:Env}(a4:Bool){H1:HV}(hE:∀id ver cs,hp id=some (.cells ver cs)→E.loc id ver=some (m id))(ae:∀id ver cs,hp id=some (.cells ver cs)→YK H E (.cells ver cs) (m id) w)
  (hd:∀id bx,hp id=some bx→Real bx (m id)→∀o,H (m id).g o=none) (ap:a4=false→H1=H):∀(k:Nat) (x t:AV) (v:Value),RV H E x v→tree hp a4 k x=some t→RelI (snap H1 hp m w) t v
 |0,x,t,v,_,h=>by cases h
 |k+1,x,t,v,hx,h=>by
  have ih:=M5 a4 hE ae hd ap k;have ar:a4=false→HV.le H (snap H1 hp m w):=fun hs=>by rw[ap hs];exact IW hd
  unfold tree at h;split at h
  ·rename_i id ver sz off len;split at h
   ·rename_i v' cs ag;split at h
    ·rename_i hc;obtain⟨rfl,bb,ax⟩:=hc;split at h
     ·rename_i ds a7;cases h;obtain⟨hl,a5⟩:=Cy a7;obtain⟨a,cap,rfl,_,b4,b0,au⟩:=hx.bs_inv;obtain⟨rfl,ba⟩:=au _ (hE _ _ _ ag);obtain⟨C,e,hC,bl,bc,b1⟩:=ae _ _ _ ag;have b2:ds.length=len*sz:=by rw[hl];simp;omega
      have af:(Gd sz len ds).length=len:=by simp[Gd]
      have aq:∀(i:Nat) (x:AV),(Gd sz len ds)[i]? =some x→i<len∧x= .agg ((ds.drop (i*sz)).take sz):=fun i x hx=>by
       have hi:i<len:=by rw[← af];exact(List.getElem?_eq_some_iff.1 hx).1
       simp[Gd,hi] at hx;exact⟨hi,hx.symm⟩
      have aw:∀i,i<len→i*sz+sz≤len*sz:=fun i hi=>by
       have:(i+1)*sz≤len*sz:=Nat.mul_le_mul_right _ hi;rw[Nat.add_mul] at this;omega
      have a9:∀(i:Nat) (x:AV) (j:Nat) (c:AV),(Gd sz len ds)[i]? =some x→x.cells[j]? =some c→i<len∧j<sz∧ds[i*sz+j]? =some c:=fun i x j c hx hj=>by
       obtain⟨hi,rfl⟩:=aq i x hx;simp only[AV.cells] at hj;have ad:j<sz:=by have:=(List.getElem?_eq_some_iff.1 hj).1;simp at this;omega
       rw[List.getElem?_take,if_pos ad,List.getElem?_drop] at hj;exact⟨hi,ad,hj⟩
      have aa:∀(n:Nat) (c:AV),ds[n]? =some c→∃u,C[(m id).base+off+n]? =some u∧u.oneCell'=true∧RelI (snap H1 hp m w) c u:=fun n c hn=>by
       obtain⟨x,h1,h2⟩:=a5 n c hn;have b5:n<len*sz:=by rw[← b2];exact(List.getElem?_eq_some_iff.1 hn).1
       rw[List.getElem?_take,if_pos b5,List.getElem?_drop] at h1;obtain⟨u,a1,a2,a3⟩:=b1 _ _ h1;exact⟨u,by rw[Nat.add_assoc];exact a1,a2,ih x c u a3 h2⟩
      have:=RelI.sl (H:=snap H1 hp m w) sz (Gd sz len ds) (m id).g ((m id).base+off) cap (fun i j=>(C[(m id).base+off+(i*sz+j)]?).getD Go.undef) ax (by rw[af];exact b4) b0
       (fun i x hx=>by
        obtain⟨hi,rfl⟩:=aq i x hx;have:=aw i hi;simp[AV.cells];omega)
       (fun i x j c hx hj=>by
        obtain⟨hi,ad,hn⟩:=a9 i x j c hx hj;obtain⟨u,a1,a2,a3⟩:=aa _ c hn;rw[a1];refine⟨?_,a2⟩;have b3:∃ai bx ver,hp ai=some bx∧bx.ver? =some ver∧Real bx (m ai)∧(m ai).g=(m id).g:=⟨id,_,_,ag,rfl,trivial,rfl⟩;unfold snap;rw[if_pos b3,XG _ _ _ _ _ _ hC,Nat.add_assoc,a1];rfl)
       (fun i x j c hx hj=>by
        obtain⟨hi,ad,hn⟩:=a9 i x j c hx hj;obtain⟨u,a1,a2,a3⟩:=aa _ c hn;rw[a1];exact a3)
      rw[af] at this;exact this
     ·cases h
    ·cases h
   ·cases h
  ·rename_i cs;split at h
   ·rename_i ds a7;cases h;obtain⟨hl,a5⟩:=Cy a7;obtain⟨vs,rfl,h1,h2,h3⟩:=hx.agg_inv;refine .agg ds vs (by rw[hl];exact h1) h2 fun j c u hj hu=> ?_
    obtain⟨x,a1,a2⟩:=a5 j c hj;exact ih x c u (h3 j x u a1 hu) a2
   ·cases h
  ·rename_i cs;split at h
   ·rename_i ds a7;cases h;obtain⟨hl,a5⟩:=Cy a7;obtain⟨vs,rfl,h1,h3⟩:=hx.tup_inv;refine .tup ds vs (by rw[hl];exact h1) fun j c u hj hu=> ?_
    obtain⟨x,a1,a2⟩:=a5 j c hj;exact ih x c u (h3 j x u a1 hu) a2
   ·cases h
  ·rename_i sz xs;split at h;·cases h
   ·rename_i hc;cases h;cases a4 with
    |false=>exact hx.sl_inv.mono (ar rfl)
    |true=>
     simp at hc;subst hc;obtain⟨a,cap,rfl,h1,h2⟩:=hx.sl_inv.len_inv;exact .sl0 _ _ _ h2
  ·rename_i sz xs i off;split at h;·cases h
   ·rename_i hc;cases h;exact hx.ip_inv.mono (ar (by simpa using hc))
  ·rename_i f cs;split at h
   ·rename_i ds a7;cases h;obtain⟨hl,a5⟩:=Cy a7;obtain⟨vs,rfl,h1,h3⟩:=hx.fn_inv;refine .fn f ds vs (by rw[hl];exact h1) fun j c u hj hu=> ?_
    obtain⟨x,a1,a2⟩:=a5 j c hj;exact ih x c u (h3 j x u a1 hu) a2
   ·cases h
  ·cases h
  ·cases h
  ·cases h
  ·cases h
  ·cases h
  ·rename_i x n1 n2 n3 n4 n5 n6 n7 n9 b6 n8 b7;cases h;cases hx with
   |imm _ _ hx=>
    cases hx with
    |undef=>exact .undef _
    |bool=>exact .bool _
    |int=>exact .int _ _
    |str=>exact .str _
    |nil=>exact .nil
    |emp=>exact .emp _
    |nilp=>exact .nilp
    |nilfn=>exact .nilfn
    |val=>exact .val _
    |sl0=>exact absurd rfl (n4 _ _)
    |sl=>exact absurd rfl (n4 _ _)
    |ip=>exact absurd rfl (n5 _ _ _ _)
    |fn=>exact absurd rfl (n6 _ _)
    |agg=>exact absurd rfl (n2 _)
    |tup=>exact absurd rfl (n3 _)
   |ptr=>exact absurd rfl (n7 _ _ _)
   |bs=>exact absurd rfl (n1 _ _ _ _ _)
   |ow=>exact absurd rfl (n9 _ _ _ _)
   |oe=>exact absurd rfl (b6 _ _ _ _ _)
   |yld=>exact absurd rfl (n8 _)
   |mp=>exact absurd rfl (b7 _)
   |fn=>exact absurd rfl (n6 _ _)
   |agg=>exact absurd rfl (n2 _)
   |tup=>exact absurd rfl (n3 _)
def immN:AV→Bool
 | .bool _ | .int _ _ | .str _=>true
 |_=>false
def immE(x:AV):Bool:=x.cells.all immN
theorem Q5f{H H':HV}{c:AV}{v:Value}(h:RelI H c v)(hc:immN c=true):RelI H' c v:=by
 cases h with
 |bool b=>exact .bool b
 |int k n=>exact .int k n
 |str s=>exact .str s
 |_=>cases hc
theorem Ce.imm{H H':HV}{xs:List AV}{l:Lc}{w:World}(h:Ce H (xs.flatMap AV.cells) l w)(hi:xs.all immE=true):Ce H' (xs.flatMap AV.cells) l w:=by
 obtain⟨C,e,h1,h2,h3,h4⟩:=h;refine⟨C,e,h1,h2,h3,fun j c hj=> ?_⟩
 obtain⟨v,a,b,d⟩:=h4 j c hj;obtain⟨x,hx,hc⟩:=List.mem_flatMap.1 (List.mem_of_getElem? hj);exact⟨v,a,b,Q5f d (List.all_eq_true.1 (List.all_eq_true.1 hi x hx) c hc)⟩
def GP(a3:Bool)(bid:Nat)(o:Option (AV×Tr Box×Nat)):Option (AV×Option (Nat×Box)):=
 match o with
 |some (r,hp',_)=>match r with
  | .bs id ver sz off len=>match lkb hp' id with
   |some (.cells v cs)=>if v=ver∧off+len*sz≤cs.length∧0<sz then(match optL (tree (updF (lkb hp') id none) a3 12) ((cs.drop off).take (len*sz)) with
     |some ds=>some (.bs bid 0 sz 0 len,some (bid,.cells 0 ds))
     |none=>none) else none
   |_=>none
  | .ow id ver sz len=>match lkb hp' id with
   |some (.own v z xs)=>match Nat.beq v ver&& (Nat.beq z sz&& (!a3 || xs.all immE)) with
    |true=>some (.ow bid 0 sz len,some (bid,.own 0 sz xs))
    |false=>none
   |_=>none
  |r=>xv (tree (lkb hp') a3 12 r)
 |none=>none
def Ca(ch:Qo)(hp:Hp)(bid f:Nat)(args:List AV):Option (AV×Option (Nat×Box)):=
 match optL (tree (fun _=>none) false 12) args with
 |some ts=>GP false bid (ch f ts .nil 0)
 |none=>match optL (tree hp false 12) args with
  |some ts=>GP true bid (ch f ts .nil 0)
  |none=>none
section
variable {P : Program} {m : Nat → Lc} {H : HV} {B : Nat → Prop} {H0 : HV} {gl : Nat → AV} {rest : List (AV × Value)} {st : St} {a : Act} {w : World} {dst : Option Nat}
theorem RelS.after (h : RelS m H B H0 gl rest st a.tmps w) {w' : World} (hb : Below w.heap.size w w') (K : HV) (hK : ∀ b o v, K b o = some v → w'.cell? ⟨b, o, none⟩ = some v) :
    RelS m (fun b o => if b < w.heap.size then H b o else K b o) B H0 gl rest st a.tmps w' ∧ HV.le H (fun b o => if b < w.heap.size then H b o else K b o) := by
  have hle : HV.le H (fun b o => if b < w.heap.size then H b o else K b o) := fun b o v hv => by
    have := Uu h.heap.sat hv
    simp only [if_pos this]; exact hv
  refine ⟨⟨?_, h.size, fun k => (h.slot k).mono hle (.refl _), fun p hp => (h.rest p hp).mono hle (.refl _)⟩, hle⟩
  exact { sat := fun b o v hv => by
            simp only at hv
            split at hv
            · rename_i hlt
              rw [← h.heap.sat b o v hv]; exact hb.cell (p := ⟨b, o, none⟩) hlt
            · exact hK b o v hv
          old := fun b o hlt => by
            simp only [if_pos (h.heap.low b hlt)]; exact h.heap.old b o hlt
          low := fun b hB => Nat.lt_of_lt_of_le (h.heap.low b hB) hb.size
          fresh := h.heap.fresh
          box := fun id b hid => (h.heap.box id b hid).mono' hle (.refl _) fun hr => hb.block _ (h.heap.sepR id b hid hr).2.1
          sepR := fun id b hid hr => by
            obtain ⟨x, y, z⟩ := h.heap.sepR id b hid hr
            exact ⟨x, Nat.lt_of_lt_of_le y hb.size, fun o => by simp only [if_pos y]; exact z o⟩
          injR := h.heap.injR
          gl := fun g => (h.heap.gl g).mono hle
          ty := fun id ver cs hid => (h.heap.ty id ver cs hid).mono (hb.block _ (h.heap.sep id _ hid).2.1)
          gv := h.heap.gv.mono fun k hk => hb.block k (h.heap.low k hk) }
theorem HI{f:AV→Option AV}{xs ts:List AV}{vs:Array Value}{R R':AV→Value→Prop}(hl:xs.length=vs.size)(hr:∀(j:Nat) (x:AV) (v:Value),xs[j]? =some x→vs[j]? =some v→R x v)(h:optL f xs=some ts)
  (hf:∀x t v,R x v→f x=some t→R' t v):ts.length=vs.size∧∀(j:Nat) (x:AV) (v:Value),ts[j]? =some x→vs[j]? =some v→R' x v:=by
 obtain⟨h1,h2⟩:=Cy h;refine⟨by rw[h1];exact hl,fun j x v hx hv=> ?_⟩
 obtain⟨y,hy,a3⟩:=h2 j x hx;exact hf y x v (hr j y v hy hv) a3
theorem Ai{ch:Qo}(bn:∀f ts r0 hp' nx',ch f ts .nil 0=some (r0,hp',nx')→Jc P gl f ts r0 hp' nx')(h:RelS m H B H0 gl rest st a.tmps w)(hd:Z4 dst st.n=true){bid:Nat}(hb:lkb st.hp bid=none)(hn:bid<st.nx){f:Nat}{vs:Array Value}{r:AV×Option (Nat×Box)}
  (a4:Bool) (ae:Hp) (ts:List AV) (ay:∀id bx,ae id=some bx→lkb st.hp id=some bx) (ax:a4=false→ae=fun _=>none) (bv:ts.length=vs.size) (bz:∀(j:Nat) (x:AV) (v:Value),ts[j]? =some x→vs[j]? =some v→RelI (snap H ae m w) x v)
  (hk:GP a4 bid (ch f ts .nil 0)=some r):Ans P f vs w fun e w'=>∃v m' H',e= .returned v∧Qd B w w'∧RelS m' H' B H0 gl rest (st.eff dst r) (a.put dst v).tmps w':=by
 have c5:∀id ver cs,ae id=some (.cells ver cs)→YK H (st.env m) (.cells ver cs) (m id) w:=fun id ver cs hh=>h.heap.box id _ (ay _ _ hh)
 have b9:∀id bx,ae id=some bx→Real bx (m id)→∀o,H (m id).g o=none:=fun id bx hh hr=>(h.heap.sepR id _ (ay _ _ hh) hr).2.2
 unfold GP at hk;split at hk
 ·rename_i r0 hp' nx' b1;have hc:=bn _ _ _ _ _ b1;have h0:RelH m (snap H ae m w) (fun k=>k<w.heap.size) (snap H ae m w) gl (lkb .nil) 0 w:=
   {sat:=TY h.heap.sat,old:=fun _ _ _=>rfl,low:=fun _ hk=>hk,fresh:=fun _ _=>Zz _,box:=(fun _ _ hh=>by rw[Zz] at hh;cases hh),sepR:=(fun _ _ hh=>by rw[Zz] at hh;cases hh),injR:=(fun _ _ _ _ hh=>by rw[Zz] at hh;cases hh),gl:=fun g=>(h.heap.gl g).mono (IW b9),ty:=(fun _ _ _ hh=>by rw[Zz] at hh;cases hh),gv:=fun g sz cs hg=>let⟨h1,h2⟩:=h.heap.gv g sz cs hg;⟨h.heap.low _ h1,h2⟩}
  refine(hc m (snap H ae m w) _ (snap H ae m w) w vs h0 bv (fun j x v hx hv=>.imm _ _ (bz j x v hx hv))).mono fun e w' b5=> ?_
  obtain⟨v,m',H',rfl,am,hH,b6⟩:=b5;have key:∀(a7:Hp),(∀id bx,a7 id=some bx→lkb hp' id=some bx)→
    HV.le (snap (if a4 then fun _ _=>none else H') a7 m' w') (fun b o=>if b<w.heap.size then H b o else snap H' a7 m' w' b o):=by
   intro a7 a9 b o u hu;unfold snap at hu;split at hu
   ·rename_i hh;obtain⟨id,bx,ver,h1,ao,au,h2⟩:=hh;have bb:=(hH.sepR id _ (a9 _ _ h1) au).1;rw[h2] at bb;simp only[if_neg (show ¬b<w.heap.size from bb)];unfold snap;rw[if_pos ⟨id,bx,ver,h1,ao,au,h2⟩];exact hu
   ·rename_i hh;cases a4 with
    |true=>simp at hu
    |false=>
     simp only[Bool.false_eq_true,if_false] at hu;by_cases hlt:b<w.heap.size
     ·simp only[if_pos hlt];rw[hH.old b o hlt] at hu;unfold snap at hu;rw[if_neg (by rw[ax rfl];rintro⟨_,_,_,e,_⟩;cases e)] at hu
      exact hu
     ·simp only[if_neg hlt];unfold snap;rw[if_neg hh];exact hu
  have az:∀(a7:Hp),(∀id bx,a7 id=some bx→lkb hp' id=some bx)→∀(x t:AV) (u:Value),RV H' (Q8 (lkb hp') m') x u→tree a7 a4 12 x=some t→RelI (fun b o=>if b<w.heap.size then H b o else snap H' a7 m' w' b o) t u:=by
   intro a7 a9 x t u hx ht;refine(M5 (H1:=if a4 then fun _ _=>none else H') a4 (fun id ver cs hh=>Y8 (a9 _ _ hh)) (fun id ver cs hh=>hH.box id _ (a9 _ _ hh)) (fun id bx hh hr=>(hH.sepR id _ (a9 _ _ hh) hr).2.2) (fun e=>by simp[e]) 12 x t u hx ht).mono (key a7 a9)
  have aq:∀(a7:Hp),∀b o v,snap H' a7 m' w' b o=some v→w'.cell? ⟨b,o,none⟩=some v:=fun a7=>TY hH.sat
  have b0:Qd B w w':=am.mono h.heap.low;have am:=am.toB;split at hk
  ·rename_i id ver sz off len;split at hk
   ·rename_i v' cs aa;split at hk
    ·rename_i ac;obtain⟨rfl,cj,c8⟩:=ac;split at hk
     ·rename_i ds br;cases hk;have a9:∀a6 bx,updF (lkb hp') id none a6=some bx→lkb hp' a6=some bx:=fun a6 bx hh=>by
       by_cases e:a6=id;·subst e;rw[Qh] at hh;cases hh
       ·rwa [Qq _ _ e] at hh
      obtain⟨hA,aw⟩:=h.after am (snap H' (updF (lkb hp') id none) m' w') (aq _);obtain⟨ad,cap,rfl,_,b4,b3,af⟩:=b6.bs_inv;obtain⟨rfl,ba⟩:=af _ (Y8 aa);obtain⟨C,e,hC,c0,c6,bo⟩:=hH.box id _ aa;obtain⟨s1,s2,s3⟩:=hH.sep id _ aa;obtain⟨bq,bc⟩:=Cy br;have hE:=NX (m:=m) (hp:=lkb st.hp) (b:=.cells 0 ds) (l:=⟨(m' id).g,(m' id).base+off,(m' id).size⟩) hb;have aj:∀o,snap H' (updF (lkb hp') id none) m' w' (m' id).g o=none:=fun o=>by
       unfold snap;rw[if_neg ?_];·exact s3 o
       ·rintro⟨a6,bx,ver,h1,_,hr,h2⟩;have ao:=a9 _ _ h1;have:=hH.injR a6 id _ _ ao aa hr trivial h2;subst this;rw[Qh] at h1;cases h1
      have hh:=hA.heap.one (id:=bid) (b:=.cells 0 ds) (l:=⟨(m' id).g,(m' id).base+off,(m' id).size⟩) (w':=w') (fun _ _ _=>rfl) (Nat.le_refl _) hE
       ⟨fun hb=>s1 (h.heap.low _ hb),s2,fun o=>by simp only[if_neg (show ¬(m' id).g<w.heap.size from s1)];exact aj o⟩
       (fun a6 b2 _ ap hr=>by have:=(h.heap.sepR a6 b2 ap hr).2.1;have c3:¬(m' id).g<w.heap.size:=s1;show(m a6).g≠(m' id).g;omega) hn (Nat.le_refl _) (by
        refine⟨C,e,hC,c0,?_,fun j c hj=> ?_⟩
        ·rw[bq];show(m' id).base+off+_≤_;simp;omega
        ·obtain⟨x,hx,ht⟩:=bc j c hj;have bu:j<len*sz:=by
          have:=(List.getElem?_eq_some_iff.1 hx).1;simp at this;omega
         rw[List.getElem?_take,if_pos bu,List.getElem?_drop] at hx;obtain⟨u,a1,a2,a3⟩:=bo _ _ hx;exact⟨u,by show C[(m' id).base+off+j]? =some u;rw[Nat.add_assoc];exact a1,a2,.imm _ _ (az _ a9 x c u a3 ht)⟩) (fun ver cs e=>by cases e;exact .inl rfl)
      have h1:=hA.heapTo (hp':=pt st.hp bid (.cells 0 ds)) (nx':=st.nx) (by rw[QI];exact hh) (.refl _) (by rw[QI];exact hE)
      have hv:RV (fun b o=>if b<w.heap.size then H b o else snap H' (updF (lkb hp') id none) m' w' b o) (Q8 (lkb (pt st.hp bid (.cells 0 ds))) (updF m bid ⟨(m' id).g,(m' id).base+off,(m' id).size⟩)) (.bs bid 0 sz 0 len) (.slice (some ⟨(m' id).g,(m' id).base+off,none⟩) len cap):=by
       rw[QI];refine .bs bid 0 sz 0 len _ cap (Ev _ _ _ _ _) b4 b3 fun l hl=> ?_
       rw[IN] at hl;cases hl;exact⟨rfl,by simpa using ba⟩
      have h2:=h1.putO (dst:=dst) hd hv;have:({st with hp:=pt st.hp bid (.cells 0 ds),nx:=st.nx}:St).putO dst (.bs bid 0 sz 0 len)=st.eff dst (.bs bid 0 sz 0 len,some (bid,.cells 0 ds)):=by cases dst<;>rfl
      rw[this] at h2;exact⟨_,_,_,rfl,b0,h2⟩
     ·cases hk
    ·cases hk
   ·cases hk
  ·rename_i id ver sz len;split at hk
   ·rename_i v' z xs aa;split at hk
    ·rename_i ac;rw[Bool.and_eq_true,Bool.and_eq_true] at ac;obtain⟨c1,c2,ar⟩:=ac;obtain rfl:=Nat.eq_of_beq_eq_true c1;obtain rfl:=Nat.eq_of_beq_eq_true c2;cases hk;have a9:∀a6 bx,updF (lkb hp') id none a6=some bx→lkb hp' a6=some bx:=fun a6 bx hh=>by
      by_cases e:a6=id;·subst e;rw[Qh] at hh;cases hh
      ·rwa [Qq _ _ e] at hh
     obtain⟨hA,aw⟩:=h.after am (snap H' (updF (lkb hp') id none) m' w') (aq _);obtain⟨ad,cap,rfl,_,b4,b3,bw,af⟩:=b6.ow_inv;have af:=af _ (Cv aa);have bf:a4=false→HV.le H' (fun b o=>if b<w.heap.size then H b o else snap H' (updF (lkb hp') id none) m' w' b o):=fun ar b o u hu=>by
      by_cases hlt:b<w.heap.size
      ·simp only[if_pos hlt];rw[hH.old b o hlt] at hu;unfold snap at hu;rw[if_neg (by rw[ax ar];rintro⟨_,_,_,e,_⟩;cases e)] at hu
       exact hu
      ·simp only[if_neg hlt];exact IW (fun id bx hh hr=>(hH.sepR id _ (a9 _ _ hh) hr).2.2) b o u hu
     have hE:=NX (m:=m) (hp:=lkb st.hp) (b:=.own 0 z xs) (l:=m' id) hb;have aj:Real (.own v' z xs) (m' id)→∀o,snap H' (updF (lkb hp') id none) m' w' (m' id).g o=none:=fun ab o=>by
      unfold snap;rw[if_neg ?_];·exact(hH.sepR id _ aa ab).2.2 o
      ·rintro⟨a6,bx,ver,h1,_,hr,h2⟩;have ao:=a9 _ _ h1;have:=hH.injR a6 id _ _ ao aa hr ab h2;subst this;rw[Qh] at h1;cases h1
     have hh:=hA.heap.oneR (id:=bid) (b:=.own 0 z xs) (l:=m' id) (w':=w') (fun _ _ _=>rfl) (Nat.le_refl _) hE
      (fun ab=>by
       have ab:Real (.own v' z xs) (m' id):=ab;obtain⟨s1,s2,s3⟩:=hH.sepR id _ aa ab;exact⟨fun hb=>s1 (h.heap.low _ hb),s2,fun o=>by simp only[if_neg (show ¬(m' id).g<w.heap.size from s1)];exact aj ab o⟩)
      (fun a6 b2 _ ap hr ab=>by
       have ab:Real (.own v' z xs) (m' id):=ab;have:=(h.heap.sepR a6 b2 ap hr).2.1;have c3:¬(m' id).g<w.heap.size:=(hH.sepR id _ aa ab).1;show(m a6).g≠(m' id).g;omega) hn (Nat.le_refl _) (by
       obtain⟨q0,q1,q2⟩:=hH.box id _ aa;refine⟨q0,q1,?_⟩;rcases q2 with q2 | ⟨q2,q3⟩
       ·exact .inl q2
       ·refine .inr ⟨q2,?_⟩;cases hs:a4 with
        |false=>exact q3.mono (bf hs) rfl
        |true=>rw[hs] at ar;exact q3.imm (by simpa using ar)) (fun ver cs e=>by cases e)
     have h1:=hA.heapTo (hp':=pt st.hp bid (.own 0 z xs)) (nx':=st.nx) (by rw[QI];exact hh) (.refl _) (by rw[QI];exact hE)
     have hv:RV (fun b o=>if b<w.heap.size then H b o else snap H' (updF (lkb hp') id none) m' w' b o) (Q8 (lkb (pt st.hp bid (.own 0 z xs))) (updF m bid (m' id))) (.ow bid 0 z len) (.slice ad len cap):=by
      rw[QI];refine .ow bid 0 z len ad cap ⟨_,Qh _ _ _,fun v2 h=>by cases h;exact Nat.le_refl _⟩ b4 b3 bw fun l hl=> ?_
      rw[Cv (Qh _ _ _),Qh] at hl;cases hl;exact af
     have h2:=h1.putO (dst:=dst) hd hv;have:({st with hp:=pt st.hp bid (.own 0 z xs),nx:=st.nx}:St).putO dst (.ow bid 0 z len)=st.eff dst (.ow bid 0 z len,some (bid,.own 0 z xs)):=by cases dst<;>rfl
     rw[this] at h2;exact⟨_,_,_,rfl,b0,h2⟩
    ·cases hk
   ·cases hk
  ·obtain⟨t,ht,rfl⟩:=KG hk;obtain⟨hA,aw⟩:=h.after am (snap H' (lkb hp') m' w') (aq _);exact⟨v,m,_,rfl,b0,hA.putO hd (.imm _ _ (az _ (fun _ _ hh=>hh) r0 t v b6 ht))⟩
 ·cases hk
theorem FD{ch:Qo}(ad:∀f ts r0 hp' nx',ch f ts .nil 0=some (r0,hp',nx')→Jc P gl f ts r0 hp' nx')(h:RelS m H B H0 gl rest st a.tmps w)(hd:Z4 dst st.n=true){bid:Nat}(hb:lkb st.hp bid=none)(hn:bid<st.nx){f:Nat}{args:List AV}{vs:Array Value}{r:AV×Option (Nat×Box)}(hl:args.length=vs.size)
  (hr:∀(j:Nat) (x:AV) (v:Value),args[j]? =some x→vs[j]? =some v→RV H (st.env m) x v) (hk:Ca ch (lkb st.hp) bid f args=some r):
  Ans P f vs w fun e w'=>∃v m' H',e= .returned v∧Qd B w w'∧RelS m' H' B H0 gl rest (st.eff dst r) (a.put dst v).tmps w':=by
 have a8:∀(a3:Bool) (a4:Hp) (ts:List AV),(∀id bx,a4 id=some bx→lkb st.hp id=some bx)→(a3=false→a4=fun _=>none)→optL (tree a4 false 12) args=some ts→GP a3 bid (ch f ts .nil 0)=some r→
   Ans P f vs w fun e w'=>∃v m' H',e= .returned v∧Qd B w w'∧RelS m' H' B H0 gl rest (st.eff dst r) (a.put dst v).tmps w':=by
  intro a3 a4 ts a5 ac a6 hk;have aa:∀id ver cs,a4 id=some (.cells ver cs)→YK H (st.env m) (.cells ver cs) (m id) w:=fun id ver cs hh=>h.heap.box id _ (a5 _ _ hh)
  have ab:∀id bx,a4 id=some bx→Real bx (m id)→∀o,H (m id).g o=none:=fun id bx hh hr=>(h.heap.sepR id _ (a5 _ _ hh) hr).2.2
  obtain⟨ae,ag⟩:=HI (R':=RelI (snap H a4 m w)) hl hr a6 fun x t v hx ht=>M5 (H1:=H) false (fun id ver cs hh=>Y8 (a5 _ _ hh)) aa ab (fun _=>rfl) 12 x t v hx ht
  exact Ai ad h hd hb hn a3 a4 ts a5 ac ae ag hk
 unfold Ca at hk;split at hk
 ·rename_i ts a6;exact a8 false (fun _=>none) ts (fun _ _ hh=>by cases hh) (fun _=>rfl) a6 hk
 ·split at hk
  ·rename_i ts a6;exact a8 true (lkb st.hp) ts (fun _ _ hh=>hh) (fun e=>by cases e) a6 hk
  ·cases hk
theorem Ee.zero{f:Nat}{args:List AV}{r:AV}{hp':Tr Box}{nx':Nat}(h:Ee P gl f args .nil 0 r hp' nx'):Jc P gl f args r hp' nx':=
 fun m H B H0 w vs hh hl hv=>(h m H B H0 [] w vs hh hl hv (fun p hp=>by simp at hp)).mono fun _ _ ⟨v,m',H',a,b,c,d,_⟩=>⟨v,m',H',a,b,c,d⟩
end
end HY
end
section
namespace HY
open Go Go.RowKit
def Conv(gl:Nat→AV)(st st':St):Prop:=st'.n=st.n∧∀(m:Nat→Lc) (H:HV) (B:Nat→Prop) (H0:HV) (rest:List (AV×Value)) (tmps:Array Value) (w:World),RelS m H B H0 gl rest st tmps w→∃m' H',RelS m' H' B H0 gl rest st' tmps w
theorem Conv.refl{gl:Nat→AV}{st:St}:Conv gl st st:=⟨rfl,fun m H _ _ _ _ _ h=>⟨m,H,h⟩⟩
theorem Conv.trans{gl:Nat→AV}{a b c:St}(h:Conv gl a b)(k:Conv gl b c):Conv gl a c:=⟨k.1.trans h.1,fun m H B H0 rest tmps w hr=>by
 obtain⟨m',H',h'⟩:=h.2 m H B H0 rest tmps w hr;exact k.2 m' H' B H0 rest tmps w h'⟩
theorem JY{hp:Hp}{m:Nat→Lc}{id ver:Nat}{b:Box}(h:hp id=some b)(hv:b.ver? =some ver):(Q8 hp m).loc id ver=some (m id):=by simp[Q8,h,hv]
theorem Po{hp:Hp}{m:Nat→Lc}{id ver:Nat}{b:Box}(h:hp id=some b)(hv:b.ver? =some ver):(Q8 hp m).al id ver:=⟨b,h,fun v e=>by rw[hv] at e;cases e;exact Nat.le_refl _⟩
def WL:List Nat→AV→Option AV
 | [],v=>some v
 |i::p,v=>match v with
  | .agg cs=>match cs[i]? with
   |some c=>WL p c
   |none=>none
  | .tup cs=>match cs[i]? with
   |some c=>WL p c
   |none=>none
  |_=>none
def Da:List Nat→AV→AV→AV
 | [],_,y=>y
 |i::p,v,y=>match v with
  | .agg cs=>match cs[i]? with
   |some c=>.agg (cs.set i (Da p c y))
   |none=>v
  | .tup cs=>match cs[i]? with
   |some c=>.tup (cs.set i (Da p c y))
   |none=>v
  |v=>v
theorem TR{H H':HV}{E E':Env}(a5:HV.le H H')(hE:Env.le E E'){x y:AV}(hx:∀u,RV H E x u→RV H' E' y u):∀(p:List Nat) (v:AV) (u:Value),RV H E v u→WL p v=some x→RV H' E' (Da p v y) u
 | [],v,u,h,hi=>by cases hi;exact hx u h
 |i::p,v,u,h,hi=>by
  simp only[WL] at hi;split at hi
  ·rename_i cs;split at hi
   ·rename_i c hc;simp only[Da,hc];obtain⟨vs,rfl,hl,h1,a4⟩:=h.agg_inv;refine .agg _ vs (by simpa using hl) h1 fun j c' v' hj hv=> ?_
    rw[List.getElem?_set] at hj;split at hj
    ·rename_i a6;subst a6;split at hj;·cases hj;exact TR a5 hE hx p c v' (a4 _ c v' hc hv) hi
     ·cases hj
    ·exact(a4 j c' v' hj hv).mono a5 hE
   ·cases hi
  ·rename_i cs;split at hi
   ·rename_i c hc;simp only[Da,hc];obtain⟨vs,rfl,hl,a4⟩:=h.tup_inv;refine .tup _ vs (by simpa using hl) fun j c' v' hj hv=> ?_
    rw[List.getElem?_set] at hj;split at hj
    ·rename_i a6;subst a6;split at hj;·cases hj;exact TR a5 hE hx p c v' (a4 _ c v' hc hv) hi
     ·cases hj
    ·exact(a4 j c' v' hj hv).mono a5 hE
   ·cases hi
  ·cases hi
theorem HP{gl:Nat→AV}{m m':Nat→Lc}{H H':HV}{B:Nat→Prop}{H0:HV}{rest:List (AV×Value)}{st:St}{tmps:Array Value}{w:World}{hp':Tr Box}{nx':Nat}(h:RelS m H B H0 gl rest st tmps w)(hh:RelH m' H' B H0 gl (lkb hp') nx' w)(a3:HV.le H H')(hE:Env.le (st.env m) (Q8 (lkb hp') m'))(k:Nat)(p:List Nat){x y:AV}(hi:WL p (st.get k)=some x)(hx:∀u,RV H (st.env m) x u→RV H' (Q8 (lkb hp') m') y u):
  RelS m' H' B H0 gl rest ⟨st.n,pt st.sl k (Da p (st.get k) y),hp',nx'⟩ tmps w:=by
 refine⟨hh,h.size,fun j=> ?_,fun p hp=>(h.rest p hp).mono a3 hE⟩
 show RV H' _ (lk .undef (pt st.sl k _) j) _;rw[D9];by_cases e:k=j
 ·subst e;rw[if_pos rfl];exact TR a3 hE hx p _ _ (h.slot k) hi
 ·rw[if_neg e];exact(h.slot j).mono a3 hE
section
variable {m : Nat → Lc} {H : HV} {B : Nat → Prop} {H0 : HV} {gl : Nat → AV} {rest : List (AV × Value)} {st : St} {tmps : Array Value} {w : World}
theorem RelS.newOwn(h:RelS m H B H0 gl rest st tmps w)(sz:Nat)(a4:0<sz):RelS (updF m st.nx ⟨0,0,0⟩) H B H0 gl rest ⟨st.n,st.sl,pt st.hp st.nx (.own 0 sz []),st.nx+1⟩ tmps w∧Env.le (st.env m) (Q8 (lkb (pt st.hp st.nx (.own 0 sz []))) (updF m st.nx ⟨0,0,0⟩)):=by
 have hn:=h.heap.fresh st.nx (Nat.le_refl _);have hE:=NX (m:=m) (hp:=lkb st.hp) (b:=.own 0 sz []) (l:=⟨0,0,0⟩) hn;have hh:=h.heap.oneR (id:=st.nx) (nx':=st.nx+1) (b:=.own 0 sz []) (l:=⟨0,0,0⟩) (w':=w) (fun _ _ _=>rfl) (Nat.le_refl _) hE (fun hr=>absurd hr (Nat.lt_irrefl 0)) (fun _ _ _ _ _ hr=>absurd hr (Nat.lt_irrefl 0)) (Nat.lt_succ_self _) (Nat.le_succ _) ⟨a4,fun x hx=>by simp at hx,.inl ⟨rfl,rfl⟩⟩ (fun _ _ e=>by cases e)
 rw[← QI] at hh hE;exact⟨⟨hh,h.size,fun k=>(h.slot k).mono (.refl _) hE,fun p hp=>(h.rest p hp).mono (.refl _) hE⟩,hE⟩
theorem OV{hp:Tr Box}{id sz:Nat}{a:Option Addr}:RV H (Q8 (lkb (pt hp id (.own 0 sz []))) (updF m id ⟨0,0,0⟩)) (.ow id 0 sz 0) (.slice a 0 0):=by
 rw[QI];refine .ow id 0 sz 0 a 0 (Po (Qh _ _ _) rfl) (Nat.le_refl _) (Nat.zero_le _) (fun _=>rfl) fun l hl=> ?_
 rw[JY (Qh _ _ _) rfl,Qh] at hl;cases hl;exact .inl ⟨rfl,rfl⟩
def Ps:AV→Bool
 | .nil=>true
 | .emp=>true
 |_=>false
theorem ED{E:Env}{x:AV}{v:Value}(hx:RV H E x v)(h:Ps x=true):∃a,v= .slice a 0 0:=by
 cases x<;>first | (cases h;done) | skip
 ·exact⟨_,hx.nil_inv⟩
 ·exact hx.emp_inv
theorem F6(k:Nat)(p:List Nat)(sz:Nat)(x:AV)(a3:0<sz)(hi:WL p (st.get k)=some x)(hk:Ps x=true):Conv gl st ⟨st.n,pt st.sl k (Da p (st.get k) (.ow st.nx 0 sz 0)),pt st.hp st.nx (.own 0 sz []),st.nx+1⟩:=⟨rfl,fun m H B H0 rest tmps w h=>by
 obtain⟨h1,hE⟩:=h.newOwn sz a3;exact⟨_,H,HP h h1.heap (.refl _) hE k p hi fun u hu=>by
  obtain⟨a,rfl⟩:=ED hu hk;exact OV⟩⟩
theorem VL.set{E:Env}{cs:List AV}{l:Lc}(h:VL H E cs l w)(i:Nat)(x:AV)(hx:∀c v,cs[i]? =some c→RV H E c v→v.oneCell'=true→RV H E x v):VL H E (cs.set i x) l w:=by
 obtain⟨C,e,h1,h2,h3,h4⟩:=h;refine⟨C,e,h1,h2,by simpa using h3,fun j c hj=> ?_⟩
 rw[List.getElem?_set] at hj;split at hj
 ·rename_i a6;subst a6;split at hj
  ·rename_i a5;cases hj;obtain⟨v,a1,a2,a3⟩:=h4 i _ (List.getElem?_eq_getElem a5);exact⟨v,a1,a2,hx _ v (List.getElem?_eq_getElem a5) a3 a2⟩
  ·cases hj
 ·exact h4 j c hj
theorem RelS.reBox(h:RelS m H B H0 gl rest st tmps w){id ver:Nat}{b b':Box}(a3:lkb st.hp id=some b)(hv:b.ver? =some ver)(ab:b'.ver? =some ver)(hr:Real b' (m id)→Real b (m id))(hb:YK H (Q8 (lkb (pt st.hp id b')) m) b' (m id) w)(aa:∀v cs,b'= .cells v cs→TyOk w (m id) v):
  RelS m H B H0 gl rest ⟨st.n,st.sl,pt st.hp id b',st.nx⟩ tmps w∧Env.le (st.env m) (Q8 (lkb (pt st.hp id b')) m):=by
 have hE:=GJ (m:=m) (hp:=lkb st.hp) (b':=b') (l:=m id) a3 hv ab rfl;rw[U1] at hE;have a5:id<st.nx:=by
  rcases Nat.lt_or_ge id st.nx with a8 | a7
  ·exact a8
  ·have:=h.heap.fresh id a7;rw[this] at a3;cases a3
 have hh:=h.heap.oneR (id:=id) (nx':=st.nx) (b:=b') (l:=m id) (w':=w) (fun _ _ _=>rfl) (Nat.le_refl _) (by rw[U1];exact hE) (fun r=>h.heap.sepR id b a3 (hr r)) (fun ac b2 a9 a6 r2 r e=>a9 (h.heap.injR ac id b2 b a6 a3 r2 (hr r) e)) a5 (Nat.le_refl _) (by rw[U1,← QI];exact hb) aa
 rw[U1,← QI] at hh;rw[← QI] at hE;exact⟨⟨hh,h.size,fun k=>(h.slot k).mono (.refl _) hE,fun p hp=>(h.rest p hp).mono (.refl _) hE⟩,hE⟩
theorem F5(id i sz ver:Nat)(cs:List AV)(c:AV)(a7:0<sz)(a6:lkb st.hp id=some (.cells ver cs))(hc:cs[i]? =some c)(hk:Ps c=true):Conv gl st ⟨st.n,st.sl,pt (pt st.hp st.nx (.own 0 sz [])) id (.cells ver (cs.set i (.ow st.nx 0 sz 0))),st.nx+1⟩:=⟨rfl,fun m H B H0 rest tmps w h=>by
 have a9:id≠st.nx:=fun e=>by have:=h.heap.fresh st.nx (Nat.le_refl _);rw[← e,a6] at this;cases this
 obtain⟨h1,hE⟩:=h.newOwn sz a7;have a3:lkb (pt st.hp st.nx (.own 0 sz [])) id=some (.cells ver cs):=by rw[QI,Qq _ _ a9];exact a6
 obtain⟨h2,_⟩:=h1.reBox (b':=.cells ver (cs.set i (.ow st.nx 0 sz 0))) a3 rfl rfl (fun _=>trivial) (by
  have a4:=GJ (m:=updF m st.nx ⟨0,0,0⟩) (hp:=lkb (pt st.hp st.nx (.own 0 sz []))) (b':=.cells ver (cs.set i (.ow st.nx 0 sz 0))) (l:=(updF m st.nx ⟨0,0,0⟩) id) a3 rfl rfl rfl;rw[U1] at a4;have hb:VL H _ cs _ w:=h1.heap.box id _ a3;have:=hb.set i (.ow st.nx 0 sz 0) fun c' v a5 hv ab=>by
   rw[hc] at a5;cases a5;obtain⟨a,ha⟩:=ED hv hk;rw[ha];exact OV
  show VL H (Q8 (lkb (pt (pt st.hp st.nx (.own 0 sz [])) id _)) _) _ _ w;rw[QI];exact this.mono (.refl _) a4 rfl) (fun v aa e=>by cases e;exact h1.heap.ty id _ _ a3)
 exact⟨_,H,h2⟩⟩
theorem EM{E:Env}{ver sz len:Nat}{cs:List AV}{l:Lc}(h:VL H E cs l w)(a6:0<sz)(ae:len*sz≤cs.length)(a5:(cs.take (len*sz)).all immA=true):YK H E (.own ver sz (KY sz len (cs.take (len*sz)))) l w:=by
 have hl:(cs.take (len*sz)).length=len*sz:=by simp;omega
 obtain⟨C,e,h1,h2,h3,h4⟩:=h;refine⟨a6,Iu _ _ hl,?_⟩;by_cases hs:l.size=0
 ·have:len=0:=by
   rcases Nat.eq_zero_or_pos len with h0 | h0
   ·exact h0
   ·have:1*sz≤len*sz:=Nat.mul_le_mul_right _ h0;omega
  subst this;exact .inl ⟨hs,rfl⟩
 ·refine .inr ⟨by omega,C,e,h1,h2,by rw[Me _ _ hl,hl];omega,fun j c hj=> ?_⟩
  rw[Me _ _ hl] at hj;have hi:=List.all_eq_true.1 a5 c (List.mem_of_getElem? hj);rw[List.getElem?_take] at hj;split at hj
  ·obtain⟨v,a1,a2,a3⟩:=h4 j c hj;exact⟨v,a1,a2,Re a3 hi⟩
  ·cases hj
theorem OW{E:Env}{id ver sz len:Nat}{v:Value}(a4:0<sz)(h:RV H E (.bs id ver sz 0 len) v):RV H E (.ow id ver sz len) v:=by
 obtain⟨a,cap,rfl,h1,h2,h3,h4⟩:=h.bs_inv;refine .ow id ver sz len _ cap h1 h2 h3 (fun e=>by cases e) fun l hl=> ?_
 obtain⟨rfl,h5⟩:=h4 l hl;rw[Nat.add_zero] at h5 ⊢;by_cases hs:l.size=0
 ·by_cases hc:cap=0;·exact .inl ⟨hs,hc⟩
  ·have:1*1≤cap*sz:=Nat.mul_le_mul (by omega) (by omega)
   omega
 ·exact .inr ⟨by omega,rfl,h5⟩
theorem Ez(k:Nat)(p:List Nat)(id ver sz len:Nat)(cs:List AV)(a3:0<sz)(hk:WL p (st.get k)=some (.bs id ver sz 0 len))(a4:lkb st.hp id=some (.cells ver cs))(a7:len*sz≤cs.length)(a5:(cs.take (len*sz)).all immA=true):
  Conv gl st ⟨st.n,pt st.sl k (Da p (st.get k) (.ow id ver sz len)),pt st.hp id (.own ver sz (KY sz len (cs.take (len*sz)))),st.nx⟩:=⟨rfl,fun m H B H0 rest tmps w h=>by
 have hE:=GJ (m:=m) (hp:=lkb st.hp) (b':=.own ver sz (KY sz len (cs.take (len*sz)))) (l:=m id) a4 rfl rfl rfl;rw[U1,← QI] at hE;obtain⟨h1,_⟩:=h.reBox (b':=.own ver sz (KY sz len (cs.take (len*sz)))) a4 rfl rfl (fun _=>trivial) (EM (VL.mono (h.heap.box id _ a4) (.refl _) hE rfl) a3 a7 a5) (fun _ _ e=>by cases e)
 exact⟨m,H,HP h h1.heap (.refl _) hE k p hk fun u hu=>OW a3 (hu.mono (.refl _) hE)⟩⟩
theorem Og(bx i id ver vb sz len:Nat)(cb cs:List AV)(a5:0<sz)(ae:bx≠id)(ac:lkb st.hp bx=some (.cells vb cb))(hk:cb[i]? =some (.bs id ver sz 0 len))(a6:lkb st.hp id=some (.cells ver cs))(ad:len*sz≤cs.length)(a9:(cs.take (len*sz)).all immA=true):
  Conv gl st ⟨st.n,st.sl,pt (pt st.hp id (.own ver sz (KY sz len (cs.take (len*sz))))) bx (.cells vb (cb.set i (.ow id ver sz len))),st.nx⟩:=⟨rfl,fun m H B H0 rest tmps w h=>by
 have hE:=GJ (m:=m) (hp:=lkb st.hp) (b':=.own ver sz (KY sz len (cs.take (len*sz)))) (l:=m id) a6 rfl rfl rfl;rw[U1,← QI] at hE;obtain⟨h1,_⟩:=h.reBox (b':=.own ver sz (KY sz len (cs.take (len*sz)))) a6 rfl rfl (fun _=>trivial) (EM (VL.mono (h.heap.box id _ a6) (.refl _) hE rfl) a5 ad a9) (fun _ _ e=>by cases e)
 have a3:lkb (pt st.hp id (.own ver sz (KY sz len (cs.take (len*sz))))) bx=some (.cells vb cb):=by rw[QI,Qq _ _ ae];exact ac
 have a7:=GJ (m:=m) (hp:=lkb (pt st.hp id (.own ver sz (KY sz len (cs.take (len*sz)))))) (b':=.cells vb (cb.set i (.ow id ver sz len))) (l:=m bx) a3 rfl rfl rfl;rw[U1,← QI] at a7;have hc:VL H _ cb (m bx) w:=h1.heap.box bx _ a3;obtain⟨h2,_⟩:=h1.reBox (b':=.cells vb (cb.set i (.ow id ver sz len))) a3 rfl rfl (fun _=>trivial) (VL.mono (hc.set i (.ow id ver sz len) fun c v a8 hv _=>by
  rw[hk] at a8;cases a8;exact OW a5 hv) (.refl _) a7 rfl) (fun v ag e=>by cases e;exact h1.heap.ty bx _ _ a3)
 exact⟨m,H,h2⟩⟩
theorem Q57(id ver sz n:Nat)(xs:List AV)(a5:lkb st.hp id=some (.own ver sz xs)):Conv gl st ⟨st.n,st.sl,pt st.hp id (.own ver sz (xs.take n)),st.nx⟩:=⟨rfl,fun m H B H0 rest tmps w h=>by
 have hE:=GJ (m:=m) (hp:=lkb st.hp) (b':=.own ver sz (xs.take n)) (l:=m id) a5 rfl rfl rfl;rw[U1,← QI] at hE;obtain⟨a6,a4,hb⟩:=h.heap.box id _ a5;obtain⟨h1,_⟩:=h.reBox (b':=.own ver sz (xs.take n)) a5 rfl rfl (fun r=>r) (by
  refine⟨a6,fun y hy=>a4 y (List.mem_of_mem_take hy),?_⟩
  rcases hb with⟨h0,rfl⟩ | ⟨h0,C,e,c1,c2,c3,c4⟩
  ·exact .inl ⟨h0,by simp⟩
  ·refine .inr ⟨h0,C,e,c1,c2,by rw[My n a4];simp only[List.length_take];omega,fun j c hj=> ?_⟩
   rw[My n a4,List.getElem?_take] at hj;split at hj
   ·obtain⟨v,a1,a2,a3⟩:=c4 j c hj;exact⟨v,a1,a2,a3⟩
   ·cases hj) (fun _ _ e=>by cases e)
 exact⟨m,H,h1⟩⟩
theorem TP{E:Env}{ver sz id len:Nat}{xs:List AV}{l:Lc}{v:Value}(hx:RV H E (.ow id ver sz len) v)(hl:E.loc id ver=some l)(hb:YK H E (.own ver sz xs) l w)(a9:len=xs.length){K:HV}(ag:HV.le H K)(hK:0<l.size→∀o,K l.g o=w.cell? ⟨l.g,o,none⟩):RelI K (.sl sz xs) v:=by
 obtain⟨a,cap,rfl,_,af,a6,an,aa⟩:=hx.ow_inv;subst a9;rcases aa l hl with⟨h0,h1⟩ | ⟨h0,rfl,ah⟩
 ·have:xs=[]:=List.eq_nil_of_length_eq_zero (by omega)
  subst this;exact .sl0 _ _ _ a6
 ·have ab:=hb.1;have a7:=hb.2.1;obtain⟨C,e,hC,ao,ai,ae⟩:=EL (w:=w) hb h0;have a4:∀(i:Nat) (x:AV) (j:Nat) (c:AV),xs[i]? =some x→x.cells[j]? =some c→∃u,C[l.base+(i*sz+j)]? =some u∧u.oneCell'=true∧RelI K c u:=fun i x j c hx hj=>by
   obtain⟨u,a1,a2,a3⟩:=ae _ _ (NZ a7 i x j c hx hj);exact⟨u,a1,a2,a3.mono ag⟩
  refine RelI.sl (H:=K) sz xs l.g l.base cap (fun i j=>(C[l.base+(i*sz+j)]?).getD Go.undef) ab af a6 (fun i x hx=>a7 x (List.mem_of_getElem? hx)) (fun i x j c hx hj=> ?_) (fun i x j c hx hj=> ?_)
  ·obtain⟨u,a1,a2,a3⟩:=a4 i x j c hx hj;rw[a1,hK h0,XG _ _ _ _ _ _ hC,Nat.add_assoc];exact⟨a1,a2⟩
  ·obtain⟨u,a1,a2,a3⟩:=a4 i x j c hx hj;rw[a1];exact a3
theorem Q08(k:Nat)(p:List Nat)(id ver sz len:Nat)(xs:List AV)(hk:WL p (st.get k)=some (.ow id ver sz len))(a3:lkb st.hp id=some (.own ver sz xs))(ab:len=xs.length):
  Conv gl st ⟨st.n,pt st.sl k (Da p (st.get k) (.sl sz xs)),pt st.hp id (.own (ver+4096) sz []),st.nx⟩:=⟨rfl,fun m H B H0 rest tmps w h=>by
 classical
 have hE:=N8 (m:=m) (hp:=lkb st.hp) (b':=.own (ver+4096) sz []) (l:=⟨0,0,0⟩) (show ver<ver+4096 by omega) a3 rfl rfl
 obtain⟨ac,aw,hb⟩:=h.heap.box id _ a3;have hK:HV.le H (fun b o=>if 0< (m id).size∧b=(m id).g then w.cell? ⟨b,o,none⟩ else H b o):=fun b o v hv=>by
  show(if _ then _ else _)=_
  split
  ·rename_i hc;obtain⟨h0,rfl⟩:=hc;have:=(h.heap.sepR id _ a3 h0).2.2 o;rw[this] at hv;cases hv
  ·exact hv
 have aj:∀a4 b',a4≠id→lkb st.hp a4=some b'→Real b' (m a4)→∀o,(if 0< (m id).size∧(m a4).g=(m id).g then w.cell? ⟨(m a4).g,o,none⟩ else H (m a4).g o)=none:=fun a4 b' an aa hr o=>by
  rw[if_neg];·exact(h.heap.sepR a4 b' aa hr).2.2 o
  ·rintro⟨h0,he⟩;exact an (h.heap.injR a4 id b' _ aa a3 hr h0 he)
 have ap:id<st.nx:=by
  rcases Nat.lt_or_ge id st.nx with am | ak
  ·exact am
  ·have:=h.heap.fresh id ak;rw[this] at a3;cases a3
 have hh:RelH (updF m id ⟨0,0,0⟩) (fun b o=>if 0< (m id).size∧b=(m id).g then w.cell? ⟨b,o,none⟩ else H b o) B H0 gl (updF (lkb st.hp) id (some (.own (ver+4096) sz []))) st.nx w:=by
  refine {sat:=fun b o v hv=> ?_,old:=fun b o hB=> ?_,low:=h.heap.low,fresh:=fun j hj=> ?_,box:=fun j b hj=> ?_,sepR:=fun j b hj hr=> ?_,injR:=fun i j b1 b2 h1 h2 r1 r2 a9=> ?_,gv:=h.heap.gv,gl:=fun g=>(h.heap.gl g).mono hK,ty:=fun j v cs hj=> ?_}
  ·dsimp only at hv;split at hv;·exact hv
   ·exact h.heap.sat b o v hv
  ·rw[if_neg];·exact h.heap.old b o hB
   ·rintro⟨h0,rfl⟩;exact(h.heap.sepR id _ a3 h0).1 hB
  ·rw[Qq _ _ (by omega)];exact h.heap.fresh j hj
  ·by_cases e:j=id
   ·subst e;rw[Qh] at hj;cases hj;rw[Qh];exact⟨ac,fun x hx=>by simp at hx,.inl ⟨rfl,rfl⟩⟩
   ·rw[Qq _ _ e] at hj ⊢;exact(h.heap.box j b hj).mono hK hE rfl
  ·by_cases e:j=id;·subst e;rw[Qh] at hj hr;cases hj;exact absurd hr (Nat.lt_irrefl 0)
   ·rw[Qq _ _ e] at hj hr ⊢;obtain⟨x,y,z⟩:=h.heap.sepR j b hj hr;exact⟨x,y,aj j b e hj hr⟩
  ·by_cases e1:i=id;·subst e1;rw[Qh] at h1 r1;cases h1;exact absurd r1 (Nat.lt_irrefl 0)
   ·by_cases e2:j=id;·subst e2;rw[Qh] at h2 r2;cases h2;exact absurd r2 (Nat.lt_irrefl 0)
    ·rw[Qq _ _ e1] at a9 h1 r1;rw[Qq _ _ e2] at a9 h2 r2;exact h.heap.injR i j b1 b2 h1 h2 r1 r2 a9
  ·by_cases e:j=id;·subst e;rw[Qh] at hj;cases hj
   ·rw[Qq _ _ e] at hj ⊢;exact h.heap.ty j v cs hj
 rw[← QI] at hh hE;refine⟨_,_,HP h hh hK hE k p hk fun u hs=> ?_⟩
 refine .imm _ _ (TP (w:=w) hs (JY a3 rfl) (h.heap.box id _ a3) ab hK fun h0 o=> ?_)
 rw[if_pos ⟨h0,rfl⟩]⟩
theorem Oh(k:Nat)(p:List Nat)(id ver off:Nat)(cs:List AV)(hk:WL p (st.get k)=some (.ptr id ver off))(a6:lkb st.hp id=some (.cells ver cs))(aw:0<cs.length)(ad:cs.all immA=true):
  Conv gl st ⟨st.n,pt st.sl k (Da p (st.get k) (.ip cs.length [.agg cs] 0 off)),pt st.hp id (.own (ver+4096) 1 []),st.nx⟩:=⟨rfl,fun m H B H0 rest tmps w h=>by
 classical
 have hE:=N8 (m:=m) (hp:=lkb st.hp) (b':=.own (ver+4096) 1 []) (l:=⟨0,0,0⟩) (show ver<ver+4096 by omega) a6 rfl rfl
 have ap:=h.heap.box id _ a6;have hK:HV.le H (fun b o=>if b=(m id).g then w.cell? ⟨b,o,none⟩ else H b o):=fun b o v hv=>by
  show(if _ then _ else _)=_
  split
  ·rename_i hc;subst hc;have:=(h.heap.sepR id _ a6 trivial).2.2 o;rw[this] at hv;cases hv
  ·exact hv
 have ao:∀a5 b',a5≠id→lkb st.hp a5=some b'→Real b' (m a5)→∀o,(if(m a5).g=(m id).g then w.cell? ⟨(m a5).g,o,none⟩ else H (m a5).g o)=none:=fun a5 b' af ac hr o=>by
  rw[if_neg];·exact(h.heap.sepR a5 b' ac hr).2.2 o
  ·intro he;exact af (h.heap.injR a5 id b' _ ac a6 hr trivial he)
 have ay:id<st.nx:=by
  rcases Nat.lt_or_ge id st.nx with au | ar
  ·exact au
  ·have:=h.heap.fresh id ar;rw[this] at a6;cases a6
 have hh:RelH (updF m id ⟨0,0,0⟩) (fun b o=>if b=(m id).g then w.cell? ⟨b,o,none⟩ else H b o) B H0 gl (updF (lkb st.hp) id (some (.own (ver+4096) 1 []))) st.nx w:=by
  refine {sat:=fun b o v hv=> ?_,old:=fun b o hB=> ?_,low:=h.heap.low,fresh:=fun j hj=> ?_,box:=fun j b hj=> ?_,sepR:=fun j b hj hr=> ?_,injR:=fun i j b1 b2 h1 h2 r1 r2 ab=> ?_,gv:=h.heap.gv,gl:=fun g=>(h.heap.gl g).mono hK,ty:=fun j v cs hj=> ?_}
  ·dsimp only at hv;split at hv;·exact hv
   ·exact h.heap.sat b o v hv
  ·rw[if_neg];·exact h.heap.old b o hB
   ·intro he;subst he;exact(h.heap.sepR id _ a6 trivial).1 hB
  ·rw[Qq _ _ (by omega)];exact h.heap.fresh j hj
  ·by_cases e:j=id
   ·subst e;rw[Qh] at hj;cases hj;rw[Qh];exact⟨Nat.one_pos,fun x hx=>by simp at hx,.inl ⟨rfl,rfl⟩⟩
   ·rw[Qq _ _ e] at hj ⊢;exact(h.heap.box j b hj).mono hK hE rfl
  ·by_cases e:j=id;·subst e;rw[Qh] at hj hr;cases hj;exact absurd hr (Nat.lt_irrefl 0)
   ·rw[Qq _ _ e] at hj hr ⊢;obtain⟨x,y,z⟩:=h.heap.sepR j b hj hr;exact⟨x,y,ao j b e hj hr⟩
  ·by_cases e1:i=id;·subst e1;rw[Qh] at h1 r1;cases h1;exact absurd r1 (Nat.lt_irrefl 0)
   ·by_cases e2:j=id;·subst e2;rw[Qh] at h2 r2;cases h2;exact absurd r2 (Nat.lt_irrefl 0)
    ·rw[Qq _ _ e1] at ab h1 r1;rw[Qq _ _ e2] at ab h2 r2;exact h.heap.injR i j b1 b2 h1 h2 r1 r2 ab
  ·by_cases e:j=id;·subst e;rw[Qh] at hj;cases hj
   ·rw[Qq _ _ e] at hj ⊢;exact h.heap.ty j v cs hj
 rw[← QI] at hh hE;refine⟨_,_,HP h hh hK hE k p hk fun u hs=> ?_⟩
 obtain⟨a,rfl,_,ae⟩:=hs.ptr_inv;obtain rfl:=ae _ (JY a6 rfl);obtain⟨C,e,hC,b6,az,aq⟩:=ap;have a8:∀(i:Nat) (x:AV) (j:Nat) (c:AV),[AV.agg cs][i]? =some x→x.cells[j]? =some c→i=0∧∃u,C[(m id).base+j]? =some u∧u.oneCell'=true∧RelI _ c u:=fun i x j c hx hj=>by
  cases i with
  |succ i=>simp at hx
  |zero=>
   simp only[List.getElem?_cons_zero,Option.some.injEq] at hx;subst hx;obtain⟨u,a1,a2,a3⟩:=aq j c hj;exact⟨rfl,u,a1,a2,(Re a3 (List.all_eq_true.1 ad c (List.mem_of_getElem? hj))).mono hK⟩
 have:=RelI.ip (H:=fun b o=>if b=(m id).g then w.cell? ⟨b,o,none⟩ else H b o) cs.length [.agg cs] (m id).g (m id).base 0 off (fun i j=>(C[(m id).base+j]?).getD Go.undef) aw (by simp) (fun i x hx=>by
  cases i with
  |succ i=>simp at hx
  |zero=>simp only[List.getElem?_cons_zero,Option.some.injEq] at hx;subst hx;rfl) (fun i x j c hx hj=>by
  obtain⟨rfl,u,a1,a2,a3⟩:=a8 i x j c hx hj;rw[a1];refine⟨?_,a2⟩;rw[if_pos rfl,Nat.zero_mul,Nat.add_zero,XG _ _ _ _ _ _ hC,a1];rfl) (fun i x j c hx hj=>by
  obtain⟨rfl,u,a1,a2,a3⟩:=a8 i x j c hx hj;rw[a1];exact a3)
 rw[Nat.zero_mul,Nat.add_zero] at this;exact .imm _ _ this⟩
theorem Q2v{m:Nat→Lc}{H:HV}{B:Nat→Prop}{H0:HV}{gl:Nat→AV}{rest:List (AV×Value)}{st:St}{tmps:Array Value}{w:World}(h:RelS m H B H0 gl rest st tmps w){id ver sz:Nat}{xs:List AV}(a5:lkb st.hp id=some (.own ver sz xs)):∃K:HV,HV.le H K∧RelH (updF m id ⟨0,0,0⟩) K B H0 gl (lkb (pt st.hp id (.own (ver+4096) sz []))) st.nx w∧Env.le (st.env m) (Q8 (lkb (pt st.hp id (.own (ver+4096) sz []))) (updF m id ⟨0,0,0⟩))∧(0< (m id).size→∀o,K (m id).g o=w.cell? ⟨(m id).g,o,none⟩):=by
 classical
 have hE:=N8 (m:=m) (hp:=lkb st.hp) (b':=.own (ver+4096) sz []) (l:=⟨0,0,0⟩) (show ver<ver+4096 by omega) a5 rfl rfl
 obtain⟨ab,au,hb⟩:=h.heap.box id _ a5;have hK:HV.le H (fun b o=>if 0< (m id).size∧b=(m id).g then w.cell? ⟨b,o,none⟩ else H b o):=fun b o v hv=>by
  show(if _ then _ else _)=_
  split
  ·rename_i hc;obtain⟨h0,rfl⟩:=hc;have:=(h.heap.sepR id _ a5 h0).2.2 o;rw[this] at hv;cases hv
  ·exact hv
 have ai:∀a3 b',a3≠id→lkb st.hp a3=some b'→Real b' (m a3)→∀o,(if 0< (m id).size∧(m a3).g=(m id).g then w.cell? ⟨(m a3).g,o,none⟩ else H (m a3).g o)=none:=fun a3 b' am aa hr o=>by
  rw[if_neg];·exact(h.heap.sepR a3 b' aa hr).2.2 o
  ·rintro⟨h0,he⟩;exact am (h.heap.injR a3 id b' _ aa a5 hr h0 he)
 have ao:id<st.nx:=by
  rcases Nat.lt_or_ge id st.nx with ak | aj
  ·exact ak
  ·have:=h.heap.fresh id aj;rw[this] at a5;cases a5
 have hh:RelH (updF m id ⟨0,0,0⟩) (fun b o=>if 0< (m id).size∧b=(m id).g then w.cell? ⟨b,o,none⟩ else H b o) B H0 gl (updF (lkb st.hp) id (some (.own (ver+4096) sz []))) st.nx w:=by
  refine {sat:=fun b o v hv=> ?_,old:=fun b o hB=> ?_,low:=h.heap.low,fresh:=fun j hj=> ?_,box:=fun j b hj=> ?_,sepR:=fun j b hj hr=> ?_,injR:=fun i j b1 b2 h1 h2 r1 r2 a9=> ?_,gv:=h.heap.gv,gl:=fun g=>(h.heap.gl g).mono hK,ty:=fun j v cs hj=> ?_}
  ·dsimp only at hv;split at hv;·exact hv
   ·exact h.heap.sat b o v hv
  ·rw[if_neg];·exact h.heap.old b o hB
   ·rintro⟨h0,rfl⟩;exact(h.heap.sepR id _ a5 h0).1 hB
  ·rw[Qq _ _ (by omega)];exact h.heap.fresh j hj
  ·by_cases e:j=id
   ·subst e;rw[Qh] at hj;cases hj;rw[Qh];exact⟨ab,fun x hx=>by simp at hx,.inl ⟨rfl,rfl⟩⟩
   ·rw[Qq _ _ e] at hj ⊢;exact(h.heap.box j b hj).mono hK hE rfl
  ·by_cases e:j=id;·subst e;rw[Qh] at hj hr;cases hj;exact absurd hr (Nat.lt_irrefl 0)
   ·rw[Qq _ _ e] at hj hr ⊢;obtain⟨x,y,z⟩:=h.heap.sepR j b hj hr;exact⟨x,y,ai j b e hj hr⟩
  ·by_cases e1:i=id;·subst e1;rw[Qh] at h1 r1;cases h1;exact absurd r1 (Nat.lt_irrefl 0)
   ·by_cases e2:j=id;·subst e2;rw[Qh] at h2 r2;cases h2;exact absurd r2 (Nat.lt_irrefl 0)
    ·rw[Qq _ _ e1] at a9 h1 r1;rw[Qq _ _ e2] at a9 h2 r2;exact h.heap.injR i j b1 b2 h1 h2 r1 r2 a9
  ·by_cases e:j=id;·subst e;rw[Qh] at hj;cases hj
   ·rw[Qq _ _ e] at hj ⊢;exact h.heap.ty j v cs hj
 rw[← QI] at hh hE;exact⟨_,hK,hh,hE,fun h0 o=>by rw[if_pos ⟨h0,rfl⟩]⟩
theorem Q5b{z i off n:Nat}{xs:List AV}{x y:AV}(a3:∀x∈xs,x.cells.length=z)(a4:xs[i]? =some x)(hl:off+n≤z)(hn:y.cells.length=n):(∀u∈xs.set i (putE off n z x y),u.cells.length=z)∧(xs.set i (putE off n z x y)).flatMap AV.cells=(xs.flatMap AV.cells).take (i*z+off)++(y.cells++(xs.flatMap AV.cells).drop (i*z+off+n)):=by
 have hi:=(List.getElem?_eq_some_iff.1 a4).1;have a8:x.cells.length=z:=a3 _ (List.mem_of_getElem? a4);generalize hY:putE off n z x y=Y;have a5:Y.cells=x.cells.take off++(y.cells++x.cells.drop (off+n)):=by rw[← hY];exact SP a8
 have a6:Y.cells.length=z:=by rw[a5];simp;omega
 have a9:=Vd a3;have aa:i*z+z≤xs.length*z:=by
  have:(i+1)*z≤xs.length*z:=Nat.mul_le_mul_right _ hi;rw[Nat.add_mul] at this;omega
 refine⟨fun u hx=>by
  rcases List.mem_or_eq_of_mem_set hx with h | h
  ·exact a3 u h
  ·rw[h];exact a6,?_⟩
 rw[TJ i x Y a3 a4 a6,a5];have a7:∀j,j<z→(xs.flatMap AV.cells)[i*z+j]? =x.cells[j]? :=fun j hj=>by
  rw[NZ a3 i x j _ a4 (List.getElem?_eq_getElem (by omega))];exact(List.getElem?_eq_getElem (by omega)).symm
 apply List.ext_getElem?;intro j;simp only[List.getElem?_append,List.length_append,List.length_take,List.getElem?_take,List.getElem?_drop,List.length_drop,a9,a8];have m1:min (i*z) (xs.length*z)=i*z:=by omega
 have m2:min (i*z+off) (xs.length*z)=i*z+off:=by omega
 have m3:min off z=off:=by omega
 rw[m1,m2,m3];by_cases c1:j<i*z;·rw[if_pos c1,if_pos c1,if_pos (by omega),if_pos (by omega)]
 ·rw[if_neg c1];by_cases c2:j<i*z+off
  ·rw[if_pos (by omega),if_pos (by omega),if_pos (by omega),if_pos c2,if_pos c2]
   have:=a7 (j - i*z) (by omega)
   rw[show i*z+(j - i*z)=j by omega] at this
   exact this.symm
  ·rw[if_neg c2];by_cases c3:j - (i*z+off)<y.cells.length
   ·rw[if_pos (by omega),if_neg (by omega),if_pos (by omega),if_pos c3]
    congr 1;omega
   ·rw[if_neg c3];by_cases c4:j<i*z+z
    ·rw[if_pos (by omega),if_neg (by omega),if_neg (by omega)]
     have:=a7 (j - i*z) (by omega)
     rw[show i*z+(j - i*z)=j by omega] at this
     rw[show i*z+off+n+(j - (i*z+off) - y.cells.length)=j by omega,this]
     congr 1;omega
    ·rw[if_neg (by omega)]
     congr 1;omega
theorem Q3t(id ver z i c a4 v2 z2 len:Nat)(xs ys:List AV)(x:AV)(a9:lkb st.hp id=some (.hol ver z xs i c (.ow a4 v2 z2 len)))(a5:lkb st.hp a4=some (.own v2 z2 ys))(ae:len=ys.length)(ar:xs[i]? =some x):
  Conv gl st ⟨st.n,st.sl,pt (pt st.hp a4 (.own (v2+4096) z2 [])) id (.own ver z (xs.set i (putE c 1 z x (.sl z2 ys)))),st.nx⟩:=⟨rfl,fun m H B H0 rest tmps w h=>by
 have af:id≠a4:=fun e=>by subst e;rw[a9] at a5;cases a5
 obtain⟨K,hK,hh,hE,ak⟩:=Q2v h a5;have h1:RelS (updF m a4 ⟨0,0,0⟩) K B H0 gl rest ⟨st.n,st.sl,pt st.hp a4 (.own (v2+4096) z2 []),st.nx⟩ tmps w:=⟨hh,h.size,fun k=>(h.slot k).mono hK hE,fun p hp=>(h.rest p hp).mono hK hE⟩
 have ad:lkb (pt st.hp a4 (.own (v2+4096) z2 [])) id=some (.hol ver z xs i c (.ow a4 v2 z2 len)):=by rw[QI,Qq _ _ af];exact a9
 obtain⟨ag,a8,an,b5,aq,C,e,hC,hs,ao,ac,u,a1,a2,a3⟩:=h.heap.box id _ a9;have ht:RelI K (.sl z2 ys) u:=TP (w:=w) a3 (JY a5 rfl) (h.heap.box a4 _ a5) ae hK ak;obtain⟨f1,f2⟩:=Q5b (y:=.sl z2 ys) (n:=1) (off:=c) a8 ar (by omega) rfl
 have ap:(updF m a4 ⟨0,0,0⟩) id=m id:=Qq _ _ af;refine⟨_,_,(h1.reBox (b':=.own ver z (xs.set i (putE c 1 z x (.sl z2 ys)))) ad rfl rfl (fun _=>trivial) ?_ (fun _ _ e=>by cases e)).1⟩
 rw[ap];refine⟨ag,f1,.inr ⟨aq,C,e,hC,hs,?_,fun j d hj=> ?_⟩⟩
 ·rw[Vd f1,List.length_set,← Vd a8];exact ao
 ·rw[f2] at hj;have am:=Vd a8;have ax:i*z+z≤xs.length*z:=by
   have:(i+1)*z≤xs.length*z:=Nat.mul_le_mul_right _ an;rw[Nat.add_mul] at this;omega
  simp only[List.getElem?_append,List.length_take,List.getElem?_take,List.getElem?_drop,am,AV.cells,List.length_singleton] at hj;rw[show min (i*z+c) (xs.length*z)=i*z+c by omega] at hj
  by_cases c1:j<i*z+c
  ·rw[if_pos c1,if_pos c1] at hj;obtain⟨v,b1,b2,b3⟩:=ac j d hj (by omega)
   exact⟨v,b1,b2,b3.mono hK⟩
  ·rw[if_neg c1] at hj;by_cases c2:j - (i*z+c)<1
   ·rw[if_pos c2] at hj;obtain rfl:j=i*z+c:=by omega
    simp at hj;subst hj;exact⟨u,a1,a2,ht⟩
   ·rw[if_neg c2] at hj;rw[show i*z+c+1+(j - (i*z+c) - 1)=j by omega] at hj
    obtain⟨v,b1,b2,b3⟩:=ac j d hj (by omega)
    exact⟨v,b1,b2,b3.mono hK⟩⟩
end
end HY
end
section
namespace HY
open Go Go.RowKit
def YN(ev:Operand→AV)(op:Op):Option (Nat×List AV):=
 match op with
 | .call c=>match c.callee with
  | .value x=>match ev x with
   | .fn f caps=>some (f,c.args.toList.map ev++caps)
   |_=>none
  |_=>none
 |_=>none
def JZ(op:Op):Bool:=
 match op with
 | .call c=>match c.callee with
  | .builtin _=>false
  |_=>true
 |_=>false
abbrev YW:=Nat→Qo
def YW.Ok(P:Program)(gl:Nat→AV)(cb:YW):Prop:=∀b f ts r hp' nx',cb b f ts .nil 0=some (r,hp',nx')→Jc P gl f ts r hp' nx'
theorem Mu{P:Program}{gl:Nat→AV}{ch:Qo}(h:ch.Ok P gl):YW.Ok P gl (fun _=>ch):=fun _ _ _ _ _ _ hk=>(h _ _ _ _ _ _ _ hk).zero
def xo(P:Program)(ch:YW)(bid:Nat)(dst:Option Nat)(op:Op)(ev:Operand→AV)(hp:Hp):Option (AV×Option (Nat×Box)):=
 if JZ op then(match YN ev op with
  |some (f,args)=>Ca (ch bid) hp bid f args
  |none=>none) else xop P bid dst op ev hp
def appTo(x:Operand)(o:Oper):Bool:=match o.op with
 | .call c=>match c.callee with
  | .builtin .append=>match c.args.toList,x with
   | .tmp s::_,.tmp t=>Nat.beq s t
   |_,_=>false
  |_=>false
 |_=>false
def seed(all:List Oper)(o:Oper):Bool:=match o.op with
 | .buildSlice _ len _=>match o.dst with
  |some d=>Nat.beq len 0&&all.any (appTo (.tmp d))
  |none=>false
 |_=>false
def RC(P:Program)(bid:Nat)(op:Op):Option (AV×Option (Nat×Box)):=match op with
 | .buildSlice t len parts=>match Nat.beq len 0&&parts.toList.isEmpty with
  |true=>match elG P t with
   |some (sz,_,_)=>some (.ow bid 0 sz 0,some (bid,.own 0 sz []))
   |none=>none
  |false=>none
 |_=>none
def idOf:AV→List Nat
 | .ptr id _ _=>[id]
 | .bs id _ _ _ _=>[id]
 | .ow id _ _ _=>[id]
 | .oe id _ _ _ _=>[id]
 |_=>[]
def foot(op:Op)(ev:Operand→AV):Option (List Nat):=match op with
 | .load _ x=>some (idOf (ev x))
 | .store _ x _=>some (idOf (ev x))
 | .binOp _ _ x _ _=>some (idOf (ev x))
 | .convert _ _ x=>some (idOf (ev x))
 | .call c=>match c.callee with
  | .builtin .append=>match c.args.toList with
   | [x,y]=>some (idOf (ev x)++idOf (ev y))
   |_=>none
  | .builtin _=>none
  |_=>match YN ev op with
   |some (_,args)=>match optL (tree (fun _=>none) false 12) args with
    |some _=>some []
    |none=>none
   |none=>none
 |_=>none
abbrev Zt:=Nat→Option (List Nat)
def Wp(md:Bool)(F:Zt)(bid:Nat)(o:Oper)(ev:Operand→AV):Bool:=match md with
 |false=>true
 |true=>match F bid with
  |none=>true
  |some ids=>match foot o.op ev with
   |some l=>l.all (fun i=>ids.any (Nat.beq i))
   |none=>false
def xoF(P:Program)(ch:YW)(md:Bool)(F:Zt)(all:List Oper)(bid:Nat)(o:Oper)(ev:Operand→AV)(hp:Hp):Option (AV×Option (Nat×Box)):=
 match Wp md F bid o ev with
 |true=>match md&&seed all o with
  |true=>RC P bid o.op
  |false=>xo P ch bid o.dst o.op ev hp
 |false=>none
def NA(all:List Oper)(j:Nat):Option Nat:=
 match all[j]? with
 |some o=>o.dst
 |none=>none
def La(x:AV)(a3:Bool):Option Bool:=
 match x with
 | .bool t=>some (bif t then a3 else !a3)
 | .tup []=>some false
 |_=>none
def XN(P:Program)(gl:Nat→AV)(ch:YW)(md:Bool)(F:Zt)(all:List Oper)(bid:Nat)(o:Oper)(st:St):Option St:=
 if Z4 o.dst st.n&& (lkb st.hp bid).isNone&&Nat.blt bid st.nx then match o.guard with
  |none=>match xoF P ch md F all bid o (st.ev gl) (lkb st.hp) with
   |some r=>some (st.eff o.dst r)
   |none=>none
  |some (j,want)=>match NA all j with
   |some g=>match La (st.get g) want with
    |some true=>match xoF P ch md F all bid o (st.ev gl) (lkb st.hp) with
     |some r=>some (st.eff o.dst r)
     |none=>none
    |some false=>some (st.eff o.dst (.tup [],none))
    |none=>none
   |none=>none
 else none
def GF(P:Program)(r:Option Nat)(n:Nat)(B:Nat→Prop)(H0:HV)(gl:Nat→AV)(rest:List (AV×Value))(a:Act)(w:World)(o:Oper)(st':St):Prop:=
 ∀(next:Act→World→Prop) (Q:Exit→Act→World→Prop),
  (∀a' w' m' H',a'.defers=a.defers→Qd B w w'→RelS m' H' B H0 gl rest st' a'.tmps w'→next a' w')→o.wpIn (FW r) n P a w next Q
theorem Yd(a:Act)(d:Option Tmp)(v:Value):(a.put d v).defers=a.defers:=by cases d<;>rfl
theorem IB{P:Program}{bid:Nat}{dst:Option Nat}{op:Op}{ev:Operand→AV}{hp:Hp}{r:AV×Option (Nat×Box)}(h:xop P bid dst op ev hp=some r):∀c,op≠ .defer c:=by
 intro c e;subst e;simp[xop,xop0,xopX,xopO] at h
section
variable {P : Program} {m : Nat → Lc} {H : HV} {B : Nat → Prop} {H0 : HV} {gl : Nat → AV} {rest : List (AV × Value)} {st : St} {a : Act} {w : World}
theorem OpOk.step{ro:Option Nat}{n:Nat}{o:Oper}{st':St}(h:OpOk P B H0 gl rest a w o.dst st' (execOp a.eval o))(a4:∀c,o.op≠ .defer c):GF P ro n B H0 gl rest a w o st':=by
 intro next Q hn;obtain⟨nx,v,w',m',H',hr,hx,hb,a3⟩:=h;refine⟨fun _ _=>trivial,?_⟩
 rw[Oper.semAt_eq _ _ _ a4,hr];rcases hx with rfl | ⟨rfl,rfl⟩
 ·exact hn _ _ _ _ (Yd _ _ _) hb a3
 ·exact hn _ _ _ _ (Yd _ _ _) hb a3
theorem Dz{ev:Operand→AV}{op:Op}{f:Nat}{args:List AV}(h:YN ev op=some (f,args)):∃c x a3,op= .call c∧c.callee= .value x∧ev x= .fn f a3∧args=c.args.toList.map ev++a3:=by
 unfold YN at h;split at h
 ·rename_i c;split at h
  ·rename_i x hx;split at h
   ·rename_i f' a3 hf;cases h;exact⟨c,x,a3,rfl,hx,hf,rfl⟩
   ·cases h
  ·cases h
 ·cases h
theorem TE(h:RelS m H B H0 gl rest st a.tmps w){o:Oper}{f:Nat}{args:List AV}(hc:YN (st.ev gl) o.op=some (f,args)):
  ∃vs:Array Value,(execOp a.eval o).run P w=(callFunc f vs).run P w∧args.length=vs.size∧∀(j:Nat) (x:AV) (v:Value),args[j]? =some x→vs[j]? =some v→RV H (st.env m) x v:=by
 obtain⟨c,x,a9,ho,hx,hf,rfl⟩:=Dz hc;have a4:=h.ev x;rw[hf] at a4;obtain⟨us,hu,a7,a8⟩:=a4.fn_inv;have hl:=LJ h c.args.toList;refine⟨c.args.map a.eval++us,?_,by simp[a7],fun j y v hy hv=> ?_⟩
 ·unfold execOp;simp only[ho,resolve,hx,Sem.run_bind,hu,Deferred.ofValue,Sem.run_pure,Result.andThen_ok,invoke,Array.empty_append]
 ·rw[List.getElem?_append] at hy;rw[Array.getElem?_append] at hv;simp only[List.length_map,Array.length_toList,Array.size_map] at hy hv;split at hy
  ·rename_i hj;rw[if_pos hj] at hv;exact hl.2 j y v hy (by simpa using hv)
  ·rename_i hj;rw[if_neg hj] at hv;exact a8 _ y v hy hv
theorem MT(h:RelS m H B H0 gl rest st a.tmps w){o:Oper}{f:Nat}{args:List AV}(hc:YN (st.ev gl) o.op=some (f,args)){st':St}(ro:Option Nat)(n:Nat)
  (a4:∀vs:Array Value,args.length=vs.size→(∀(j:Nat) (x:AV) (v:Value),args[j]? =some x→vs[j]? =some v→RV H (st.env m) x v)→
   Ans P f vs w fun e w'=>∃v m' H',e= .returned v∧Qd B w w'∧RelS m' H' B H0 gl rest st' (a.put o.dst v).tmps w'):GF P ro n B H0 gl rest a w o st':=by
 intro next Q hn;obtain⟨vs,a6,hl,hr⟩:=TE h hc;obtain⟨c,x,a8,ho,_⟩:=Dz hc;refine⟨fun _ _=>trivial,?_⟩
 rw[Oper.semAt_eq _ _ _ (fun c e=>by rw[ho] at e;cases e),a6]
 rcases a4 vs hl hr with⟨a5,a7⟩ | ⟨v,w',hv,hq⟩
 ·rw[a5 vs w];refine⟨(fun hh=>by simp[FW] at hh),Nx (a7.mono fun e w' hp=> ?_)⟩
  obtain⟨v,m',H',rfl,hb,a3⟩:=hp;exact hn _ _ _ _ (Yd _ _ _) hb a3
 ·rw[hv];obtain⟨v',m',H',he,hb,a3⟩:=hq;cases he;exact hn _ _ _ _ (Yd _ _ _) hb a3
theorem xo_ok{ch:YW}(a3:ch.Ok P gl)(h:RelS m H B H0 gl rest st a.tmps w){o:Oper}(hd:Z4 o.dst st.n=true){bid:Nat}(hb:lkb st.hp bid=none)(hn:bid<st.nx){r:AV×Option (Nat×Box)}(hk:xo P ch bid o.dst o.op (st.ev gl) (lkb st.hp)=some r)(ro:Option Nat)(n:Nat):
  GF P ro n B H0 gl rest a w o (st.eff o.dst r):=by
 unfold xo at hk;split at hk
 ·split at hk
  ·rename_i f args hc;exact MT h hc ro n fun vs hl hr=>FD (fun _ _ _ _ _ hk=>a3 _ _ _ _ _ _ hk) h hd hb hn hl hr hk
  ·cases hk
 ·exact(BP h hd hb hn hk).step (IB hk)
theorem Q3u{k bid sz:Nat}(a3:0<sz)(hk:st.get k= .bs bid 0 sz 0 0)(a4:lkb st.hp bid=some (.cells 0 [])):
  Conv gl st ⟨st.n,pt st.sl k (.ow bid 0 sz 0),pt st.hp bid (.own 0 sz []),st.nx⟩:=by
 have:=Ez (gl:=gl) (st:=st) k [] bid 0 sz 0 [] a3 (by rw[hk];rfl) a4 (by simp) (by simp)
 simpa[Da,KY] using this
theorem AW{d bid:Nat}{v v':AV}{b b':Box}:lkb (pt (st.eff (some d) (v,some (bid,b))).hp bid b')=lkb (st.eff (some d) (v',some (bid,b'))).hp:=by
 show lkb (pt (pt st.hp bid b) bid b')=lkb (pt st.hp bid b');funext k;rw[QI,QI,QI];unfold updF;split<;>rfl
theorem Q66{d bid:Nat}{v v':AV}{b b':Box}{hp:Tr Box}{n nx k:Nat}:St.get ⟨n,pt (st.eff (some d) (v,some (bid,b))).sl d v',hp,nx⟩ k=(st.eff (some d) (v',some (bid,b'))).get k:=by
 show lk .undef (pt (pt st.sl d v) d v') k=lk .undef (pt st.sl d v') k;rw[D9,D9,D9];split<;>rfl
theorem Q70{ch:YW}(aa:ch.Ok P gl)(h:RelS m H B H0 gl rest st a.tmps w){o:Oper}(hd:Z4 o.dst st.n=true){bid:Nat}(hb:lkb st.hp bid=none)(hn:bid<st.nx){d:Nat}(a5:o.dst=some d){r:AV×Option (Nat×Box)}(hk:RC P bid o.op=some r)(ro:Option Nat)(n:Nat):
  GF P ro n B H0 gl rest a w o (st.eff o.dst r):=by
 unfold RC at hk;split at hk
 ·rename_i t len parts ho;split at hk
  ·rename_i hc;rw[Bool.and_eq_true] at hc;obtain rfl:=Nat.eq_of_beq_eq_true hc.1;have hp:parts.toList=[]:=by simpa using hc.2
   split at hk
   ·rename_i sz ag zs a6;cases hk;have a3:0<sz:=by obtain⟨_,_,_,_,_,_,_,a3,_⟩:=Dk a6;exact a3
    have h0:xo P ch bid o.dst o.op (st.ev gl) (lkb st.hp)=some (.bs bid 0 sz 0 0,some (bid,.cells 0 [])):=by
     unfold xo;rw[if_neg (by rw[ho];simp[JZ]),ho]
     refine ZL ?_;simp[xop0,Wv,a6,hp,NL,Nv]
    have ad:=xo_ok aa h hd hb hn h0 ro n;intro next Q ac;refine ad next Q fun a' w' m' H' ab a8 a7=> ?_
    rw[a5] at a7;obtain⟨m2,H2,a4⟩:=(Q3u (gl:=gl) (st:=st.eff (some d) (.bs bid 0 sz 0 0,some (bid,.cells 0 []))) (k:=d) (bid:=bid) (sz:=sz) a3 (by
     show lk .undef (pt st.sl d _) d=_;rw[D9,if_pos rfl]) (by
     show lkb (pt st.hp bid _) bid=_;rw[QI,Qh])).2 _ _ _ _ _ _ _ a7
    refine ac a' w' m2 H2 ab a8 ?_;rw[a5];refine⟨?_,a4.size,fun k=> ?_,fun p hp=> ?_⟩
    ·have:=a4.heap
     rwa [AW] at this
    ·have:=a4.slot k;rw[Q66] at this;unfold St.env at this ⊢
     rwa [AW] at this
    ·have:=a4.rest p hp;unfold St.env at this ⊢
     rwa [AW] at this
   ·cases hk
  ·cases hk
 ·cases hk
theorem xoF_ok{ch:YW}(a3:ch.Ok P gl)(h:RelS m H B H0 gl rest st a.tmps w){md:Bool}{F:Zt}{all:List Oper}{o:Oper}(hd:Z4 o.dst st.n=true){bid:Nat}(hb:lkb st.hp bid=none)(hn:bid<st.nx){r:AV×Option (Nat×Box)}(hk:xoF P ch md F all bid o (st.ev gl) (lkb st.hp)=some r)(ro:Option Nat)(n:Nat):
  GF P ro n B H0 gl rest a w o (st.eff o.dst r):=by
 unfold xoF at hk;split at hk
 ·split at hk
  ·rename_i hs;rw[Bool.and_eq_true] at hs;have:∃d,o.dst=some d:=by
    have hs:=hs.2;unfold seed at hs;split at hs
    ·split at hs;·exact⟨_,by assumption⟩
     ·cases hs
    ·cases hs
   obtain⟨d,a4⟩:=this;exact Q70 a3 h hd hb hn a4 hk ro n
  ·exact xo_ok a3 h hd hb hn hk ro n
 ·cases hk
theorem BW{l:List Oper}{j g:Nat}{t:Bool}(hg:NA l j=some g)(ht:a.tmps.getD g Go.undef= .bool t):yielded l.toArray a.tmps j=some t:=by
 have a3:g<a.tmps.size:=by
  rcases Nat.lt_or_ge g a.tmps.size with h | h
  ·exact h
  ·rw[Array.getD_eq_getD_getElem?,Array.getElem?_eq_none h] at ht;cases ht
 have a6:((l.toArray[j]?).bind (·.dst))=some g:=by
  unfold NA at hg;simp only[List.getElem?_toArray];split at hg;·rename_i o ho;rw[ho];exact hg
  ·cases hg
 rw[Array.getD_eq_getD_getElem?,Array.getElem?_eq_getElem a3,Option.getD_some] at ht;simp only[yielded,a6,Option.bind_some,Array.getElem?_eq_getElem a3,ht]
theorem Q0v{l:List Oper}{j g:Nat}(hg:NA l j=some g)(ht:a.tmps.getD g Go.undef= .tuple #[]):yielded l.toArray a.tmps j=none:=by
 have a3:((l.toArray[j]?).bind (·.dst))=some g:=by
  unfold NA at hg;simp only[List.getElem?_toArray];split at hg;·rename_i o ho;rw[ho];exact hg
  ·cases hg
 rcases Nat.lt_or_ge g a.tmps.size with a4 | a6
 ·rw[Array.getD_eq_getD_getElem?,Array.getElem?_eq_getElem a4,Option.getD_some] at ht;simp only[yielded,a3,Option.bind_some,Array.getElem?_eq_getElem a4,ht]
 ·simp only[yielded,a3,Option.bind_some,Array.getElem?_eq_none a6]
theorem MF{H:HV}{E:Env}{l:List Oper}{o:Oper}{j g:Nat}{a3 b:Bool}{x:AV}(ho:o.guard=some (j,a3))(hg:NA l j=some g)(hw:La x a3=some b)(hv:RV H E x (a.tmps.getD g Go.undef)):Region.wanted o (yielded l.toArray a.tmps)=b:=by
 unfold La at hw;split at hw
 ·rename_i t;have hy:=BW hg hv.bool_inv;cases hw;simp only[Region.wanted,ho,hy];cases t<;>cases a3<;>rfl
 ·cases hw;obtain⟨vs,h1,h2,_⟩:=hv.tup_inv;have:vs= #[]:=Array.eq_empty_of_size_eq_zero (by simpa using h2.symm)
  subst this;simp only[Region.wanted,ho,Q0v hg h1];rfl
 ·cases hw
theorem R4{ch:YW}(a8:ch.Ok P gl)(h:RelS m H B H0 gl rest st a.tmps w){md:Bool}{F:Zt}{all:List Oper}{o:Oper}{bid:Nat}{st':St}(hk:XN P gl ch md F all bid o st=some st')(ro:Option Nat)(n:Nat)
  (next:Act→World→Prop) (Q:Exit→Act→World→Prop) (hn:∀a' w' m' H',a'.defers=a.defers→Qd B w w'→RelS m' H' B H0 gl rest st' a'.tmps w'→next a' w'):
  if Region.wanted o (yielded all.toArray a.tmps) then o.wpIn (FW ro) n P a w next Q else(∀f,o.about P w a.eval=some f→(FW ro).fn f)∧next (a.put o.dst Go.undef) w:=by
 unfold XN at hk;split at hk
 ·rename_i hc;simp only[Bool.and_eq_true,Option.isNone_iff_eq_none] at hc;obtain⟨⟨hd,hb⟩,a3⟩:=hc;have a3:bid<st.nx:=Nat.le_of_ble_eq_true a3;have go:∀r,xoF P ch md F all bid o (st.ev gl) (lkb st.hp)=some r→some (st.eff o.dst r)=some st'→o.wpIn (FW ro) n P a w next Q:=fun r hr he=>by
   cases he;exact xoF_ok a8 h hd hb a3 hr ro n next Q hn
  split at hk
  ·rename_i hg;rw[if_pos (by simp[Region.wanted,hg])]
   split at hk;·rename_i r hr;exact go r hr hk
   ·cases hk
  ·rename_i j ae hg;split at hk
   ·rename_i g a4;split at hk
    ·rename_i ht;rw[if_pos (MF hg a4 ht (h.slot g))];split at hk;·rename_i r hr;exact go r hr hk
     ·cases hk
    ·rename_i ht;rw[if_neg (by rw[MF hg a4 ht (h.slot g)];simp)]
     cases hk;exact⟨fun _ _=>trivial,hn _ _ _ _ (Yd _ _ _) (Qd.refl _ _) (h.putO hd (.tup [] #[] rfl (fun j c v hj=>by simp at hj)))⟩
    ·cases hk
   ·cases hk
 ·cases hk
end
end HY
end
section
namespace HY
open Go Go.RowKit
structure StEq (a b:St):Prop where
 n:a.n=b.n
 nx:a.nx=b.nx
 get:∀k,a.get k=b.get k
 hp:lkb a.hp=lkb b.hp
theorem StEq.refl(a:St):StEq a a:=⟨rfl,rfl,fun _=>rfl,rfl⟩
theorem StEq.symm{a b:St}(h:StEq a b):StEq b a:=⟨h.n.symm,h.nx.symm,fun k=>(h.get k).symm,h.hp.symm⟩
theorem StEq.trans{a b c:St}(h:StEq a b)(k:StEq b c):StEq a c:=⟨h.n.trans k.n,h.nx.trans k.nx,fun i=>(h.get i).trans (k.get i),h.hp.trans k.hp⟩
theorem StEq.ev{a b:St}(h:StEq a b)(gl:Nat→AV):a.ev gl=b.ev gl:=by
 funext x;cases x<;>first | rfl | exact h.get _
theorem StEq.rel{m:Nat→Lc}{H:HV}{B:Nat→Prop}{H0:HV}{gl:Nat→AV}{rest:List (AV×Value)}{a b:St}{tmps:Array Value}{w:World}(h:StEq a b)(hr:RelS m H B H0 gl rest a tmps w):RelS m H B H0 gl rest b tmps w:=by
 refine⟨by rw[← h.hp,← h.nx];exact hr.heap,by rw[← h.n];exact hr.size,fun k=> ?_,fun p hp=> ?_⟩
 ·show RV H (Q8 (lkb b.hp) m) _ _;rw[← h.hp,← h.get];exact hr.slot k
 ·show RV H (Q8 (lkb b.hp) m) _ _;rw[← h.hp];exact hr.rest p hp
theorem VN(st:St)(d:Option Nat)(r:AV×Option (Nat×Box))(k:Nat):(st.eff d r).get k=if d=some k then r.1 else st.get k:=by
 have:∀st:St,(st.putO d r.1).get k=if d=some k then r.1 else st.get k:=fun st=>by
  cases d with
  |none=>simp[St.putO]
  |some d=>
   show lk .undef (pt st.sl d r.1) k=_;rw[D9];simp only[Option.some.injEq];rfl
 obtain⟨v,b⟩:=r;cases b with
 |none=>exact this st
 |some b=>
  have:=this st;cases d<;>exact this
theorem Ut(st:St)(d:Option Nat)(r:AV×Option (Nat×Box)):lkb (st.eff d r).hp=match r.2 with | some (id,b)=>updF (lkb st.hp) id (some b) | none=>lkb st.hp:=by
 obtain⟨v,b⟩:=r;cases b with
 |none=>show lkb (st.putO d v).hp=_;rw[Jj]
 |some b=>cases d<;>exact QI _ _ _
theorem StEq.eff{a b:St}(h:StEq a b)(d:Option Nat)(r:AV×Option (Nat×Box)):StEq (a.eff d r) (b.eff d r):=
 ⟨by rw[Ny,Ny];exact h.n,by rw[Ct,Ct];exact h.nx,fun k=>by rw[VN,VN,h.get],by rw[Ut,Ut,h.hp]⟩
def GO(P:Program)(ch:YW)(md:Bool)(F:Zt)(all:List Oper)(bid:Nat)(o:Oper)(gv:Option AV)(ev:Operand→AV)(hp:Hp):Option (AV×Option (Nat×Box)):=
 match o.guard with
 |none=>xoF P ch md F all bid o ev hp
 |some (_,want)=>match gv with
  |some x=>match La x want with
   |some true=>xoF P ch md F all bid o ev hp
   |some false=>some (.tup [],none)
   |none=>none
  |none=>none
def gval(all:List Oper)(o:Oper)(st:St):Option AV:=
 match o.guard with
 |none=>none
 |some (j,_)=>match NA all j with
  |some g=>some (st.get g)
  |none=>none
theorem Vl{P:Program}{gl:Nat→AV}{ch:YW}{md:Bool}{F:Zt}{all:List Oper}{bid:Nat}{o:Oper}{st:St}:
  XN P gl ch md F all bid o st=if Z4 o.dst st.n&& (lkb st.hp bid).isNone&&Nat.blt bid st.nx then(match GO P ch md F all bid o (gval all o st) (st.ev gl) (lkb st.hp) with | some r=>some (st.eff o.dst r) | none=>none) else none:=by
 unfold XN GO gval;split
 ·cases hg:o.guard with
  |none=>rfl
  |some x=>
   obtain⟨j,a3⟩:=x;simp only;cases hgs:NA all j with
   |none=>rfl
   |some g=>
    simp only;cases hv:La (st.get g) a3 with
    |none=>rfl
    |some b=>cases b<;>rfl
 ·rfl
theorem StEq.stepO{P:Program}{gl:Nat→AV}{ch:YW}{md:Bool}{F:Zt}{all:List Oper}{bid:Nat}{o:Oper}{a b s:St}(h:StEq a b)(hk:XN P gl ch md F all bid o a=some s):∃s',XN P gl ch md F all bid o b=some s'∧StEq s s':=by
 rw[Vl] at hk ⊢;have hg:gval all o a=gval all o b:=by
  unfold gval;split;·rfl
  ·split;·rw[h.get]
   ·rfl
 rw[h.n,h.nx,h.hp,hg,h.ev] at hk;split at hk
 ·rename_i hc;rw[if_pos hc];split at hk
  ·rename_i r hr;cases hk;exact⟨_,rfl,h.eff _ _⟩
  ·cases hk
 ·cases hk
def tmp?:Operand→Option Nat
 | .tmp t=>some t
 |_=>none
def rdO(all:List Oper)(o:Oper):List Nat:=
 o.op.operands.toList.filterMap tmp? ++match o.guard with
  |some (j,_)=>(NA all j).toList
  |none=>[]
def IQ(c:Call):Bool:=match c.args.toList with | .const _::_=>true | _=>false
def hk(op:Op):Nat:=
 match op with
 | .load .. =>1
 | .lookup .. =>1
 | .store .. =>2
 | .binOp o .. =>match o with
  | .eql | .neq=>1
  |_=>0
 | .convert .. =>1
 | .call c=>match c.callee with
  | .builtin .append=>match IQ c with | true=>1 | false=>2
  | .builtin .unsafeString=>2
  | .builtin _=>0
  |_=>1
 |_=>0
def hkCl(a b:Nat):Bool:=(Nat.beq a 2&& !Nat.beq b 0) || (Nat.beq b 2&& !Nat.beq a 0)
def Lb(d:Option Nat)(l:List Nat):Bool:=match d with | some d=>l.contains d | none=>false
def Id(a b:Option (List Nat)):Bool:=match a,b with
 |some l,some k=>l.all fun i=>k.all fun j=> !Nat.beq i j
 |_,_=>false
def IK(all:List Oper)(o p:Oper):Bool:=Lb o.dst (rdO all p) || Lb o.dst p.dst.toList || Lb p.dst (rdO all o)
def Ic(md:Bool)(all:List Oper)(o p:Oper):Bool:=IK all o p || (!md&&hkCl (hk o.op) (hk p.op))
section
variable {P : Program} {m : Nat → Lc} {H : HV} {B : Nat → Prop} {H0 : HV} {gl : Nat → AV} {rest : List (AV × Value)} {st : St} {a : Act} {w : World} {ch : YW}
theorem Q3l{bid:Nat}{dst:Option Nat}{op:Op}{ev a3:Operand→AV}{hp:Hp}(h:∀x∈op.operands,ev x=a3 x):xop0 P bid dst op ev hp=xop0 P bid dst op a3 hp:=by
 have a4:∀(o:Option Operand),(∀x∈o.toList,ev x=a3 x)→o.map ev=o.map a3:=fun o ho=>by
  cases o with
  |none=>rfl
  |some x=>simp[ho x (by simp)]
 cases op<;>simp only[Op.operands,List.mem_toArray,List.mem_cons,List.not_mem_nil,or_false,forall_eq_or_imp,forall_eq,List.mem_map,Array.mem_toList_iff] at h<;>(try rfl)<;>simp only[xop0]
 case move=>rw[h]
 case assign=>rw[h]
 case pick=>rw[h.1,h.2.1,h.2.2]
 case box=>rw[h]
 case build t ps=>congr 2;refine List.map_congr_left fun p hp=> ?_;rw[h _ ⟨p,by simpa using hp,rfl⟩]
 case buildSlice t l ps=>congr 1;refine List.map_congr_left fun p hp=> ?_;rw[h _ ⟨p,by simpa using hp,rfl⟩]
 case load=>rw[h]
 case store=>rw[h.1,h.2]
 case nilCheck=>rw[h]
 case binOp=>rw[h.1,h.2]
 case unOp=>rw[h]
 case convert=>rw[h]
 case makeFunc fn first caps=>
  cases fn<;>try rfl
  simp only;split
  ·congr 3;refine List.map_congr_left fun x hx=>h x ?_
   simp at hx ⊢;exact .inr hx
  ·rfl
 case makeSlice=>rw[h.1,h.2]
 case slice t x lo hi mx=>
  have h':∀y,y=x∨y∈lo.toList∨y∈hi.toList∨y∈mx.toList→ev y=a3 y:=fun y hy=>h y (by
   simp only[Array.mem_append,List.mem_toArray,List.mem_singleton,Option.mem_toArray] at*;rcases hy with h1 | h1 | h1 | h1
   ·exact .inl (.inl (.inl (by simp[h1])))
   ·exact .inl (.inl (.inr (by simpa using h1)))
   ·exact .inl (.inr (by simpa using h1))
   ·exact .inr (by simpa using h1))
  rw[h' x (.inl rfl),a4 lo (fun y hy=>h' y (.inr (.inl hy))),a4 hi (fun y hy=>h' y (.inr (.inr (.inl hy)))),a4 mx (fun y hy=>h' y (.inr (.inr (.inr hy))))]
 case fieldAddr=>rw[h]
 case field=>rw[h]
 case indexAddr=>rw[h.1,h.2]
 case index=>rw[h.1,h.2]
 case extract=>rw[h]
 case call c=>
  cases hc:c.callee<;>simp only
  rename_i b;congr 1;refine List.map_congr_left fun x hx=>h x ?_
  simp[Call.operands,hc];simpa using hx
theorem Q3n{bid:Nat}{op:Op}{ev a3:Operand→AV}{hp:Hp}(h:∀x∈op.operands,ev x=a3 x):xopX P bid op ev hp=xopX P bid op a3 hp:=by
 cases op<;>(try rfl)
 case binOp=>simp only[Op.operands,List.mem_toArray,List.mem_cons,List.not_mem_nil,or_false,forall_eq_or_imp,forall_eq] at h;simp only[xopX];rw[h.1,h.2]
 case convert=>simp only[Op.operands,List.mem_toArray,List.mem_cons,List.not_mem_nil,or_false,forall_eq] at h;simp only[xopX];rw[h]
 case call c=>
  simp only[xopX];cases hc:c.callee with
  |builtin b=>
   have hl:c.args.toList.map ev=c.args.toList.map a3:=List.map_congr_left fun x hx=>h x (by simp[Op.operands,Call.operands,hc];simpa using hx)
   simp only[hl]
  |value x=>rfl
  |invoke x y=>rfl
theorem Q3m{op:Op}{ev a3:Operand→AV}{hp:Hp}(h:∀x∈op.operands,ev x=a3 x):xopO P op ev hp=xopO P op a3 hp:=by
 cases op<;>(try rfl)
 case lookup=>simp only[Op.operands,List.mem_toArray,List.mem_cons,List.not_mem_nil,or_false,forall_eq_or_imp,forall_eq] at h;simp only[xopO];rw[h.1,h.2]
 case call c=>
  simp only[xopO];cases hc:c.callee with
  |builtin b=>
   have hl:c.args.toList.map ev=c.args.toList.map a3:=List.map_congr_left fun x hx=>h x (by simp[Op.operands,Call.operands,hc];simpa using hx)
   simp only[hl]
  |value x=>rfl
  |invoke x y=>rfl
theorem Q4s{bid:Nat}{dst:Option Nat}{op:Op}{ev a3:Operand→AV}{hp:Hp}(h:∀x∈op.operands,ev x=a3 x):xop P bid dst op ev hp=xop P bid dst op a3 hp:=by
 unfold xop;rw[Q3l h,Q3n h,Q3m h]
end
end HY
end
section
namespace HY
open Go Go.RowKit
section
variable {P : Program} {m : Nat → Lc} {H : HV} {B : Nat → Prop} {H0 : HV} {gl : Nat → AV} {rest : List (AV × Value)} {st : St} {a : Act} {w : World} {ch : YW}
theorem Nw{op:Op}{ev a3:Operand→AV}(h:∀x∈op.operands,ev x=a3 x):YN ev op=YN a3 op:=by
 unfold YN;split
 ·rename_i c;split
  ·rename_i x hx;have a4:ev x=a3 x:=h x (by simp[Op.operands,Call.operands,hx])
   have hl:c.args.toList.map ev=c.args.toList.map a3:=List.map_congr_left fun y hy=>h y (by simp[Op.operands,Call.operands,hx];right;simpa using hy)
   rw[a4,hl]
  ·rfl
 ·rfl
theorem Q6t{bid:Nat}{dst:Option Nat}{op:Op}{ev a3:Operand→AV}{hp:Hp}(h:∀x∈op.operands,ev x=a3 x):xo P ch bid dst op ev hp=xo P ch bid dst op a3 hp:=by
 unfold xo;rw[Nw h,Q4s h]
theorem xo_hk0{bid:Nat}{dst:Option Nat}{op:Op}{ev:Operand→AV}{hp hp':Hp}(h:hk op=0):xo P ch bid dst op ev hp=xo P ch bid dst op ev hp':=by
 unfold xo;split
 ·rename_i hc;unfold JZ at hc;split at hc
  ·rename_i c;split at hc;·cases hc
   ·rename_i a4;exfalso;cases hcc:c.callee with
    |builtin b=>exact a4 _ hcc
    |value x=>simp[hk,hcc] at h
    |invoke x y=>simp[hk,hcc] at h
  ·cases hc
 ·rename_i a5;clear a5;unfold xop;have e0:xop0 P bid dst op ev hp=xop0 P bid dst op ev hp':=by
   cases op<;>first | rfl | (cases h;done) | skip
   case makeFunc fn first caps=>cases fn<;>rfl
   case call c=>
    simp only[xop0];cases hcc:c.callee with
    |builtin b=>
     simp only;cases b<;>first | rfl | (simp only[hk,hcc] at h;split at h<;>cases h;done) | (simp[hk,hcc] at h;done)
    |value x=>rfl
    |invoke x y=>rfl
  have e1:xopX P bid op ev hp=xopX P bid op ev hp':=by
   cases op<;>first | rfl | (cases h;done) | skip
   case binOp o t x y ty=>
    have a6:∀hp,NK P o t (ev x) (ev y) hp=none:=fun hp=>by
     have ho:∀b,Mm o b=none:=fun b=>by cases o<;>first | rfl | (cases h;done)
     unfold NK;split
     ·split
      ·split
       ·split;·exact ho _
        ·rfl
       ·rfl
      ·rfl
     ·rfl
    simp only[xopX,a6]
   case call c=>
    simp only[xopX];cases hcc:c.callee with
    |builtin b=>
     simp only;cases b<;>first | rfl | (simp only[hk,hcc] at h;split at h<;>cases h;done) | (simp[hk,hcc] at h;done)
    |value x=>rfl
    |invoke x y=>rfl
  have e2:xopO P op ev hp=xopO P op ev hp':=by
   cases op<;>first | rfl | (cases h;done) | skip
   case call c=>
    simp only[xopO];cases hcc:c.callee with
    |builtin b=>
     cases b<;>first | rfl | (simp only[hk,hcc] at h;split at h<;>cases h;done) | (simp[hk,hcc] at h;done)
    |value x=>rfl
    |invoke x y=>rfl
  rw[e0,e1,e2]
def Ext(hp hp':Hp):Prop:=∀id b,hp id=some b→hp' id=some b
theorem Rb{hp:Hp}{id:Nat}{b:Box}(h:hp id=none):Ext hp (updF hp id (some b)):=fun a4 b' h'=>by
 have:a4≠id:=fun e=>by rw[e,h] at h';cases h'
 rw[Qq _ _ this];exact h'
theorem IU{E:Env}{id ver off:Nat}{v:Value}(h:RV H E (.ptr id ver off) v):E.al id ver:=let⟨_,_,h,_⟩:=h.ptr_inv;h
theorem Ht{E:Env}{id ver sz off len:Nat}{v:Value}(h:RV H E (.bs id ver sz off len) v):E.al id ver:=let⟨_,_,_,h,_⟩:=h.bs_inv;h
theorem ow_al{E:Env}{id ver sz len:Nat}{v:Value}(h:RV H E (.ow id ver sz len) v):E.al id ver:=let⟨_,_,_,h,_⟩:=h.ow_inv;h
theorem oe_al{E:Env}{id ver sz i off:Nat}{v:Value}(h:RV H E (.oe id ver sz i off) v):E.al id ver:=let⟨_,_,h,_⟩:=h.oe_inv;h
theorem KC{hp:Hp}{m:Nat→Lc}{id ver:Nat}(h:(Q8 hp m).al id ver):∃b,hp id=some b:=let⟨b,h,_⟩:=h;⟨b,h⟩
theorem CS{f g:AV→Option AV}:∀ {l:List AV},(∀x∈l,f x=g x)→optL f l=optL g l
 | [],_=>rfl
 |x::l,h=>by
  simp only[optL];rw[h x (by simp),CS (l:=l) fun y hy=>h y (by simp[hy])]
theorem S2{hp hp':Hp}(hb:∀id b,hp id=some b→YK H (Q8 hp m) b (m id) w)(he:Ext hp hp')(s:Bool):∀(k:Nat) (x:AV) (v:Value),RV H (Q8 hp m) x v→tree hp' s k x=tree hp s k x
 |0,_,_,_=>rfl
 |k+1,x,v,hx=>by
  have ih:=S2 hb he s k;cases x with
  |bs id ver sz off len=>
   obtain⟨b,a4⟩:=KC (Ht hx);simp only[tree,he _ _ a4,a4];cases b with
   |cells v' cs=>
    obtain⟨C,e,hC,_,_,a8⟩:=hb _ _ a4;have:optL (tree hp' s k) ((cs.drop off).take (len*sz))=optL (tree hp s k) ((cs.drop off).take (len*sz)):=CS fun y hy=>by
     obtain⟨j,hj⟩:=List.getElem?_of_mem (List.mem_of_mem_drop (List.mem_of_mem_take hy));obtain⟨u,_,_,hr⟩:=a8 j y hj;exact ih y u hr
    simp only[this]
   |own=>rfl
   |hol=>rfl
   |loop=>rfl
   |defb=>rfl
   |map=>rfl
   |dead=>rfl
  |agg cs=>
   obtain⟨vs,rfl,hl,_,hc⟩:=hx.agg_inv;simp only[tree];rw[CS fun y hy=> ?_]
   obtain⟨j,hj⟩:=List.getElem?_of_mem hy;exact ih y _ (hc j y _ hj (Array.getElem?_eq_getElem (by rw[← hl];exact(List.getElem?_eq_some_iff.1 hj).1)))
  |tup cs=>
   obtain⟨vs,rfl,hl,hc⟩:=hx.tup_inv;simp only[tree];rw[CS fun y hy=> ?_]
   obtain⟨j,hj⟩:=List.getElem?_of_mem hy;exact ih y _ (hc j y _ hj (Array.getElem?_eq_getElem (by rw[← hl];exact(List.getElem?_eq_some_iff.1 hj).1)))
  |fn f cs=>
   obtain⟨vs,rfl,hl,hc⟩:=hx.fn_inv;simp only[tree];rw[CS fun y hy=> ?_]
   obtain⟨j,hj⟩:=List.getElem?_of_mem hy;exact ih y _ (hc j y _ hj (Array.getElem?_eq_getElem (by rw[← hl];exact(List.getElem?_eq_some_iff.1 hj).1)))
  |_=>rfl
theorem Q71{hp hp':Hp}(he:Ext hp hp'){sz:Nat}{x:AV}{v:Value}(hx:RV H (Q8 hp m) x v):xsrc sz x hp'=xsrc sz x hp:=by
 cases x with
 |bs id ver z off len=>
  obtain⟨b,a3⟩:=KC (Ht hx);simp only[xsrc,he _ _ a3,a3]
 |_=>rfl
theorem Q0q{hp hp':Hp}(he:Ext hp hp'){bid:Nat}{t t':TypeId}{s x:AV}{u v:Value}(hs:RV H (Q8 hp m) s u)(hx:RV H (Q8 hp m) x v):Gr P bid t t' s x hp'=Gr P bid t t' s x hp:=by
 unfold Gr;split
 ·split
  ·rw[Q71 he hx];split
   ·split;·rfl
    ·cases s with
     |bs id ver z off len=>
      obtain⟨b,a3⟩:=KC (Ht hs);simp only[Db,he _ _ a3,a3]
     |_=>rfl
   ·rfl
  ·rfl
 ·rfl
theorem Q6u(h:RelS m H B H0 gl rest st a.tmps w){hp':Hp}(he:Ext (lkb st.hp) hp'){bid:Nat}{dst:Option Nat}{op:Op}:xop0 P bid dst op (st.ev gl) hp'=xop0 P bid dst op (st.ev gl) (lkb st.hp):=by
      cases op<;>first | rfl | skip
      case makeFunc fn first caps=>cases fn<;>rfl
      case load t x=>
        simp only[xop0,W4];have hx:=h.ev x;generalize st.ev gl x=y at hx ⊢;cases y<;>first | rfl | skip
        · obtain⟨b,a3⟩:=KC (IU hx)
          simp only[he _ _ a3,a3]
        · obtain⟨b,a3⟩:=KC (oe_al hx)
          simp only[he _ _ a3,a3]
      case store t x y=>
        simp only[xop0,DQ];have hx:=h.ev x;generalize st.ev gl x=z at hx ⊢;cases z<;>first | rfl | skip
        · obtain⟨b,a3⟩:=KC (IU hx)
          simp only[he _ _ a3,a3]
        · obtain⟨b,a3⟩:=KC (oe_al hx)
          simp only[he _ _ a3,a3]
      case call c=>
        simp only[xop0];cases hcc:c.callee<;>first | rfl | skip
        rename_i b;cases b<;>first | rfl | skip
        simp only[Jl];split
        · rename_i t t' s x ht hx
          match hh:c.args.toList with
          | []=>rw[hh] at hx;cases hx
          | [y]=>rw[hh] at hx;simp at hx
          | [y,z]=>
            rw[hh] at hx;simp only[List.map_cons,List.map_nil,List.cons.injEq,and_true] at hx;obtain⟨rfl,rfl⟩:=hx;exact Q0q he (h.ev y) (h.ev z)
          |_::_::_::_=>rw[hh] at hx;simp at hx
        · rfl
theorem Q0u{pt:TypeId}{p n:AV}{hp hp':Hp}(h:∀id ver off,p= .ptr id ver off→hp id=hp' id):Li P pt p n hp=Li P pt p n hp':=by
 unfold Li;split;·rfl
 ·rw[h _ _ _ rfl]
 ·rfl
theorem Q6y(h:RelS m H B H0 gl rest st a.tmps w){hp':Hp}(he:Ext (lkb st.hp) hp'){bid:Nat}{op:Op}:xopX P bid op (st.ev gl) hp'=xopX P bid op (st.ev gl) (lkb st.hp):=by
 cases op<;>first | rfl | skip
 case binOp o t x y ty=>
  simp only[xopX];congr 1;have hx:=h.ev x;generalize st.ev gl x=z at hx ⊢;cases z<;>first | rfl | skip
  obtain⟨b,a3⟩:=KC (IU hx);generalize st.ev gl y=y';cases y'<;>first | rfl | simp only[NK,he _ _ a3,a3]
 case convert src to x=>
  simp only[xopX];congr 1;have hx:=h.ev x;generalize st.ev gl x=z at hx ⊢;cases z<;>first | rfl | skip
  ·obtain⟨b,a3⟩:=KC (IU hx);simp only[NI,he _ _ a3,a3]
  ·obtain⟨b,a3⟩:=KC (Ht hx);simp only[NI,he _ _ a3,a3]
 case call c=>
  simp only[xopX];cases hcc:c.callee<;>first | rfl | skip
  rename_i b;cases b<;>first | rfl | skip
  ·simp only;split
   ·rename_i t t' s x ht hx;obtain⟨y,z,_,rfl,rfl⟩:=N1 hx;unfold Lg;split
    ·split
     ·split
      ·split;·rfl
       ·have hs:=h.ev y;generalize st.ev gl y=y' at hs ⊢;cases y'<;>first | rfl | skip
        obtain⟨b,a3⟩:=KC (Ht hs);simp only[Db,he _ _ a3,a3]
      ·rfl
     ·rfl
    ·rfl
   ·rfl
  ·simp only;split
   ·rename_i pt it p n ht hx;obtain⟨y,z,_,rfl,rfl⟩:=N1 hx;refine Q0u fun id ver off e=> ?_
    have hs:=h.ev y;rw[e] at hs;obtain⟨b,a3⟩:=KC (IU hs);rw[he _ _ a3,a3]
   ·rfl
theorem Q6j{hp hp':Hp}(he:Ext hp hp'){sz:Nat}{x:AV}{v:Value}(hx:RV H (Q8 hp m) x v):xels sz x hp'=xels sz x hp:=by
 cases x with
 |bs id ver z off len=>
  obtain⟨b,a3⟩:=KC (Ht hx);simp only[xels,he _ _ a3,a3]
 |ow id ver z len=>
  obtain⟨b,a3⟩:=KC (ow_al hx);simp only[xels,he _ _ a3,a3]
 |_=>rfl
theorem Q4k{hp hp':Hp}(he:Ext hp hp'){t t':TypeId}{s x:AV}{u v:Value}(hs:RV H (Q8 hp m) s u)(hx:RV H (Q8 hp m) x v):WP P t t' s x hp'=WP P t t' s x hp:=by
 cases s with
 |ow id ver z len=>
  obtain⟨b,a3⟩:=KC (ow_al hs);simp only[WP,he _ _ a3,a3,Q6j he hx]
 |_=>rfl
theorem Q6w(h:RelS m H B H0 gl rest st a.tmps w){hp':Hp}(he:Ext (lkb st.hp) hp'){op:Op}:xopO P op (st.ev gl) hp'=xopO P op (st.ev gl) (lkb st.hp):=by
 cases op<;>first | rfl | skip
 case lookup t x i ok=>
  simp only[xopO];have hx:=h.ev x;generalize st.ev gl x=y at hx;cases y with
  |mp id=>
   obtain⟨l,_,hl⟩:=hx.mp_inv;have:∃b,lkb st.hp id=some b:=by
    cases a3:lkb st.hp id with
    |some b=>exact⟨b,rfl⟩
    |none=>simp[St.env,Q8,a3] at hl
   obtain⟨b,a3⟩:=this;simp only[Rz,he _ _ a3,a3]
  |_=>rfl
 case call c=>
  simp only[xopO];cases hcc:c.callee<;>first | rfl | skip
  rename_i b;cases b<;>first | rfl | skip
  simp only;split
  ·rename_i t t' s x ht hx;obtain⟨y,z,_,rfl,rfl⟩:=N1 hx;exact Q4k he (h.ev y) (h.ev z)
  ·rfl
theorem xo_ext(h:RelS m H B H0 gl rest st a.tmps w){hp':Hp}(he:Ext (lkb st.hp) hp'){bid:Nat}{dst:Option Nat}{op:Op}:xo P ch bid dst op (st.ev gl) hp'=xo P ch bid dst op (st.ev gl) (lkb st.hp):=by
 by_cases h0:hk op=0;·exact xo_hk0 h0
 ·unfold xo;split
  ·split
   ·rename_i f args hc;obtain⟨c,x,a3,ho,hx,hf,rfl⟩:=Dz hc;unfold Ca;have:optL (tree hp' false 12) (c.args.toList.map (st.ev gl)++a3)=optL (tree (lkb st.hp) false 12) (c.args.toList.map (st.ev gl)++a3):=CS fun y hy=>by
     rw[List.mem_append,List.mem_map] at hy;rcases hy with⟨z,_,rfl⟩ | hy
     ·exact S2 (fun id b a4=>h.heap.box id b a4) he false 12 _ _ (h.ev z)
     ·have a5:=h.ev x;rw[hf] at a5;obtain⟨us,_,a8,a9⟩:=a5.fn_inv;obtain⟨j,hj⟩:=List.getElem?_of_mem hy;exact S2 (fun id b a4=>h.heap.box id b a4) he false 12 _ _ (a9 j y _ hj (Array.getElem?_eq_getElem (by rw[← a8];exact(List.getElem?_eq_some_iff.1 hj).1)))
    rw[this]
   ·rfl
  ·rename_i a7;clear a7;unfold xop;rw[Q6u h he,Q6y h he,Q6w h he]
theorem Q2u(v:Value):(∀a b c d e,ofV0 v≠ .bs a b c d e)∧∀a b c d,ofV0 v≠ .ow a b c d:=by
 unfold ofV0;split<;>exact⟨(fun a b c d e h=>nomatch h),(fun a b c d h=>nomatch h)⟩
theorem Fg(v:Value):(∀a b c d e,ofV v≠ .bs a b c d e)∧∀a b c d,ofV v≠ .ow a b c d:=by
 unfold ofV;split;·split<;>exact⟨(fun a b c d e h=>nomatch h),(fun a b c d h=>nomatch h)⟩
 ·exact⟨(fun a b c d e h=>nomatch h),(fun a b c d h=>nomatch h)⟩
 ·exact Q2u _
theorem SJ{c:Call}{ev:Operand→AV}(a3:∀v,ev (.const v)=ofV v)(hn:IQ c=true){s x:AV}(h:c.args.toList.map ev=[s,x]):∃v,s=ofV v:=by
 unfold IQ at hn;split at hn
 ·rename_i v r hr;rw[hr,List.map_cons] at h;injection h with h1 h2
  exact⟨v,h1.symm.trans (a3 v)⟩
 ·cases hn
theorem hk_app{c:Call}(hc:c.callee= .builtin .append)(hn:IQ c=false):hk (.call c)=2:=by simp[hk,hc,hn]
theorem Fz{bid e tg sz a3 n:Nat}{ds:List AV}{s:AV}{hp:Hp}{v:AV}{id:Nat}{b:Box}(h:Db bid e tg sz a3 n ds s hp=some (v,some (id,b))):id=bid∨((∃a b c d e,s= .bs a b c d e)∧∃b',hp id=some b'):=by
 unfold Db at h;split at h
 ·split at h;·cases h;exact .inl rfl
  ·cases h
 ·split at h;·cases h;exact .inl rfl
  ·cases h
 ·split at h
  ·rename_i a4;split at h;·cases h;exact .inr ⟨⟨_,_,_,_,_,rfl⟩,_,a4⟩
   ·cases h
  ·cases h
 ·cases h
theorem Q0w{bid:Nat}{c:Call}{ev:Operand→AV}{s x:AV}{hp:Hp}{id:Nat}(hc:c.callee= .builtin .append)(a3:∀v,ev (.const v)=ofV v)(ha:c.args.toList.map ev=[s,x])(h:id=bid∨((∃a b c d e,s= .bs a b c d e)∧∃b',hp id=some b')):id=bid∨(hk (.call c)=2∧∃b',hp id=some b'):=by
 refine h.imp (fun e=>e) fun⟨⟨a,b,d,e,f,hs⟩,hb⟩=>⟨hk_app hc ?_,hb⟩
 cases hn:IQ c with
 |false=>rfl
 |true=>
  obtain⟨v,hv⟩:=SJ a3 hn ha;exact absurd (hv.symm.trans hs) ((Fg v).1 _ _ _ _ _)
theorem Q6x{bid:Nat}{op:Op}{ev:Operand→AV}(a5:∀v,ev (.const v)=ofV v){hp:Hp}{v:AV}{id:Nat}{b:Box}(h:xopX P bid op ev hp=some (v,some (id,b))):id=bid∨(hk op=2∧∃b',hp id=some b'):=by
 have a3:∀o:Option AV,xv o≠some (v,some (id,b)):=fun o e=>by cases o<;>simp[xv] at e
 unfold xopX at h;split at h;·exact absurd h (a3 _)
 ·exact absurd h (a3 _)
 ·rename_i c;split at h
  ·rename_i bb a4;split at h
   ·split at h
    ·rename_i ha;unfold Lg at h;split at h
     ·split at h
      ·split at h
       ·split at h;·cases h
        ·exact Q0w a4 a5 ha (Fz h)
       ·cases h
      ·cases h
     ·cases h
    ·cases h
   ·split at h;·exact absurd h (a3 _)
    ·cases h
   ·split at h
    ·unfold Li at h;split at h;·cases h
     ·split at h
      ·rename_i a6;split at h
       ·split at h
        ·split at h;·cases h;exact .inr ⟨by simp[hk,a4],_,a6⟩
         ·cases h
        ·cases h
       ·cases h
      ·cases h
     ·cases h
    ·cases h
   ·cases h
  ·cases h
 ·cases h
theorem Q6v{op:Op}{ev:Operand→AV}(a4:∀v,ev (.const v)=ofV v){hp:Hp}{v:AV}{id:Nat}{b:Box}(h:xopO P op ev hp=some (v,some (id,b))):hk op=2∧∃b',hp id=some b':=by
 unfold xopO at h;split at h;·obtain⟨v',_,h2⟩:=KG h;cases h2
 ·rename_i c;split at h
  ·rename_i a3;split at h
   ·rename_i ha;unfold WP at h;split at h
    ·split at h
     ·split at h
      ·split at h
       ·rename_i a5;split at h
        ·split at h
         ·split at h
          ·cases h;refine⟨hk_app a3 ?_,_,a5⟩;cases hn:IQ c with
           |false=>rfl
           |true=>
            obtain⟨v,hv⟩:=SJ a4 hn ha;exact absurd hv.symm ((Fg v).2 _ _ _ _)
          ·cases h
         ·cases h
        ·cases h
       ·cases h
      ·cases h
     ·cases h
    ·cases h
   ·cases h
  ·cases h
 ·cases h
theorem xo_box{bid:Nat}{dst:Option Nat}{op:Op}{ev:Operand→AV}(a6:∀v,ev (.const v)=ofV v){hp:Hp}{v:AV}{id:Nat}{b:Box}(h:xo P ch bid dst op ev hp=some (v,some (id,b))):id=bid∨(hk op=2∧∃b',hp id=some b'):=by
 have a4:∀o:Option AV,xv o≠some (v,some (id,b)):=fun o e=>by cases o<;>simp[xv] at e
 unfold xo at h;split at h
 ·split at h
  ·rename_i f args hc;left;have key:∀s o,GP s bid o=some (v,some (id,b))→id=bid:=fun s o hh=>by
    unfold GP at hh;split at hh
    ·split at hh
     ·split at hh
      ·split at hh
       ·split at hh;·cases hh;rfl
        ·cases hh
       ·cases hh
      ·cases hh
     ·split at hh
      ·split at hh;·cases hh;rfl
       ·cases hh
      ·cases hh
     ·exact absurd hh (a4 _)
    ·cases hh
   unfold Ca at h;split at h;·exact key _ _ h
   ·split at h;·exact key _ _ h
    ·cases h
  ·cases h
 ·unfold xop at h;split at h
  rotate_left
  ·split at h;·rename_i r0 h0;cases h;exact Q6x a6 h0
   ·exact .inr (Q6v a6 h)
  rename_i r0 h0;cases h;have h:=h0;unfold xop0 at h;split at h<;>first
   | (cases h;done)
   |exact absurd h (a4 _)
   |skip
  ·split at h<;>cases h
  ·split at h
   ·split at h;·cases h;exact .inl rfl
    ·cases h
   ·cases h
  ·split at h;·cases h;exact .inl rfl
   ·cases h
  ·unfold Wv at h;split at h
   ·split at h
    ·split at h;·cases h;exact .inl rfl
     ·cases h
    ·cases h
   ·cases h
  ·rename_i t x y;split at h
   ·right;unfold DQ at h;split at h
    ·split at h
     ·split at h
      ·rename_i a5;split at h;·cases h;exact⟨rfl,_,a5⟩
       ·cases h
      ·cases h
     ·split at h
      ·rename_i a5;split at h;·cases h;exact⟨rfl,_,a5⟩
       ·split at h;·cases h;exact⟨rfl,_,a5⟩
        ·cases h
      ·cases h
     ·cases h
    ·cases h
   ·cases h
  ·split at h<;>cases h
  ·unfold Lh at h;split at h
   ·split at h
    ·split at h;·cases h;exact .inl rfl
     ·cases h
    ·cases h
   ·cases h
  ·split at h<;>cases h
  ·rename_i c;split at h
   ·rename_i bb a8;unfold Jl at h;split at h
    ·split at h;·exact absurd h (a4 _)
     ·cases h
    ·exact absurd h (a4 _)
    ·exact absurd h (a4 _)
    ·split at h
     ·rename_i ha;unfold Gr at h;split at h
      ·split at h
       ·split at h
        ·split at h;·split at h<;>cases h
         ·exact Q0w a8 a6 ha (Fz h)
        ·cases h
       ·cases h
      ·cases h
     ·cases h
    ·cases h
   ·cases h
theorem Q4q{t:TypeId}{x:AV}{hp hp':Hp}(hh:∀id∈idOf x,hp id=hp' id):W4 P t x hp=W4 P t x hp':=by
 unfold W4;split;·cases x<;>first | rfl | simp only[hh _ (List.mem_singleton.2 rfl)]
 ·rfl
theorem Q3p{t:TypeId}{x y:AV}{hp hp':Hp}(hh:∀id∈idOf x,hp id=hp' id):DQ P t x y hp=DQ P t x y hp':=by
 unfold DQ;split;·cases x<;>first | rfl | simp only[hh _ (List.mem_singleton.2 rfl)]
 ·rfl
theorem Q3o{o:BinOp}{t:TypeId}{x y:AV}{hp hp':Hp}(hh:∀id∈idOf x,hp id=hp' id):NK P o t x y hp=NK P o t x y hp':=by
 cases x<;>first | rfl | skip
 cases y<;>first | rfl | simp only[NK,hh _ (List.mem_singleton.2 rfl)]
theorem Q3i{t t':TypeId}{x:AV}{hp hp':Hp}(hh:∀id∈idOf x,hp id=hp' id):NI P t t' x hp=NI P t t' x hp':=by
 cases x<;>first | rfl | simp only[NI,hh _ (List.mem_singleton.2 rfl)]
theorem FA{bid e tg sz a3 n:Nat}{ds:List AV}{s:AV}{hp hp':Hp}(hh:∀id∈idOf s,hp id=hp' id):Db bid e tg sz a3 n ds s hp=Db bid e tg sz a3 n ds s hp':=by
 cases s<;>first | rfl | simp only[Db,hh _ (List.mem_singleton.2 rfl)]
theorem Q72{sz:Nat}{x:AV}{hp hp':Hp}(hh:∀id∈idOf x,hp id=hp' id):xsrc sz x hp=xsrc sz x hp':=by
 cases x<;>first | rfl | simp only[xsrc,hh _ (List.mem_singleton.2 rfl)]
theorem Q6k{sz:Nat}{x:AV}{hp hp':Hp}(hh:∀id∈idOf x,hp id=hp' id):xels sz x hp=xels sz x hp':=by
 cases x<;>first | rfl | simp only[xels,hh _ (List.mem_singleton.2 rfl)]
theorem Q6e{bid:Nat}{dst:Option Nat}{c:Call}(hc:c.callee= .builtin .append){x y:Operand}(ha:c.args.toList=[x,y]){ev:Operand→AV}{hp hp':Hp}(hx:∀id∈idOf (ev x),hp id=hp' id)(hy:∀id∈idOf (ev y),hp id=hp' id):xop P bid dst (.call c) ev hp=xop P bid dst (.call c) ev hp':=by
 unfold xop;have e0:xop0 P bid dst (.call c) ev hp=xop0 P bid dst (.call c) ev hp':=by
  simp only[xop0,hc,ha,List.map_cons,List.map_nil,Jl];split
  ·rename_i h;cases h;unfold Gr;simp only[Q72 hy];split<;>(try rfl)
   split<;>(try rfl)
   split<;>(try rfl)
   split<;>(try rfl)
   exact FA hx
  ·rfl
 have e1:xopX P bid (.call c) ev hp=xopX P bid (.call c) ev hp':=by
  simp only[xopX,hc,ha,List.map_cons,List.map_nil];split
  ·rename_i h;cases h;unfold Lg;split<;>(try rfl)
   split<;>(try rfl)
   split<;>(try rfl)
   split<;>(try rfl)
   exact FA hx
  ·rfl
 have e2:xopO P (.call c) ev hp=xopO P (.call c) ev hp':=by
  simp only[xopO,hc,ha,List.map_cons,List.map_nil];split
  ·rename_i h;cases h;unfold WP;split
   ·rename_i a6;rw[a6] at hx;simp only[Q6k hy,hx _ (List.mem_singleton.2 rfl)]
   ·rfl
  ·rfl
 rw[e0,e1,e2]
theorem Ot{c:Call}{ev:Operand→AV}{ids:List Nat}(hc:c.callee= .builtin .append)(hf:foot (.call c) ev=some ids):∃x y,c.args.toList=[x,y]∧ids=idOf (ev x)++idOf (ev y):=by
 simp only[foot,hc] at hf;split at hf;·rename_i x y ha;cases hf;exact⟨x,y,ha,rfl⟩
 ·cases hf
theorem xo_foot{bid:Nat}{dst:Option Nat}{op:Op}{ev:Operand→AV}{hp hp':Hp}{ids:List Nat}(hf:foot op ev=some ids)(hh:∀id∈ids,hp id=hp' id):xo P ch bid dst op ev hp=xo P ch bid dst op ev hp':=by
 cases op<;>first | (cases hf;done) | skip
 case load t x=>
  cases hf;unfold xo xop;simp only[JZ,Bool.false_eq_true,if_false,xop0,xopX,xopO,Q4q hh]
 case store t x y=>
  cases hf;unfold xo xop;simp only[JZ,Bool.false_eq_true,if_false,xop0,xopX,xopO,Q3p hh]
 case binOp o t x y ty=>
  cases hf;unfold xo xop;simp only[JZ,Bool.false_eq_true,if_false,xop0,xopX,xopO,Q3o hh]
 case convert t t' x=>
  cases hf;unfold xo xop;simp only[JZ,Bool.false_eq_true,if_false,xop0,xopX,xopO,Q3i hh]
 case call c=>
  cases hc:c.callee with
  |builtin b=>
   cases b<;>first | (simp only[foot,hc] at hf;cases hf;done) | skip
   obtain⟨x,y,ha,rfl⟩:=Ot hc hf;unfold xo;rw[if_neg (by simp[JZ,hc]),if_neg (by simp[JZ,hc])]
   exact Q6e hc ha (fun id h=>hh id (List.mem_append_left _ h)) (fun id h=>hh id (List.mem_append_right _ h))
  |value x=>
   unfold xo;rw[if_pos (by simp[JZ,hc]),if_pos (by simp[JZ,hc])]
   simp only[foot,hc] at hf;split at hf
   ·rename_i f args a7;split at hf
    ·rename_i ts a5;simp only[Ca,a5]
    ·cases hf
   ·cases hf
  |invoke x y=>
   simp only[foot,hc,YN] at hf;cases hf
theorem BG{bid e tg sz a3 n:Nat}{ds:List AV}{s:AV}{hp:Hp}{v:AV}{id:Nat}{b:Box}(h:Db bid e tg sz a3 n ds s hp=some (v,some (id,b))):id=bid∨id∈idOf s:=by
 unfold Db at h;split at h
 ·split at h;·cases h;exact .inl rfl
  ·cases h
 ·split at h;·cases h;exact .inl rfl
  ·cases h
 ·split at h
  ·split at h;·cases h;exact .inr (List.mem_singleton.2 rfl)
   ·cases h
  ·cases h
 ·cases h
theorem xo_id{bid:Nat}{dst:Option Nat}{op:Op}{ev:Operand→AV}(hev:∀v,ev (.const v)=ofV v){hp:Hp}{ids:List Nat}(hf:foot op ev=some ids){v:AV}{id:Nat}{b:Box}(h:xo P ch bid dst op ev hp=some (v,some (id,b))):id=bid∨(hk op=2∧(∃b',hp id=some b')∧id∈ids):=by
 rcases xo_box hev h with h0 | ⟨h2,hb⟩
 ·exact .inl h0
 ·cases op<;>first | (cases h2;done) | skip
  case store t x y=>
   cases hf
   refine .inr ⟨h2,hb,?_⟩
   unfold xo xop at h
   simp only[JZ,Bool.false_eq_true,if_false,xop0,xopX,xopO] at h
   split at h
   ·rename_i r hr
    cases h
    split at hr
    ·unfold DQ at hr
     split at hr
     ·split at hr
      ·rename_i e
       split at hr
       ·split at hr
        ·cases hr;rw[e];exact List.mem_singleton.2 rfl
        ·cases hr
       ·cases hr
      ·rename_i e
       split at hr
       ·split at hr
        ·cases hr;rw[e];exact List.mem_singleton.2 rfl
        ·split at hr
         ·cases hr;rw[e];exact List.mem_singleton.2 rfl
         ·cases hr
       ·cases hr
      ·cases hr
     ·cases hr
    ·cases hr
   ·cases h
  case binOp o t x y ty=>exfalso;simp only[hk] at h2;split at h2<;>cases h2
  case call c=>
   cases hc:c.callee with
   |value x=>simp[hk,hc] at h2
   |invoke x y=>simp[hk,hc] at h2
   |builtin bb=>
    cases bb<;>first | (simp only[foot,hc] at hf;cases hf;done) | skip
    obtain⟨x,y,ha,rfl⟩:=Ot hc hf
    unfold xo at h
    rw[if_neg (by simp[JZ,hc])] at h
    have done:id=bid∨id∈idOf (ev x)→id=bid∨hk (Op.call c)=2∧(∃b',hp id=some b')∧id∈idOf (ev x)++idOf (ev y):=fun hx=>hx.imp (fun e=>e) fun hx=>⟨h2,hb,List.mem_append_left _ hx⟩
    refine done ?_
    unfold xop at h
    split at h
    ·rename_i r hr
     cases h
     simp only[xop0,hc,ha,List.map_cons,List.map_nil,Jl] at hr
     split at hr
     ·rename_i he
      cases he
      unfold Gr at hr
      split at hr
      ·split at hr
       ·split at hr
        ·split at hr
         ·split at hr<;>cases hr
         ·exact BG hr
        ·cases hr
       ·cases hr
      ·cases hr
     ·cases hr
    ·split at h
     ·rename_i r hr
      cases h
      simp only[xopX,hc,ha,List.map_cons,List.map_nil] at hr
      split at hr
      ·rename_i he
       cases he
       unfold Lg at hr
       split at hr
       ·split at hr
        ·split at hr
         ·split at hr
          ·cases hr
          ·exact BG hr
         ·cases hr
        ·cases hr
       ·cases hr
      ·cases hr
     ·simp only[xopO,hc,ha,List.map_cons,List.map_nil] at h
      split at h
      ·rename_i he
       cases he
       unfold WP at h
       split at h
       ·rename_i e
        split at h
        ·split at h
         ·split at h
          ·split at h
           ·split at h
            ·split at h
             ·cases h;right;rw[e];exact List.mem_singleton.2 rfl
             ·cases h
            ·cases h
           ·cases h
          ·cases h
         ·cases h
        ·cases h
       ·cases h
      ·cases h
theorem Oq{md:Bool}{F:Zt}{bid:Nat}{o:Oper}{ev a4:Operand→AV}(h:∀x∈o.op.operands,ev x=a4 x):Wp md F bid o ev=Wp md F bid o a4:=by
 have:foot o.op ev=foot o.op a4:=by
  have a3:=Nw h;cases hop:o.op<;>rw[hop] at h a3<;>(try rfl)<;>simp only[Op.operands,List.mem_toArray,List.mem_cons,List.not_mem_nil,or_false,forall_eq_or_imp,forall_eq,List.mem_map,Array.mem_toList_iff] at h<;>simp only[foot]
  case load=>rw[h]
  case store=>rw[h.1]
  case binOp=>rw[h.1]
  case convert=>rw[h]
  case call c=>
   cases hc:c.callee with
   |value x=>simp only[a3]
   |invoke x y=>simp only[a3]
   |builtin b=>
    cases b<;>(try rfl)
    simp only;have h':∀x∈c.args.toList,ev x=a4 x:=fun x hx=>h x (by simp[Call.operands,hc];simpa using hx)
    split
    ·rename_i x y ha;rw[ha] at h';rw[h' x (by simp),h' y (by simp)]
    ·rfl
 unfold Wp;rw[this]
theorem Q4r{md:Bool}{F:Zt}{all:List Oper}{bid:Nat}{o:Oper}{ev a3:Operand→AV}{hp:Hp}(h:∀x∈o.op.operands,ev x=a3 x):xoF P ch md F all bid o ev hp=xoF P ch md F all bid o a3 hp:=by
 unfold xoF;rw[Oq h,Q6t h]
theorem RB{md:Bool}{F:Zt}{all:List Oper}{bid:Nat}{o:Oper}{ev:Operand→AV}{hp hp':Hp}(h:hk o.op=0):xoF P ch md F all bid o ev hp=xoF P ch md F all bid o ev hp':=by
 unfold xoF;rw[xo_hk0 h]
theorem RA(h:RelS m H B H0 gl rest st a.tmps w){hp':Hp}(he:Ext (lkb st.hp) hp'){md:Bool}{F:Zt}{all:List Oper}{bid:Nat}{o:Oper}:xoF P ch md F all bid o (st.ev gl) hp'=xoF P ch md F all bid o (st.ev gl) (lkb st.hp):=by
 unfold xoF;rw[xo_ext h he]
theorem SB{F:Zt}{bid:Nat}{o:Oper}{ev:Operand→AV}{ids:List Nat}(h:Wp true F bid o ev=true)(hc:F bid=some ids):∃l,foot o.op ev=some l∧∀i∈l,i∈ids:=by
 unfold Wp at h;cases hids:foot o.op ev with
 |none=>simp[hc,hids] at h
 |some l=>
  refine⟨l,rfl,fun i hi=> ?_⟩
  simp only[hc,hids] at h;obtain⟨j,hj,e⟩:=List.any_eq_true.1 (List.all_eq_true.1 h i hi)
  rwa [Nat.eq_of_beq_eq_true e]
theorem Q2e{F:Zt}{all:List Oper}{bid:Nat}{o:Oper}{ev:Operand→AV}{hp hp':Hp}{ids:List Nat}(hc:F bid=some ids)(hh:∀id,id∈ids→hp id=hp' id):xoF P ch true F all bid o ev hp=xoF P ch true F all bid o ev hp':=by
 unfold xoF;split
 ·rename_i hf;split;·rfl
  ·obtain⟨l,hl,a3⟩:=SB hf hc;exact xo_foot hl fun id a4=>hh id (a3 id a4)
 ·rfl
theorem Q4y{bid:Nat}{op:Op}{v:AV}{id:Nat}{b:Box}(h:RC P bid op=some (v,some (id,b))):id=bid:=by
 unfold RC at h;split at h
 ·split at h
  ·split at h;·cases h;rfl
   ·cases h
  ·cases h
 ·cases h
theorem Q2d{md:Bool}{F:Zt}{all:List Oper}{bid:Nat}{o:Oper}{ev:Operand→AV}(a3:∀v,ev (.const v)=ofV v){hp:Hp}{v:AV}{id:Nat}{b:Box}(h:xoF P ch md F all bid o ev hp=some (v,some (id,b))):id=bid∨(hk o.op=2∧(∃b',hp id=some b')∧(md=true→∀ids,F bid=some ids→id∈ids)):=by
 unfold xoF at h;split at h
 ·rename_i hf;split at h;·exact .inl (Q4y h)
  ·rcases xo_box a3 h with h0 | ⟨h2,hb⟩
   ·exact .inl h0
   ·by_cases hm:md=true∧∃ids,F bid=some ids
    ·obtain⟨rfl,ids,hc⟩:=hm;obtain⟨l,hl,a5⟩:=SB hf hc;rcases xo_id a3 hl h with h0 | ⟨_,_,a6⟩
     ·exact .inl h0
     ·exact .inr ⟨h2,hb,fun _ aa hi=>by rw[hc] at hi;cases hi;exact a5 id a6⟩
    ·exact .inr ⟨h2,hb,fun h1 ids h3=>absurd ⟨h1,ids,h3⟩ hm⟩
 ·cases h
theorem Hx{a b:Option (List Nat)}(h:Id a b=true):∃l k,a=some l∧b=some k∧∀i,i∈l→i∈k→False:=by
 unfold Id at h;split at h
 ·rename_i l k;refine⟨l,k,rfl,rfl,fun i hi hj=> ?_⟩
  have:=List.all_eq_true.1 (List.all_eq_true.1 h i hi) i hj;simp at this
 ·cases h
end
end HY
end
section
namespace HY
open Go Go.RowKit
section
variable {P : Program} {m : Nat → Lc} {H : HV} {B : Nat → Prop} {H0 : HV} {gl : Nat → AV} {rest : List (AV × Value)} {st : St} {a : Act} {w : World} {ch : YW} {all : List Oper}
theorem Ml{md:Bool}{F:Zt}{bid:Nat}{o:Oper}{gv a4:Option AV}{ev a3:Operand→AV}{hp hp':Hp}(hg:gv=a4)(hx:∀x∈o.op.operands,ev x=a3 x)(hh:xoF P ch md F all bid o a3 hp=xoF P ch md F all bid o a3 hp'):GO P ch md F all bid o gv ev hp=GO P ch md F all bid o a4 a3 hp':=by
 subst hg;unfold GO;rw[Q4r hx,hh]
theorem MG{md:Bool}{F:Zt}{bid:Nat}{o:Oper}{gv:Option AV}{ev:Operand→AV}(a3:∀v,ev (.const v)=ofV v){hp:Hp}{v:AV}{id:Nat}{b:Box}(h:GO P ch md F all bid o gv ev hp=some (v,some (id,b))):id=bid∨(hk o.op=2∧(∃b',hp id=some b')∧(md=true→∀ids,F bid=some ids→id∈ids)):=by
 unfold GO at h;split at h;·exact Q2d a3 h
 ·split at h
  ·split at h;·exact Q2d a3 h
   ·cases h
   ·cases h
  ·cases h
theorem LD{o p:Oper}(h:IK all o p=false):Lb o.dst (rdO all p)=false∧Lb o.dst p.dst.toList=false∧Lb p.dst (rdO all o)=false:=by
 simp only[IK,Bool.or_eq_false_iff] at h;obtain⟨⟨c1,c2⟩,c3⟩:=h;exact⟨c1,c2,c3⟩
def Apart(md:Bool)(F:Zt)(all:List Oper)(bj bi:Nat)(oj oi:Oper):Prop:=
 IK all oj oi=false∧(hkCl (hk oj.op) (hk oi.op)=false∨(md=true∧Id (F bj) (F bi)=true))
theorem Wq{d:Option Nat}{l:List Nat}(h:Lb d l=false){k:Nat}(hk:k∈l):d≠some k:=by
 intro e;subst e;simp only[Lb] at h;have:l.contains k=true:=by simpa using hk
 rw[this] at h;cases h
theorem N6{o:Oper}{d:Option Nat}(r:AV×Option (Nat×Box))(hd:Lb d (rdO all o)=false):(∀x∈o.op.operands,(st.eff d r).ev gl x=st.ev gl x)∧gval all o (st.eff d r)=gval all o st:=by
 refine⟨fun x hx=> ?_,?_⟩
 ·cases x with
  |tmp t=>
   show(st.eff d r).get t=st.get t;rw[VN,if_neg];refine Wq hd ?_;unfold rdO;rw[List.mem_append];exact .inl (List.mem_filterMap.2 ⟨.tmp t,by simpa using hx,rfl⟩)
  |_=>rfl
 ·unfold gval;split;·rfl
  ·rename_i j a5 hg;split
   ·rename_i g a3;rw[VN,if_neg];refine Wq hd ?_;unfold rdO;rw[List.mem_append];refine .inr ?_;simp[hg,a3]
   ·rfl
theorem Q4i{f:Hp}{i j:Nat}{x y:Option Box}(h:i≠j):updF (updF f i x) j y=updF (updF f j y) i x:=by
 funext k;unfold updF;by_cases h1:k=i<;>by_cases h2:k=j<;>simp_all
theorem swap(h:RelS m H B H0 gl rest st a.tmps w){md:Bool}{F:Zt}{oj oi:Oper}{bj bi:Nat}(ap:bj≠bi)(hc:Apart md F all bj bi oj oi){s1 s2:St}(h1:XN P gl ch md F all bj oj st=some s1)(h2:XN P gl ch md F all bi oi s1=some s2):
  ∃t1 t2,XN P gl ch md F all bi oi st=some t1∧XN P gl ch md F all bj oj t1=some t2∧StEq t2 s2:=by
 obtain⟨cD,c4⟩:=hc;obtain⟨c1,c2,c3⟩:=LD cD;rw[Vl] at h1;split at h1
 ·rename_i k1;simp only[Bool.and_eq_true,Option.isNone_iff_eq_none] at k1;obtain⟨⟨b2,aa⟩,b6⟩:=k1;split at h1
  ·rename_i rj ai;cases h1;rw[Vl] at h2;split at h2
   ·rename_i k2;simp only[Bool.and_eq_true,Option.isNone_iff_eq_none,Ny,Ct] at k2;obtain⟨⟨b1,a5⟩,b5⟩:=k2;split at h2
    ·rename_i ri b9;cases h2;obtain⟨e1,e2⟩:=N6 (st:=st) (gl:=gl) (all:=all) (o:=oi) rj c1;have a9:lkb st.hp bi=none:=by
      rw[Ut] at a5;split at a5
      ·rename_i id b hb;by_cases e:bi=id;·subst e;rw[Qh] at a5;cases a5
       ·rwa [Qq _ _ e] at a5
      ·exact a5
     have b7:xoF P ch md F all bi oi (st.ev gl) (lkb (st.eff oj.dst rj).hp)=xoF P ch md F all bi oi (st.ev gl) (lkb st.hp):=by
      rw[Ut];split
      ·rename_i id b hb;have aq:GO P ch md F all bj oj (gval all oj st) (st.ev gl) (lkb st.hp)=some (rj.1,some (id,b)):=by rw[ai,← hb]
       rcases MG (fun _=>rfl) aq with rfl | ⟨ad,_,ah⟩
       ·exact RA h (Rb aa)
       ·rcases c4 with c4 | ⟨rfl,c4⟩
        ·refine RB ?_;simp only[hkCl,ad] at c4;simp at c4;exact c4.1
        ·obtain⟨lj,li,n1,n2,a7⟩:=Hx c4;refine Q2e n2 fun ba ab=> ?_
         rw[Qq _ _ fun e=> ?_]
         subst e;exact a7 _ (ah rfl _ n1) ab
      ·rfl
     have ao:GO P ch md F all bi oi (gval all oi st) (st.ev gl) (lkb st.hp)=some ri:=by
      rw[← b9];exact(Ml e2 e1 b7).symm
     obtain⟨f1,f2⟩:=N6 (st:=st) (gl:=gl) (all:=all) (o:=oj) ri c3;have ac:∀id b,ri.2=some (id,b)→id=bi∨(hk oi.op=2∧(∃b',lkb st.hp id=some b')∧(md=true→∀ids,F bi=some ids→id∈ids)):=fun id b hb=>by
      refine MG (fun _=>rfl) (v:=ri.1) (b:=b) ?_ (gv:=gval all oi st) (ev:=st.ev gl) (P:=P) (ch:=ch) (all:=all)
      rw[ao,← hb]
     have af:∀id b,rj.2=some (id,b)→id=bj∨(hk oj.op=2∧(∃b',lkb st.hp id=some b')∧(md=true→∀ids,F bj=some ids→id∈ids)):=fun id b hb=>by
      refine MG (fun _=>rfl) (v:=rj.1) (b:=b) ?_ (gv:=gval all oj st) (ev:=st.ev gl) (P:=P) (ch:=ch) (all:=all)
      rw[ai,← hb]
     have an:lkb (st.eff oi.dst ri).hp bj=none:=by
      rw[Ut];split
      ·rename_i id b hb;have:bj≠id:=by
        rcases ac id b hb with rfl | ⟨_,⟨b',a8⟩,_⟩
        ·exact ap
        ·intro e;subst e;rw[aa] at a8;cases a8
       rw[Qq _ _ this];exact aa
      ·exact aa
     have b8:xoF P ch md F all bj oj (st.ev gl) (lkb (st.eff oi.dst ri).hp)=xoF P ch md F all bj oj (st.ev gl) (lkb st.hp):=by
      rw[Ut];split
      ·rename_i id b hb;rcases ac id b hb with rfl | ⟨ad,_,ah⟩
       ·exact RA h (Rb a9)
       ·rcases c4 with c4 | ⟨rfl,c4⟩
        ·refine RB ?_;simp only[hkCl,ad] at c4;simp at c4;exact c4.2
        ·obtain⟨lj,li,n1,n2,a7⟩:=Hx c4;refine Q2e n1 fun ba ab=> ?_
         rw[Qq _ _ fun e=> ?_]
         subst e;exact a7 _ ab (ah rfl _ n2)
      ·rfl
     have b3:GO P ch md F all bj oj (gval all oj (st.eff oi.dst ri)) ((st.eff oi.dst ri).ev gl) (lkb (st.eff oi.dst ri).hp)=some rj:=by
      rw[← ai];exact Ml f2 f1 b8
     refine⟨st.eff oi.dst ri,(st.eff oi.dst ri).eff oj.dst rj,?_,?_,?_⟩;·rw[Vl,if_pos (by simp[b1,a9,b5]),ao]
     ·rw[Vl,if_pos (by simp[Ny,Ct,b2,an,b6]),b3]
     ·refine⟨by simp only[Ny],by simp only[Ct],fun k=> ?_,?_⟩
      ·simp only[VN];by_cases k1:oj.dst=some k<;>by_cases k2:oi.dst=some k<;>simp only[k1,k2,if_true,if_false]
       exact absurd k1 (Wq c2 (by simp[k2]))
       all_goals rfl
      ·rw[Ut,Ut,Ut,Ut];cases hrj2:rj.2 with
       |none=>rfl
       |some x=>
        obtain⟨ar,am⟩:=x;cases hri2:ri.2 with
        |none=>rfl
        |some y=>
         obtain⟨bb,az⟩:=y;simp only;refine Q4i ?_;rcases ac bb az hri2 with rfl | ⟨ad,⟨b',a8⟩,hci⟩
         ·rcases af ar am hrj2 with rfl | ⟨_,⟨bk,ae⟩,_⟩
          ·exact Ne.symm ap
          ·intro e;subst e;rw[a9] at ae;cases ae
         ·rcases af ar am hrj2 with rfl | ⟨b4,_,b0⟩
          ·intro e;subst e;rw[aa] at a8;cases a8
          ·rcases c4 with c4 | ⟨rfl,c4⟩
           ·exfalso;simp[hkCl,ad,b4] at c4
           ·obtain⟨lj,li,n1,n2,a7⟩:=Hx c4;intro e;subst e;exact a7 _ (b0 rfl _ n1) (hci rfl _ n2)
    ·cases h2
   ·cases h2
  ·cases h1
 ·cases h1
theorem EV{ro:Option Nat}{n:Nat}{o:Oper}{next:Act→World→Prop}(h:o.wpIn (FW ro) n P a w next fun _ _ _=>False):∃a' w',next a' w':=by
 obtain⟨_,h⟩:=h;unfold Oper.uponIn at h;split at h;·exact⟨_,_,h⟩
 ·exact⟨_,_,h⟩
 ·exact⟨_,_,h⟩
 ·obtain⟨_,_,hc⟩:=h;obtain⟨e,w',fr,hr,_⟩:=hc [] (fun d hd=>by simp[FW] at hd)
  cases e with
  |returned v=>exact⟨_,_,hr⟩
  |panicked c=>exact hr.elim
  |outgrown=>obtain⟨_,_,hr⟩:=hr;exact hr.elim
 ·obtain⟨_,hc⟩:=h;obtain⟨v,w',hr,_⟩:=hc default [] (fun d hd=>by simp[FW] at hd)
  exact⟨_,_,hr⟩
 ·obtain⟨_,_,hc⟩:=h;obtain⟨e,w',hr,_⟩:=hc default [] (fun d hd=>by simp[FW] at hd)
  cases e with
  |returned v=>exact⟨_,_,hr⟩
  |panicked c=>exact hr.elim
  |outgrown=>obtain⟨_,_,hr⟩:=hr;exact hr.elim
 ·exact h.elim
 ·exact h.elim
theorem Q0t(a5:ch.Ok P gl)(h:RelS m H B H0 gl rest st a.tmps w){md:Bool}{F:Zt}{o:Oper}{bid:Nat}{st':St}(hk:XN P gl ch md F all bid o st=some st'):∃(a':Act) (w':World) (m':Nat→Lc) (H':HV),RelS m' H' B H0 gl rest st' a'.tmps w':=by
 have:=R4 a5 h hk none 0 (fun a' w'=>∃m' H',RelS m' H' B H0 gl rest st' a'.tmps w') (fun _ _ _=>False) (fun a' w' m' H' _ _ hr=>⟨m',H',hr⟩)
 split at this;·obtain⟨a',w',m',H',hr⟩:=EV this;exact⟨a',w',m',H',hr⟩
 ·obtain⟨_,m',H',hr⟩:=this;exact⟨_,_,m',H',hr⟩
def runI(P:Program)(gl:Nat→AV)(ch:YW)(md:Bool)(F:Zt)(all:List Oper)(base:Nat):List Nat→St→Option St
 | [],st=>some st
 |i::l,st=>match all[i]? with
  |some o=>match XN P gl ch md F all (base+i) o st with
   |some s=>runI P gl ch md F all base l s
   |none=>none
  |none=>none
theorem Iy{md:Bool}{F:Zt}{base:Nat}:∀ {l r:List Nat} {st:St},runI P gl ch md F all base (l++r) st=match runI P gl ch md F all base l st with | some s=>runI P gl ch md F all base r s | none=>none
 | [],r,st=>rfl
 |i::l,r,st=>by
  simp only[List.cons_append,runI];cases all[i]? with
  |none=>rfl
  |some o=>
   simp only;cases XN P gl ch md F all (base+i) o st with
   |none=>rfl
   |some s=>exact Iy
theorem StEq.runI{md:Bool}{F:Zt}{base:Nat}:∀ {l:List Nat} {x y s:St},StEq x y→HY.runI P gl ch md F all base l x=some s→∃s',HY.runI P gl ch md F all base l y=some s'∧StEq s s'
 | [],x,y,s,h,hk=>by simp only[HY.runI,Option.some.injEq] at hk;subst hk;exact⟨y,rfl,h⟩
 |i::l,x,y,s,h,hk=>by
  simp only[HY.runI] at hk ⊢;cases ho:all[i]? with
  |none=>rw[ho] at hk;cases hk
  |some o=>
   rw[ho] at hk;simp only at hk ⊢;cases hs:XN P gl ch md F all (base+i) o x with
   |none=>rw[hs] at hk;cases hk
   |some s1=>
    rw[hs] at hk;obtain⟨s2,h1,h2⟩:=h.stepO hs;rw[h1];exact StEq.runI h2 hk
theorem move(a5:ch.Ok P gl){md:Bool}{F:Zt}{base i:Nat}{oi:Oper}:∀(a3:List Nat) {st:St} {a:Act} {w:World} {m:Nat→Lc} {H:HV} {s1 s2:St},RelS m H B H0 gl rest st a.tmps w→runI P gl ch md F all base a3 st=some s1→XN P gl ch md F all (base+i) oi s1=some s2→
  (∀j∈a3,j≠i∧∀oj,all[j]? =some oj→Apart md F all (base+j) (base+i) oj oi)→∃t s',XN P gl ch md F all (base+i) oi st=some t∧runI P gl ch md F all base a3 t=some s'∧StEq s' s2
 | [],st,a,w,m,H,s1,s2,_,h1,h2,_=>by
  simp only[runI,Option.some.injEq] at h1;subst h1;exact⟨s2,s2,h2,rfl,.refl _⟩
 |j::a3,st,a,w,m,H,s1,s2,h,h1,h2,hc=>by
  simp only[runI] at h1 ⊢;cases hj:all[j]? with
  |none=>rw[hj] at h1;cases h1
  |some oj=>
   rw[hj] at h1;simp only at h1 ⊢;cases hs:XN P gl ch md F all (base+j) oj st with
   |none=>rw[hs] at h1;cases h1
   |some s0=>
    rw[hs] at h1;obtain⟨a',w',m',H',hr⟩:=Q0t a5 h hs;obtain⟨t,s',k1,k2,k3⟩:=move a5 a3 hr h1 h2 fun j' a8=>hc j' (by simp[a8])
    have a7:=hc j (by simp)
    obtain⟨t1,t2,e1,e2,e3⟩:=swap h (bj:=base+j) (bi:=base+i) (by omega) (a7.2 oj hj) hs k1
    obtain⟨s3,g1,g2⟩:=StEq.runI e3.symm k2;exact⟨t1,s3,e1,by rw[e2];exact g1,g2.symm.trans k3⟩
end
def Rl(a3:List Nat)(es:List Edge):Nat:=
 match es with
 | []=>0
 |e::r=>if Region.binds .any e then(2^e.on ||| a3.getD e.on 0) ||| Rl a3 r else Rl a3 r
def YD:List Oper→List Nat→List Nat
 | [],acc=>acc
 |o::l,acc=>YD l (acc++[Rl acc o.after.toList])
def Sw(md:Bool)(all:List Oper)(ms:List Nat):List Oper→List Oper→Bool
 |_,[]=>true
 |pre,p::l=>(List.range pre.length).all (fun i=>match all[i]? with
   |some o=> !Ic md all o p || (ms.getD pre.length 0).testBit i
   |none=>true)
  &&p.after.toList.all (fun e=> !Region.binds .any e || decide (e.on<pre.length))
  &&Sw md all ms (pre++[p]) l
def mdR(all:List Oper):Bool:=match all.any fun o=>Nat.beq (hk o.op) 2 with
 |true=> !Sw false all (YD all []) [] all
 |false=>false
def DM(all:List Oper):Bool:=Sw (mdR all) all (YD all []) [] all
def Hn(F:Zt)(all:List Oper)(base nf:Nat):Prop:=∀i j o p,i<j→j<nf→all[i]? =some o→all[j]? =some p→hkCl (hk o.op) (hk p.op)=true→Id (F (base+i)) (F (base+j))=true∨((YD all []).getD j 0).testBit i=true
structure CkAt (md:Bool) (all:List Oper) (j:Nat) (p:Oper):Prop where
 pair:∀i o,i<j→all[i]? =some o→Ic md all o p=true→((YD all []).getD j 0).testBit i=true
 before:∀e∈p.after,Region.binds .any e=true→e.on<j
theorem Sx{md:Bool}{all:List Oper}:∀(l a3:List Oper),all=a3++l→Sw md all (YD all []) a3 l=true→∀j p,a3.length≤j→all[j]? =some p→CkAt md all j p
 | [],a3,he,_,j,p,hj,hp=>by
  rw[he,List.append_nil,List.getElem?_eq_none hj] at hp;cases hp
 |q::l,a3,he,h,j,p,hj,hp=>by
  simp only[Sw,Bool.and_eq_true,List.all_eq_true] at h;obtain⟨⟨h1,h2⟩,h4⟩:=h;by_cases hjl:j=a3.length
  ·have hq:q=p:=by
    rw[he,hjl,List.getElem?_append_right (Nat.le_refl _)] at hp;simpa using hp
   subst hq;subst hjl;refine⟨fun i o hi ho hc=> ?_,fun e a4 hb=> ?_⟩
   ·have:=h1 i (List.mem_range.2 hi);rw[ho] at this;simp only[Bool.or_eq_true] at this;rw[hc] at this;simpa using this
   ·have:=h2 e (Array.mem_toList_iff.2 a4);simpa[hb] using this
  ·exact Sx l (a3++[q]) (by simp[he]) h4 j p (by simp;omega) hp
theorem UM{all:List Oper}(h:DM all=true)(j:Nat)(p:Oper)(hp:all[j]? =some p):CkAt (mdR all) all j p:=
 Sx all [] rfl h j p (Nat.zero_le _) hp
def Lq(all:List Oper)(L:Nat→Bool):Prop:=∀j o,all[j]? =some o→L j=true→∀e∈o.after,Region.binds .any e=true→L e.on=true
theorem SH{a4:List Nat}{L:Nat→Bool}(a3:∀p i,(a4.getD p 0).testBit i=true→L p=true→L i=true):∀(es:List Edge),(∀e∈es,Region.binds .any e=true→L e.on=true)→∀i,(Rl a4 es).testBit i=true→L i=true
 | [],_,i,h=>by simp[Rl] at h
 |e::r,hes,i,h=>by
  have ih:=SH a3 r (fun e he=>hes e (List.mem_cons_of_mem _ he)) i
  unfold Rl at h;split at h
  ·rename_i hb;have hl:=hes e (List.mem_cons_self ..) hb;rw[Nat.testBit_or,Nat.testBit_or,Bool.or_eq_true,Bool.or_eq_true,Nat.testBit_two_pow] at h;rcases h with(h | h) | h
   ·have:e.on=i:=by simpa using h
    subst this;exact hl
   ·exact a3 _ _ h hl
   ·exact ih h
  ·exact ih h
theorem SI{all:List Oper}{L:Nat→Bool}(hL:Lq all L):∀(l a4:List Oper) (a3:List Nat),all=a4++l→a3.length=a4.length→(∀p i,(a3.getD p 0).testBit i=true→L p=true→L i=true)→
  ∀p i,((YD l a3).getD p 0).testBit i=true→L p=true→L i=true
 | [],_,_,_,_,h=>h
 |o::l,a4,a3,he,hlen,h=>by
  refine SI hL l (a4++[o]) _ (by simp[he]) (by simp[hlen]) fun p i hb hp=> ?_
  rcases Nat.lt_trichotomy p a3.length with a7 | a6 | a8
  ·refine h p i ?_ hp;rw[List.getD_eq_getElem?_getD,List.getElem?_append_left a7,← List.getD_eq_getElem?_getD] at hb;exact hb
  ·subst a6;rw[List.getD_eq_getElem?_getD,List.getElem?_append_right (Nat.le_refl _),Nat.sub_self] at hb;simp only[List.getElem?_cons_zero,Option.getD_some] at hb;have ho:all[a3.length]? =some o:=by rw[he,hlen,List.getElem?_append_right (Nat.le_refl _)];simp
   exact SH h _ (fun e hm a5=>hL _ o ho hp e (Array.mem_toList_iff.1 hm) a5) i hb
  ·rw[List.getD_eq_getElem?_getD,List.getElem?_eq_none (by simp;omega)] at hb
   simp at hb
theorem Cw{all:List Oper}{L:Nat→Bool}(hL:Lq all L)(p i:Nat)(h:((YD all []).getD p 0).testBit i=true)(hp:L p=true):L i=true:=
 SI hL all [] [] rfl rfl (fun p i h=>by simp at h) p i h hp
end HY
end
section
namespace HY
open Go Go.RowKit
def pend(n:Nat)(L:Nat→Bool):List Nat:=(List.range n).filter fun i=> !L i
theorem Tf{n i:Nat}(h:i<n):List.range n=List.range i++i::List.range' (i+1) (n - i - 1):=by
 have:n=i+(1+(n - i - 1)):=by omega
 rw[this,List.range_add,List.range_add];simp only[List.range_one,List.map_append,List.map_cons,List.map_nil,Nat.add_zero,List.map_map,List.singleton_append];congr 2;rw[show i+(1+(n - i - 1)) - i - 1=n - i - 1 by omega,List.range'_eq_map_range]
 refine List.map_congr_left fun k _=> ?_
 simp[Function.comp];omega
theorem SO{n i:Nat}{L:Nat→Bool}(h:i<n)(hL:L i=false):pend n L=(List.range i).filter (fun j=> !L j)++i::(List.range' (i+1) (n - i - 1)).filter fun j=> !L j:=by
 unfold pend;rw[Tf h,List.filter_append,List.filter_cons];simp[hL]
theorem B9{n i:Nat}{L L':Nat→Bool}(h:i<n)(hi:L' i=true)(ho:∀j,j≠i→L' j=L j):pend n L'=(List.range i).filter (fun j=> !L j)++(List.range' (i+1) (n - i - 1)).filter fun j=> !L j:=by
 unfold pend;rw[Tf h,List.filter_append,List.filter_cons];simp only[hi,Bool.not_true,Bool.false_eq_true,if_false];congr 1
 ·refine List.filter_congr fun j hj=> ?_
  rw[ho j (by have:=List.mem_range.1 hj;omega)]
 ·refine List.filter_congr fun j hj=> ?_
  rw[ho j (by have:=(List.mem_range'_1.1 hj).1;omega)]
theorem G8{a3:Array Bool}{j:Nat}(d:Bool)(h:j<a3.size):a3.getD j d=a3.getD j false:=by
 simp[Array.getD_eq_getD_getElem?,Array.getElem?_eq_getElem h]
section
variable {P : Program} {B : Nat → Prop} {H0 : HV} {gl : Nat → AV} {rest : List (AV × Value)} {ch : YW} {all : List Oper}
theorem TG(ax:ch.Ok P gl)(b4:DM all=true){F:Zt}{base nf:Nat}(hF:mdR all=true→Hn F all base nf)(bn:nf≤all.length)(aw:∀i,nf≤i→i<all.length→∀j,j<nf→((YD all []).getD i 0).testBit j=true){ro:Option Nat}{n:Nat}{d0:List Deferred}{w0:World}{sF:St}{Q:Exit→Act→World→Prop}
  (au:∀(a3:Array Bool) (a:Act) (w:World) (m:Nat→Lc) (H:HV),a3.size=all.length→(∀j,j<nf→a3.getD j false=true)→(∀j,nf≤j→a3.getD j false=false)→a.defers=d0→Qd B w0 w→RelS m H B H0 gl rest sF a.tmps w→wpAnyIn (FW ro) n P .any all.toArray Q (all.length - nf) a3 a w):
  ∀(q:Nat) (a3:Array Bool) (a:Act) (w:World) (m:Nat→Lc) (H:HV) (st s:St),a3.size=all.length→(pend nf fun j=>a3.getD j false).length=q→(∀j,nf≤j→a3.getD j false=false)→Lq all (fun j=>a3.getD j false)→
   a.defers=d0→Qd B w0 w→RelS m H B H0 gl rest st a.tmps w→runI P gl ch (mdR all) F all base (pend nf fun j=>a3.getD j false) st=some s→StEq s sF→wpAnyIn (FW ro) n P .any all.toArray Q (q+(all.length - nf)) a3 a w:=by
 intro q
 induction q with
 |zero=>
  intro a3 a w m H st s hs hl ao ay hd hb hr a4 an;have ak:(pend nf fun j=>a3.getD j false)=[]:=List.eq_nil_of_length_eq_zero hl
  rw[ak] at a4;simp only[runI,Option.some.injEq] at a4;subst a4;rw[Nat.zero_add];refine au a3 a w m H hs (fun j hj=> ?_) ao hd hb (an.rel hr)
  cases hL:a3.getD j false with
  |true=>rfl
  |false=>
   have:j∈pend nf fun j=>a3.getD j false:=by
    unfold pend;rw[List.mem_filter];exact⟨List.mem_range.2 hj,by simp[hL]⟩
   rw[ak] at this;cases this
 |succ q ih=>
  intro a3 a w m H st s hs hl ao ay hd hb hr a4 an;have ac:∀i o,all[i]? =some o→(∀e∈o.after,Region.binds .any e=true→a3.getD e.on false=true)→Lq all fun k=>a3.getD k false || k==i:=fun i o ho a6 k o' af ag e he a7=>by
   by_cases hki:k=i
   ·subst hki;rw[ho] at af;cases af;simp only[a6 e he a7,Bool.true_or]
   ·have ba:(k==i)=false:=by simpa using hki
    simp only[ay k o' af (by simpa[ba] using ag) e he a7,Bool.true_or]
  rw[Nat.add_right_comm];refine⟨fun ah=> ?_,fun i hi=> ?_⟩
  ·exfalso;have a9:∀j,j<all.length→a3.getD j false=true:=by
    intro j
    induction j using Nat.strongRecOn with
    |_ j ihj=>
     intro hj;cases hL:a3.getD j false with
     |true=>rfl
     |false=>
      exfalso;have:j∈Region.ready .any all.toArray a3:=by
       rw[mem_ready];refine⟨by rw[G8 true (by omega)];exact hL,all[j],by simp[hj],fun e he a7=> ?_⟩
       have:=(UM b4 j all[j] (List.getElem?_eq_getElem hj)).before e he a7;exact ihj e.on this (by omega)
      rw[ah] at this;cases this
   have:(pend nf fun j=>a3.getD j false)=[]:=by
    unfold pend;rw[List.filter_eq_nil_iff];intro j hj;simp[a9 j (by have:=List.mem_range.1 hj;omega)]
   rw[this] at hl;simp at hl
  ·rw[mem_ready] at hi;obtain⟨h0,o,ho,a6⟩:=hi;rw[List.getElem?_toArray] at ho;have b9:i<all.length:=(List.getElem?_eq_some_iff.1 ho).1;rw[G8 true (by omega)] at h0
   by_cases ad:nf≤i
   ·exfalso;have a9:∀j,j<nf→a3.getD j false=true:=fun j hj=>by
     have:=Cw (ac i o ho a6) i j (aw i ad b9 j hj) (by simp)
     have ap:(j==i)=false:=by simp;omega
     simpa only[ap,Bool.or_false] using this
    have:(pend nf fun j=>a3.getD j false)=[]:=by
     unfold pend;rw[List.filter_eq_nil_iff];intro j hj;simp[a9 j (List.mem_range.1 hj)]
    rw[this] at hl;simp at hl
   have ad:i<nf:=by omega
   have ai:(a3.setIfInBounds i true).getD i false=true:=by simp[Array.getD_eq_getD_getElem?,show i<a3.size by omega]
   have a8:∀j,j≠i→(a3.setIfInBounds i true).getD j false=a3.getD j false:=fun j hj=>getD_set_ne false (Ne.symm hj)
   rw[SO ad h0] at a4 hl;have am:=B9 (L:=fun j=>a3.getD j false) (L':=fun j=>(a3.setIfInBounds i true).getD j false) ad ai a8
   rw[Iy] at a4;cases hr1:runI P gl ch (mdR all) F all base ((List.range i).filter fun j=> !a3.getD j false) st with
   |none=>rw[hr1] at a4;cases a4
   |some s1=>
    rw[hr1] at a4;simp only[runI,ho] at a4;cases hr2:XN P gl ch (mdR all) F all (base+i) o s1 with
    |none=>rw[hr2] at a4;cases a4
    |some s2=>
     rw[hr2] at a4;simp only at a4;obtain⟨t,s',e1,e2,e3⟩:=move ax (oi:=o) _ hr hr1 hr2 fun j hj=>by
      rw[List.mem_filter] at hj;have b0:=List.mem_range.1 hj.1;refine⟨by omega,fun oj b3=> ?_⟩
      have b2:((YD all []).getD i 0).testBit j=true→False:=fun aa=>by
       have:=Cw (ac i o ho a6) i j aa (by simp)
       have ap:(j==i)=false:=by simp;omega
       simp only[ap,Bool.or_false] at this;rw[this] at hj;simp at hj
      have ab:Ic (mdR all) all oj o=false:=by
       cases ab:Ic (mdR all) all oj o with
       |false=>rfl
       |true=>exact(b2 ((UM b4 i o ho).pair j oj b0 b3 ab)).elim
      simp only[Ic,Bool.or_eq_false_iff] at ab;refine⟨ab.1,?_⟩;cases hkc:hkCl (hk oj.op) (hk o.op) with
      |false=>exact .inl rfl
      |true=>
       have b1:mdR all=true:=by
        have:=ab.2;rw[hkc] at this;simpa using this
       rcases hF b1 j i oj o b0 ad b3 ho hkc with hd | aa
       ·exact .inr ⟨b1,hd⟩
       ·exact(b2 aa).elim
     obtain⟨s3,f1,f2⟩:=StEq.runI e3.symm a4;have aq:runI P gl ch (mdR all) F all base (pend nf fun j=>(a3.setIfInBounds i true).getD j false) t=some s3:=by
      rw[am,Iy,e2];exact f1
     have ar:=R4 ax hr e1 ro n (wpAnyIn (FW ro) n P .any all.toArray Q (q+(all.length - nf)) (a3.setIfInBounds i true)) Q (fun a' w' m' H' b8 b7 bb=>
      ih _ a' w' m' H' t s3 (by simp[hs]) (by
       rw[am];simp only[List.length_append,List.length_cons] at hl ⊢;omega) (fun j hj=>by rw[a8 j (by omega)];exact ao j hj) (fun k o' af ag e he a7=>by
        have:∀q,(a3.setIfInBounds i true).getD q false=(a3.getD q false || q==i):=fun q=>by
         by_cases hq:q=i;·subst hq;rw[ai];simp
         ·rw[a8 q hq];have:(q==i)=false:=by simpa using hq
          simp[this]
        simp only[this] at ag ⊢;exact ac i o ho a6 k o' af ag e he a7) (b8.trans hd) (hb.trans b7) bb aq (f2.symm.trans an))
     unfold wpOpIn;simp only[List.getElem?_toArray,ho];exact ar
theorem MB{a3:Array Bool}(hs:a3.size=all.length)(h:∀j,j<all.length→a3.getD j false=true):Region.ready .any all.toArray a3=[]:=by
 refine List.eq_nil_iff_forall_not_mem.2 fun j hj=> ?_
 rw[mem_ready] at hj;obtain⟨h0,o,ho,_⟩:=hj;have a4:j<all.length:=by
  rw[List.getElem?_toArray] at ho;exact(List.getElem?_eq_some_iff.1 ho).1
 rw[G8 true (by omega),h j a4] at h0
 cases h0
theorem Mh(nf:Nat):(pend nf fun j=>(Array.replicate all.toArray.size false).getD j false)=List.range nf:=by
 unfold pend;rw[List.filter_eq_self];intro j hj;simp only[Array.getD_eq_getD_getElem?,Array.getElem?_replicate];split<;>simp
theorem Mf(j:Nat):(Array.replicate all.toArray.size false).getD j false=false:=by
 simp only[Array.getD_eq_getD_getElem?,Array.getElem?_replicate];split<;>simp
def okF(F:Zt)(all:List Oper)(base i:Nat)(k:Nat)(ft:Option (List Nat)):Bool:=(List.range i).all fun j=>match all[j]? with
 |some oj=>match hkCl (hk oj.op) k with
  |true=>match Id (F (base+j)) ft with
   |true=>true
   |false=>((YD all []).getD i 0).testBit j
  |false=>true
 |none=>true
def updT(F:Zt)(k:Nat)(x:Option (List Nat)):Zt:=fun j=>bif Nat.beq j k then x else F j
theorem IY{F:Zt}{k:Nat}{x:Option (List Nat)}:updT F k x k=x:=by simp[updT]
theorem Q20{F:Zt}{k j:Nat}{x:Option (List Nat)}(h:j≠k):updT F k x j=F j:=by
 unfold updT;rw[beq_ne h];rfl
theorem OT{F G:Zt}{base i:Nat}{p:Oper}{ft:Option (List Nat)}(h:okF F all base i (hk p.op) ft=true)(a3:∀j,j<i→G (base+j)=F (base+j))(hi:G (base+i)=ft):∀j o,j<i→all[j]? =some o→hkCl (hk o.op) (hk p.op)=true→Id (G (base+j)) (G (base+i))=true∨((YD all []).getD i 0).testBit j=true:=fun j o hj ho hc=>by
 have:=List.all_eq_true.1 h j (List.mem_range.2 hj);simp only[ho,hc] at this;split at this;·rename_i hd;rw[a3 j hj,hi];exact .inl hd
 ·exact .inr this
def CN(all:List Oper)(o:Oper)(gv:Option AV)(ev:Operand→AV):Option (List Nat):=match o.guard with
 |none=>foot o.op ev
 |some (_,want)=>match gv with
  |some x=>match La x want with
   |some true=>foot o.op ev
   |_=>some []
  |none=>none
def runF(P:Program)(gl:Nat→AV)(ch:YW)(all:List Oper)(base:Nat):List Nat→Zt→St→Option St
 | [],_,st=>some st
 |i::l,F,st=>match all[i]? with
  |some o=>match okF F all base i (hk o.op) (CN all o (gval all o st) (st.ev gl)) with
   |true=>match XN P gl ch true (updT F (base+i) (CN all o (gval all o st) (st.ev gl))) all (base+i) o st with
    |some s=>runF P gl ch all base l (updT F (base+i) (CN all o (gval all o st) (st.ev gl))) s
    |none=>none
   |false=>none
  |none=>none
theorem BU{F G:Zt}{md:Bool}{bid:Nat}{o:Oper}{st:St}(h:F bid=G bid):XN P gl ch md F all bid o st=XN P gl ch md G all bid o st:=by
 simp only[Vl,GO,xoF,Wp,h]
theorem Q1o{base:Nat}:∀(n k:Nat) (F:Zt) (st s:St),runF P gl ch all base (List.range' k n) F st=some s→
  ∃G:Zt,(∀j,j<k→G (base+j)=F (base+j))∧runI P gl ch true G all base (List.range' k n) st=some s∧∀i j o p,i<j→k≤j→j<k+n→all[i]? =some o→all[j]? =some p→hkCl (hk o.op) (hk p.op)=true→Id (G (base+i)) (G (base+j))=true∨((YD all []).getD j 0).testBit i=true
 |0,k,F,st,s,h=>⟨F,fun _ _=>rfl,by simpa[runF,runI] using h,fun i j o p h1 h2 h3=>by omega⟩
 |n+1,k,F,st,s,h=>by
  simp only[List.range'_succ,runF] at h;split at h
  ·rename_i o ho;split at h
   ·rename_i a6;split at h
    ·rename_i s1 a7;obtain⟨G,h1,h2,h3⟩:=Q1o n (k+1) _ s1 s h;have hk:G (base+k)=CN all o (gval all o st) (st.ev gl):=by rw[h1 k (by omega),IY]
     have a3:∀j,j<k→G (base+j)=F (base+j):=fun j hj=>by rw[h1 j (by omega),Q20 (by omega)]
     refine⟨G,a3,?_,fun i j o' p h4 h5 h6 a4 hp hc=> ?_⟩
     ·simp only[List.range'_succ,runI,ho];rw[BU (G:=updT F (base+k) (CN all o (gval all o st) (st.ev gl))) (by rw[hk,IY]),a7]
      exact h2
     ·by_cases e:j=k
      ·subst e;rw[ho] at hp;cases hp;exact OT a6 a3 hk i o' h4 a4 hc
      ·exact h3 i j o' p h4 (by omega) (by omega) a4 hp hc
    ·cases h
   ·cases h
  ·cases h
theorem Q4f{base nf:Nat}{st s:St}(h:runF P gl ch all base (List.range nf) (fun _=>none) st=some s):∃G:Zt,runI P gl ch true G all base (List.range nf) st=some s∧Hn G all base nf:=by
 rw[List.range_eq_range'] at h ⊢;obtain⟨G,_,h2,h3⟩:=Q1o nf 0 _ st s h;exact⟨G,h2,fun i j o p h4 h5=>h3 i j o p h4 (Nat.zero_le _) (by omega)⟩
def Hq(all:List Oper):Bool:=
 let m:=(YD all []).getD (all.length - 1) 0
 (List.range (all.length - 1)).all fun j=>m.testBit j
def EY(ms:List Nat):Nat→Nat
 |0=>0
 |k+1=>match Nat.beq (ms.getD k 0) (2^k - 1) with
  |true=>EY ms k
  |false=>k+1
def Bw(all:List Oper):Nat:=EY (YD all []) all.length
theorem Th{ms:List Nat}:∀k,EY ms k≤k∧∀i,EY ms k≤i→i<k→∀j,j<i→(ms.getD i 0).testBit j=true
 |0=>⟨Nat.le_refl _,fun i h1 h2=>by omega⟩
 |k+1=>by
  obtain⟨h1,h2⟩:=Th (ms:=ms) k;unfold EY;split
  ·rename_i hb;refine⟨by omega,fun i h3 h4 j hj=> ?_⟩
   by_cases e:i=k
   ·subst e;rw[Nat.eq_of_beq_eq_true hb,Nat.testBit_two_pow_sub_one];simpa using hj
   ·exact h2 i h3 (by omega) j hj
  ·exact⟨Nat.le_refl _,fun i h3 h4=>by omega⟩
theorem TU(a8:ch.Ok P gl)(a5:P.follows .mixedOrders=true)(ab:DM all=true){F:Zt}{ro:Option Nat}{n:Nat}{m:Nat→Lc}{H:HV}{st sF:St}{a:Act}{w:World}{id nf:Nat}(aa:nf≤all.length)
  (a4:∀i,nf≤i→i<all.length→∀j,j<i→((YD all []).getD i 0).testBit j=true)
  (h:RelS m H B H0 gl rest st a.tmps w) (a6:runI P gl ch (mdR all) F all st.nx (List.range nf) (st.bump all.length)=some sF) (hF:mdR all=true→Hn F all st.nx nf) {Q:Exit→Act→World→Prop}
  (hQ:∀(a3:Array Bool) (a':Act) (w':World) (m:Nat→Lc) (H:HV),a3.size=all.length→(∀j,j<nf→a3.getD j false=true)→(∀j,nf≤j→a3.getD j false=false)→a'.defers=a.defers→Qd B w w'→RelS m H B H0 gl rest sF a'.tmps w'→wpAnyIn (FW ro) n P .any all.toArray Q (all.length - nf) a3 a' w'):(Code.region id all.toArray true).wpIn (FW ro) n P Q a w:=by
 refine wpIn_region_any a5 ?_;have hb:Below w.heap.size w {w with drawn:=w.drawn+1}:=⟨rfl,rfl,rfl,Nat.le_refl _,fun _ _=>rfl⟩
 have ac:RelS m H B H0 gl rest (st.bump all.length) a.tmps {w with drawn:=w.drawn+1}:=by
  have hh:=h.heap.ext hb;exact⟨{hh with fresh:=fun id a9=>hh.fresh id (Nat.le_trans (Nat.le_add_right _ _) a9)},h.size,h.slot,h.rest⟩
 have:=TG (sF:=sF) (base:=st.nx) (nf:=nf) (ro:=ro) (n:=n) (d0:=a.defers) (w0:=w) (Q:=Q) a8 ab hF aa (fun i h1 h2 j hj=>a4 i h1 h2 j (by omega)) hQ _ (Array.replicate all.toArray.size false) a _ m H (st.bump all.length) sF (by simp) rfl (fun j _=>Mf j) (fun j o ho hL=>by have hL:(Array.replicate all.toArray.size false).getD j false=true:=hL;rw[Mf] at hL;cases hL) rfl (Qd.of hb h.heap.low) ac (by rw[Mh];exact a6) (.refl _)
 rw[Mh,List.length_range] at this;rw[show nf+(all.length - nf)=all.toArray.size by simp;omega] at this
 exact this
theorem Q0l(a8:ch.Ok P gl)(a4:P.follows .mixedOrders=true)(aa:DM all=true){F:Zt}{ro:Option Nat}{n:Nat}{m:Nat→Lc}{H:HV}{st sF:St}{a:Act}{w:World}{id:Nat}
  (h:RelS m H B H0 gl rest st a.tmps w) (a5:runI P gl ch (mdR all) F all st.nx (List.range all.length) (st.bump all.length)=some sF) (hF:mdR all=true→Hn F all st.nx all.length) {Q:Exit→Act→World→Prop}
  (hQ:∀(a':Act) (w':World) (m:Nat→Lc) (H:HV),a'.defers=a.defers→Qd B w w'→RelS m H B H0 gl rest sF a'.tmps w'→Q .normal a' w'):(Code.region id all.toArray true).wpIn (FW ro) n P Q a w:=by
 refine wpIn_region_any a4 ?_;have hb:Below w.heap.size w {w with drawn:=w.drawn+1}:=⟨rfl,rfl,rfl,Nat.le_refl _,fun _ _=>rfl⟩
 have ab:RelS m H B H0 gl rest (st.bump all.length) a.tmps {w with drawn:=w.drawn+1}:=by
  have hh:=h.heap.ext hb;exact⟨{hh with fresh:=fun id a9=>hh.fresh id (Nat.le_trans (Nat.le_add_right _ _) a9)},h.size,h.slot,h.rest⟩
 have:=TG (sF:=sF) (base:=st.nx) (nf:=all.length) (ro:=ro) (n:=n) (d0:=a.defers) (w0:=w) (Q:=Q) a8 aa hF (Nat.le_refl _) (fun i h1 h2=>by omega) (fun a6 a' w' m' H' hs h1 _ hd a7 hr=>by
  rw[Nat.sub_self];exact⟨MB hs h1,hQ a' w' m' H' hd a7 hr⟩) _ (Array.replicate all.toArray.size false) a _ m H (st.bump all.length) sF (by simp) rfl (fun j _=>Mf j) (fun j o ho hL=>by have hL:(Array.replicate all.toArray.size false).getD j false=true:=hL;rw[Mf] at hL;cases hL) rfl (Qd.of hb h.heap.low) ab (by rw[Mh];exact a5) (.refl _)
 rw[Mh,Nat.sub_self,Nat.add_zero,List.length_range] at this;simpa using this
theorem SS(ai:ch.Ok P gl)(a9:P.follows .mixedOrders=true)(ab:DM all=true){F:Zt}(a5:Hq all=true){ol:Oper}(hol:all[all.length - 1]? =some ol)(hg:ol.guard=none){ro:Option Nat}{n:Nat}{m:Nat→Lc}{H:HV}{st sF:St}{a:Act}{w:World}{id:Nat}
  (h:RelS m H B H0 gl rest st a.tmps w) (ac:runI P gl ch (mdR all) F all st.nx (List.range (all.length - 1)) (st.bump all.length)=some sF) (hF:mdR all=true→Hn F all st.nx (all.length - 1)) {Q:Exit→Act→World→Prop}
  (hQ:∀(a':Act) (w':World) (m:Nat→Lc) (H:HV) (K:Act→World→Prop),a'.defers=a.defers→Qd B w w'→RelS m H B H0 gl rest sF a'.tmps w'→(∀a2 w2,Q .normal a2 w2→K a2 w2)→ol.wpIn (FW ro) n P a' w' K Q):(Code.region id all.toArray true).wpIn (FW ro) n P Q a w:=by
 refine wpIn_region_any a9 ?_;have aw:0<all.length:=by have:=(List.getElem?_eq_some_iff.1 hol).1;omega
 have hb:Below w.heap.size w {w with drawn:=w.drawn+1}:=⟨rfl,rfl,rfl,Nat.le_refl _,fun _ _=>rfl⟩
 have an:RelS m H B H0 gl rest (st.bump all.length) a.tmps {w with drawn:=w.drawn+1}:=by
  have hh:=h.heap.ext hb;exact⟨{hh with fresh:=fun id aj=>hh.fresh id (Nat.le_trans (Nat.le_add_right _ _) aj)},h.size,h.slot,h.rest⟩
 have a7:∀i,all.length - 1≤i→i<all.length→∀j,j<all.length - 1→((YD all []).getD i 0).testBit j=true:=fun i h1 h2 j hj=>by
  have:i=all.length - 1:=by omega
  subst this;simp only[Hq,List.all_eq_true] at a5;exact a5 j (List.mem_range.2 hj)
 have:=TG (sF:=sF) (base:=st.nx) (nf:=all.length - 1) (ro:=ro) (n:=n) (d0:=a.defers) (w0:=w) (Q:=Q) ai ab hF (by omega) a7 (fun a3 a' w' m' H' hs h1 h2 hd ag hr=>by
  rw[show all.length - (all.length - 1)=0+1 by omega]
  have a8:Region.ready .any all.toArray (a3.setIfInBounds (all.length - 1) true)=[]:=MB (by simp[hs]) fun j hj=>by
   by_cases e:j=all.length - 1;·subst e;simp[Array.getD_eq_getD_getElem?,show all.length - 1<a3.size by omega]
   ·rw[getD_set_ne false (Ne.symm e)];exact h1 j (by omega)
  refine⟨fun a4=> ?_,fun i hi=> ?_⟩
  ·exfalso;have:all.length - 1∈Region.ready .any all.toArray a3:=by
    rw[mem_ready];refine⟨by rw[G8 true (by omega)];exact h2 _ (Nat.le_refl _),ol,by rw[List.getElem?_toArray];exact hol,fun e he ah=>h1 e.on ?_⟩
    exact(UM ab _ ol hol).before e he ah
   rw[a4] at this;cases this
  ·rw[mem_ready] at hi;obtain⟨h0,o,ho,ax⟩:=hi;rw[List.getElem?_toArray] at ho;have b3:i<all.length:=(List.getElem?_eq_some_iff.1 ho).1;rw[G8 true (by omega)] at h0
   have ak:i=all.length - 1:=by
    rcases Nat.lt_or_ge i (all.length - 1) with am | b2
    ·rw[h1 i am] at h0;cases h0
    ·omega
   subst ak;rw[hol] at ho;cases ho;unfold wpOpIn;simp only[List.getElem?_toArray,hol];rw[if_pos (by simp[Region.wanted,hg])]
   exact hQ a' w' m' H' _ hd ag hr fun a2 w2 hq=>⟨a8,hq⟩) _ (Array.replicate all.toArray.size false) a _ m H (st.bump all.length) sF (by simp) rfl (fun j _=>Mf j) (fun j o ho hL=>by have hL:(Array.replicate all.toArray.size false).getD j false=true:=hL;rw[Mf] at hL;cases hL) rfl (Qd.of hb h.heap.low) an (by rw[Mh];exact ac) (.refl _)
 rw[Mh,List.length_range,show all.length - 1+(all.length - (all.length - 1))=all.length by omega] at this
 simpa using this
end
end HY
end
section
namespace HY
open Go Go.RowKit
def runG(stp:Nat→Oper→St→Option St)(all:List Oper):List Nat→St→Option St
 | [],st=>some st
 |i::l,st=>match all[i]? with
  |some o=>match stp i o st with
   |some s=>runG stp all l s
   |none=>none
  |none=>none
structure Ia (P:Program) (B:Nat→Prop) (H0:HV) (gl:Nat→AV) (rest:List (AV×Value)) (all:List Oper) (stp:Nat→Oper→St→Option St):Prop where
 sound:∀ {i:Nat} {o:Oper} {st s:St} {a:Act} {w:World} {m:Nat→Lc} {H:HV},RelS m H B H0 gl rest st a.tmps w→stp i o st=some s→∀(ro:Option Nat) (n:Nat) (next:Act→World→Prop) (Q:Exit→Act→World→Prop),
  (∀a' w' m' H',a'.defers=a.defers→Qd B w w'→RelS m' H' B H0 gl rest s a'.tmps w'→next a' w')→
  if Region.wanted o (yielded all.toArray a.tmps) then o.wpIn (FW ro) n P a w next Q else(∀f,o.about P w a.eval=some f→(FW ro).fn f)∧next (a.put o.dst Go.undef) w
 eq:∀ {i:Nat} {o:Oper} {x y s:St},StEq x y→stp i o x=some s→∃s',stp i o y=some s'∧StEq s s'
 swap:∀ {j i:Nat} {oj oi:Oper} {st s1 s2:St} {a:Act} {w:World} {m:Nat→Lc} {H:HV},j<i→all[j]? =some oj→all[i]? =some oi→((YD all []).getD i 0).testBit j=false→RelS m H B H0 gl rest st a.tmps w→
  stp j oj st=some s1→stp i oi s1=some s2→∃t1 t2,stp i oi st=some t1∧stp j oj t1=some t2∧StEq t2 s2
section
variable {P : Program} {B : Nat → Prop} {H0 : HV} {gl : Nat → AV} {rest : List (AV × Value)} {all : List Oper} {stp : Nat → Oper → St → Option St}
theorem Ix:∀ {l r:List Nat} {st:St},runG stp all (l++r) st=match runG stp all l st with | some s=>runG stp all r s | none=>none
 | [],r,st=>rfl
 |i::l,r,st=>by
  simp only[List.cons_append,runG];cases all[i]? with
  |none=>rfl
  |some o=>
   simp only;cases stp i o st with
   |none=>rfl
   |some s=>exact Ix
theorem StEq.runG(hS:Ia P B H0 gl rest all stp):∀ {l:List Nat} {x y s:St},StEq x y→HY.runG stp all l x=some s→∃s',HY.runG stp all l y=some s'∧StEq s s'
 | [],x,y,s,h,hk=>by simp only[HY.runG,Option.some.injEq] at hk;subst hk;exact⟨y,rfl,h⟩
 |i::l,x,y,s,h,hk=>by
  simp only[HY.runG] at hk ⊢;cases ho:all[i]? with
  |none=>rw[ho] at hk;cases hk
  |some o=>
   rw[ho] at hk;simp only at hk ⊢;cases hs:stp i o x with
   |none=>rw[hs] at hk;cases hk
   |some s1=>
    rw[hs] at hk;obtain⟨s2,h1,h2⟩:=hS.eq h hs;rw[h1];exact StEq.runG hS h2 hk
theorem Ia.real(hS:Ia P B H0 gl rest all stp){st:St}{a:Act}{w:World}{m:Nat→Lc}{H:HV}(h:RelS m H B H0 gl rest st a.tmps w){i:Nat}{o:Oper}{st':St}(hk:stp i o st=some st'):∃(a':Act) (w':World) (m':Nat→Lc) (H':HV),RelS m' H' B H0 gl rest st' a'.tmps w':=by
 have:=hS.sound h hk none 0 (fun a' w'=>∃m' H',RelS m' H' B H0 gl rest st' a'.tmps w') (fun _ _ _=>False) (fun a' w' m' H' _ _ hr=>⟨m',H',hr⟩)
 split at this;·obtain⟨a',w',m',H',hr⟩:=EV this;exact⟨a',w',m',H',hr⟩
 ·obtain⟨_,m',H',hr⟩:=this;exact⟨_,_,m',H',hr⟩
theorem moveG(hS:Ia P B H0 gl rest all stp){i:Nat}{oi:Oper}(a6:all[i]? =some oi):∀(a3:List Nat) {st:St} {a:Act} {w:World} {m:Nat→Lc} {H:HV} {s1 s2:St},RelS m H B H0 gl rest st a.tmps w→runG stp all a3 st=some s1→stp i oi s1=some s2→
  (∀j∈a3,j<i∧((YD all []).getD i 0).testBit j=false)→∃t s',stp i oi st=some t∧runG stp all a3 t=some s'∧StEq s' s2
 | [],st,a,w,m,H,s1,s2,_,h1,h2,_=>by
  simp only[runG,Option.some.injEq] at h1;subst h1;exact⟨s2,s2,h2,rfl,.refl _⟩
 |j::a3,st,a,w,m,H,s1,s2,h,h1,h2,hc=>by
  simp only[runG] at h1 ⊢;cases hj:all[j]? with
  |none=>rw[hj] at h1;cases h1
  |some oj=>
   rw[hj] at h1;simp only at h1 ⊢;cases hs:stp j oj st with
   |none=>rw[hs] at h1;cases h1
   |some s0=>
    rw[hs] at h1;obtain⟨a',w',m',H',hr⟩:=hS.real h hs;obtain⟨t,s',k1,k2,k3⟩:=moveG hS a6 a3 hr h1 h2 fun j' a8=>hc j' (by simp[a8])
    have a5:=hc j (by simp)
    obtain⟨t1,t2,e1,e2,e3⟩:=hS.swap a5.1 hj a6 a5.2 h hs k1;obtain⟨s3,g1,g2⟩:=StEq.runG hS e3.symm k2;exact⟨t1,s3,e1,by rw[e2];exact g1,g2.symm.trans k3⟩
theorem F7(hS:Ia P B H0 gl rest all stp)(b4:DM all=true){nf:Nat}(be:nf≤all.length)(ar:∀i,nf≤i→i<all.length→∀j,j<nf→((YD all []).getD i 0).testBit j=true){ro:Option Nat}{n:Nat}{d0:List Deferred}{w0:World}{sF:St}{Q:Exit→Act→World→Prop}
  (aq:∀(a3:Array Bool) (a:Act) (w:World) (m:Nat→Lc) (H:HV),a3.size=all.length→(∀j,j<nf→a3.getD j false=true)→(∀j,nf≤j→a3.getD j false=false)→a.defers=d0→Qd B w0 w→RelS m H B H0 gl rest sF a.tmps w→wpAnyIn (FW ro) n P .any all.toArray Q (all.length - nf) a3 a w):
  ∀(q:Nat) (a3:Array Bool) (a:Act) (w:World) (m:Nat→Lc) (H:HV) (st s:St),a3.size=all.length→(pend nf fun j=>a3.getD j false).length=q→(∀j,nf≤j→a3.getD j false=false)→Lq all (fun j=>a3.getD j false)→
   a.defers=d0→Qd B w0 w→RelS m H B H0 gl rest st a.tmps w→runG stp all (pend nf fun j=>a3.getD j false) st=some s→StEq s sF→wpAnyIn (FW ro) n P .any all.toArray Q (q+(all.length - nf)) a3 a w:=by
 intro q
 induction q with
 |zero=>
  intro a3 a w m H st s hs hl am au hd hb hr a4 ak;have ai:(pend nf fun j=>a3.getD j false)=[]:=List.eq_nil_of_length_eq_zero hl
  rw[ai] at a4;simp only[runG,Option.some.injEq] at a4;subst a4;rw[Nat.zero_add];refine aq a3 a w m H hs (fun j hj=> ?_) am hd hb (ak.rel hr)
  cases hL:a3.getD j false with
  |true=>rfl
  |false=>
   have:j∈pend nf fun j=>a3.getD j false:=by
    unfold pend;rw[List.mem_filter];exact⟨List.mem_range.2 hj,by simp[hL]⟩
   rw[ai] at this;cases this
 |succ q ih=>
  intro a3 a w m H st s hs hl am au hd hb hr a4 ak;have aa:∀i o,all[i]? =some o→(∀e∈o.after,Region.binds .any e=true→a3.getD e.on false=true)→Lq all fun k=>a3.getD k false || k==i:=fun i o ho a6 k o' ab ad e he a7=>by
   by_cases hki:k=i
   ·subst hki;rw[ho] at ab;cases ab;simp only[a6 e he a7,Bool.true_or]
   ·have b3:(k==i)=false:=by simpa using hki
    simp only[au k o' ab (by simpa[b3] using ad) e he a7,Bool.true_or]
  rw[Nat.add_right_comm];refine⟨fun af=> ?_,fun i hi=> ?_⟩
  ·exfalso;have a9:∀j,j<all.length→a3.getD j false=true:=by
    intro j
    induction j using Nat.strongRecOn with
    |_ j ihj=>
     intro hj;cases hL:a3.getD j false with
     |true=>rfl
     |false=>
      exfalso;have:j∈Region.ready .any all.toArray a3:=by
       rw[mem_ready];refine⟨by rw[G8 true (by omega)];exact hL,all[j],by simp[hj],fun e he a7=> ?_⟩
       have:=(UM b4 j all[j] (List.getElem?_eq_getElem hj)).before e he a7;exact ihj e.on this (by omega)
      rw[af] at this;cases this
   have:(pend nf fun j=>a3.getD j false)=[]:=by
    unfold pend;rw[List.filter_eq_nil_iff];intro j hj;simp[a9 j (by have:=List.mem_range.1 hj;omega)]
   rw[this] at hl;simp at hl
  ·rw[mem_ready] at hi;obtain⟨h0,o,ho,a6⟩:=hi;rw[List.getElem?_toArray] at ho;have b1:i<all.length:=(List.getElem?_eq_some_iff.1 ho).1;rw[G8 true (by omega)] at h0
   by_cases ae:nf≤i
   ·exfalso;have a9:∀j,j<nf→a3.getD j false=true:=fun j hj=>by
     have:=Cw (aa i o ho a6) i j (ar i ae b1 j hj) (by simp)
     have an:(j==i)=false:=by simp;omega
     simpa only[an,Bool.or_false] using this
    have:(pend nf fun j=>a3.getD j false)=[]:=by
     unfold pend;rw[List.filter_eq_nil_iff];intro j hj;simp[a9 j (List.mem_range.1 hj)]
    rw[this] at hl;simp at hl
   have ae:i<nf:=by omega
   have ag:(a3.setIfInBounds i true).getD i false=true:=by simp[Array.getD_eq_getD_getElem?,show i<a3.size by omega]
   have a8:∀j,j≠i→(a3.setIfInBounds i true).getD j false=a3.getD j false:=fun j hj=>getD_set_ne false (Ne.symm hj)
   rw[SO ae h0] at a4 hl;have aj:=B9 (L:=fun j=>a3.getD j false) (L':=fun j=>(a3.setIfInBounds i true).getD j false) ae ag a8
   rw[Ix] at a4;cases hr1:runG stp all ((List.range i).filter fun j=> !a3.getD j false) st with
   |none=>rw[hr1] at a4;cases a4
   |some s1=>
    rw[hr1] at a4;simp only[runG,ho] at a4;cases hr2:stp i o s1 with
    |none=>rw[hr2] at a4;cases a4
    |some s2=>
     rw[hr2] at a4;simp only at a4;obtain⟨t,s',e1,e2,e3⟩:=moveG hS ho _ hr hr1 hr2 fun j hj=>by
      rw[List.mem_filter] at hj;have b2:=List.mem_range.1 hj.1;refine⟨b2,?_⟩;cases hbit:((YD all []).getD i 0).testBit j with
      |false=>rfl
      |true=>
       have:=Cw (aa i o ho a6) i j hbit (by simp)
       have an:(j==i)=false:=by simp;omega
       simp only[an,Bool.or_false] at this;rw[this] at hj;simp at hj
     obtain⟨s3,f1,f2⟩:=StEq.runG hS e3.symm a4;have ao:runG stp all (pend nf fun j=>(a3.setIfInBounds i true).getD j false) t=some s3:=by
      rw[aj,Ix,e2];exact f1
     have ap:=hS.sound hr e1 ro n (wpAnyIn (FW ro) n P .any all.toArray Q (q+(all.length - nf)) (a3.setIfInBounds i true)) Q (fun a' w' m' H' b0 ay b5=>
      ih _ a' w' m' H' t s3 (by simp[hs]) (by
       rw[aj];simp only[List.length_append,List.length_cons] at hl ⊢;omega) (fun j hj=>by rw[a8 j (by omega)];exact am j hj) (fun k o' ab ad e he a7=>by
        have:∀q,(a3.setIfInBounds i true).getD q false=(a3.getD q false || q==i):=fun q=>by
         by_cases hq:q=i;·subst hq;rw[ag];simp
         ·rw[a8 q hq];have:(q==i)=false:=by simpa using hq
          simp[this]
        simp only[this] at ad ⊢;exact aa i o ho a6 k o' ab ad e he a7) (b0.trans hd) (hb.trans ay) b5 ao (f2.symm.trans ak))
     unfold wpOpIn;simp only[List.getElem?_toArray,ho];exact ap
theorem Bh(hS:Ia P B H0 gl rest all stp)(a4:P.follows .mixedOrders=true)(a9:DM all=true){ro:Option Nat}{n:Nat}{m:Nat→Lc}{H:HV}{st sF:St}{a:Act}{w:World}{id:Nat}
  (h:RelS m H B H0 gl rest st a.tmps w) (a5:runG stp all (List.range all.length) (st.bump all.length)=some sF) {Q:Exit→Act→World→Prop}
  (hQ:∀(a':Act) (w':World) (m:Nat→Lc) (H:HV),a'.defers=a.defers→Qd B w w'→RelS m H B H0 gl rest sF a'.tmps w'→Q .normal a' w'):(Code.region id all.toArray true).wpIn (FW ro) n P Q a w:=by
 refine wpIn_region_any a4 ?_;have hb:Below w.heap.size w {w with drawn:=w.drawn+1}:=⟨rfl,rfl,rfl,Nat.le_refl _,fun _ _=>rfl⟩
 have aa:RelS m H B H0 gl rest (st.bump all.length) a.tmps {w with drawn:=w.drawn+1}:=by
  have hh:=h.heap.ext hb;exact⟨{hh with fresh:=fun id a8=>hh.fresh id (Nat.le_trans (Nat.le_add_right _ _) a8)},h.size,h.slot,h.rest⟩
 have:=F7 (sF:=sF) (nf:=all.length) (ro:=ro) (n:=n) (d0:=a.defers) (w0:=w) (Q:=Q) hS a9 (Nat.le_refl _) (fun i h1 h2=>by omega) (fun a6 a' w' m' H' hs h1 _ hd a7 hr=>by
  rw[Nat.sub_self];exact⟨MB hs h1,hQ a' w' m' H' hd a7 hr⟩) _ (Array.replicate all.toArray.size false) a _ m H (st.bump all.length) sF (by simp) rfl (fun j _=>Mf j) (fun j o ho hL=>by have hL:(Array.replicate all.toArray.size false).getD j false=true:=hL;rw[Mf] at hL;cases hL) rfl (Qd.of hb h.heap.low) aa (by rw[Mh];exact a5) (.refl _)
 rw[Mh,Nat.sub_self,Nat.add_zero,List.length_range] at this;simpa using this
theorem TT(hS:Ia P B H0 gl rest all stp)(a9:P.follows .mixedOrders=true)(ab:DM all=true)(a5:Hq all=true){ol:Oper}(hol:all[all.length - 1]? =some ol)(hg:ol.guard=none){ro:Option Nat}{n:Nat}{m:Nat→Lc}{H:HV}{st sF:St}{a:Act}{w:World}{id:Nat}
  (h:RelS m H B H0 gl rest st a.tmps w) (ac:runG stp all (List.range (all.length - 1)) (st.bump all.length)=some sF) {Q:Exit→Act→World→Prop}
  (hQ:∀(a':Act) (w':World) (m:Nat→Lc) (H:HV) (K:Act→World→Prop),a'.defers=a.defers→Qd B w w'→RelS m H B H0 gl rest sF a'.tmps w'→(∀a2 w2,Q .normal a2 w2→K a2 w2)→ol.wpIn (FW ro) n P a' w' K Q):(Code.region id all.toArray true).wpIn (FW ro) n P Q a w:=by
 refine wpIn_region_any a9 ?_;have au:0<all.length:=by have:=(List.getElem?_eq_some_iff.1 hol).1;omega
 have hb:Below w.heap.size w {w with drawn:=w.drawn+1}:=⟨rfl,rfl,rfl,Nat.le_refl _,fun _ _=>rfl⟩
 have am:RelS m H B H0 gl rest (st.bump all.length) a.tmps {w with drawn:=w.drawn+1}:=by
  have hh:=h.heap.ext hb;exact⟨{hh with fresh:=fun id ai=>hh.fresh id (Nat.le_trans (Nat.le_add_right _ _) ai)},h.size,h.slot,h.rest⟩
 have a7:∀i,all.length - 1≤i→i<all.length→∀j,j<all.length - 1→((YD all []).getD i 0).testBit j=true:=fun i h1 h2 j hj=>by
  have:i=all.length - 1:=by omega
  subst this;simp only[Hq,List.all_eq_true] at a5;exact a5 j (List.mem_range.2 hj)
 have:=F7 (sF:=sF) (nf:=all.length - 1) (ro:=ro) (n:=n) (d0:=a.defers) (w0:=w) (Q:=Q) hS ab (by omega) a7 (fun a3 a' w' m' H' hs h1 h2 hd ag hr=>by
  rw[show all.length - (all.length - 1)=0+1 by omega]
  have a8:Region.ready .any all.toArray (a3.setIfInBounds (all.length - 1) true)=[]:=MB (by simp[hs]) fun j hj=>by
   by_cases e:j=all.length - 1;·subst e;simp[Array.getD_eq_getD_getElem?,show all.length - 1<a3.size by omega]
   ·rw[getD_set_ne false (Ne.symm e)];exact h1 j (by omega)
  refine⟨fun a4=> ?_,fun i hi=> ?_⟩
  ·exfalso;have:all.length - 1∈Region.ready .any all.toArray a3:=by
    rw[mem_ready];refine⟨by rw[G8 true (by omega)];exact h2 _ (Nat.le_refl _),ol,by rw[List.getElem?_toArray];exact hol,fun e he ah=>h1 e.on ?_⟩
    exact(UM ab _ ol hol).before e he ah
   rw[a4] at this;cases this
  ·rw[mem_ready] at hi;obtain⟨h0,o,ho,aw⟩:=hi;rw[List.getElem?_toArray] at ho;have b2:i<all.length:=(List.getElem?_eq_some_iff.1 ho).1;rw[G8 true (by omega)] at h0
   have aj:i=all.length - 1:=by
    rcases Nat.lt_or_ge i (all.length - 1) with ak | b1
    ·rw[h1 i ak] at h0;cases h0
    ·omega
   subst aj;rw[hol] at ho;cases ho;unfold wpOpIn;simp only[List.getElem?_toArray,hol];rw[if_pos (by simp[Region.wanted,hg])]
   exact hQ a' w' m' H' _ hd ag hr fun a2 w2 hq=>⟨a8,hq⟩) _ (Array.replicate all.toArray.size false) a _ m H (st.bump all.length) sF (by simp) rfl (fun j _=>Mf j) (fun j o ho hL=>by have hL:(Array.replicate all.toArray.size false).getD j false=true:=hL;rw[Mf] at hL;cases hL) rfl (Qd.of hb h.heap.low) am (by rw[Mh];exact ac) (.refl _)
 rw[Mh,List.length_range,show all.length - 1+(all.length - (all.length - 1))=all.length by omega] at this
 simpa using this
end
end HY
end
