/- Proved in the last of these texts: for every input the law returns true and its arguments read afterwards as they read before. This text: a part of the proof. -/
import Derived.ChangeKeysEq
import Derived.Laws.IdiomStrings
import Derived.Lib.AppendStr
import Derived.Lib.Builder
import Derived.Lib.UnsafeStr
import Derived.MapKept
import Derived.WalkKit
set_option linter.unusedVariables false
set_option linter.unusedSimpArgs false
set_option linter.unusedSectionVars false
set_option linter.defProp false
namespace HY
open Go Go.RowKit
theorem cqa{n m:Nat}:Nat.beq n m=true→n=m:=Nat.eq_of_beq_eq_true
theorem cqb:∀(a b:Bool),((a&&b)=true)=(a=true∧b=true):=Bool.and_eq_true
theorem cqc{α:Type _}{l:List α}{i:Nat}:∀(h:i<l.length),l[i]? =some l[i]:=List.getElem?_eq_getElem
theorem cqd{α:Type _}{i:Nat}{a:α}{l:List α}:l[i]? =some a↔∃h:i<l.length,l[i]=a:=List.getElem?_eq_some_iff
theorem cqe{n m:Nat}:Nat.ble n m=true→n≤m:=Nat.le_of_ble_eq_true
theorem cqf{α:Type _}:∀(a b:α),(some a=some b)=(a=b):=Option.some.injEq
theorem cqh{α:Type _}{xs:Array α}{i:Nat}:∀(h:i<xs.size),xs[i]? =some xs[i]:=Array.getElem?_eq_getElem
theorem cqi{α:Type _}{xs:List α}{i:Nat}:xs.toArray[i]? =xs[i]? :=List.getElem?_toArray
theorem cqj{α:Type _}{xs:Array α}{i:Nat}{d:α}:xs.getD i d=xs[i]?.getD d:=Array.getD_eq_getD_getElem?
theorem cqk:(false=true)=False:=Bool.false_eq_true
theorem cqm:∀(n:Nat),(n:Int).toNat=n:=Int.toNat_natCast
theorem cqn{α:Type _}{l:List α}:l.length=0→l=[]:=List.eq_nil_of_length_eq_zero
theorem cqp{n m:Nat}:∀(k:Nat),n≤m→n*k≤m*k:=Nat.mul_le_mul_right
theorem cqq{α:Type _}{l₁ l₂:List α}{i:Nat}:l₁.length≤i→(l₁++l₂)[i]? =l₂[i - l₁.length]? :=List.getElem?_append_right
theorem cqr{α:Type _}{l:List α}{i:Nat}{a:α}:l[i]? =some a→a∈l:=List.mem_of_getElem?
theorem cqs{α:Type _}{β:Type _}{f:α→β}{l:List α}{i:Nat}:(l.map f)[i]? =Option.map f l[i]? :=List.getElem?_map
theorem cqt{α:Type _}{p:α→Bool}{l:List α}:l.all p=true↔∀x:α,x∈l→p x=true:=List.all_eq_true
theorem cqu{α:Type _}{a:α}{s t:List α}:a∈s++t↔a∈s∨a∈t:=List.mem_append
theorem cqv{α β:Type}:∀(P:Program) (w:World) (x:Sem α) (f:α→Sem β),Sem.run P (x>>=f) w=(Sem.run P x w).andThen fun a w=>Sem.run P (f a) w:=Sem.run_bind
theorem cqw{α β:Type}:∀(a:α) (w:World) (f:α→World→Result β),(Result.ok a w).andThen f=f a w:=Result.andThen_ok
end HY
namespace HY
open Go Go.RowKit
structure Qa (B:Nat→Prop) (w w':World):Prop where
 os:w'.os=w.os
 tape:w'.tape=w.tape
 output:w'.output=w.output
 size:w.heap.size≤w'.heap.size
 block:∀k,B k→w'.heap[k]? =w.heap[k]?
 rows:∀(k:Nat) (C:Array Value) (e:TypeId) (fr:Nat×Nat),w.heap[k]? =some (Obj.cells C e fr)→∃(C':Array Value) (fr':Nat×Nat),w'.heap[k]? =some (Obj.cells C' e fr')∧C'.size=C.size
theorem Qa.refl(B:Nat→Prop)(w:World):Qa B w w:=⟨rfl,rfl,rfl,Nat.le_refl _,fun _ _=>rfl,fun _ C _ fr h=>⟨C,fr,h,rfl⟩⟩
theorem Qa.trans{B:Nat→Prop}{a b c:World}(h:Qa B a b)(k:Qa B b c):Qa B a c:=
 ⟨k.os.trans h.os,k.tape.trans h.tape,k.output.trans h.output,Nat.le_trans h.size k.size,fun i hi=>(k.block i hi).trans (h.block i hi),fun i C e fr hi=>by
  obtain⟨C1,a4,h1,e1⟩:=h.rows i C e fr hi;obtain⟨C2,a5,h2,e2⟩:=k.rows i C1 e a4 h1
  simp_all⟩
theorem Qa.mono{B B':Nat→Prop}{w w':World}(h:Qa B w w')(hB:∀k,B' k→B k):Qa B' w w':=⟨h.os,h.tape,h.output,h.size,fun k hk=>h.block k (hB k hk),h.rows⟩
theorem Q5o{w w':World}(h:Below w.heap.size w w')(k:Nat)(C:Array Value)(e:TypeId)(fr:Nat×Nat)(hk:w.heap[k]? =some (Obj.cells C e fr)):∃(C':Array Value) (a3:Nat×Nat),w'.heap[k]? =some (Obj.cells C' e a3)∧C'.size=C.size:=by
 have a4:k<w.heap.size:=by
  grind
 exact⟨C,fr,by rw[h.block k a4];exact hk,rfl⟩
theorem Qa.of{B:Nat→Prop}{w w':World}(h:Below w.heap.size w w')(hB:∀k,B k→k<w.heap.size):Qa B w w':=⟨h.os,h.tape,h.output,h.size,fun k hk=>h.block k (hB k hk),Q5o h⟩
theorem Qa.toB{n:Nat}{w w':World}(h:Qa (fun k=>k<n) w w'):Below n w w':=⟨h.os,h.tape,h.output,h.size,h.block⟩
theorem Qa.drew{B:Nat→Prop}{a w:World}(h:Qa B a w):Qa B a w.drew:=⟨h.os,h.tape,h.output,h.size,h.block,h.rows⟩
theorem Qa.alloc{B:Nat→Prop}{a w:World}(h:Qa B a w)(hB:∀k,B k→k<w.heap.size)(o:Obj):Qa B a (w.alloc o):=
 h.trans (.of (⟨rfl,rfl,rfl,by simp,fun k hk=>Below.heap_alloc _ _ _ hk⟩) hB)
inductive AV where
 |undef
 |bool (b:Bool)
 |int (k:IntKind) (n:Int)
 |str (s:List UInt8)
 |nil
 |emp
 |sl (sz:Nat) (xs:List AV)
 |ip (sz:Nat) (xs:List AV) (i off:Nat)
 |ptr (id ver off:Nat)
 |bs (id ver sz off len:Nat)
 |ow (id ver sz len:Nat)
 |oe (id ver sz i off:Nat)
 |nilp
 |fn (f:Nat) (caps:List AV)
 |nilfn
 |yld (id:Nat)
 |mp (id:Nat)
 |val (v:Value)
 |agg (cs:List AV)
 |tup (vs:List AV)
 deriving Inhabited
def AV.cells:AV→List AV
 | .agg cs=>cs
 |v=>[v]
def AY:Value→Bool
 | .map none=>true
 |_=>false
def okVal:Value→Bool
 | .map none=>true
 | .func _ _ _=>true
 |_=>false
def AV.one:AV→Bool
 | .undef | .agg _ | .tup _=>false
 | .val v=>okVal v
 |_=>true
def AV.okc:AV→Bool
 | .agg _=>true
 |x=>x.one
abbrev HV:=Nat→Nat→Option Value
def HV.sat(H:HV)(w:World):Prop:=∀b o v,H b o=some v→w.cell? ⟨b,o,none⟩=some v
def HV.le(H H':HV):Prop:=∀b o v,H b o=some v→H' b o=some v
theorem HV.le.refl(H:HV):HV.le H H:=fun _ _ _ h=>h
inductive RelI (H:HV):AV→Value→Prop
 |undef (v:Value):RelI H .undef v
 |bool (b:Bool):RelI H (.bool b) (.bool b)
 |int (k:IntKind) (n:Int):RelI H (.int k n) (.int k n)
 |str (s:List UInt8):RelI H (.str s) (.string ⟨s.toArray⟩)
 |nil:RelI H .nil (.slice none 0 0)
 |emp (a:Option Addr):RelI H .emp (.slice a 0 0)
 |sl0 (sz:Nat) (a:Option Addr) (cap:Nat):cap≤maxLen→RelI H (.sl sz []) (.slice a 0 cap)
 |sl (sz:Nat) (xs:List AV) (b o cap:Nat) (val:Nat→Nat→Value):0<sz→xs.length≤cap→cap≤maxLen→
   (∀(i:Nat) (x:AV),xs[i]? =some x→x.cells.length=sz)→
   (∀(i:Nat) (x:AV) (j:Nat) (c:AV),xs[i]? =some x→x.cells[j]? =some c→H b (o+i*sz+j)=some (val i j)∧(val i j).oneCell'=true)→
   (∀(i:Nat) (x:AV) (j:Nat) (c:AV),xs[i]? =some x→x.cells[j]? =some c→RelI H c (val i j))→
   RelI H (.sl sz xs) (.slice (some ⟨b,o,none⟩) xs.length cap)
 |ip (sz:Nat) (xs:List AV) (b o i off:Nat) (val:Nat→Nat→Value):0<sz→i<xs.length→
   (∀(i:Nat) (x:AV),xs[i]? =some x→x.cells.length=sz)→
   (∀(i:Nat) (x:AV) (j:Nat) (c:AV),xs[i]? =some x→x.cells[j]? =some c→H b (o+i*sz+j)=some (val i j)∧(val i j).oneCell'=true)→
   (∀(i:Nat) (x:AV) (j:Nat) (c:AV),xs[i]? =some x→x.cells[j]? =some c→RelI H c (val i j))→
   RelI H (.ip sz xs i off) (.pointer (some ⟨b,o+i*sz+off,none⟩))
 |nilp:RelI H .nilp (.pointer none)
 |nilfn:RelI H .nilfn .nilFunc
 |val (v:Value):RelI H (.val v) v
 |fn (f:Nat) (cs:List AV) (vs:Array Value) (h:cs.length=vs.size) (hc:∀(j:Nat) (c:AV) (v:Value),cs[j]? =some c→vs[j]? =some v→RelI H c v):
   RelI H (.fn f cs) (.func (.func f) #[] vs)
 |agg (cs:List AV) (vs:Array Value) (h:cs.length=vs.size) (h1:∀v∈vs,v.oneCell'=true) (hc:∀(j:Nat) (c:AV) (v:Value),cs[j]? =some c→vs[j]? =some v→RelI H c v):RelI H (.agg cs) (.agg vs)
 |tup (cs:List AV) (vs:Array Value) (h:cs.length=vs.size) (hc:∀(j:Nat) (c:AV) (v:Value),cs[j]? =some c→vs[j]? =some v→RelI H c v):RelI H (.tup cs) (.tuple vs)
theorem RelI.mono{H H':HV}(a4:HV.le H H'){av:AV}{v:Value}(h:RelI H av v):RelI H' av v:=by
 induction h with
 |undef v=>exact .undef v
 |bool b=>exact .bool b
 |int k n=>exact .int k n
 |str s=>exact .str s
 |nil=>exact .nil
 |emp a=>exact .emp a
 |sl0 sz a cap h=>exact .sl0 sz a cap h
 |sl sz xs b o cap val h0 h1 h2 h3 h4 _ ih=>exact .sl sz xs b o cap val h0 h1 h2 h3 (fun i x j c hx hc=>⟨a4 _ _ _ (h4 i x j c hx hc).1,(h4 i x j c hx hc).2⟩) ih
 |ip sz xs b o i off val h0 hi h3 h4 _ ih=>exact .ip sz xs b o i off val h0 hi h3 (fun i x j c hx hc=>⟨a4 _ _ _ (h4 i x j c hx hc).1,(h4 i x j c hx hc).2⟩) ih
 |nilp=>exact .nilp
 |nilfn=>exact .nilfn
 |val v=>exact .val v
 |fn f cs vs h _ ih=>exact .fn f cs vs h ih
 |agg cs vs h h1 _ ih=>exact .agg cs vs h h1 ih
 |tup cs vs h _ ih=>exact .tup cs vs h ih
structure Lc where
 g:Nat
 base:Nat
 size:Nat
 deriving Inhabited
structure Env where
 al:Nat→Nat→Prop
 loc:Nat→Nat→Option Lc
 lp:Nat→Option Nat
structure Env.le (E E':Env):Prop where
 al:∀id ver,E.al id ver→E'.al id ver
 loc:∀id ver l,E.al id ver→E'.loc id ver=some l→E.loc id ver=some l
 lp:∀id l,E.lp id=some l→E'.lp id=some l
theorem Env.le.refl(E:Env):Env.le E E:=⟨fun _ _ h=>h,fun _ _ _ _ h=>h,fun _ _ h=>h⟩
theorem Env.le.trans{E E' E'':Env}(h:Env.le E E')(h':Env.le E' E''):Env.le E E'':=
 ⟨fun _ _ x=>h'.al _ _ (h.al _ _ x),fun _ _ _ a x=>h.loc _ _ _ a (h'.loc _ _ _ (h.al _ _ a) x),fun _ _ x=>h'.lp _ _ (h.lp _ _ x)⟩
inductive RV (H:HV) (E:Env):AV→Value→Prop
 |imm (av:AV) (v:Value):RelI H av v→RV H E av v
 |ptr (id ver off:Nat) (a:Addr):E.al id ver→(∀l,E.loc id ver=some l→a=⟨l.g,l.base+off,none⟩)→RV H E (.ptr id ver off) (.pointer (some a))
 |bs (id ver sz off len:Nat) (a:Addr) (cap:Nat):E.al id ver→len≤cap→cap≤maxLen→
   (∀l,E.loc id ver=some l→a=⟨l.g,l.base+off,none⟩∧l.base+off+cap*sz≤l.size)→RV H E (.bs id ver sz off len) (.slice (some a) len cap)
 |ow (id ver sz len:Nat) (a:Option Addr) (cap:Nat):E.al id ver→len≤cap→cap≤maxLen→(a=none→cap=0)→
   (∀l,E.loc id ver=some l→(l.size=0∧cap=0)∨(0<l.size∧a=some ⟨l.g,l.base,none⟩∧l.base+cap*sz≤l.size))→RV H E (.ow id ver sz len) (.slice a len cap)
 |oe (id ver sz i off:Nat) (a:Addr):E.al id ver→(∀l,E.loc id ver=some l→0<l.size∧a=⟨l.g,l.base+i*sz+off,none⟩)→RV H E (.oe id ver sz i off) (.pointer (some a))
 |yld (id l:Nat):E.lp id=some l→RV H E (.yld id) (.func (.yield l) #[] #[])
 |mp (id l:Nat):E.lp id=some l→RV H E (.mp id) (.map (some l))
 |fn (f:Nat) (cs:List AV) (vs:Array Value) (h:cs.length=vs.size) (hc:∀(j:Nat) (c:AV) (v:Value),cs[j]? =some c→vs[j]? =some v→RV H E c v):
   RV H E (.fn f cs) (.func (.func f) #[] vs)
 |agg (cs:List AV) (vs:Array Value) (h:cs.length=vs.size) (h1:∀v∈vs,v.oneCell'=true) (hc:∀(j:Nat) (c:AV) (v:Value),cs[j]? =some c→vs[j]? =some v→RV H E c v):RV H E (.agg cs) (.agg vs)
 |tup (cs:List AV) (vs:Array Value) (h:cs.length=vs.size) (hc:∀(j:Nat) (c:AV) (v:Value),cs[j]? =some c→vs[j]? =some v→RV H E c v):RV H E (.tup cs) (.tuple vs)
theorem RV.mono{H H':HV}{E E':Env}(a4:HV.le H H')(he:Env.le E E'){av:AV}{v:Value}(h:RV H E av v):RV H' E' av v:=by
 induction h with
 |imm av v h=>exact .imm _ _ (h.mono a4)
 |ptr id ver off a h1 h2=>exact .ptr id ver off a (he.al _ _ h1) fun l hl=>h2 l (he.loc _ _ _ h1 hl)
 |bs id ver sz off len a cap h1 h2 h3 h4=>exact .bs id ver sz off len a cap (he.al _ _ h1) h2 h3 fun l hl=>h4 l (he.loc _ _ _ h1 hl)
 |ow id ver sz len a cap h1 h2 h3 h5 h4=>exact .ow id ver sz len a cap (he.al _ _ h1) h2 h3 h5 fun l hl=>h4 l (he.loc _ _ _ h1 hl)
 |oe id ver sz i off a h1 h2=>exact .oe id ver sz i off a (he.al _ _ h1) fun l hl=>h2 l (he.loc _ _ _ h1 hl)
 |yld id l h=>exact .yld id l (he.lp _ _ h)
 |mp id l h=>exact .mp id l (he.lp _ _ h)
 |fn f cs vs h _ ih=>exact .fn f cs vs h ih
 |agg cs vs h h1 _ ih=>exact .agg cs vs h h1 ih
 |tup cs vs h _ ih=>exact .tup cs vs h ih
theorem Q77{v:Value}(h:okVal v=true):v.oneCell'=true:=by
 unfold okVal at h;split at h;·rfl
 ·rfl
 ·cases h
theorem RelI.oneCell{H:HV}{av:AV}{v:Value}(h:RelI H av v)(h1:av.one=true):v.oneCell'=true:=by
 cases h<;>first | rfl | exact Q77 h1 | cases h1
theorem RV.oneCell{H:HV}{E:Env}{av:AV}{v:Value}(h:RV H E av v)(h1:av.one=true):v.oneCell'=true:=by
 cases h with
 |imm _ _ h=>exact h.oneCell h1
 |agg=>cases h1
 |tup=>cases h1
 |_=>rfl
theorem RV.bool_inv{H:HV}{E:Env}{b:Bool}{v:Value}(h:RV H E (.bool b) v):v= .bool b:=by
 cases h with | imm _ _ h=>cases h;rfl
theorem RV.int_inv{H:HV}{E:Env}{k:IntKind}{n:Int}{v:Value}(h:RV H E (.int k n) v):v= .int k n:=by
 cases h with | imm _ _ h=>cases h;rfl
theorem RV.str_inv{H:HV}{E:Env}{s:List UInt8}{v:Value}(h:RV H E (.str s) v):v= .string ⟨s.toArray⟩:=by
 cases h with | imm _ _ h=>cases h;rfl
theorem RV.nil_inv{H:HV}{E:Env}{v:Value}(h:RV H E .nil v):v= .slice none 0 0:=by
 cases h with | imm _ _ h=>cases h;rfl
theorem RV.emp_inv{H:HV}{E:Env}{v:Value}(h:RV H E .emp v):∃a,v= .slice a 0 0:=by
 cases h with | imm _ _ h=>cases h;simp_all
theorem RV.nilp_inv{H:HV}{E:Env}{v:Value}(h:RV H E .nilp v):v= .pointer none:=by
 cases h with | imm _ _ h=>cases h;rfl
theorem RV.nilfn_inv{H:HV}{E:Env}{v:Value}(h:RV H E .nilfn v):v= .nilFunc:=by
 cases h with | imm _ _ h=>cases h;rfl
theorem RV.sl_inv{H:HV}{E:Env}{sz:Nat}{xs:List AV}{v:Value}(h:RV H E (.sl sz xs) v):RelI H (.sl sz xs) v:=by
 cases h with | imm _ _ h=>exact h
theorem RV.ip_inv{H:HV}{E:Env}{sz:Nat}{xs:List AV}{i off:Nat}{v:Value}(h:RV H E (.ip sz xs i off) v):RelI H (.ip sz xs i off) v:=by
 cases h with | imm _ _ h=>exact h
theorem RV.ptr_inv{H:HV}{E:Env}{id ver off:Nat}{v:Value}(h:RV H E (.ptr id ver off) v):∃a,v= .pointer (some a)∧E.al id ver∧∀l,E.loc id ver=some l→a=⟨l.g,l.base+off,none⟩:=by
 cases h with
 |imm _ _ h=>cases h
 |ptr _ _ _ a h1 h2=>simp_all
theorem RV.bs_inv{H:HV}{E:Env}{id ver sz off len:Nat}{v:Value}(h:RV H E (.bs id ver sz off len) v):
  ∃a cap,v= .slice (some a) len cap∧E.al id ver∧len≤cap∧cap≤maxLen∧∀l,E.loc id ver=some l→a=⟨l.g,l.base+off,none⟩∧l.base+off+cap*sz≤l.size:=by
 cases h with
 |imm _ _ h=>cases h
 |bs _ _ _ _ _ a cap h1 h2 h3 h4=>grind
theorem RV.ow_inv{H:HV}{E:Env}{id ver sz len:Nat}{v:Value}(h:RV H E (.ow id ver sz len) v):
  ∃a cap,v= .slice a len cap∧E.al id ver∧len≤cap∧cap≤maxLen∧(a=none→cap=0)∧∀l,E.loc id ver=some l→(l.size=0∧cap=0)∨(0<l.size∧a=some ⟨l.g,l.base,none⟩∧l.base+cap*sz≤l.size):=by
 cases h with
 |imm _ _ h=>cases h
 |ow _ _ _ _ a cap h1 h2 h3 h5 h4=>grind
theorem RV.oe_inv{H:HV}{E:Env}{id ver sz i off:Nat}{v:Value}(h:RV H E (.oe id ver sz i off) v):∃a,v= .pointer (some a)∧E.al id ver∧∀l,E.loc id ver=some l→0<l.size∧a=⟨l.g,l.base+i*sz+off,none⟩:=by
 cases h with
 |imm _ _ h=>cases h
 |oe _ _ _ _ _ a h1 h2=>simp_all
theorem RV.mp_inv{H:HV}{E:Env}{id:Nat}{v:Value}(h:RV H E (.mp id) v):∃l,v= .map (some l)∧E.lp id=some l:=by
 cases h with
 |imm _ _ h=>cases h
 |mp _ l h=>simp_all
theorem RV.yld_inv{H:HV}{E:Env}{id:Nat}{v:Value}(h:RV H E (.yld id) v):∃l,v= .func (.yield l) #[] #[]∧E.lp id=some l:=by
 cases h with
 |imm _ _ h=>cases h
 |yld _ l h=>simp_all
theorem RV.fn_inv{H:HV}{E:Env}{f:Nat}{cs:List AV}{v:Value}(h:RV H E (.fn f cs) v):
  ∃vs:Array Value,v= .func (.func f) #[] vs∧cs.length=vs.size∧∀(j:Nat) (c:AV) (v:Value),cs[j]? =some c→vs[j]? =some v→RV H E c v:=by
 cases h with
 |imm _ _ h=>cases h with | fn _ _ vs hl hc=>exact⟨vs,rfl,hl,fun j c v h1 h2=>.imm _ _ (hc j c v h1 h2)⟩
 |fn _ _ vs hl hc=>grind
theorem RV.agg_inv{H:HV}{E:Env}{cs:List AV}{v:Value}(h:RV H E (.agg cs) v):
  ∃vs:Array Value,v= .agg vs∧cs.length=vs.size∧(∀v∈vs,v.oneCell'=true)∧∀(j:Nat) (c:AV) (v:Value),cs[j]? =some c→vs[j]? =some v→RV H E c v:=by
 cases h with
 |imm _ _ h=>cases h with | agg _ vs hl h1 hc=>exact⟨vs,rfl,hl,h1,fun j c v h1 h2=>.imm _ _ (hc j c v h1 h2)⟩
 |agg _ vs hl h1 hc=>grind
theorem RV.tup_inv{H:HV}{E:Env}{cs:List AV}{v:Value}(h:RV H E (.tup cs) v):
  ∃vs:Array Value,v= .tuple vs∧cs.length=vs.size∧∀(j:Nat) (c:AV) (v:Value),cs[j]? =some c→vs[j]? =some v→RV H E c v:=by
 cases h with
 |imm _ _ h=>cases h with | tup _ vs hl hc=>exact⟨vs,rfl,hl,fun j c v h1 h2=>.imm _ _ (hc j c v h1 h2)⟩
 |tup _ vs hl hc=>grind
theorem RelI.len_inv{H:HV}{sz:Nat}{xs:List AV}{v:Value}(h:RelI H (.sl sz xs) v):∃a cap,v= .slice a xs.length cap∧xs.length≤cap∧cap≤maxLen:=by
 cases h with
 |sl0 _ a cap hc=>exact⟨a,cap,rfl,Nat.zero_le _,hc⟩
 |sl _ _ b o cap _ _ h1 h2=>grind
theorem RV.cells{H:HV}{E:Env}{av:AV}{v:Value}(h:RV H E av v)(h1:av.okc=true):
  av.cells.length=v.cells.size∧∀(j:Nat) (c:AV),av.cells[j]? =some c→∃u,v.cells[j]? =some u∧u.oneCell'=true∧RV H E c u:=by
 cases av with
 |agg cs=>
  obtain⟨vs,rfl,hl,h1,hc⟩:=h.agg_inv;refine⟨hl,fun j c hj=> ?_⟩
  have a3:j<vs.size:=by rw[← hl];exact(cqd.1 hj).1
  exact⟨vs[j],by simp[Value.cells,a3],h1 _ (Array.getElem_mem a3),hc j c _ hj (by simp[a3])⟩
 |_=>
  have ho:=h.oneCell h1;have a5:v.cells= #[v]:=by cases v<;>first | rfl | cases ho
  refine⟨by rw[a5];rfl,fun j c hj=> ?_⟩
  cases j with
  |zero=>simp_all [AV.cells,List.getElem?_cons_zero,cqf]
  |succ j=>grind [AV.cells]
def ofV0:Value→AV
 | .bool b=>.bool b
 | .int k n=>.int k n
 | .string s=>.str s.data.toList
 | .slice none 0 0=>.nil
 | .pointer none=>.nilp
 | .nilFunc=>.nilfn
 | .map none=>.val (.map none)
 |_=>.undef
def ofV:Value→AV
 | .agg cs=>if cs.toList.all (·.oneCell') then .agg (cs.toList.map ofV0) else .undef
 | .tuple vs=>.tup (vs.toList.map ofV0)
 |v=>ofV0 v
theorem SY(H:HV)(v:Value):RelI H (ofV0 v) v:=by
 unfold ofV0;split;·exact .bool _
 ·exact .int _ _
 ·rename_i s;have:=RelI.str (H:=H) s.data.toList;omega
 ·exact .nil
 ·exact .nilp
 ·exact .nilfn
 ·exact .val _
 ·exact .undef _
theorem Nu(H:HV)(v:Value):RelI H (ofV v) v:=by
 unfold ofV;split
 ·rename_i cs;split
  ·rename_i h1;refine .agg _ cs (by simp) (fun v hv=>cqt.1 h1 v (Array.mem_toList_iff.2 hv)) fun j c u hj hu=> ?_
   grind [cqs,cqf,SY]
  ·exact .undef _
 ·rename_i vs;refine .tup _ vs (by simp) fun j c u hj hu=> ?_
  grind [cqs,cqf,SY]
 ·exact SY H v
inductive Tr (α:Type) where
 |nil
 |node (l:Tr α) (v:Option α) (r:Tr α)
def Tr.get{α:Type}:Tr α→List Bool→Option α
 | .nil,[]=>none
 | .nil,_::_=>none
 | .node _ v _,[]=>v
 | .node l _ r,b::p=>bif b then r.get p else l.get p
def Tr.set{α:Type}:Tr α→List Bool→α→Tr α
 | .nil,[],x=>.node .nil (some x) .nil
 | .node l _ r,[],x=>.node l (some x) r
 | .nil,b::p,x=>bif b then .node .nil none (Tr.set .nil p x) else .node (Tr.set .nil p x) none .nil
 | .node l v r,b::p,x=>bif b then .node l v (r.set p x) else .node (l.set p x) v r
theorem Tr.get_set{α:Type}(x:α):∀(p q:List Bool) (t:Tr α),(t.set p x).get q=if p=q then some x else t.get q
 | [],[],t=>by cases t<;>simp[Tr.set,Tr.get]
 | [],b::q,t=>by cases t<;>cases b<;>simp[Tr.set,Tr.get]<;>(cases q<;>rfl)
 |b::p,[],t=>by cases t<;>cases b<;>simp[Tr.set,Tr.get]
 |b::p,c::q,t=>by
  cases t with
  |nil=>
   cases b<;>cases c<;>simp only[Tr.set,Tr.get,cond_true,cond_false,Tr.get_set x p q,List.cons.injEq,true_and,reduceCtorEq,false_and,if_false]
   all_goals first | rfl | (cases q<;>simp[Tr.get])
  |node l v r=>
   cases b<;>cases c<;>simp only[Tr.set,Tr.get,cond_true,cond_false,Tr.get_set x p q,List.cons.injEq,true_and,reduceCtorEq,false_and,if_false]
def bits:Nat→Nat→List Bool
 |0,_=>[]
 |f+1,n=>bif Nat.beq n 0 then [] else Nat.beq (n%2) 1::bits f (n/2)
def AZ:List Bool→Nat
 | []=>0
 |b::p=>(bif b then 1 else 0)+2*AZ p
theorem Hj:∀(f n:Nat),n≤f→AZ (bits f n)=n
  | 0, n, h => by have : n = 0 := by omega
                  subst this;rfl
  |f+1,n,h=>by
    unfold bits;cases hb:Nat.beq n 0 with
    |true=>have:=cqa hb;subst this;rfl
    |false=>
      have hn:n≠0:=fun e=>by simp_all
      simp only[cond_false,AZ];rw[Hj f (n/2) (by omega)]
      cases hc:Nat.beq (n%2) 1 with
      |true=>grind [cqa]
      |false=>
        have:n%2≠1:=fun e=>by simp_all
        simp;omega
def path(n:Nat):List Bool:=bits n n
theorem A2{k j:Nat}:path k=path j↔k=j:=
 ⟨fun h=>by have:=congrArg AZ h;rwa [path,path,Hj _ _ (Nat.le_refl _),Hj _ _ (Nat.le_refl _)] at this,fun h=>by rw[h]⟩
def lk{α:Type}(d:α)(t:Tr α)(k:Nat):α:=match t.get (path k) with | some v=>v | none=>d
def pt{α:Type}(t:Tr α)(k:Nat)(v:α):Tr α:=t.set (path k) v
inductive Box where
 |cells (ver:Nat) (cs:List AV)
 |own (ver sz:Nat) (xs:List AV)
 |hol (ver sz:Nat) (xs:List AV) (i c:Nat) (r:AV)
 |loop (s:LoopState) (pend:Option Code) (n:Nat) (sl:Tr AV) (ps:Array Tmp) (azz bd:Code) (d:Nat)
 |defb (o:Bool)
 |map (es:List (List UInt8×AV))
 |mapI (es:List (List UInt8×Int))
 |dead
def encM(es:List (List UInt8×Int)):List (List UInt8×AV):=es.map fun p=>(p.1,.int .i64 p.2)
def updF{α:Type}(f:Nat→α)(k:Nat)(v:α):Nat→α:=fun j=>if j=k then v else f j
theorem Qn{α:Type}(f:Nat→α)(k:Nat)(v:α):updF f k v k=v:=by simp[updF]
theorem Qz{α:Type}(f:Nat→α){k j:Nat}(v:α)(h:j≠k):updF f k v j=f j:=by simp[updF,h]
def Box.ver?:Box→Option Nat
 | .cells v _=>some v
 | .own v _ _=>some v
 | .hol v _ _ _ _ _=>some v
 |_=>none
def Q6(hp:Nat→Option Box)(m:Nat→Lc):Env where
 al id ver:=∃b,hp id=some b∧∀v,b.ver? =some v→ver≤v
 loc id ver:=match hp id with
  |some b=>match b.ver? with
   |some v=>if v=ver then some (m id) else none
   |none=>none
  |none=>none
 lp id:=match hp id with | some (.loop ..)=>some (m id).g | some (.defb _)=>some (m id).g | some (.map _)=>some (m id).g | some (.mapI _)=>some (m id).g | some .dead=>some (m id).g | _=>none
def V9(H:HV)(E:Env)(cs:List AV)(l:Lc)(w:World):Prop:=
 ∃C e,w.heap[l.g]? =some (.cells C e (0,0))∧C.size=l.size∧l.base+cs.length≤C.size∧∀j c,cs[j]? =some c→∃v,C[l.base+j]? =some v∧v.oneCell'=true∧RV H E c v
def DP(H:HV)(cs:List AV)(l:Lc)(w:World):Prop:=
 ∃C e,w.heap[l.g]? =some (.cells C e (0,0))∧C.size=l.size∧l.base+cs.length≤C.size∧∀j c,cs[j]? =some c→∃v,C[l.base+j]? =some v∧v.oneCell'=true∧RelI H c v
theorem DP.mono{H H':HV}{cs:List AV}{l:Lc}{w w':World}(h:DP H cs l w)(a3:HV.le H H')(hw:w'.heap[l.g]? =w.heap[l.g]?):DP H' cs l w':=by
 obtain⟨C,e,h1,h2,h3,h4⟩:=h;exact⟨C,e,by simp_all,h2,h3,fun j c hj=>let⟨v,a,b,c⟩:=h4 j c hj;⟨v,a,b,c.mono a3⟩⟩
def immA:AV→Bool
 | .undef | .bool _ | .int _ _ | .str _ | .nil | .emp | .sl _ _ | .ip _ _ _ _ | .nilp | .nilfn | .val _=>true
 | .fn _ cs=>cs.isEmpty
 |_=>false
theorem Tg{H:HV}{E:Env}{c:AV}{v:Value}(h:RV H E c v)(hc:immA c=true):RelI H c v:=by
 cases h with
 |imm _ _ h=>exact h
 |fn f cs vs hl _=>
  have:cs=[]:=by simp_all [immA]
  subst this;exact .fn f [] vs hl (fun j c v h=>by simp at h)
 |_=>cases hc
def OU(H:HV)(E:Env)(sz:Nat)(xs:List AV)(i c:Nat)(r:AV)(l:Lc)(w:World):Prop:=
 ∃C e,w.heap[l.g]? =some (.cells C e (0,0))∧C.size=l.size∧l.base+(xs.flatMap AV.cells).length≤C.size∧(∀j d,(xs.flatMap AV.cells)[j]? =some d→j≠i*sz+c→∃v,C[l.base+j]? =some v∧v.oneCell'=true∧RelI H d v)∧
  ∃v,C[l.base+(i*sz+c)]? =some v∧v.oneCell'=true∧RV H E r v
theorem OU.mono{H H':HV}{E E':Env}{sz:Nat}{xs:List AV}{i c:Nat}{r:AV}{l:Lc}{w w':World}(h:OU H E sz xs i c r l w)(a3:HV.le H H')(he:Env.le E E')(hw:w'.heap[l.g]? =w.heap[l.g]?):OU H' E' sz xs i c r l w':=by
 obtain⟨C,e,h1,h2,h3,h4,v,a,b,d⟩:=h;exact⟨C,e,by simp_all,h2,h3,fun j c hj hn=>let⟨v,a,b,c⟩:=h4 j c hj hn;⟨v,a,b,c.mono a3⟩,v,a,b,d.mono a3 he⟩
def Yq(H:HV)(E:Env)(b:Box)(l:Lc)(w:World):Prop:=
 match b with
 | .cells _ cs=>V9 H E cs l w
 | .own _ sz xs=>0<sz∧(∀x∈xs,x.cells.length=sz)∧((l.size=0∧xs=[])∨(0<l.size∧DP H (xs.flatMap AV.cells) l w))
 | .hol _ sz xs i c r=>0<sz∧(∀x∈xs,x.cells.length=sz)∧i<xs.length∧c<sz∧0<l.size∧OU H E sz xs i c r l w
 | .loop s pend n sl ps azz bd d=>∃fn tmps dg,w.heap[l.g]? =some (.loop {state:=s,pending:=pend,fn:=fn,tmps:=tmps,params:=ps,assign:=azz,body:=bd,defers:=dg})∧tmps.size=n∧
   (∀k,RV H E (lk .undef sl k) (tmps.getD k Go.undef))∧E.lp d=some dg
 | .defb o=>w.heap[l.g]? =some (.deferred (if o then some [] else none))
 | .map es=>∃A c,w.heap[l.g]? =some (.map A c)∧A.size=es.length∧∀(j:Nat) (k:List UInt8) (x:AV) (e:MapEntry),es[j]? =some (k,x)→A[j]? =some e→e.key= .string ⟨k.toArray⟩∧RV H E x e.val
 | .mapI es=>∃A c,w.heap[l.g]? =some (.map A c)∧A.size=(encM es).length∧∀(j:Nat) (k:List UInt8) (x:AV) (e:MapEntry),(encM es)[j]? =some (k,x)→A[j]? =some e→e.key= .string ⟨k.toArray⟩∧RV H E x e.val
 | .dead=>True
def Real(b:Box)(l:Lc):Prop:=
 match b with
 | .own .. =>0<l.size
 |_=>True
def TyOk(w:World)(l:Lc)(ver:Nat):Prop:=ver%4096=0∨(l.base=0∧∃C fr,w.heap[l.g]? =some (.cells C (ver%4096 - 1) fr))
theorem TyOk.mono{w w':World}{l:Lc}{ver:Nat}(h:TyOk w l ver)(hw:w'.heap[l.g]? =w.heap[l.g]?):TyOk w' l ver:=by
 rcases h with h | ⟨h1,C,fr,h2⟩
 ·exact .inl h
 ·exact .inr ⟨h1,C,fr,by simp_all⟩
theorem V9.mono{H H':HV}{E E':Env}{cs:List AV}{l:Lc}{w w':World}(h:V9 H E cs l w)(a3:HV.le H H')(he:Env.le E E')(hw:w'.heap[l.g]? =w.heap[l.g]?):V9 H' E' cs l w':=by
 obtain⟨C,e,h1,h2,h3,h4⟩:=h;exact⟨C,e,by simp_all,h2,h3,fun j c hj=>let⟨v,a,b,c⟩:=h4 j c hj;⟨v,a,b,c.mono a3 he⟩⟩
theorem Yq.mono'{H H':HV}{E E':Env}{b:Box}{l:Lc}{w w':World}(h:Yq H E b l w)(a4:HV.le H H')(he:Env.le E E')(hw:Real b l→w'.heap[l.g]? =w.heap[l.g]?):Yq H' E' b l w':=by
 cases b with
 |cells ver cs=>exact V9.mono h a4 he (hw trivial)
 |own ver sz xs=>
  obtain⟨h0,h1,h2⟩:=h;refine⟨h0,h1,?_⟩;rcases h2 with h2 | ⟨h2,h3⟩
  ·simp_all
  ·exact .inr ⟨h2,h3.mono a4 (hw h2)⟩
 |hol ver sz xs i c r=>
  obtain⟨h0,h1,h2,h3,h4,h5⟩:=h;exact⟨h0,h1,h2,h3,h4,h5.mono a4 he (hw trivial)⟩
 |loop s pend n sl ps azz bd d=>
  obtain⟨fn,tmps,dg,h1,h2,h3,h4⟩:=h;exact⟨fn,tmps,dg,by rw[hw trivial];exact h1,h2,fun k=>(h3 k).mono a4 he,he.lp _ _ h4⟩
 |map es=>
  obtain⟨A,c,h1,h2,h3⟩:=h;exact⟨A,c,by rw[hw trivial];exact h1,h2,fun j k x e hj hA=>let⟨a,b⟩:=h3 j k x e hj hA;⟨a,b.mono a4 he⟩⟩
 |mapI es=>
  obtain⟨A,c,h1,h2,h3⟩:=h;exact⟨A,c,by rw[hw trivial];exact h1,h2,fun j k x e hj hA=>let⟨a,b⟩:=h3 j k x e hj hA;⟨a,b.mono a4 he⟩⟩
 |defb o=>exact(by rw[show Yq H' E' (.defb o) l w'=(w'.heap[l.g]? =some (.deferred (if o then some [] else none))) from rfl,hw trivial];exact h)
 |dead=>trivial
theorem Yq.mono{H H':HV}{E E':Env}{b:Box}{l:Lc}{w w':World}(h:Yq H E b l w)(a3:HV.le H H')(he:Env.le E E')(hw:w'.heap[l.g]? =w.heap[l.g]?):Yq H' E' b l w':=h.mono' a3 he fun _=>hw
def GvOk(gl:Nat→AV)(B:Nat→Prop)(w:World):Prop:=∀g sz cs,gl g= .ip sz [.agg cs] 0 0→B g∧∃C e fr,w.heap[g]? =some (.cells C e fr)∧C.size=sz
theorem GvOk.mono{gl:Nat→AV}{B:Nat→Prop}{w w':World}(h:GvOk gl B w)(hw:∀k,B k→w'.heap[k]? =w.heap[k]?):GvOk gl B w':=fun g sz cs hg=>by
 obtain⟨h1,C,e,fr,h2,h3⟩:=h g sz cs hg
 simp_all
structure RelH (m:Nat→Lc) (H:HV) (B:Nat→Prop) (H0:HV) (gl:Nat→AV) (hp:Nat→Option Box) (nx:Nat) (w:World):Prop where
 sat:HV.sat H w
 old:∀b o,B b→H b o=H0 b o
 low:∀b,B b→b<w.heap.size
 fresh:∀id,nx≤id→hp id=none
 box:∀id b,hp id=some b→Yq H (Q6 hp m) b (m id) w
 sepR:∀id b,hp id=some b→Real b (m id)→¬B (m id).g∧(m id).g<w.heap.size∧∀o,H (m id).g o=none
 injR:∀id id' b b',hp id=some b→hp id'=some b'→Real b (m id)→Real b' (m id')→(m id).g=(m id').g→id=id'
 gv:GvOk gl B w
 gl:∀g,RelI H (gl g) (.pointer (some ⟨g,0,none⟩))
 ty:∀id ver cs,hp id=some (.cells ver cs)→TyOk w (m id) ver
def Box.elder:Box→Bool
 | .own .. =>false
 |_=>true
theorem Box.elder_real{b:Box}(h:b.elder=true)(l:Lc):Real b l:=by cases b<;>first | trivial | cases h
theorem Box.nover{b:Box}(h:b.ver? =none):b.elder=true:=by cases b<;>first | rfl | cases h
theorem Jh{H:HV}{w:World}(h:HV.sat H w){b o:Nat}{v:Value}(hv:H b o=some v):b<w.heap.size:=
 World.block_lt_of_cell? w ⟨b,o,none⟩ (h _ _ _ hv)
section
variable {m : Nat → Lc} {H : HV} {B : Nat → Prop} {H0 : HV} {gl : Nat → AV} {hp : Nat → Option Box} {nx : Nat} {w : World}
theorem RelH.sep(h:RelH m H B H0 gl hp nx w)(id:Nat)(b:Box)(a3:hp id=some b)(he:b.elder=true:=by rfl):¬B (m id).g∧(m id).g<w.heap.size∧∀o,H (m id).g o=none:=h.sepR id b a3 (Box.elder_real he _)
theorem RelH.notB(h:RelH m H B H0 gl hp nx w):¬B w.heap.size:=fun hb=>Nat.lt_irrefl _ (h.low _ hb)
theorem RelH.ext{w':World}(h:RelH m H B H0 gl hp nx w)(hb:Below w.heap.size w w'):RelH m H B H0 gl hp nx w' where
 sat b o v hv:=by rw[← h.sat b o v hv];exact hb.cell (p:=⟨b,o,none⟩) (Jh h.sat hv)
 old:=h.old
 low b hB:=Nat.lt_of_lt_of_le (h.low b hB) hb.size
 fresh:=h.fresh
 box id b hid:=(h.box id b hid).mono' (.refl _) (.refl _) fun hr=>hb.block _ (h.sepR id b hid hr).2.1
 sepR id b hid hr:=let⟨x,y,z⟩:=h.sepR id b hid hr;⟨x,Nat.lt_of_lt_of_le y hb.size,z⟩
 injR:=h.injR
 gl:=h.gl
 ty id ver cs hid:=(h.ty id ver cs hid).mono (hb.block _ (h.sep id _ hid).2.1)
 gv:=h.gv.mono fun k hk=>hb.block k (h.low k hk)
theorem RelH.oneR(h:RelH m H B H0 gl hp nx w){id nx':Nat}{b:Box}{l:Lc}{w':World}(a4:∀k,k<w.heap.size→(Real b l→k≠l.g)→w'.heap[k]? =w.heap[k]?)(a7:w.heap.size≤w'.heap.size)
  (hE:Env.le (Q6 hp m) (Q6 (updF hp id (some b)) (updF m id l))) (hg:Real b l→¬B l.g∧l.g<w'.heap.size∧∀o,H l.g o=none)
  (a6:∀a3 b',a3≠id→hp a3=some b'→Real b' (m a3)→Real b l→(m a3).g≠l.g) (ab:id<nx') (ad:nx≤nx') (a9:Yq H (Q6 (updF hp id (some b)) (updF m id l)) b l w') (ae:∀ver cs,b= .cells ver cs→TyOk w' l ver):
  RelH (updF m id l) H B H0 gl (updF hp id (some b)) nx' w' where
 sat b' o v hv:=by
  rw[← h.sat b' o v hv];refine World.cell?_of_block (w:=w) (a4 b' (Jh h.sat hv) fun hr e=> ?_)
  simp_all
 old:=h.old
 low b hB:=Nat.lt_of_lt_of_le (h.low b hB) a7
 fresh a3 hid':=by
  have:a3≠id:=by omega
  rw[Qz _ _ this];exact h.fresh a3 (by omega)
 box a3 b' hb':=by
  by_cases e:a3=id
  ·simp_all [Qn]
  ·rw[Qz _ _ e] at hb' ⊢;exact(h.box a3 b' hb').mono' (.refl _) hE fun a5=>a4 _ (h.sepR a3 b' hb' a5).2.1 fun hr=>a6 a3 b' e hb' a5 hr
 sepR a3 b' hb' a5:=by
  by_cases e:a3=id
  ·simp_all [Qn]
  ·rw[Qz _ _ e] at hb' a5 ⊢;obtain⟨x,y,z⟩:=h.sepR a3 b' hb' a5
   grind
 injR i j b1 b2 h1 h2 r1 r2 heq:=by
  by_cases e1:i=id<;>by_cases e2:j=id
  ·rw[e1,e2]
  ·grind [Qn,Qz,absurd]
  ·simp_all [Qn,Qz,absurd]
  ·rw[Qz _ _ e1] at heq h1 r1;rw[Qz _ _ e2] at heq h2 r2;exact h.injR i j b1 b2 h1 h2 r1 r2 heq
 gl:=h.gl
 ty a3 ver cs hb':=by
  by_cases e:a3=id;·subst e;rw[Qn] at hb';cases hb';rw[Qn];simp_all
  ·rw[Qz _ _ e] at hb' ⊢;exact(h.ty a3 ver cs hb').mono (a4 _ (h.sep a3 _ hb').2.1 (fun hr=>a6 a3 _ e hb' trivial hr))
 gv:=h.gv.mono fun k hk=>a4 k (h.low k hk) (fun hr e=>by simp_all)
theorem RelH.one(h:RelH m H B H0 gl hp nx w){id nx':Nat}{b:Box}{l:Lc}{w':World}(a4:∀k,k<w.heap.size→k≠l.g→w'.heap[k]? =w.heap[k]?)(a7:w.heap.size≤w'.heap.size)
  (hE:Env.le (Q6 hp m) (Q6 (updF hp id (some b)) (updF m id l))) (hg:¬B l.g∧l.g<w'.heap.size∧∀o,H l.g o=none)
  (a9:∀a3 b',a3≠id→hp a3=some b'→Real b' (m a3)→(m a3).g≠l.g) (ab:id<nx') (ad:nx≤nx') (a8:Yq H (Q6 (updF hp id (some b)) (updF m id l)) b l w') (ae:∀ver cs,b= .cells ver cs→TyOk w' l ver) (a6:Real b l:=by trivial):
  RelH (updF m id l) H B H0 gl (updF hp id (some b)) nx' w':=
 h.oneR (fun k hk a5=>a4 k hk (a5 a6)) a7 hE (fun _=>hg) (fun a3 b' a5 aa hr _=>a9 a3 b' a5 aa hr) ab ad a8 ae
theorem Mu{id:Nat}{b:Box}{l:Lc}(hn:hp id=none):Env.le (Q6 hp m) (Q6 (updF hp id (some b)) (updF m id l)):=by
 have a8:∀a3,hp a3≠none→a3≠id:=fun a3 hh e=>hh (by simp_all)
 refine⟨fun a3 ver ⟨b',h1,h2⟩=>⟨b',?_,h2⟩,fun a3 ver l' ⟨b',h1,h2⟩ hl=> ?_,fun a3 l' hl=> ?_⟩
 ·simp_all [Qz]
 ·simp_all [Q6,Qz]
 grind [Q6,Qz]
theorem Jt{id ver:Nat}{b b':Box}{l:Lc}(hn:hp id=some b)(hv:b.ver? =some ver)(ab:b'.ver? =some ver)(hl:m id=l):Env.le (Q6 hp m) (Q6 (updF hp id (some b')) (updF m id l)):=by
 have a9:∀l',(Q6 hp m).lp id≠some l':=fun l' h=>by
  simp only[Q6,hn] at h;cases b<;>first | (cases hv;done) | simp_all
 refine⟨fun a3 v ⟨b2,h1,h2⟩=> ?_,fun a3 v l' ⟨b2,h1,h2⟩ a5=> ?_,fun a3 l' a5=> ?_⟩
 ·by_cases e:a3=id
  ·subst e;rw[hn] at h1;cases h1;exact⟨_,Qn _ _ _,fun v2 h3=>by simp_all⟩
  ·exact⟨b2,by simp_all [Qz],h2⟩
 ·by_cases e:a3=id
  ·simp_all [Q6,Qn]
  simp_all [Q6,Qz]
 ·by_cases e:a3=id
  ·simp_all
  simp_all [Q6,Qz]
theorem SS{id ver:Nat}{cs cs':List AV}{l:Lc}(hn:hp id=some (.cells ver cs))(hl:m id=l):Env.le (Q6 hp m) (Q6 (updF hp id (some (.cells ver cs'))) (updF m id l)):=Jt hn rfl rfl hl
theorem L6{id ver ver':Nat}{b b':Box}{l:Lc}(ad:ver<ver')(hn:hp id=some b)(hv:b.ver? =some ver)(a8:b'.ver? =some ver'):Env.le (Q6 hp m) (Q6 (updF hp id (some b')) (updF m id l)):=by
 have ab:∀l',(Q6 hp m).lp id≠some l':=fun l' h=>by
  simp only[Q6,hn] at h;cases b<;>first | (cases hv;done) | simp_all
 refine⟨fun a3 v ⟨b2,h1,h2⟩=> ?_,fun a3 v l' ⟨b2,h1,h2⟩ a5=> ?_,fun a3 l' a5=> ?_⟩
 ·by_cases e:a3=id
  ·subst e;rw[hn] at h1;cases h1;exact⟨_,Qn _ _ _,fun v2 h3=>by grind⟩
  ·exact⟨b2,by simp_all [Qz],h2⟩
 ·by_cases e:a3=id
  ·subst e;rw[hn] at h1;cases h1;have h2:=h2 _ hv;simp only[Q6,Qn,a8] at a5
   grind
  simp_all [Q6,Qz]
 ·by_cases e:a3=id
  ·simp_all
  simp_all [Q6,Qz]
theorem BE{id ver ver':Nat}{cs cs':List AV}{l:Lc}(a3:ver<ver')(hn:hp id=some (.cells ver cs)):Env.le (Q6 hp m) (Q6 (updF hp id (some (.cells ver' cs'))) (updF m id l)):=L6 a3 hn rfl rfl
theorem env_obj{id:Nat}{b b':Box}{l:Lc}(hn:hp id=some b)(h1:b.ver? =none)(h2:b'.ver? =none)(hl:m id=l):Env.le (Q6 hp m) (Q6 (updF hp id (some b')) (updF m id l)):=by
 refine⟨fun a3 v ⟨b2,k1,k2⟩=> ?_,fun a3 v l' ⟨b2,k1,k2⟩ a4=> ?_,fun a3 l' a4=> ?_⟩
 ·by_cases e:a3=id
  ·subst e;exact⟨_,Qn _ _ _,fun v2 h3=>by simp_all⟩
  ·exact⟨b2,by simp_all [Qz],k2⟩
 ·grind [id,Q6,Qn,Qz]
 ·by_cases e:a3=id
  ·subst e;simp only[Q6,Qn,hn] at a4 ⊢;cases b<;>first | grind | (cases b'<;>first | (cases h2;done) | simp_all)
  simp_all [Q6,Qz]
theorem Q6m{id ver:Nat}{b:Box}{l:Lc}(hn:hp id=some b)(hv:b.ver? =some ver):Env.le (Q6 hp m) (Q6 (updF hp id (some .dead)) (updF m id l)):=by
 have a7:∀l',(Q6 hp m).lp id≠some l':=fun l' h=>by
  simp only[Q6,hn] at h;cases b<;>first | (cases hv;done) | simp_all
 refine⟨fun a3 v ⟨b2,k1,k2⟩=> ?_,fun a3 v l' ⟨b2,k1,k2⟩ a4=> ?_,fun a3 l' a4=> ?_⟩
 ·by_cases e:a3=id;·subst e;exact⟨_,Qn _ _ _,fun v2 h=>by cases h⟩
  ·exact⟨b2,by simp_all [Qz],k2⟩
 ·by_cases e:a3=id
  ·simp_all [Q6,Qn,Box.ver?]
  simp_all [Q6,Qz]
 ·by_cases e:a3=id
  ·simp_all
  simp_all [Q6,Qz]
theorem Q8s{id ver:Nat}{cs:List AV}{l:Lc}(hn:hp id=some (.cells ver cs)):Env.le (Q6 hp m) (Q6 (updF hp id (some .dead)) (updF m id l)):=Q6m hn rfl
end
theorem Rt{k j:Nat}(h:k≠j):Nat.beq k j=false:=by
 cases hb:Nat.beq k j;·rfl
 ·exact absurd (cqa hb) h
theorem UX{α:Type}(d:α)(l:Tr α)(k:Nat)(v:α)(j:Nat):lk d (pt l k v) j=if k=j then v else lk d l j:=by
 unfold lk pt;rw[Tr.get_set];by_cases h:k=j;·subst h;simp
 ·rw[if_neg (fun e=>h (A2.1 e)),if_neg h]
def lkb(t:Tr Box)(k:Nat):Option Box:=t.get (path k)
theorem QV(l:Tr Box)(k:Nat)(v:Box):lkb (pt l k v)=updF (lkb l) k (some v):=by
 funext j;unfold lkb pt updF;rw[Tr.get_set];by_cases h:j=k;·subst h;simp
 ·rw[if_neg (fun e=>h (A2.1 e).symm),if_neg h]
theorem ZD(k:Nat):lkb .nil k=none:=by
 unfold lkb;cases path k<;>rfl
structure St where
 n:Nat
 sl:Tr AV
 hp:Tr Box
 nx:Nat
def St.get(st:St)(k:Nat):AV:=lk .undef st.sl k
def St.putO(st:St)(dst:Option Nat)(v:AV):St:=
 match dst with
 |some d=>match st with | ⟨n,sl,hp,nx⟩=>⟨n,pt sl d v,hp,nx⟩
 |none=>st
def St.setHp(st:St)(hp:Tr Box)(nx:Nat):St:=match st with | ⟨n,sl,_,_⟩=>⟨n,sl,hp,nx⟩
def St.bump(st:St)(k:Nat):St:=match st with | ⟨n,sl,hp,nx⟩=>⟨n,sl,hp,nx+k⟩
def St.eff(st:St)(dst:Option Nat)(r:AV×Option (Nat×Box)):St:=
 match r with
 | (v,some (id,b))=>match dst with
  |some d=>match st with | ⟨n,sl,hp,nx⟩=>⟨n,pt sl d v,pt hp id b,nx⟩
  |none=>match st with | ⟨n,sl,hp,nx⟩=>⟨n,sl,pt hp id b,nx⟩
 | (v,none)=>st.putO dst v
def St.ev(gl:Nat→AV)(st:St):Operand→AV
 | .tmp t=>st.get t
 | .const v=>ofV v
 | .func f=>.fn f []
 | .global g=>gl g
abbrev St.env(st:St)(m:Nat→Lc):Env:=Q6 (lkb st.hp) m
structure RelS (m:Nat→Lc) (H:HV) (B:Nat→Prop) (H0:HV) (gl:Nat→AV) (rest:List (AV×Value)) (st:St) (tmps:Array Value) (w:World):Prop where
 heap:RelH m H B H0 gl (lkb st.hp) st.nx w
 size:tmps.size=st.n
 slot:∀k,RV H (st.env m) (st.get k) (tmps.getD k Go.undef)
 rest:∀p∈rest,RV H (st.env m) p.1 p.2
def Z2(dst:Option Nat)(n:Nat):Bool:=
 match dst with
 |some d=>Nat.blt d n
 |none=>true
def OpOk(P:Program)(B:Nat→Prop)(H0:HV)(gl:Nat→AV)(rest:List (AV×Value))(a:Act)(w:World)(dst:Option Nat)(st':St)(s:Sem Next):Prop:=
 ∃nx v w' m' H',s.run P w= .ok nx w'∧(nx= .value v∨nx= .skip∧v=Go.undef)∧Qa B w w'∧RelS m' H' B H0 gl rest st' (a.put dst v).tmps w'
theorem Q8w(a:Array Value)(d k:Nat)(v:Value)(hd:d<a.size):(a.setIfInBounds d v).getD k Go.undef=if d=k then v else a.getD k Go.undef:=by
 simp only[cqj,Array.getElem?_setIfInBounds];by_cases h:d=k;·subst h;simp[hd]
 ·simp[h]
section
variable {P : Program} {m : Nat → Lc} {H : HV} {B : Nat → Prop} {H0 : HV} {gl : Nat → AV} {rest : List (AV × Value)} {st : St} {a : Act} {w : World} {dst : Option Nat}
theorem RelS.ev(h:RelS m H B H0 gl rest st a.tmps w)(x:Operand):RV H (st.env m) (st.ev gl x) (a.eval x):=by
 cases x with
 |tmp t=>exact h.slot t
 |const v=>exact .imm _ _ (Nu _ _)
 |func f=>exact .fn f [] #[] rfl (fun j c v h=>by simp at h)
 |global g=>exact .imm _ _ (h.heap.gl g)
theorem Vz(st:St)(v:AV):(st.putO dst v).hp=st.hp:=by cases dst<;>rfl
theorem Le(st:St)(v:AV):(st.putO dst v).n=st.n:=by cases dst<;>rfl
theorem MC(st:St)(v:AV):(st.putO dst v).nx=st.nx:=by cases dst<;>rfl
theorem MP(st:St)(r:AV×Option (Nat×Box)):(st.eff dst r).n=st.n:=by
 obtain⟨v,b⟩:=r;cases b with
 |none=>exact Le st v
 |some b=>cases dst<;>rfl
theorem Ca(st:St)(r:AV×Option (Nat×Box)):(st.eff dst r).nx=st.nx:=by
 obtain⟨v,b⟩:=r;cases b with
 |none=>exact MC st v
 |some b=>cases dst<;>rfl
theorem RelS.putO(h:RelS m H B H0 gl rest st a.tmps w)(hd:Z2 dst st.n=true){av:AV}{v:Value}(hv:RV H (st.env m) av v):RelS m H B H0 gl rest (st.putO dst av) (a.put dst v).tmps w:=by
 cases dst with
 |none=>exact h
 |some d=>
  have hd:d<a.tmps.size:=by rw[h.size];exact cqe hd
  refine⟨h.heap,(by show(a.tmps.setIfInBounds d v).size=st.n;simpa using h.size),fun k=> ?_,h.rest⟩
  show RV H (st.env m) (lk .undef (pt st.sl d av) k) ((a.tmps.setIfInBounds d v).getD k Go.undef);rw[UX,Q8w _ _ _ _ hd];by_cases e:d=k;·simp only[e,if_true];exact hv
  ·simp only[e,if_false];exact h.slot k
theorem OpOk.val(h:RelS m H B H0 gl rest st a.tmps w)(hd:Z2 dst st.n=true){s:Sem Next}{v:Value}{av:AV}(hs:s.run P w= .ok (.value v) w)(hv:RV H (st.env m) av v):OpOk P B H0 gl rest a w dst (st.eff dst (av,none)) s:=
 ⟨_,v,w,m,H,hs,.inl rfl,Qa.refl _ _,h.putO hd hv⟩
theorem RelS.heapTo(h:RelS m H B H0 gl rest st a.tmps w){m':Nat→Lc}{H':HV}{hp':Tr Box}{nx':Nat}{w':World}(hh:RelH m' H' B H0 gl (lkb hp') nx' w')(a3:HV.le H H')(hE:Env.le (st.env m) (Q6 (lkb hp') m')):
  RelS m' H' B H0 gl rest {st with hp:=hp',nx:=nx'} a.tmps w':=
 ⟨hh,h.size,fun k=>(h.slot k).mono a3 hE,fun p hp=>(h.rest p hp).mono a3 hE⟩
theorem OpOk.heap(h:RelS m H B H0 gl rest st a.tmps w)(hd:Z2 dst st.n=true){s:Sem Next}{nx:Next}{v:Value}{av:AV}{w':World}{m':Nat→Lc}{id:Nat}{b:Box}(hs:s.run P w= .ok nx w')(hx:nx= .value v∨nx= .skip∧v=Go.undef)(hb:Qa B w w')
  (hh:RelH m' H B H0 gl (updF (lkb st.hp) id (some b)) st.nx w') (hE:Env.le (st.env m) (Q6 (updF (lkb st.hp) id (some b)) m')) (hv:RV H (Q6 (updF (lkb st.hp) id (some b)) m') av v):
  OpOk P B H0 gl rest a w dst (st.eff dst (av,some (id,b))) s:=by
 rw[← QV] at hh hE hv;have h1:=h.heapTo hh (.refl _) hE;have h2:=h1.putO (dst:=dst) (by exact hd) (av:=av) (v:=v) hv
 refine⟨nx,v,w',m',H,hs,hx,hb,?_⟩;have:({st with hp:=pt st.hp id b,nx:=st.nx}:St).putO dst av=st.eff dst (av,some (id,b)):=by cases dst<;>rfl
 rw[← this];exact h2
end
def aggD:TypeDesc→Bool
 | .struct _ | .array _ _=>true
 |_=>false
def tyI(P:Program)(t:TypeId):Option (Nat×Bool):=
 match P.info? t with
 |some i=>(P.underlying t).map fun d=>(i.size,aggD d)
 |none=>none
def fldI(P:Program)(s:TypeId)(f:Nat):Option (Nat×Nat×Bool):=
 match P.underlying s with
 |some (.struct fs)=>match fs[f]? with
  |some fl=>(tyI P fl.type).map fun x=>(fl.offset,x.1,x.2)
  |none=>none
 |_=>none
def elI(P:Program)(t:TypeId):Option Nat:=
 match P.underlying t with
 |some (.slice e)=>(P.info? e).map fun i=>i.size
 |_=>none
def arI(P:Program)(t:TypeId):Option (Nat×Nat×Bool):=
 match P.underlying t with
 |some (.array n e)=>(tyI P e).map fun x=>(n,x.1,x.2)
 |_=>none
def H9(P:Program)(t:TypeId):Option AV:=
 match P.info? t with
 |some i=>i.zero.map ofV
 |none=>none
def Pd(P:Program)(t:TypeId):Bool:=match P.underlying t with | some .bool=>true | _=>false
def V6(P:Program)(t:TypeId):Bool:=match P.underlying t with | some .string=>true | _=>false
theorem Q5b{P:Program}{t:TypeId}(h:Pd P t=true):P.underlying t=some .bool:=by
 grind [Pd]
theorem Ju{P:Program}{t:TypeId}(h:V6 P t=true):P.underlying t=some .string:=by
 grind [V6]
section
variable {P : Program} {w : World}
theorem Q49{t:TypeId}{n:Nat}{g:Bool}(h:tyI P t=some (n,g)):∃i d,P.info? t=some i∧P.underlying t=some d∧i.size=n∧aggD d=g:=by
 grind [tyI,Option.map_eq_some_iff,Prod.mk.injEq]
theorem F8{t:TypeId}{n:Nat}{g:Bool}(h:tyI P t=some (n,g)):(isAgg t).run P w= .ok g w:=by
 obtain⟨i,d,hi,hd,e1,e2⟩:=Q49 h;subst e2;unfold isAgg;simp only[cqv,run_underlying hd,cqw];cases d<;>simp[aggD]
theorem VF{t:TypeId}{n:Nat}{g:Bool}(h:tyI P t=some (n,g)):(Go.sizeOf t).run P w= .ok n w:=by
 obtain⟨i,d,hi,hd,e1,e2⟩:=Q49 h;simp[Go.sizeOf,typeInfo,hi,e1]
theorem BF{s:TypeId}{f o n:Nat}{g:Bool}(h:fldI P s f=some (o,n,g)):∃fs fl,P.underlying s=some (.struct fs)∧fs[f]? =some fl∧fl.offset=o∧tyI P fl.type=some (n,g):=by
 grind [fldI,Option.map_eq_some_iff,Prod.mk.injEq]
theorem Gi{t:TypeId}{n:Nat}(h:elI P t=some n):∃e i,P.underlying t=some (.slice e)∧P.info? e=some i∧i.size=n:=by
 grind [elI,Option.map_eq_some_iff]
theorem P7{t:TypeId}{n k:Nat}{g:Bool}(h:arI P t=some (n,k,g)):∃e,P.underlying t=some (.array n e)∧tyI P e=some (k,g):=by
 unfold arI at h;split at h
 ·rename_i n' e he;simp only[Option.map_eq_some_iff,Prod.mk.injEq] at h
  grind
 ·cases h
theorem T4{t:TypeId}{z:AV}(h:H9 P t=some z):∃i v,P.info? t=some i∧i.zero=some v∧z=ofV v:=by
 unfold H9 at h;split at h
 ·rename_i i hi;simp only[Option.map_eq_some_iff] at h
  grind
 ·cases h
theorem Xj(b o n:Nat):(⟨b,o,none⟩:Addr).add n=⟨b,o+n,none⟩:=by
 unfold Addr.add
 simp_all
theorem Py(a:Addr):a.add 0=a:=rfl
theorem M5{fl:Field}{n:Nat}{g:Bool}(h:tyI P fl.type=some (n,g))(hn:n≠0)(a:Addr):(fieldPlace a fl).run P w= .ok (a.add fl.offset) w:=by
 simp only[fieldPlace,cqv,VF h,cqw,if_neg hn,Sem.run_pure]
theorem Lg{t:TypeId}{n:Nat}{g:Bool}(h:tyI P t=some (n,g))(cs:Array Value)(off:Nat):
  (part t cs off).run P w=if g then .ok (.agg (cs.extract off (off+n))) w else match cs[off]? with | some v=>.ok v w | none=>.halt (.stuck "part: no such cell") w:=by
 simp only[part,cqv,F8 h,cqw];cases g
 ·simp only[cqk,if_false];cases cs[off]? <;>rfl
 ·simp only[if_true,cqv,VF h,cqw,Sem.run_pure]
theorem MQ{t:TypeId}{n:Nat}{g:Bool}(h:tyI P t=some (n,g))(b o:Nat)(val:Nat→Value)(hv:∀j,j< (if g then n else 1)→w.cell? ⟨b,o+j,none⟩=some (val j)):
  (Instr.loadAt t (.pointer (some ⟨b,o,none⟩))).run P w= .ok (if g then .agg ((List.range n).map val).toArray else val 0) w:=by
 simp only[Instr.loadAt,Instr.sureAddr,loadVar,cqv,Sem.run_pure,cqw,F8 h];cases g
 ·simp_all
 ·simp only[if_true,cqv,VF h,cqw];rw[run_loadCells w ⟨b,o,none⟩ n val (fun j hj=>by simp_all [Xj])]
  rfl
end
def abits:BinOp→IntKind→Int→Int→Option Int
 | .and,k,x,y=>some (k.wrap (BitVec.ofInt k.bits x&&&BitVec.ofInt k.bits y).toNat)
 | .or,k,x,y=>some (k.wrap (BitVec.ofInt k.bits x ||| BitVec.ofInt k.bits y).toNat)
 | .xor,k,x,y=>some (k.wrap (BitVec.ofInt k.bits x^^^BitVec.ofInt k.bits y).toNat)
 | .andNot,k,x,y=>some (k.wrap (BitVec.ofInt k.bits x&&& ~~~BitVec.ofInt k.bits y).toNat)
 |_,_,_,_=>none
def Fw(op:BinOp)(k:IntKind)(a b:Int):Option AV:=
 match op with
 | .add=>some (.int k (k.wrap (a+b)))
 | .sub=>some (.int k (k.wrap (a - b)))
 | .mul=>some (.int k (k.wrap (a*b)))
 | .quo=>if b=0 then none else some (.int k (k.wrap (a.tdiv b)))
 | .rem=>if b=0 then none else some (.int k (a.tmod b))
 | .eql=>some (.bool (a==b))
 | .neq=>some (.bool (a !=b))
 | .lss=>some (.bool (decide (a<b)))
 | .leq=>some (.bool (decide (a≤b)))
 | .gtr=>some (.bool (decide (b<a)))
 | .geq=>some (.bool (decide (b≤a)))
 |op=>match abits op k a b with | some c=>some (.int k c) | none=>none
def Fx(op:BinOp)(a b:List UInt8):Option AV:=
 match op with
 | .add=>if a.length+b.length≤9223372036854775807 then some (.str (a++b)) else none
 | .eql=>some (.bool (a==b))
 | .neq=>some (.bool (!(a==b)))
 | .lss=>some (.bool (Op.bytesLess a b))
 | .leq=>some (.bool (Op.bytesLess a b || a==b))
 | .gtr=>some (.bool (!(Op.bytesLess a b || a==b)))
 | .geq=>some (.bool (!(Op.bytesLess a b)))
 |_=>none
theorem O1(s:List UInt8):(ByteArray.mk s.toArray).toList=s:=by
 rw[ByteArray.toList_eq]
section
variable {P : Program} {w : World}
theorem Qaf{op:BinOp}{k:IntKind}{t:TypeId}{x y:Int}{av:AV}(h:Fw op k x y=some av):∃v,(binOp op t (.int k x) (.int k y)).run P w= .ok v w∧∀H,RelI H av v:=by
 cases op<;>simp only[Fw,cqf,reduceCtorEq,abits] at h
 case quo=>
  split at h;·cases h
  ·cases h;exact⟨_,by simp[binOp,Op.intDiv, *],fun H=>.int _ _⟩
 case rem=>
  split at h;·cases h
  ·cases h;exact⟨_,by simp[binOp,Op.intDiv, *],fun H=>.int _ _⟩
 case add=>subst h;exact⟨_,by simp[binOp,Op.intArith],fun H=>.int _ _⟩
 case sub=>subst h;exact⟨_,by simp[binOp,Op.intArith],fun H=>.int _ _⟩
 case mul=>subst h;exact⟨_,by simp[binOp,Op.intArith],fun H=>.int _ _⟩
 case and=>subst h;exact⟨_,by simp[binOp,Op.intBits],fun H=>.int _ _⟩
 case or=>subst h;exact⟨_,by simp[binOp,Op.intBits],fun H=>.int _ _⟩
 case xor=>subst h;exact⟨_,by simp[binOp,Op.intBits],fun H=>.int _ _⟩
 case andNot=>subst h;exact⟨_,by simp[binOp,Op.intBits],fun H=>.int _ _⟩
 all_goals (subst h;exact⟨_,by simp[binOp,Op.intCmp],fun H=>.bool _⟩)
theorem Qag{op:BinOp}{t:TypeId}{x y:List UInt8}{av:AV}(h:Fx op x y=some av):∃v,(binOp op t (.string ⟨x.toArray⟩) (.string ⟨y.toArray⟩)).run P w= .ok v w∧∀H,RelI H av v:=by
 cases op<;>simp only[Fx,cqf,reduceCtorEq] at h
 case add=>
  split at h
  ·rename_i hl;cases h;refine⟨_,?_,fun H=>.str _⟩
   have hn:¬((x.length+y.length:Int)>IntKind.i64.max):=by
    simp only[IntKind.max,IntKind.signed,IntKind.bits];omega
   have e:(ByteArray.mk x.toArray++ByteArray.mk y.toArray)=ByteArray.mk (x++y).toArray:=by
    apply ByteArray.ext;simp
   simp only[binOp,Op.stringOp]
   simp_all [if_neg,ByteArray.size]
  ·cases h
 all_goals (subst h;exact⟨_,by simp[binOp,Op.stringOp],fun H=>.bool _⟩)
theorem In(d:Nat){t:TypeId}(ht:P.underlying t=some .bool)(x y:Bool):(Op.equalIn (d+1) t (.bool x) (.bool y)).run P w= .ok (x==y) w:=by
 simp[Op.equalIn,run_underlying ht]
end
def xeqC:AV→AV→Option Bool
 | .int k a,.int k' b=>if k=k' then some (a==b) else none
 | .str a,.str b=>some (a==b)
 | .bool a,.bool b=>some (a==b)
 |_,_=>none
def eqT(P:Program)(t:TypeId)(x:AV):Bool:=
 match x,P.underlying t with
 | .int ..,some (.int _)=>true
 | .str _,some .string=>true
 | .bool _,some .bool=>true
 |_,_=>false
def xeqF(P:Program)(xs ys:List AV):List Field→Nat→Option Bool
 | [],_=>some true
 |f::fs,i=>match xs[i]?,ys[i]? with
  |some x,some y=>if(tyI P f.type==some (1,false))&&f.offset==i&& (f.name != "_" &&eqT P f.type x) then match xeqC x y with
   |some e=>match xeqF P xs ys fs (i+1) with
    |some r=>some (e&&r)
    |none=>none
   |none=>none else none
  |_,_=>none
def xeqI(P:Program)(e:TypeId)(xs ys:List AV):List Nat→Option Bool
 | []=>some true
 |i::is=>match xs[i]?,ys[i]? with
  |some x,some y=>if eqT P e x then match xeqC x y with
   |some b=>match xeqI P e xs ys is with
    |some r=>some (b&&r)
    |none=>none
   |none=>none else none
  |_,_=>none
def xeqS(P:Program)(t:TypeId)(xs ys:List AV):Option Bool:=
 match P.underlying t with
 |some (.struct fs)=>if !P.stoodInHeld t&& !P.eqGuardType P.depth t then xeqF P xs ys fs.toList 0 else none
 |some (.array n e)=>if(tyI P e==some (1,false))&& !P.eqGuardType P.depth t then xeqI P e xs ys (List.range n) else none
 |_=>none
def xnilS:AV→Option Bool
 | .nil=>some true
 | .bs .. =>some false
 | .sl _ (_::_)=>some false
 |_=>none
def xnilP:AV→Option Bool
 | .nilp=>some true
 | .ptr .. =>some false
 | .ip .. =>some false
 |_=>none
def xnilF:AV→Option Bool
 | .nilfn=>some true
 | .fn .. =>some false
 |_=>none
def Th(P:Program)(t:TypeId):Bool:=match P.underlying t with | some (.slice _)=>true | _=>false
def isPtT(P:Program)(t:TypeId):Bool:=match P.underlying t with | some (.pointer _)=>true | _=>false
def isFnT(P:Program)(t:TypeId):Bool:=match P.underlying t with | some (.func ..)=>true | _=>false
def MT(op:BinOp)(b:Bool):Option AV:=
 match op with
 | .eql=>some (.bool b)
 | .neq=>some (.bool (!b))
 |_=>none
def xbin(P:Program)(op:BinOp)(t:TypeId)(x y:AV):Option AV:=
 match x,y with
 | .int k a,.int k' b=>match op with
   | .shl=>if 0≤b then some (.int k (k.wrap (a*2^ (min b.toNat k.bits)))) else none
   | .shr=>if 0≤b then some (.int k (a.fdiv (2^ (min b.toNat k.bits)))) else none
   |op=>if k=k' then Fw op k a b else none
 | .str a,.str b=>Fx op a b
 | .bool a,.bool b=>if Pd P t then MT op (a==b) else none
 | .agg xs,.agg ys=>(match xeqS P t xs ys with | some b=>MT op b | none=>none)
 |x,.nil=>if Th P t then(match xnilS x with | some b=>MT op b | none=>none) else none
 |x,.nilp=>if isPtT P t then(match xnilP x with | some b=>MT op b | none=>none) else none
 |x,.nilfn=>if isFnT P t then(match xnilF x with | some b=>MT op b | none=>none) else none
 |_,_=>none
section
variable {P : Program} {w : World} {H : HV} {E : Env}
theorem Q4i{t:TypeId}{x y:AV}{u v:Value}{b:Bool}(ht:eqT P t x=true)(hx:RV H E x u)(hy:RV H E y v)(h:xeqC x y=some b)(d:Nat):(Op.equalIn (d+1) t u v).run P w= .ok b w:=by
 unfold xeqC at h;split at h
 ·rename_i k a k' c;split at h
  ·rename_i e;subst e;cases h;rw[hx.int_inv,hy.int_inv];unfold eqT at ht;split at ht<;>first | cases ht | skip
   ·rename_i k' _ a6;exact run_equalIn_int w d t k _ a c (by assumption)
   all_goals simp_all
  ·cases h
 ·rename_i a c;cases h;rw[hx.str_inv,hy.str_inv];unfold eqT at ht;split at ht<;>first | cases ht | skip
  ·simp_all
  ·rw[run_equalIn_string w d t _ _ (by assumption),O1,O1]
  simp_all
 ·rename_i a c;cases h;rw[hx.bool_inv,hy.bool_inv];unfold eqT at ht
  grind [In]
 ·cases h
theorem Q4j{xs ys:List AV}{us vs:Array Value}(hx:xs.length=us.size∧∀(j:Nat) (c:AV) (v:Value),xs[j]? =some c→us[j]? =some v→RV H E c v)(hy:ys.length=vs.size∧∀(j:Nat) (c:AV) (v:Value),ys[j]? =some c→vs[j]? =some v→RV H E c v)(d:Nat):
  ∀(fs:List Field) (i:Nat) (b:Bool),xeqF P xs ys fs i=some b→(Op.eqFields (d+1) us vs fs).run P w= .ok b w
 | [],i,b,h=>by simp only[xeqF,cqf] at h;subst h;rfl
 |f::fs,i,b,h=>by
  simp only[xeqF] at h;split at h
  ·rename_i x y a5 a6;split at h
   ·rename_i hc;simp only[cqb,beq_iff_eq,bne_iff_ne] at hc;obtain⟨⟨ht,ho⟩,hn,hq⟩:=hc;have hu:us[i]? =some (us[i]'(by grind)):=cqh _
    have hv:vs[i]? =some (vs[i]'(by grind)):=cqh _
    have rx:=hx.2 i _ _ a5 hu;have ry:=hy.2 i _ _ a6 hv;have p1:=Lg (w:=w) ht us f.offset;have p2:=Lg (w:=w) ht vs f.offset;simp only[cqk,if_false,ho,hu] at p1;simp only[cqk,if_false,ho,hv] at p2;simp only[Op.eqFields,if_pos hn,cqv,ho,p1,p2,cqw];split at h
    ·rename_i e he;split at h
     ·rename_i r hr;cases h;rw[Q4i hq rx ry he d];cases e with
      |true=>
       simp only[cqw,Bool.not_true,cqk,if_false,Bool.true_and];exact Q4j hx hy d fs (i+1) r hr
      |false=>simp_all
     ·cases h
    ·cases h
   ·cases h
  ·cases h
theorem Q4k{e:TypeId}(ht:tyI P e=some (1,false)){xs ys:List AV}{us vs:Array Value}(hx:xs.length=us.size∧∀(j:Nat) (c:AV) (v:Value),xs[j]? =some c→us[j]? =some v→RV H E c v)(hy:ys.length=vs.size∧∀(j:Nat) (c:AV) (v:Value),ys[j]? =some c→vs[j]? =some v→RV H E c v)(d:Nat):
  ∀(is:List Nat) (b:Bool),xeqI P e xs ys is=some b→(Op.eqItems (d+1) e 1 us vs is).run P w= .ok b w
 | [],b,h=>by simp only[xeqI,cqf] at h;subst h;rfl
 |i::is,b,h=>by
  simp only[xeqI] at h;split at h
  ·rename_i x y a5 a6;split at h
   ·rename_i hq;have hu:us[i]? =some (us[i]'(by grind)):=cqh _
    have hv:vs[i]? =some (vs[i]'(by grind)):=cqh _
    have rx:=hx.2 i _ _ a5 hu;have ry:=hy.2 i _ _ a6 hv;have p1:=Lg (w:=w) ht us i;have p2:=Lg (w:=w) ht vs i;simp only[cqk,if_false,hu] at p1;simp only[cqk,if_false,hv] at p2;simp only[Op.eqItems,cqv,Nat.mul_one,p1,p2,cqw];split at h
    ·rename_i e he;split at h
     ·rename_i r hr;cases h;rw[Q4i hq rx ry he d];cases e with
      |true=>
       simp only[cqw,Bool.not_true,cqk,if_false,Bool.true_and];exact Q4k ht hx hy d is r hr
      |false=>simp_all
     ·cases h
    ·cases h
   ·cases h
  ·cases h
theorem GQ{op:BinOp}{t:TypeId}{u v:Value}{b:Bool}{av:AV}(h:MT op b=some av)(h1:(Op.equal t u v).run P w= .ok b w)(a4:op= .eql→binOp op t u v=(do pure (.bool (← Op.equal t u v))))(a3:op= .neq→binOp op t u v=(do pure (.bool (!(← Op.equal t u v))))):
  ∃x,(binOp op t u v).run P w= .ok x w∧∀H,RelI H av x:=by
 unfold MT at h;split at h;·cases h;exact⟨.bool b,by simp_all,fun _=>.bool _⟩
 ·cases h;exact⟨.bool (!b),by simp_all,fun _=>.bool _⟩
 ·cases h
theorem Qas(d:Nat){t:TypeId}{x:AV}{u:Value}{b:Bool}(hx:RV H E x u)(ht:Th P t=true)(h:xnilS x=some b):(∃a n c,u= .slice a n c)∧(Op.equalIn (d+1) t u (.slice none 0 0)).run P w= .ok b w:=by
 unfold Th at ht;split at ht<;>first | cases ht | skip
 rename_i e he;unfold xnilS at h;split at h<;>first | cases h | skip
 ·rw[hx.nil_inv];exact⟨⟨_,_,_,rfl⟩,by simp[Op.equalIn,run_underlying he]⟩
 ·obtain⟨a,cap,rfl,_⟩:=hx.bs_inv;exact⟨⟨_,_,_,rfl⟩,by simp[Op.equalIn,run_underlying he]⟩
 ·cases hx.sl_inv with
  |sl=>exact⟨⟨_,_,_,rfl⟩,by simp[Op.equalIn,run_underlying he]⟩
theorem Qar(d:Nat){t:TypeId}{x:AV}{u:Value}{b:Bool}(hx:RV H E x u)(ht:isPtT P t=true)(h:xnilP x=some b):(∃a,u= .pointer a)∧(Op.equalIn (d+1) t u (.pointer none)).run P w= .ok b w:=by
 unfold isPtT at ht;split at ht<;>first | cases ht | skip
 rename_i e he;unfold xnilP at h;split at h<;>first | cases h | skip
 ·rw[hx.nilp_inv];exact⟨⟨_,rfl⟩,by simp[Op.equalIn,run_underlying he]⟩
 ·obtain⟨a,rfl,_⟩:=hx.ptr_inv;exact⟨⟨_,rfl⟩,by simp[Op.equalIn,run_underlying he]⟩
 ·cases hx.ip_inv with
  |ip=>exact⟨⟨_,rfl⟩,by simp[Op.equalIn,run_underlying he]⟩
theorem Qaq(d:Nat){t:TypeId}{x:AV}{u:Value}{b:Bool}(hx:RV H E x u)(ht:isFnT P t=true)(h:xnilF x=some b):(u= .nilFunc∨∃f a c,u= .func f a c)∧(Op.equalIn (d+1) t u .nilFunc).run P w= .ok b w:=by
 unfold isFnT at ht;split at ht<;>first | cases ht | skip
 rename_i he;unfold xnilF at h;split at h<;>first | cases h | skip
 ·rw[hx.nilfn_inv];exact⟨.inl rfl,by simp[Op.equalIn,run_underlying he]⟩
 ·obtain⟨vs,rfl,_⟩:=hx.fn_inv;exact⟨.inr ⟨_,_,_,rfl⟩,by simp[Op.equalIn,run_underlying he]⟩
theorem xbin_ok{op:BinOp}{t:TypeId}{x y:AV}{u v:Value}{av:AV}{ox oy:Operand}(hx:RV H E x u)(hy:RV H E y v)(h:xbin P op t x y=some av):
    ∃r,(binOp op t u v).run P w= .ok r w∧(eqGuard op t ox oy u v).run P w= .ok () w∧∀H,RelI H av r:=by
  unfold xbin at h;split at h
  · rename_i k a k' b
    rw[hx.int_inv,hy.int_inv];have hg:(eqGuard op t ox oy (.int k a) (.int k' b)).run P w= .ok () w:=by cases op<;>rfl
    cases op<;>simp only at h<;>first
      | (split at h
         · simp_all [Qaf]
         · cases h)
      | (split at h
         · cases h;exact⟨_,by simp[binOp,Op.shift,show ¬b<0 by omega],hg,fun H=>.int _ _⟩
         · cases h)
  · rename_i a b
    rw[hx.str_inv,hy.str_inv];obtain⟨r,h1,h2⟩:=Qag (P:=P) (w:=w) (t:=t) h;exact⟨r,h1,by cases op<;>rfl,h2⟩
  · rename_i a b
    rw[hx.bool_inv,hy.bool_inv];split at h
    · rename_i hb
      obtain⟨r,h1,h2⟩:=GQ (P:=P) (w:=w) (t:=t) (u:=.bool a) (v:=.bool b) h (In 9999 (Q5b hb) a b) (fun e=>by subst e;rfl) (fun e=>by subst e;rfl)
      exact⟨r,h1,by cases op<;>rfl,h2⟩
    · cases h
  · rename_i xs ys
    obtain⟨us,rfl,h1,_,h2⟩:=hx.agg_inv;obtain⟨vs,rfl,h3,_,h4⟩:=hy.agg_inv;split at h
    · rename_i b hb
      unfold xeqS at hb;split at hb
      · rename_i fs ht
        split at hb
        · rename_i hc
          simp only[cqb,Bool.not_eq_true'] at hc;have ab:P.fieldsOf t=fs:=by simp[Program.fieldsOf,ht]
          have he:=run_equalIn_struct w 9999 t us vs (by simp_all) hc.1
          rw[ab,Q4j ⟨h1,h2⟩ ⟨h3,h4⟩ 9998 fs.toList 0 b hb] at he;obtain⟨r,h5,h6⟩:=GQ (P:=P) (w:=w) (t:=t) (u:=.agg us) (v:=.agg vs) h he (fun e=>by subst e;rfl) (fun e=>by subst e;rfl)
          exact⟨r,h5,run_eqGuard_agg w op t ox oy us vs hc.2,h6⟩
        · cases hb
      · rename_i n e ht
        split at hb
        · rename_i hc
          simp only[cqb,Bool.not_eq_true',beq_iff_eq] at hc;obtain⟨i,hi,hs⟩:∃i,P.info? e=some i∧i.size=1:=by
            grind [tyI,Option.map_eq_some_iff,Prod.mk.injEq]
          have he:=run_equalIn_array w 9999 us vs ht hi;rw[show P.cellsOf e=1 by simp[Program.cellsOf,hi,hs],Q4k hc.1 ⟨h1,h2⟩ ⟨h3,h4⟩ 9998 _ b hb] at he
          obtain⟨r,h5,h6⟩:=GQ (P:=P) (w:=w) (t:=t) (u:=.agg us) (v:=.agg vs) h he (fun e=>by subst e;rfl) (fun e=>by subst e;rfl)
          exact⟨r,h5,run_eqGuard_agg w op t ox oy us vs hc.2,h6⟩
        · cases hb
      · cases hb
    · cases h
  · rw[hy.nil_inv]
    split at h
    · rename_i ht
      split at h
      · rename_i b hb
        obtain⟨⟨a,n,c,rfl⟩,he⟩:=Qas (w:=w) 9999 hx ht hb;obtain⟨r,h5,h6⟩:=GQ (P:=P) (w:=w) (t:=t) h he (fun e=>by subst e;rfl) (fun e=>by subst e;rfl)
        exact⟨r,h5,by cases op<;>rfl,h6⟩
      · cases h
    · cases h
  · rw[hy.nilp_inv]
    split at h
    · rename_i ht
      split at h
      · rename_i b hb
        obtain⟨⟨a,rfl⟩,he⟩:=Qar (w:=w) 9999 hx ht hb;obtain⟨r,h5,h6⟩:=GQ (P:=P) (w:=w) (t:=t) h he (fun e=>by subst e;rfl) (fun e=>by subst e;rfl)
        exact⟨r,h5,by cases op<;>rfl,h6⟩
      · cases h
    · cases h
  · rw[hy.nilfn_inv]
    split at h
    · rename_i ht
      split at h
      · rename_i b hb
        obtain⟨hf,he⟩:=Qaq (w:=w) 9999 hx ht hb;rcases hf with rfl | ⟨_,_,_,rfl⟩
        · obtain⟨r,h5,h6⟩:=GQ (P:=P) (w:=w) (t:=t) h he (fun e=>by subst e;rfl) (fun e=>by subst e;rfl)
          exact⟨r,h5,by cases op<;>rfl,h6⟩
        · obtain⟨r,h5,h6⟩:=GQ (P:=P) (w:=w) (t:=t) h he (fun e=>by subst e;rfl) (fun e=>by subst e;rfl)
          exact⟨r,h5,by cases op<;>rfl,h6⟩
      · cases h
    · cases h
  · cases h
end
def xun(op:UnOp)(x:AV):Option AV:=
 match op with
 | .not=>match x with | .bool b=>some (.bool (!b)) | _=>none
 | .neg=>match x with | .int k n=>some (.int k (k.wrap (0 - n))) | _=>none
 | .plus=>none
 | .xor=>match x with | .int k n=>some (.int k (k.wrap (BitVec.ofInt k.bits (if k.signed then -1 else k.max)^^^BitVec.ofInt k.bits n).toNat)) | _=>none
def Fz(P:Program)(a3 dst:TypeId)(x:AV):Option AV:=
 match x with
 | .int _ n=>match P.underlying dst with
  |some (.int k)=>if(P.underlying a3).isSome then some (.int k (k.wrap n)) else none
  |_=>none
 | .str s=>if V6 P dst&& (P.underlying a3).isSome then some (.str s) else none
 |_=>none
def wd(g:Bool)(n:Nat):Nat:=bif g then n else 1
def CA(g:Bool)(n off:Nat)(cs:List AV):AV:=
 if g then .agg ((cs.drop off).take n) else(cs[off]?).getD .undef
def HR(P:Program)(t:TypeId)(x i:AV):Option AV:=
 match x,i with
 | .str s,.int _ k=>if V6 P t&& (decide (0≤k)&&decide (k<s.length)) then some (.int .u8 ((s[k.toNat]?).getD 0).toNat) else none
 | .agg cs,.int _ k=>match arI P t with
  |some (n,z,g)=>if decide (0≤k)&&decide (k<n)&&Nat.ble (k.toNat*z+wd g z) cs.length then some (CA g z (k.toNat*z) cs) else none
  |none=>none
 |_,_=>none
def EH(P:Program)(s:TypeId)(x:AV)(f:Nat):Option AV:=
 match fldI P s f with
 |some (o,n,_)=>if n=0 then none else match x with
  | .ip sz xs i off=>some (.ip sz xs i (off+o))
  | .ptr id ver off=>some (.ptr id ver (off+o))
  | .oe id ver sz i off=>some (.oe id ver sz i (off+o))
  |_=>none
 |none=>none
def Q1e(P:Program)(s:TypeId)(x:AV)(f:Nat):Option AV:=
 match fldI P s f with
 |some (o,n,g)=>match x with
  | .agg cs=>if o+wd g n≤cs.length then some (CA g n o cs) else none
  |_=>none
 |none=>none
def YV(P:Program)(t:TypeId)(x i:AV):Option AV:=
 match i with
 | .int _ k=>match x with
  | .sl sz xs=>if elI P t=some sz∧0≤k∧k<xs.length then some (.ip sz [(xs[k.toNat]?).getD .undef] 0 0) else none
  | .bs id ver sz off len=>if elI P t=some sz∧0≤k∧k<len then some (.ptr id ver (off+k.toNat*sz)) else none
  | .ow id ver sz len=>if elI P t=some sz∧0≤k∧k<len then some (.oe id ver sz k.toNat 0) else none
  | .ptr id ver off=>match arI P t with
   |some (n,z,_)=>if 0≤k∧k<n then some (.ptr id ver (off+k.toNat*z)) else none
   |none=>none
  | .ip sz xs j off=>match arI P t with
   |some (n,z,_)=>if 0≤k∧k<n then some (.ip sz xs j (off+k.toNat*z)) else none
   |none=>none
  |_=>none
 |_=>none
def bndN(d:Nat):Option AV→Option Nat
 |none=>some d
 |some (.int _ n)=>if 0≤n then some n.toNat else none
 |some _=>none
def Ji(P:Program)(t:TypeId)(x:AV)(lo hi mx:Option AV):Option AV:=
 match bndN 0 lo with
 |some l=>match x with
  | .str s=>match bndN s.length hi with
   |some h=>if V6 P t=true∧mx.isNone=true∧l≤h∧h≤s.length then some (.str ((s.take h).drop l)) else none
   |none=>none
  | .sl sz xs=>match bndN xs.length hi with
   |some h=>match mx with
    |none=>if elI P t=some sz∧l≤h∧h≤xs.length then some (.sl sz ((xs.take h).drop l)) else none
    |some m=>if hi.isSome=true∧elI P t=some sz∧bndN 0 (some m)=some 0∧l≤h∧h≤0 then some .emp else none
   |none=>none
  | .bs id ver sz off len=>match bndN len hi with
   |some h=>match mx with
    |none=>if elI P t=some sz∧l≤h∧h≤len then(if h=l then(if l=0 then some (.bs id ver sz off 0) else some (.sl sz [])) else some (.bs id ver sz (off+l*sz) (h - l))) else none
    |some m=>match bndN 0 (some m) with
     |some m=>if hi.isSome=true∧elI P t=some sz∧m≤len∧l≤h∧h≤m then(if m=l then some .emp else some (.bs id ver sz (off+l*sz) (h - l))) else none
     |none=>none
   |none=>none
  | .ow id ver sz len=>match bndN len hi with
   |some h=>match mx with
    |none=>if elI P t=some sz∧l=0∧h≤len then some (.ow id ver sz h) else none
    |some _=>none
   |none=>none
  | .nil=>match bndN 0 hi with
   |some h=>if(elI P t).isSome=true∧l=0∧h=0∧mx.isNone=true then some .nil else none
   |none=>none
  | .emp=>match bndN 0 hi with
   |some h=>if(elI P t).isSome=true∧l=0∧h=0∧mx.isNone=true then some .emp else none
   |none=>none
  |_=>none
 |none=>none
def FD(a3:Bool)(k:IntKind)(a:Int):List AV→Option AV
 | []=>some (.int k a)
 | .int k' b::r=>if k=k' then FD a3 k (if a3 then max a b else min a b) r else none
 |_::_=>none
def xmax(a3:Bool)(l:List AV):Option AV:=
 match l with
 | .int k a::r=>FD a3 k a r
 |_=>none
def xlen(P:Program)(t:TypeId)(x:AV):Option AV:=
 match x with
 | .str s=>if V6 P t then some (.int .i64 s.length) else none
 | .sl _ xs=>if(elI P t).isSome then some (.int .i64 xs.length) else none
 | .bs _ _ _ _ len=>if(elI P t).isSome then some (.int .i64 len) else none
 | .ow _ _ _ len=>if(elI P t).isSome then some (.int .i64 len) else none
 | .nil=>if(elI P t).isSome then some (.int .i64 0) else none
 | .emp=>if(elI P t).isSome then some (.int .i64 0) else none
 |_=>none
def Al(x:AV)(j:Nat):Option AV:=
 match x with
 | .tup vs=>vs[j]?
 |_=>none
def NW(a3:Nat→Option (Nat×Nat))(cs:List AV):List (Nat×AV)→Option (List AV)
 | []=>some cs
 | (i,v)::r=>match a3 i with
  |some (o,n)=>if v.okc=true∧v.cells.length=n∧o+n≤cs.length then NW a3 (cs.take o++(v.cells++cs.drop (o+n))) r else none
  |none=>none
def fldsOk(P:Program)(fs:List Field):Bool:=fs.all fun f=>(tyI P f.type).isSome
def Q1c(P:Program)(t:TypeId)(parts:List (Nat×AV)):Option AV:=
 match H9 P t with
 |some (.agg zs)=>match P.underlying t with
  |some (.struct fs)=>if fldsOk P fs.toList then(match NW (fun i=>(fldI P t i).map fun x=>(x.1,x.2.1)) zs parts with
   |some cs=>some (.agg cs)
   |none=>none) else none
  |some (.array _ e)=>match tyI P e with
   |some (z,_)=>(match NW (fun i=>some (i*z,z)) zs parts with
    |some cs=>some (.agg cs)
    |none=>none)
   |none=>none
  |_=>none
 |_=>none
section
variable {P : Program} {w : World} {H : HV} {E : Env}
theorem xun_ok{op:UnOp}{x:AV}{u:Value}{av:AV}(hx:RV H E x u)(h:xun op x=some av):∃v,(Op.unary op u).run P w= .ok v w∧∀H,RelI H av v:=by
 cases op<;>simp only[xun,reduceCtorEq] at h<;>split at h<;>first | cases h | skip
 all_goals first
  | (refine⟨_,?_,fun H=>.int _ _⟩;rw[hx.int_inv];simp[Op.unary,Op.intArith];done)
  | (refine⟨_,?_,fun H=>.bool _⟩;rw[hx.bool_inv];simp[Op.unary];done)
  | (refine⟨_,?_,fun H=>.int _ _⟩;rw[hx.int_inv];simp[Op.unary,Op.intBits];done)
theorem Qah{a4 to:TypeId}{x:AV}{u:Value}{av:AV}(hx:RV H E x u)(h:Fz P a4 to x=some av):∃v,(convert a4 to u).run P w= .ok v w∧∀H,RelI H av v:=by
 unfold Fz at h;split at h
 ·rename_i k n;rw[hx.int_inv];split at h
  ·rename_i k' ht;split at h
   ·rename_i hs;cases h;obtain⟨d,a3⟩:=Option.isSome_iff_exists.1 hs;exact⟨_,by simp[convert,run_underlying ht,run_underlying a3,Conv.intToInt],fun _=>.int _ _⟩
   ·cases h
  ·cases h
 ·rename_i s;rw[hx.str_inv];split at h
  ·rename_i hs;cases h;simp only[cqb] at hs;obtain⟨d,a3⟩:=Option.isSome_iff_exists.1 hs.2;exact⟨_,by simp[convert,run_underlying (Ju hs.1),run_underlying a3],fun _=>.str _⟩
  ·cases h
 ·cases h
theorem Ld{cs:List AV}{n off:Nat}{g:Bool}{val:Nat→Value}(hl:off+wd g n≤cs.length)
  (hc:∀(j:Nat) (c:AV),cs[j]? =some c→RV H E c (val j)) (h1:∀(j:Nat) (c:AV),cs[j]? =some c→(val j).oneCell'=true):
  RV H E (CA g n off cs) (if g then .agg ((List.range n).map fun j=>val (off+j)).toArray else val off):=by
 cases g
 ·simp only[wd,cond_false] at hl;have hx:cs[off]? =some (cs[off]'(by omega)):=cqc (by omega)
  simp only[CA,cqk,if_false,hx,Option.getD_some]
  simp_all
 ·simp only[wd,cond_true] at hl;simp only[CA,if_true];refine .agg _ _ (by simp;omega) (fun v hv=> ?_) fun j c v hj hv=> ?_
  ·simp only[List.mem_toArray,List.mem_map,List.mem_range] at hv;obtain⟨j,hj,rfl⟩:=hv;exact h1 _ _ (cqc (by omega:off+j<cs.length))
  grind
theorem Q0e{t:TypeId}{n:Nat}{g:Bool}(ht:tyI P t=some (n,g)){cs:List AV}{vs:Array Value}{o:Nat}(hv:RV H E (.agg cs) (.agg vs))(hl:o+wd g n≤cs.length):
  ∃u,(part t vs o).run P w= .ok u w∧RV H E (CA g n o cs) u:=by
 obtain⟨ae,e,ad,h1,hc⟩:=hv.agg_inv;cases e;have hr:=Ld (cs:=cs) (n:=n) (off:=o) (g:=g) (val:=fun j=>vs.getD j Go.undef) (H:=H) (E:=E) hl (fun j c hj=>by
  have a3:j<vs.size:=by grind
  exact hc j c _ hj (by simp_all)) (fun j c hj=>by
  have a3:j<vs.size:=by grind
  simp_all)
 refine⟨_,?_,hr⟩;rw[Lg ht];cases g
 ·simp only[wd,cond_false] at hl;simp only[cqk,if_false];have:o<vs.size:=by omega
  simp_all
 ·simp only[wd,cond_true] at hl;simp only[if_true];congr 2;apply Array.ext;·simp;omega
  ·intro i h1 h2;simp at h1 h2;simp[cqj,show o+i<vs.size by omega]
theorem Q7s{s:TypeId}{x:AV}{f:Nat}{u:Value}{av:AV}(hx:RV H E x u)(h:Q1e P s x f=some av):∃v,(Instr.field s u f).run P w= .ok v w∧RV H E av v:=by
 unfold Q1e at h;split at h
 ·rename_i o n g hf;split at h
  ·rename_i cs;split at h
   ·rename_i hl;cases h;obtain⟨vs,rfl,ab,h1,hc⟩:=hx.agg_inv;obtain⟨fs,fl,hs,a3,ho,ht⟩:=BF hf;obtain⟨r,h3,h4⟩:=Q0e (w:=w) ht hx hl;exact⟨r,by simp only[Instr.field,cqv,run_underlying hs,cqw,a3,asAgg,Sem.run_pure,ho,h3],h4⟩
   ·cases h
  ·cases h
 ·cases h
theorem Q7t{t:TypeId}{x i:AV}{u z:Value}{av:AV}(hx:RV H E x u)(hi:RV H E i z)(h:HR P t x i=some av):∃v,(Instr.index t u z).run P w= .ok v w∧RV H E av v:=by
 unfold HR at h;split at h
 ·rename_i s k n;split at h
  ·rename_i hc;cases h;simp only[cqb,decide_eq_true_eq] at hc;obtain⟨ht,h0,h1⟩:=hc;rw[hx.str_inv,hi.int_inv];have a7:n.toNat<s.length:=by omega
   refine⟨.int .u8 ((s[n.toNat]?).getD 0).toNat,?_,.imm _ _ (.int _ _)⟩;have hb:(ByteArray.mk s.toArray)[n.toNat]? =some s[n.toNat]:=by
    rw[getElem?_pos _ _ (by simp_all [ByteArray.size])]
    rfl
   simp[Instr.index,asIntOf,run_underlying (Ju ht),h0,hb,a7]
  ·cases h
 ·rename_i cs k n;split at h
  ·rename_i len z' g ha;split at h
   ·rename_i hc;cases h;simp only[cqb,decide_eq_true_eq] at hc;obtain⟨⟨h0,h1⟩,h2⟩:=hc;have h2:=cqe h2;obtain⟨vs,rfl,af,_,hc⟩:=hx.agg_inv;obtain⟨e,he,ht⟩:=P7 ha;obtain⟨r,h3,h4⟩:=Q0e (w:=w) ht hx h2;rw[hi.int_inv];refine⟨r,?_,h4⟩;have:0≤n∧n< (len:Int):=⟨h0,h1⟩;simp only[Instr.index,asIntOf,cqv,Sem.run_pure,cqw,run_underlying he,if_pos this,VF ht,h3]
   ·cases h
  ·cases h
 ·cases h
theorem OP{s:TypeId}{x:AV}{f:Nat}{u:Value}{av:AV}(hx:RV H E x u)(h:EH P s x f=some av):∃v,(Instr.fieldAt s u f).run P w= .ok v w∧RV H E av v:=by
 unfold EH at h;split at h
 ·rename_i o n g hf;obtain⟨fs,fl,hs,a3,ho,ht⟩:=BF hf;split at h;·cases h
  ·rename_i hn;split at h
   ·rename_i sz xs i off;cases h;cases hx.ip_inv with
    |ip _ _ b ob _ _ val h0 h1 h2 h3 h4=>
     refine⟨.pointer (some ⟨b,ob+i*sz+(off+o),none⟩),?_,.imm _ _ (.ip sz xs b ob i (off+o) val h0 h1 h2 h3 h4)⟩;simp only[Instr.fieldAt,cqv,run_underlying hs,cqw,a3,Instr.sureAddr,Sem.run_pure,M5 ht hn,ho,Xj,Nat.add_assoc]
   ·rename_i id ver off;cases h;obtain⟨a,rfl,h1,h2⟩:=hx.ptr_inv;refine⟨.pointer (some (a.add o)),?_,.ptr id ver (off+o) _ h1 fun l hl=>by grind [Xj,Nat.add_assoc]⟩
    simp only[Instr.fieldAt,cqv,run_underlying hs,cqw,a3,Instr.sureAddr,Sem.run_pure,M5 ht hn,ho]
   ·rename_i id ver sz i off;cases h;obtain⟨a,rfl,h1,h2⟩:=hx.oe_inv;refine⟨.pointer (some (a.add o)),?_,.oe id ver sz i (off+o) _ h1 fun l hl=>⟨(h2 l hl).1,by simp_all [Xj,Nat.add_assoc]⟩⟩
    simp only[Instr.fieldAt,cqv,run_underlying hs,cqw,a3,Instr.sureAddr,Sem.run_pure,M5 ht hn,ho]
   ·cases h
 ·cases h
theorem OQ{t:TypeId}{x i:AV}{u z:Value}{av:AV}(hx:RV H E x u)(hi:RV H E i z)(h:YV P t x i=some av):∃v,(Instr.indexAt t u z).run P w= .ok v w∧RV H E av v:=by
 unfold YV at h;split at h
 ·rename_i k n;rw[hi.int_inv];split at h
  ·rename_i sz xs;split at h
   ·rename_i hc;cases h;obtain⟨he,h0,h1⟩:=hc;obtain⟨e,af,ht,a4,a6⟩:=Gi he;have ao:n.toNat<xs.length:=by omega
    cases hx.sl_inv with
    |sl0=>simp_all
    |sl _ _ b o cap val hs hc hm h2 h3 h4=>
     have aj:∀(i:Nat) (x:AV),[(xs[n.toNat]?).getD .undef][i]? =some x→i=0∧xs[n.toNat]? =some x:=fun i x hx=>by
      grind
     refine⟨.pointer (some ⟨b,(o+n.toNat*sz)+0*sz+0,none⟩),?_,.imm _ _ (.ip sz [(xs[n.toNat]?).getD .undef] b (o+n.toNat*sz) 0 0 (fun _ j=>val n.toNat j) hs (by simp) (fun i x hx=>h2 _ x (aj i x hx).2)
      (fun i x j c hx hc=>by grind) (fun i x j c hx hc=>by grind))⟩
     have a5:0≤n∧n< (xs.length:Int):=⟨h0,h1⟩;simp only[Instr.indexAt,asIntOf,cqv,Sem.run_pure,cqw,run_underlying ht];simp only[a5,and_self,if_true,cqv,Go.sizeOf,typeInfo,run_program,cqw,a4,Sem.run_pure,a6,Xj,Nat.add_zero,Nat.zero_mul]
   ·cases h
  ·rename_i id ver sz off len;split at h
   ·rename_i hc;cases h;obtain⟨he,h0,h1⟩:=hc;obtain⟨e,af,ht,a4,a6⟩:=Gi he;obtain⟨a,cap,rfl,ha,ai,hm,hl⟩:=hx.bs_inv;refine⟨.pointer (some (a.add (n.toNat*sz))),?_,.ptr id ver _ _ ha fun l ae=>by simp_all [Xj,Nat.add_assoc]⟩
    have a5:0≤n∧n< (len:Int):=⟨h0,h1⟩;simp only[Instr.indexAt,asIntOf,cqv,Sem.run_pure,cqw,run_underlying ht];simp only[a5,and_self,if_true,cqv,Go.sizeOf,typeInfo,run_program,cqw,a4,Sem.run_pure,a6]
   ·cases h
  ·rename_i id ver sz len;split at h
   ·rename_i hc;cases h;obtain⟨he,h0,h1⟩:=hc;obtain⟨e,af,ht,a4,a6⟩:=Gi he;obtain⟨oa,cap,rfl,ha,ai,hm,ap,hl⟩:=hx.ow_inv;cases oa with
    |none=>grind
    |some a=>
     refine⟨.pointer (some (a.add (n.toNat*sz))),?_,.oe id ver sz n.toNat 0 _ ha fun l ae=> ?_⟩
     ·have a5:0≤n∧n< (len:Int):=⟨h0,h1⟩;simp only[Instr.indexAt,asIntOf,cqv,Sem.run_pure,cqw,run_underlying ht];simp only[a5,and_self,if_true,cqv,Go.sizeOf,typeInfo,run_program,cqw,a4,Sem.run_pure,a6]
     ·rcases hl l ae with h2 | ⟨h2,h3,_⟩
      ·omega
      simp_all [Xj,Nat.add_zero]
   ·cases h
  ·rename_i id ver off;split at h
   ·rename_i len z' g ha;split at h
    ·rename_i hc;cases h;obtain⟨e,he,ht⟩:=P7 ha;obtain⟨a,rfl,h1,h2⟩:=hx.ptr_inv;refine⟨.pointer (some (a.add (n.toNat*z'))),?_,.ptr id ver _ _ h1 fun l hl=>by grind [Xj,Nat.add_assoc]⟩
     simp only[Instr.indexAt,asIntOf,cqv,Sem.run_pure,cqw,run_underlying he,Instr.sureAddr];simp only[hc,and_self,if_true,cqv,VF ht,cqw,Sem.run_pure]
    ·cases h
   ·cases h
  ·rename_i sz xs j off;split at h
   ·rename_i len z' g ha;split at h
    ·rename_i hc;cases h;obtain⟨e,he,ht⟩:=P7 ha;cases hx.ip_inv with
     |ip _ _ b ob _ _ val h0 h1 h2 h3 h4=>
      refine⟨.pointer (some ⟨b,ob+j*sz+(off+n.toNat*z'),none⟩),?_,.imm _ _ (.ip sz xs b ob j _ val h0 h1 h2 h3 h4)⟩;simp only[Instr.indexAt,asIntOf,cqv,Sem.run_pure,cqw,run_underlying he,Instr.sureAddr];simp only[hc,and_self,if_true,cqv,VF ht,cqw,Sem.run_pure,Xj,Nat.add_assoc]
    ·cases h
   ·cases h
  ·cases h
 ·cases h
theorem Q2w{x:AV}{j:Nat}{u:Value}{av:AV}(hx:RV H E x u)(h:Al x j=some av):∃v,(Instr.extract u j).run P w= .ok v w∧RV H E av v:=by
 unfold Al at h;split at h
 ·rename_i vs;obtain⟨us,rfl,hl,hc⟩:=hx.tup_inv;have a3:j<us.size:=by grind
  have hj:us[j]? =some us[j]:=cqh a3;exact⟨us[j],by simp[Instr.extract,hj],hc j _ _ h hj⟩
 ·cases h
end
section
variable {P : Program} {w : World} {H : HV} {E : Env}
theorem Lh(a5:Bool){len cap l h m:Nat}{low a4 max:Option Value}(hl:(low=none∧l=0)∨∃k,low=some (.int k l))(hh:(a4=none∧max=none∧h=len)∨∃k,a4=some (.int k h))
  (hm:(max=none∧m=cap)∨∃k,max=some (.int k m)) (h1:l≤h) (h2:h≤m) (h3:m≤cap):(Instr.sliceBounds a5 len cap low a4 max).run P w= .ok (l,h,m) w:=by
 have a3:∀(k:IntKind) (x y:Nat) (c:BoundsCode),x≤y→(Instr.sliceBound (.int k (x:Int)) y c).run P w= .ok x w:=fun k x y c ag=>by
  have:(0:Int)≤x∧(x:Int)≤y:=⟨by omega,by omega⟩
  simp only[Instr.sliceBound,asIntOf,cqv,Sem.run_pure,cqw,if_pos this,cqm]
 rcases hm with⟨rfl,rfl⟩ | ⟨km,rfl⟩
 ·rcases hh with⟨rfl,_,rfl⟩ | ⟨kh,rfl⟩
  ·rcases hl with⟨rfl,rfl⟩ | ⟨kl,rfl⟩
   ·simp[Instr.sliceBounds]
   ·simp[Instr.sliceBounds,a3 kl _ _ _ h1]
  ·rcases hl with⟨rfl,rfl⟩ | ⟨kl,rfl⟩
   ·simp[Instr.sliceBounds,a3 kh _ _ _ h2]
   ·simp[Instr.sliceBounds,a3 kh _ _ _ h2,a3 kl _ _ _ h1]
 ·rcases hh with⟨rfl,e,_⟩ | ⟨kh,rfl⟩
  ·cases e
  ·rcases hl with⟨rfl,rfl⟩ | ⟨kl,rfl⟩
   ·simp[Instr.sliceBounds,a3 km _ _ _ h3,a3 kh _ _ _ h2]
   ·simp[Instr.sliceBounds,a3 km _ _ _ h3,a3 kh _ _ _ h2,a3 kl _ _ _ h1]
theorem Ge{d n:Nat}{o:Option AV}{v:Option Value}(hr:(o=none∧v=none)∨∃x u,o=some x∧v=some u∧RV H E x u)(h:bndN d o=some n):(o=none∧v=none∧n=d)∨∃k,v=some (.int k n)∧o.isSome=true:=by
 rcases hr with⟨rfl,rfl⟩ | ⟨x,u,rfl,rfl,hx⟩
 ·simp only[bndN,cqf] at h;simp_all
 ·unfold bndN at h;split at h
  ·simp_all
  ·rename_i k n' e;cases e;split at h
   ·rename_i h0;cases h;rw[hx.int_inv];exact .inr ⟨k,by grind,rfl⟩
   ·cases h
  ·cases h
theorem UD{t:TypeId}{x:Value}{lo hi mx:Option Value}{d:TypeDesc}(hn:∀n e,d≠ .array n e)(hd:P.underlying t=some d):(Instr.sliceAt t x lo hi mx).run P w=(Instr.slice t x lo hi mx).run P w:=by
 simp only[Instr.sliceAt,cqv,run_underlying hd,cqw]
theorem RelI.sub{sz:Nat}{xs:List AV}{a:Option Addr}{n cap:Nat}(h:RelI H (.sl sz xs) (.slice a n cap)){l r:Nat}(hl:l≤r)(hr:r≤xs.length):
  RelI H (.sl sz ((xs.take r).drop l)) (.slice (if cap=l then a else a.map (·.add (l*sz))) (r - l) (cap - l)):=by
 have hn:=h.len_inv;obtain⟨_,_,e,a6,a7⟩:=hn;cases e;have a5:((xs.take r).drop l).length=r - l:=by simp;omega
 by_cases h0:r=l
 ·subst h0;have:(xs.take r).drop r=[]:=List.drop_of_length_le (by simp;omega)
  rw[this,Nat.sub_self];exact .sl0 _ _ _ (by omega)
 ·generalize hnl:xs.length=nl at*;cases h with
  |sl0=>omega
  |sl _ _ b o _ val hs h1 h2 h3 h4 h5=>
   rw[if_neg (by omega)]
   have:=RelI.sl sz ((xs.take r).drop l) b (o+l*sz) (cap - l) (fun i j=>val (l+i) j) hs (by omega) (by omega)
    (fun i x hx=>by
     grind)
    (fun i x j c hx hj=>by
     rw[List.getElem?_drop,List.getElem?_take] at hx;split at hx
     ·have:=h4 _ _ j c hx hj;rw[show o+l*sz+i*sz+j=o+(l+i)*sz+j by grind]
      exact this
     ·cases hx)
    (fun i x j c hx hj=>by
     grind)
   simp_all [Xj]
theorem Q83{t:TypeId}{x:AV}{lo hi mx:Option AV}{u:Value}{vl vh vm:Option Value}{av:AV}(hx:RV H E x u)(rl:(lo=none∧vl=none)∨∃x u,lo=some x∧vl=some u∧RV H E x u)(rh:(hi=none∧vh=none)∨∃x u,hi=some x∧vh=some u∧RV H E x u)
  (rm:(mx=none∧vm=none)∨∃x u,mx=some x∧vm=some u∧RV H E x u) (h:Ji P t x lo hi mx=some av):∃v,(Instr.sliceAt t u vl vh vm).run P w= .ok v w∧RV H E av v:=by
 unfold Ji at h;split at h
 ·rename_i l hl;have bl:(vl=none∧l=0)∨∃k,vl=some (.int k l):=(Ge rl hl).imp (fun⟨_,b,c⟩=>⟨b,c⟩) fun⟨k,hk,_⟩=>⟨k,hk⟩
  have a7:mx=none→vm=none:=fun e=>by
   simp_all
  split at h
  ·rename_i s;split at h
   ·rename_i r hr;split at h
    ·rename_i hc;cases h;obtain⟨ht,hm,h1,h2⟩:=hc;have ht:=Ju ht;have a3:=a7 (by simpa using hm)
     have bh:(vh=none∧vm=none∧r=s.length)∨∃k,vh=some (.int k r):=(Ge rh hr).imp (fun⟨_,b,c⟩=>⟨b,a3,c⟩) fun⟨k,hk,_⟩=>⟨k,hk⟩
     rw[hx.str_inv];have hb:=Lh (P:=P) (w:=w) false (len:=s.length) (cap:=s.length) bl bh (.inl ⟨a3,rfl⟩) h1 h2 (Nat.le_refl _);subst a3;refine⟨.string ⟨((s.take r).drop l).toArray⟩,?_,.imm _ _ (.str _)⟩;rw[UD (fun n e=>by simp) ht]
     simp only[Instr.slice,cqv,run_underlying ht,cqw,Option.isSome_none,cqk,if_false,Sem.run_pure];have a5:(ByteArray.mk s.toArray).size=s.length:=by simp[ByteArray.size]
     rw[a5,hb];simp only[cqw];congr 2;apply ByteArray.ext;apply Array.ext';simp[List.drop_take]
    ·cases h
   ·cases h
  ·rename_i sz xs;split at h
   ·rename_i r hr;obtain⟨ad,cap,hv,b7,bg⟩:=hx.sl_inv.len_inv;have b2:=hx.sl_inv;rw[hv] at b2 ⊢;split at h
    ·split at h
     ·rename_i hc;cases h;obtain⟨he,h1,h2⟩:=hc;obtain⟨e,ag,ht,a4,a5⟩:=Gi he;have a3:=a7 rfl;have bh:(vh=none∧vm=none∧r=xs.length)∨∃k,vh=some (.int k r):=(Ge rh hr).imp (fun⟨_,b,c⟩=>⟨b,a3,c⟩) fun⟨k,hk,_⟩=>⟨k,hk⟩
      have hb:=Lh (P:=P) (w:=w) true (len:=xs.length) (cap:=cap) bl bh (.inl ⟨a3,rfl⟩) h1 (Nat.le_trans h2 b7) (Nat.le_refl _);refine⟨_,?_,.imm _ _ (b2.sub h1 h2)⟩;rw[UD (fun n e=>by simp) ht]
      simp only[Instr.slice,cqv,run_underlying ht,cqw,hb,Go.sizeOf,typeInfo,run_program,a4,Sem.run_pure,a5]
     ·cases h
    ·rename_i m;split at h
     ·rename_i hc;cases h;obtain⟨hs,he,hm,h1,h2⟩:=hc;obtain⟨e,ag,ht,a4,a5⟩:=Gi he;rcases rm with⟨e',_⟩ | ⟨y,u',e',rfl,hy⟩
      ·cases e'
      cases e';have bm:=Ge (d:=0) (H:=H) (E:=E) (o:=some m) (v:=some u') (.inr ⟨_,_,rfl,rfl,hy⟩) hm;rcases bm with⟨e',_⟩ | ⟨k,hk,_⟩
      ·cases e'
      rcases Ge rh hr with⟨e',_⟩ | ⟨k',aw,_⟩
      ·rw[e'] at hs;cases hs
      have hb:=Lh (P:=P) (w:=w) true (len:=xs.length) (cap:=cap) (m:=0) (max:=some u') bl (.inr ⟨k',aw⟩) (.inr ⟨k,hk⟩) h1 h2 (Nat.zero_le _);have ak:l=0:=by omega
      have ba:r=0:=by omega
      subst ak;subst ba;refine⟨.slice ad 0 0,?_,.imm _ _ (.emp _)⟩;rw[UD (fun n e=>by simp) ht]
      simp only[Instr.slice,cqv,run_underlying ht,cqw,hb,Go.sizeOf,typeInfo,run_program,a4,Sem.run_pure,if_true,Nat.sub_self]
     ·cases h
   ·cases h
  ·rename_i id ver sz off len;obtain⟨a,cap,hv,ha,ay,au,a9⟩:=hx.bs_inv;subst hv;split at h
   ·rename_i r hr;split at h
    ·split at h
     ·rename_i hc;obtain⟨he,h1,h2⟩:=hc;obtain⟨e,ag,ht,a4,a5⟩:=Gi he;have a3:=a7 rfl;have bh:(vh=none∧vm=none∧r=len)∨∃k,vh=some (.int k r):=(Ge rh hr).imp (fun⟨_,b,c⟩=>⟨b,a3,c⟩) fun⟨k,hk,_⟩=>⟨k,hk⟩
      have hb:=Lh (P:=P) (w:=w) true (len:=len) (cap:=cap) bl bh (.inl ⟨a3,rfl⟩) h1 (Nat.le_trans h2 ay) (Nat.le_refl _);have aa:(Instr.sliceAt t (.slice (some a) len cap) vl vh vm).run P w= .ok (.slice (if cap=l then some a else some (a.add (l*sz))) (r - l) (cap - l)) w:=by
       rw[UD (fun n e=>by simp) ht]
       simp only[Instr.slice,cqv,run_underlying ht,cqw,hb,Go.sizeOf,typeInfo,run_program,a4,Sem.run_pure,a5,Option.map_some]
      refine⟨_,aa,?_⟩;split at h
      ·rename_i b3;subst b3;split at h
       ·rename_i ak;cases h;subst ak;have e1:(if cap=0 then some a else some (a.add (0*sz)))=some a:=by split<;>simp[Py]
        rw[e1];exact .bs id ver sz off 0 a cap ha (Nat.zero_le _) au a9
       ·cases h;rw[Nat.sub_self];exact .imm _ _ (.sl0 _ _ _ (by omega))
      ·rename_i b3;cases h;rw[if_neg (by omega)]
       refine .bs id ver sz _ _ _ _ ha (by omega) (by omega) fun l' ax=> ?_
       obtain⟨e1,e2⟩:=a9 l' ax;refine⟨by rw[e1,Xj,Nat.add_assoc],?_⟩
       rw[Nat.sub_mul];have:l*sz≤cap*sz:=cqp _ (by omega)
       omega
     ·cases h
    ·rename_i m;split at h
     ·rename_i m' hm;split at h
      ·rename_i hc;obtain⟨hs,he,bn,h1,h2⟩:=hc;obtain⟨e,ag,ht,a4,a5⟩:=Gi he;rcases rm with⟨e',_⟩ | ⟨y,u',e',rfl,hy⟩
       ·cases e'
       cases e';have bm:=Ge (d:=0) (H:=H) (E:=E) (o:=some m) (v:=some u') (.inr ⟨_,_,rfl,rfl,hy⟩) hm;rcases bm with⟨e',_⟩ | ⟨k,hk,_⟩
       ·cases e'
       rcases Ge rh hr with⟨e',_⟩ | ⟨k',aw,_⟩
       ·rw[e'] at hs;cases hs
       have hb:=Lh (P:=P) (w:=w) true (len:=len) (cap:=cap) (m:=m') (max:=some u') bl (.inr ⟨k',aw⟩) (.inr ⟨k,hk⟩) h1 h2 (by omega)
       have aa:(Instr.sliceAt t (.slice (some a) len cap) vl vh (some u')).run P w= .ok (.slice (if m'=l then some a else some (a.add (l*sz))) (r - l) (m' - l)) w:=by
        rw[UD (fun n e=>by simp) ht]
        simp only[Instr.slice,cqv,run_underlying ht,cqw,hb,Go.sizeOf,typeInfo,run_program,a4,Sem.run_pure,a5,Option.map_some]
       refine⟨_,aa,?_⟩;split at h
       ·rename_i az;cases h;rw[if_pos az];have e1:r - l=0:=by omega
        have e2:m' - l=0:=by omega
        rw[e1,e2];exact .imm _ _ (.emp _)
       ·rename_i az;cases h;rw[if_neg az];refine .bs id ver sz _ _ _ _ ha (by omega) (by omega) fun l' ax=> ?_
        obtain⟨e1,e2⟩:=a9 l' ax;refine⟨by rw[e1,Xj,Nat.add_assoc],?_⟩
        have:m'*sz≤cap*sz:=cqp _ (by omega)
        have:l*sz≤m'*sz:=cqp _ (by omega)
        rw[Nat.sub_mul];omega
      ·cases h
     ·cases h
   ·cases h
  ·rename_i id ver sz len;obtain⟨oa,cap,hv,ha,ay,au,b9,a9⟩:=hx.ow_inv;subst hv;split at h
   ·rename_i r hr;split at h
    ·split at h
     ·rename_i hc;cases h;obtain⟨he,ak,h2⟩:=hc;subst ak;obtain⟨e,ag,ht,a4,a5⟩:=Gi he;have a3:=a7 rfl;have bh:(vh=none∧vm=none∧r=len)∨∃k,vh=some (.int k r):=(Ge rh hr).imp (fun⟨_,b,c⟩=>⟨b,a3,c⟩) fun⟨k,hk,_⟩=>⟨k,hk⟩
      have hb:=Lh (P:=P) (w:=w) true (len:=len) (cap:=cap) bl bh (.inl ⟨a3,rfl⟩) (Nat.zero_le _) (Nat.le_trans h2 ay) (Nat.le_refl _);have aa:(Instr.sliceAt t (.slice oa len cap) vl vh vm).run P w= .ok (.slice (if cap=0 then oa else oa.map (·.add (0*sz))) (r - 0) (cap - 0)) w:=by
       rw[UD (fun n e=>by simp) ht]
       simp only[Instr.slice,cqv,run_underlying ht,cqw,hb,Go.sizeOf,typeInfo,run_program,a4,Sem.run_pure,a5]
      refine⟨_,aa,?_⟩;have e1:(if cap=0 then oa else oa.map (·.add (0*sz)))=oa:=by
       split;·rfl
       ·cases oa<;>simp[Py]
      rw[e1,Nat.sub_zero,Nat.sub_zero];exact .ow id ver sz r oa cap ha (by omega) au b9 a9
     ·cases h
    ·cases h
   ·cases h
  ·split at h
   ·rename_i r hr;split at h
    ·rename_i hc;cases h;obtain⟨he,rfl,rfl,hm⟩:=hc;obtain⟨z,he⟩:=Option.isSome_iff_exists.1 he;obtain⟨e,ag,ht,a4,a5⟩:=Gi he;have a3:=a7 (by simpa using hm)
     have bh:(vh=none∧vm=none∧0=0)∨∃k,vh=some (.int k (0:Nat)):=(Ge rh hr).imp (fun⟨_,b,c⟩=>⟨b,a3,rfl⟩) fun⟨k,hk,_⟩=>⟨k,hk⟩
     have hb:=Lh (P:=P) (w:=w) true (len:=0) (cap:=0) bl bh (.inl ⟨a3,rfl⟩) (Nat.le_refl _) (Nat.le_refl _) (Nat.le_refl _);rw[hx.nil_inv];refine⟨.slice none 0 0,?_,.imm _ _ .nil⟩;rw[UD (fun n e=>by simp) ht]
     simp[Instr.slice,cqv,run_underlying ht,cqw,hb,Go.sizeOf,typeInfo,run_program,a4,Sem.run_pure]
    ·cases h
   ·cases h
  ·split at h
   ·rename_i r hr;split at h
    ·rename_i hc;cases h;obtain⟨he,rfl,rfl,hm⟩:=hc;obtain⟨z,he⟩:=Option.isSome_iff_exists.1 he;obtain⟨e,ag,ht,a4,a5⟩:=Gi he;have a3:=a7 (by simpa using hm)
     have bh:(vh=none∧vm=none∧0=0)∨∃k,vh=some (.int k (0:Nat)):=(Ge rh hr).imp (fun⟨_,b,c⟩=>⟨b,a3,rfl⟩) fun⟨k,hk,_⟩=>⟨k,hk⟩
     have hb:=Lh (P:=P) (w:=w) true (len:=0) (cap:=0) bl bh (.inl ⟨a3,rfl⟩) (Nat.le_refl _) (Nat.le_refl _) (Nat.le_refl _);obtain⟨a,ha⟩:=hx.emp_inv;rw[ha];refine⟨.slice a 0 0,?_,.imm _ _ (.emp _)⟩;rw[UD (fun n e=>by simp) ht]
     simp[Instr.slice,cqv,run_underlying ht,cqw,hb,Go.sizeOf,typeInfo,run_program,a4,Sem.run_pure]
    ·cases h
   ·cases h
  ·cases h
 ·cases h
theorem Q1h(a3:Bool){k:IntKind}:∀(l:List AV) (us:List Value) (n:Int) (av:AV),(l.length=us.length∧∀(j:Nat) (c:AV) (v:Value),l[j]? =some c→us[j]? =some v→RV H E c v)→FD a3 k n l=some av→
  ∃m:Int,av= .int k m∧(us.foldlM (if a3 then Builtin.max2 else Builtin.min2) (.int k n)).run P w= .ok (.int k m) w
 | [],us,n,av,hr,h=>by
  have:us=[]:=cqn (by simp_all)
  simp_all [FD,cqf]
 |x::l,us,n,av,hr,h=>by
  cases us with
  |nil=>simp at hr
  |cons u us=>
   have hx:=hr.2 0 x u rfl rfl;unfold FD at h;split at h
   ·simp_all
   ·rename_i k' b r e;cases e;split at h
    ·rename_i ek;subst ek;rw[hx.int_inv];obtain⟨m,h1,h2⟩:=Q1h a3 l us _ av ⟨by simp_all,fun j c v hj hv=>hr.2 (j+1) c v (by simp_all) (by simp_all)⟩ h
     refine⟨m,h1,?_⟩;have:((if a3 then Builtin.max2 else Builtin.min2) (.int k n) (.int k b)).run P w= .ok (.int k (if a3 then max n b else min n b)) w:=by
      cases a3
      ·simp only[cqk,if_false,Builtin.min2,Sem.run_pure]
       grind
      ·simp only[if_true,Builtin.max2,Sem.run_pure]
       grind
     simp_all
    ·cases h
   ·cases h
theorem Q4l(a3:Bool){l:List AV}{us:List Value}{av:AV}(hr:l.length=us.length∧∀(j:Nat) (c:AV) (v:Value),l[j]? =some c→us[j]? =some v→RV H E c v)(h:xmax a3 l=some av)(ts:Array TypeId)(ty:TypeId):
  ∃v,(if a3 then Builtin.max_ ts ty us.toArray else Builtin.min_ ts ty us.toArray).run P w= .ok v w∧∀H,RelI H av v:=by
 unfold xmax at h;split at h
 ·rename_i k a r;cases us with
  |nil=>simp at hr
  |cons u us=>
   have hx:=hr.2 0 _ u rfl rfl;rw[hx.int_inv];obtain⟨m,rfl,h2⟩:=Q1h (P:=P) (w:=w) a3 r us a av ⟨by simp_all,fun j c v hj hv=>hr.2 (j+1) c v (by simp_all) (by simp_all)⟩ h
   refine⟨.int k m,?_,fun _=>.int _ _⟩
   cases a3;·simpa[Builtin.min_] using h2
   ·simpa[Builtin.max_] using h2
 ·cases h
theorem xlen_ok{t ty:TypeId}{x:AV}{u:Value}{av:AV}(hx:RV H E x u)(h:xlen P t x=some av):∃v,(Builtin.len_ #[t] ty #[u]).run P w= .ok v w∧∀H,RelI H av v:=by
 have sl:∀(a:Option Addr) (n cap:Nat),(elI P t).isSome=true→(Builtin.len_ #[t] ty #[.slice a n cap]).run P w= .ok (.int .i64 n) w:=fun a n cap he=>by
  obtain⟨z,he⟩:=Option.isSome_iff_exists.1 he;obtain⟨e,i,h1,h2,_⟩:=Gi he;simp[Builtin.len_,run_underlying h1,goInt]
 unfold xlen at h;split at h<;>first | cases h | skip
 ·rename_i s;split at h
  ·rename_i ht;cases h;rw[hx.str_inv];have a4:(ByteArray.mk s.toArray).size=s.length:=by simp[ByteArray.size]
   exact⟨_,by simp[Builtin.len_,run_underlying (Ju ht),goInt,a4],fun _=>.int _ _⟩
  ·cases h
 ·split at h
  ·rename_i he;cases h;obtain⟨ad,cap,hv,_⟩:=hx.sl_inv.len_inv;rw[hv];exact⟨_,sl _ _ _ he,fun _=>.int _ _⟩
  ·cases h
 ·split at h
  ·rename_i he;cases h;obtain⟨a,cap,rfl,_⟩:=hx.bs_inv;exact⟨_,sl _ _ _ he,fun _=>.int _ _⟩
  ·cases h
 ·split at h
  ·rename_i he;cases h;obtain⟨a,cap,rfl,_⟩:=hx.ow_inv;exact⟨_,sl _ _ _ he,fun _=>.int _ _⟩
  ·cases h
 ·split at h
  ·rename_i he;cases h;rw[hx.nil_inv];exact⟨_,sl _ _ _ he,fun _=>.int _ _⟩
  ·cases h
 ·split at h
  ·rename_i he;cases h;obtain⟨a,ha⟩:=hx.emp_inv;rw[ha];exact⟨_,sl _ _ _ he,fun _=>.int _ _⟩
  ·cases h
theorem BG(off:Nat):∀(l:List Value) (s:Nat) (a3:Array Value),off+s+l.length≤a3.size→
  ((l.zipIdx s).foldl (fun cs (x:Value×Nat)=>cs.setIfInBounds (off+x.2) x.1) a3).toList=a3.toList.take (off+s)++(l++a3.toList.drop (off+s+l.length))
 | [],s,a3,_=>by simp
 |v::l,s,a3,h=>by
  simp only[List.zipIdx_cons,List.foldl_cons];rw[BG off l (s+1) _ (by grind)]
  simp only[Array.toList_setIfInBounds,List.length_cons];have e:=list_seg_step a3.toList (off+s) v l (by omega)
  grind
theorem Q6n(off:Nat)(v a3:Array Value)(h:off+v.size≤a3.size):
  (v.zipIdx.foldl (fun cs (x:Value×Nat)=>cs.setIfInBounds (off+x.2) x.1) a3).toList=a3.toList.take off++(v.toList++a3.toList.drop (off+v.size)):=by
 rw[← Array.foldl_toList,Array.toList_zipIdx]
 simp_all [BG]
def Z9(R:AV→Value→Prop)(cs:List AV)(vs:List Value):Prop:=
 cs.length=vs.length∧∀(j:Nat) (c:AV),cs[j]? =some c→∃u,vs[j]? =some u∧u.oneCell'=true∧R c u
theorem Z9.put{R:AV→Value→Prop}{cs ds:List AV}{vs us:List Value}{o n:Nat}(h:Z9 R cs vs)(h':Z9 R ds us)(hn:ds.length=n)(ho:o+n≤cs.length):
  Z9 R (cs.take o++(ds++cs.drop (o+n))) (vs.take o++(us++vs.drop (o+n))):=by
 have e1:=h.1;have e2:=h'.1;refine⟨by simp;omega,fun j c hj=> ?_⟩
 simp only[List.getElem?_append,List.length_take,List.getElem?_take,List.getElem?_drop] at hj ⊢;have m1:min o cs.length=o:=by omega
 have m2:min o vs.length=o:=by omega
 rw[m1] at hj;rw[m2];by_cases c1:j<o
 ·rw[if_pos c1,if_pos c1] at hj;rw[if_pos c1,if_pos c1];exact h.2 j c hj
 ·rw[if_neg c1] at hj;rw[if_neg c1];by_cases c2:j - o<ds.length
  ·rw[if_pos c2] at hj;rw[if_pos (by omega)]
   exact h'.2 _ c hj
  ·rw[if_neg c2] at hj;rw[if_neg (by omega),← e2]
   exact h.2 _ c hj
theorem RV.cellsRel{av:AV}{v:Value}(h:RV H E av v)(h1:av.okc=true):Z9 (RV H E) av.cells v.cells.toList:=by
 obtain⟨a,b⟩:=h.cells h1;exact⟨by omega,fun j c hj=>by simp_all⟩
theorem Z9.agg{cs:List AV}{vs:Array Value}(h:Z9 (RV H E) cs vs.toList):RV H E (.agg cs) (.agg vs):=by
 refine .agg cs vs (by simpa using h.1) (fun u hu=> ?_) (fun j c u hj hu=> ?_)
 ·obtain⟨j,hj,rfl⟩:=Array.mem_iff_getElem.1 hu;have a3:j<cs.length:=by have:=h.1;simp_all
  obtain⟨u',h5,h6,_⟩:=h.2 j _ (cqc a3)
  simp_all
 ·obtain⟨u',h5,h6,h7⟩:=h.2 j c hj
  simp_all
theorem Eg(a3:Nat→Option (Nat×Nat)):∀(a4:List (Nat×AV)) (parts:List (Nat×Value)) (cs cs':List AV) (vs:Array Value),
  (a4.length=parts.length∧∀(k:Nat) (x:Nat×AV) (y:Nat×Value),a4[k]? =some x→parts[k]? =some y→x.1=y.1∧RV H E x.2 y.2)→Z9 (RV H E) cs vs.toList→NW a3 cs a4=some cs'→
  ∃a5,Instr.fill a3 vs parts=some a5∧Z9 (RV H E) cs' a5.toList
 | [],parts,cs,cs',vs,hp,hc,hf=>by
  have:parts=[]:=cqn (by simp_all)
  subst this;simp only[NW,cqf] at hf;subst hf;exact⟨vs,rfl,hc⟩
 | (i,x)::a4,parts,cs,cs',vs,hp,hc,hf=>by
  cases parts with
  |nil=>simp at hp
  |cons y parts=>
   obtain⟨k,v⟩:=y;obtain⟨h1,h2⟩:=hp.2 0 _ _ rfl rfl;simp only at h1 h2;subst h1;simp only[NW] at hf;split at hf
   ·rename_i o n ab;split at hf
    ·rename_i a6;obtain⟨aa,hn,a9⟩:=a6;have hv:=h2.cellsRel aa;have a8:=hc.1;simp only[Array.length_toList] at a8;have ad:v.cells.size=n:=by rw[← hn,hv.1];simp
     have a7:o+v.cells.size≤vs.size:=by omega
     obtain⟨a5,h3,h4⟩:=Eg a3 a4 parts _ cs' (v.cells.zipIdx.foldl (fun cs (x:Value×Nat)=>cs.setIfInBounds (o+x.2) x.1) vs)
      ⟨by grind,fun k x y hx hy=>hp.2 (k+1) x y hx hy⟩ (by
       rw[Q6n o v.cells vs a7,ad];exact hc.put hv hn a9) hf
     refine⟨a5,?_,h4⟩;simp only[Instr.fill,ab]
     simp_all
    ·cases hf
   ·cases hf
theorem Sp:∀(l:List Field),(∀f∈l,(tyI P f.type).isSome=true)→
  (l.mapM (fun f=>do pure (f.offset,← Go.sizeOf f.type):Field→Sem (Nat×Nat))).run P w= .ok (l.map fun f=>(f.offset,((tyI P f.type).map (·.1)).getD 0)) w
 | [],_=>by simp
 |f::l,h=>by
  obtain⟨x,hx⟩:=Option.isSome_iff_exists.1 (h f (by simp))
  have ih:=Sp l (fun g hg=>h g (by simp[hg]))
  simp only[List.mapM_cons,cqv,VF (show tyI P f.type=some (x.1,x.2) from hx),cqw,Sem.run_pure,ih,List.map_cons,hx,Option.map_some,Option.getD_some]
theorem Q7p{t:TypeId}{a3:List (Nat×AV)}{parts:Array (Nat×Value)}{av:AV}(hp:a3.length=parts.toList.length∧∀(k:Nat) (x:Nat×AV) (y:Nat×Value),a3[k]? =some x→parts.toList[k]? =some y→x.1=y.1∧RV H E x.2 y.2)
  (h:Q1c P t a3=some av):∃v,(Instr.build t parts).run P w= .ok v w∧RV H E av v:=by
 unfold Q1c at h;split at h
 ·rename_i zs hz;obtain⟨i,v,hi,hv,ah⟩:=T4 hz;have ag:RV H E (.agg zs) v:=by rw[ah];exact .imm _ _ (Nu H v)
  have a8:=ag.cellsRel rfl;split at h
  ·rename_i fs ht;split at h
   ·rename_i ak;have ab:∀f∈fs.toList,(tyI P f.type).isSome=true:=by grind [fldsOk,cqt]
    split at h
    ·rename_i cs hf;cases h;have ad:∀k,((fs.toList.map fun f=>(f.offset,((tyI P f.type).map (·.1)).getD 0)).toArray[k]?)=(fldI P t k).map fun x=>(x.1,x.2.1):=fun k=>by
      grind [fldI,Option.isSome_iff_exists,Array.mem_of_getElem?]
     have a7:(fun k=>(fs.toList.map fun f=>(f.offset,((tyI P f.type).map (·.1)).getD 0)).toArray[k]?)=fun k=>(fldI P t k).map fun x=>(x.1,x.2.1):=funext ad
     obtain⟨a4,h3,h4⟩:=Eg (fun i=>(fldI P t i).map fun x=>(x.1,x.2.1)) a3 parts.toList zs cs v.cells hp a8 hf
     have hm:=Sp (P:=P) (w:=w) fs.toList (fun f hf=>ab f hf)
     refine⟨.agg a4,?_,h4.agg⟩;simp only[Instr.build,cqv,zeroValue,typeInfo,run_program,cqw,hi,Sem.run_pure,hv,run_underlying ht];rw[← Array.toArray_toList (xs:=fs)];simp only[List.mapM_toArray,Sem.run_map,hm,cqw];rw[a7,h3];rfl
    ·cases h
   ·cases h
  ·rename_i n e ht;split at h
   ·rename_i z g af;split at h
    ·rename_i cs hf;cases h;obtain⟨a4,h3,h4⟩:=Eg (fun i=>some (i*z,z)) a3 parts.toList zs cs v.cells hp a8 hf
     refine⟨.agg a4,?_,h4.agg⟩;simp only[Instr.build,cqv,zeroValue,typeInfo,run_program,cqw,hi,Sem.run_pure,hv,run_underlying ht,VF af,h3]
    ·cases h
   ·cases h
  ·cases h
 ·cases h
end
def elG(P:Program)(t:TypeId):Option (Nat×Nat×List AV):=
 match P.underlying t with
 |some (.slice e)=>match P.info? e with
  |some i=>match i.zero with
   |some z=>if z.cells.size=i.size∧0<i.size∧(ofV z).okc=true then some (i.size,i.bytes,(ofV z).cells) else none
   |none=>none
  |none=>none
 |_=>none
theorem Dh{P:Program}{t:TypeId}{n a3:Nat}{zs:List AV}(h:elG P t=some (n,a3,zs)):
  ∃e i z,P.underlying t=some (.slice e)∧P.info? e=some i∧i.zero=some z∧z.cells.size=n∧0<n∧i.size=n∧i.bytes=a3∧(ofV z).okc=true∧zs=(ofV z).cells:=by
 unfold elG at h
 grind
abbrev Hp:=Nat→Option Box
def xnew(bid:Nat)(cs:List AV):AV×Option (Nat×Box):=(.ptr bid 0 0,some (bid,.cells 0 cs))
def xnewT(ver bid:Nat)(cs:List AV):AV×Option (Nat×Box):=(.ptr bid ver 0,some (bid,.cells ver cs))
def isBld(P:Program)(t:TypeId):Bool:=match P.underlying t with
 |some (.struct fs)=>match fs.toList with
  | [f,g]=>match P.underlying f.type,P.underlying g.type with
   |some (.pointer u),some (.slice _)=>Nat.beq u t
   |_,_=>false
  |_=>false
 |_=>false
def tagT(P:Program)(t:TypeId):Nat:=bif isBld P t&&Nat.blt t 4000 then t+1 else 0
def isU8(P:Program)(e:TypeId):Bool:=match P.underlying e with
 |some (.int .u8)=>true
 |_=>false
def tagE(P:Program)(e:TypeId):Nat:=bif isU8 P e&&Nat.blt e 4000 then e+1 else 0
def DF(e off ver:Nat):Nat:=bif Nat.beq (ver%4096) (e+1)&&Nat.beq off 0 then ver+4096 else(ver/4096+1)*4096
theorem Q01(e off ver:Nat):ver<DF e off ver:=by
 unfold DF
 grind
theorem Q02{w:World}{l:Lc}{e off ver:Nat}(h:off=0→ver%4096=e+1→l.base=0∧∃C fr,w.heap[l.g]? =some (.cells C e fr)):TyOk w l (DF e off ver):=by
 unfold DF;cases hc:(Nat.beq (ver%4096) (e+1)&&Nat.beq off 0);·simp only[cond_false];left;omega
 ·simp only[cond_true];rw[cqb] at hc;have h1:=cqa hc.1;have h2:=cqa hc.2;have:(ver+4096)%4096 - 1=e:=by omega
  right;simp_all
theorem tag_ty{w:World}{l:Lc}{e tg:Nat}(h:tg=0∨(tg=e+1∧e<4000))(h1:l.base=0∧∃C fr,w.heap[l.g]? =some (.cells C e fr)):TyOk w l tg:=by
 rcases h with rfl | ⟨rfl,h2⟩
 ·exact .inl rfl
 ·have:(e+1)%4096 - 1=e:=by omega
  right;simp_all
theorem Q7k(P:Program)(t:TypeId):tagT P t=0∨(tagT P t=t+1∧t<4000):=by
 unfold tagT;cases hc:(isBld P t&&Nat.blt t 4000) with
 |false=>simp_all
 |true=>simp_all
theorem PZ(P:Program)(e:TypeId):tagE P e=0∨(tagE P e=e+1∧e<4000):=by
 unfold tagE;cases hc:(isU8 P e&&Nat.blt e 4000) with
 |false=>simp_all
 |true=>simp_all
def elT(P:Program)(t:TypeId):Nat:=match P.underlying t with
 |some (.slice e)=>e
 |_=>0
def CL(P:Program)(t:TypeId)(x:AV)(hp:Hp):Option AV:=
 match tyI P t with
 |some (n,g)=>match x with
  | .ip sz xs i off=>if Nat.ble (off+wd g n) sz then some (CA g n off ((xs[i]?).getD .undef).cells) else none
  | .ptr id ver off=>match hp id with
   |some (.cells v cs)=>if Nat.beq v ver&&Nat.ble (off+wd g n) cs.length then some (CA g n off cs) else none
   |_=>none
  | .oe id ver sz i off=>match hp id with
   |some (.own v z xs)=>if Nat.beq v ver&& (Nat.beq z sz&& (Nat.blt i xs.length&&Nat.ble (off+wd g n) sz)) then some (CA g n off ((xs[i]?).getD .undef).cells) else none
   |some (.hol v z _ j c r)=>if Nat.beq v ver&& (Nat.beq z sz&& (Nat.beq i j&& (Nat.beq off c&&Nat.beq (wd g n) 1))) then some (CA g n 0 [r]) else none
   |_=>none
  |_=>none
 |none=>none
def aggE(cs:List AV):AV:=match cs with
 | [c]=>match c with
  | .agg d=>.agg [.agg d]
  |c=>c
 |cs=>.agg cs
theorem E8(cs:List AV):(aggE cs).cells=cs:=by
 match cs with
 | []=>rfl
 | [c]=>cases c<;>rfl
 |_::_::_=>rfl
def putE(off n z:Nat)(x y:AV):AV:=match Nat.beq off 0&&Nat.beq n z with
 |true=>aggE y.cells
 |false=>.agg (x.cells.take off++(y.cells++x.cells.drop (off+n)))
theorem F3{off n z:Nat}{x y:AV}(hx:x.cells.length=z):(putE off n z x y).cells=x.cells.take off++(y.cells++x.cells.drop (off+n)):=by
 unfold putE;split
 ·rename_i h;rw[cqb] at h;obtain rfl:=cqa h.1;obtain rfl:=cqa h.2
  simp_all [E8,Nat.zero_add,List.drop_length]
 ·rfl
def Dc(P:Program)(t:TypeId)(x y:AV)(hp:Hp):Option (AV×Option (Nat×Box)):=
 match tyI P t with
 |some (n,_)=>match x with
  | .ptr id ver off=>match hp id with
   |some (.cells v cs)=>if Nat.beq v ver&& (Nat.ble (off+n) cs.length&& (y.okc&&Nat.beq y.cells.length n)) then some (.undef,some (id,.cells v (cs.take off++(y.cells++cs.drop (off+n))))) else none
   |_=>none
  | .oe id ver sz i off=>match hp id with
   |some (.own v z xs)=>if Nat.beq v ver&& (Nat.beq z sz&& (Nat.blt i xs.length&& (Nat.ble (off+n) sz&& (y.okc&& (Nat.beq y.cells.length n&&y.cells.all immA))))) then some (.undef,some (id,.own v z (xs.set i (putE off n z ((xs[i]?).getD .undef) y))))
    else if Nat.beq v ver&& (Nat.beq z sz&& (Nat.blt i xs.length&& (Nat.ble (off+n) sz&& (y.okc&& (Nat.beq y.cells.length n&&Nat.beq n 1))))) then some (.undef,some (id,.hol v z xs i off ((y.cells[0]?).getD .undef))) else none
   |_=>none
  |_=>none
 |none=>none
def Me(sz n:Nat)(zs:List AV):List AV:=(List.range (n*sz)).map fun i=>(zs[i%sz]?).getD .undef
def WK(P:Program)(bid:Nat)(t:TypeId)(len:Nat)(parts:List (Nat×AV)):Option (AV×Option (Nat×Box)):=
 match elG P t with
 |some (sz,_,zs)=>if Nat.ble (len*sz) 16777216 then(match NW (fun i=>some (i*sz,sz)) (Me sz len zs) parts with
   |some cs=>some (.bs bid 0 sz 0 len,some (bid,.cells 0 cs))
   |none=>none) else none
 |none=>none
def xsrc(sz:Nat)(x:AV)(hp:Hp):Option (Nat×List AV):=
 match x with
 | .sl z ys=>if z=sz then some (ys.length,ys.flatMap AV.cells) else none
 | .bs id ver z off len=>match hp id with
  |some (.cells v cs)=>if z=sz∧v=ver∧off+len*sz≤cs.length then some (len,(cs.drop off).take (len*sz)) else none
  |_=>none
 | .nil=>some (0,[])
 | .emp=>some (0,[])
 |_=>none
def AQ:AV→Bool
 | .sl .. | .bs .. | .nil | .emp=>true
 |_=>false
def UF(bid e tg sz a3 n:Nat)(ds:List AV)(s:AV)(hp:Hp):Option (AV×Option (Nat×Box)):=
 match s with
 | .nil=>if n*a3≤140737488355328∧n≤9223372036854775807 then some (.bs bid tg sz 0 n,some (bid,.cells tg ds)) else none
 | .emp=>if n*a3≤140737488355328∧n≤9223372036854775807 then some (.bs bid tg sz 0 n,some (bid,.cells tg ds)) else none
 | .bs id ver z off len=>match hp id with
  |some (.cells v cs)=>if z=sz∧v=ver∧off+len*sz≤cs.length∧(len+n)*a3≤140737488355328∧len+n≤9223372036854775807 then some (.bs id (DF e off ver) sz 0 (len+n),some (id,.cells (DF e off ver) ((cs.drop off).take (len*sz)++ds))) else none
  |_=>none
 |_=>none
def JB(P:Program)(bid:Nat)(t t':TypeId)(s x:AV)(hp:Hp):Option (AV×Option (Nat×Box)):=
 match elG P t with
 |some (sz,by_,_)=>if t'=t then(match xsrc sz x hp with
  |some (n,ds)=>if n=0 then(if AQ s then some (s,none) else none) else UF bid (elT P t) (tagE P (elT P t)) sz by_ n ds s hp
  |none=>none) else none
 |none=>none
section
variable {P : Program} {m : Nat → Lc} {H : HV} {B : Nat → Prop} {H0 : HV} {gl : Nat → AV} {rest : List (AV × Value)} {st : St} {a : Act} {w : World} {dst : Option Nat}
theorem Xn(w:World)(o:Obj):(w.alloc o).heap[w.heap.size]? =some o:=by show(w.heap.push o)[w.heap.size]? =some o;simp
theorem Jz(w:World)(o:Obj)(k:Nat)(h:k<w.heap.size):(w.alloc o).heap[k]? =w.heap[k]? :=Below.heap_alloc w _ k h
theorem IK(w:World)(o:Obj):(w.alloc o).heap.size=w.heap.size+1:=by simp
theorem XP(w:World)(g o:Nat)(C:Array Value)(e:TypeId)(fr:Nat×Nat)(h:w.heap[g]? =some (.cells C e fr)):w.cell? ⟨g,o,none⟩=C[o]? :=by
 simp[World.cell?,h]
theorem RelS.newRow(h:RelS m H B H0 gl rest st a.tmps w){ver bid:Nat}(hb:lkb st.hp bid=none)(hn:bid<st.nx)(C:Array Value)(e:TypeId)(cs:List AV)(hC:Z9 (RV H (st.env m)) cs C.toList)(hv:ver=0∨(ver=e+1∧e<4000)):
  RelH (updF m bid ⟨w.heap.size,0,C.size⟩) H B H0 gl (updF (lkb st.hp) bid (some (.cells ver cs))) st.nx (w.alloc (.cells C e))∧Env.le (st.env m) (Q6 (updF (lkb st.hp) bid (some (.cells ver cs))) (updF m bid ⟨w.heap.size,0,C.size⟩)):=by
 have hE:=Mu (m:=m) (hp:=lkb st.hp) (b:=.cells ver cs) (l:=⟨w.heap.size,0,C.size⟩) hb;have a3:∀o,H w.heap.size o=none:=fun o=>by
  cases hh:H w.heap.size o with
  |none=>rfl
  |some v=>have:=Jh h.heap.sat hh;omega
 refine⟨h.heap.one (l:=⟨w.heap.size,0,C.size⟩) (fun k hk _=>Jz w _ k hk) (by simp_all) hE ⟨h.heap.notB,by simp_all,a3⟩ (fun a6 b' _ a5 hr=>by
  have:=(h.heap.sepR a6 b' a5 hr).2.1;grind) hn (Nat.le_refl _) ?_ (fun v cs e=>by cases e;exact tag_ty hv ⟨rfl,C,(0,0),Xn w _⟩),hE⟩
 refine⟨C,e,Xn w _,rfl,by have:=hC.1;simp_all,fun j c hj=> ?_⟩
 obtain⟨u,h1,h2,h3⟩:=hC.2 j c hj;exact⟨u,by simp_all,h2,h3.mono (.refl _) hE⟩
theorem Wx(h:RelS m H B H0 gl rest st a.tmps w)(o:Obj):Qa B w (w.alloc o):=(Qa.refl _ _).alloc h.heap.low _
theorem HG(hp:Hp)(m:Nat→Lc)(id:Nat)(l:Lc)(v:Nat)(cs:List AV):(Q6 (updF hp id (some (.cells v cs))) (updF m id l)).loc id v=some l:=by
 simp[Q6,Qn,Box.ver?]
theorem Rq(hp:Hp)(m:Nat→Lc)(id:Nat)(v:Nat)(cs:List AV):(Q6 (updF hp id (some (.cells v cs))) m).al id v:=⟨_,Qn _ _ _,fun v2 h=>by cases h;omega⟩
theorem Q3l(h:RelS m H B H0 gl rest st a.tmps w)(hd:Z2 dst st.n=true){ver bid:Nat}(hb:lkb st.hp bid=none)(hn:bid<st.nx){t:TypeId}{x:AV}{v:Value}(hx:RV H (st.env m) x v)(h1:x.okc=true)(hv:ver=0∨(ver=t+1∧t<4000)){s:Sem Next}(hs:s.run P w= .ok (.value (.pointer (some ⟨w.heap.size,0,none⟩))) (w.alloc (.cells v.cells t))):
  OpOk P B H0 gl rest a w dst (st.eff dst (xnewT ver bid x.cells)) s:=by
 obtain⟨hh,hE⟩:=h.newRow hb hn v.cells t x.cells (hx.cellsRel h1) hv;refine OpOk.heap h hd hs (.inl rfl) (Wx h _) hh hE (.ptr bid ver 0 _ (Rq _ _ _ _ _) fun l hl=> ?_)
 grind [HG]
theorem new_ok(h:RelS m H B H0 gl rest st a.tmps w)(hd:Z2 dst st.n=true){bid:Nat}(hb:lkb st.hp bid=none)(hn:bid<st.nx){t:TypeId}{x:AV}{v:Value}(hx:RV H (st.env m) x v)(h1:x.okc=true){s:Sem Next}(hs:s.run P w= .ok (.value (.pointer (some ⟨w.heap.size,0,none⟩))) (w.alloc (.cells v.cells t))):
  OpOk P B H0 gl rest a w dst (st.eff dst (xnew bid x.cells)) s:=Q3l (ver:=0) h hd hb hn hx h1 (.inl rfl) hs
theorem load_ip{t:TypeId}{n:Nat}{g:Bool}{E:Env}(h:tyI P t=some (n,g))(hs:HV.sat H w){sz:Nat}{xs:List AV}{i off:Nat}{v:Value}(hv:RelI H (.ip sz xs i off) v)
  (hl:off+wd g n≤sz):∃u,(Instr.loadAt t v).run P w= .ok u w∧RV H E (CA g n off ((xs[i]?).getD .undef).cells) u:=by
 cases hv with
 |ip _ _ b o _ _ val h0 h1 h2 h3 h4=>
  have hx:xs[i]? =some xs[i]:=cqc h1;have a7:=h2 i _ hx;have a6:(if g then n else 1)=wd g n:=by cases g<;>rfl
  have:=MQ (w:=w) h b (o+i*sz+off) (fun j=>val i (off+j)) (fun j hj=>by
   rw[a6] at hj;have a5:off+j< (xs[i]).cells.length:=by omega
   have:=h3 i _ (off+j) _ hx (cqc a5);rw[show o+i*sz+off+j=o+i*sz+(off+j) by omega]
   exact hs _ _ _ this.1)
  refine⟨_,this,?_⟩;simp only[hx,Option.getD_some];exact Ld (val:=val i) (by omega) (fun j c hc=>.imm _ _ (h4 i _ j c hx hc)) fun j c hc=>(h3 i _ j c hx hc).2
theorem Q9q{H:HV}{c:AV}{v:Value}(h:RV H ⟨fun _ _=>False,fun _ _=>none,fun _=>none⟩ c v):RelI H c v:=by
 induction h with
 |imm _ _ h=>exact h
 |ptr _ _ _ _ h=>cases h
 |bs _ _ _ _ _ _ _ h=>cases h
 |ow _ _ _ _ _ _ h=>cases h
 |oe _ _ _ _ _ _ h=>cases h
 |yld _ _ h=>cases h
 |mp _ _ h=>cases h
 |fn f cs vs hl _ ih=>exact .fn f cs vs hl ih
 |agg cs vs hl h1 _ ih=>exact .agg cs vs hl h1 ih
 |tup cs vs hl _ ih=>exact .tup cs vs hl ih
theorem Cc{hp:Hp}{m:Nat→Lc}{id v sz:Nat}{xs:List AV}(h:hp id=some (.own v sz xs)):(Q6 hp m).loc id v=some (m id):=by simp[Q6,h,Box.ver?]
theorem Kc{sz:Nat}:∀ {xs:List AV},(∀x∈xs,x.cells.length=sz)→(xs.flatMap AV.cells).length=xs.length*sz
 | [],_=>by simp
 |x::xs,h=>by
  rw[List.flatMap_cons,List.length_append,Kc (xs:=xs) fun y hy=>h y (by simp[hy]),h x (by simp),List.length_cons,Nat.add_mul];omega
theorem Nc{sz:Nat}:∀ {xs:List AV},(∀x∈xs,x.cells.length=sz)→∀(i:Nat) (x:AV) (j:Nat) (c:AV),xs[i]? =some x→x.cells[j]? =some c→(xs.flatMap AV.cells)[i*sz+j]? =some c
 | [],_,i,x,j,c,hx,_=>by simp at hx
 |y::ys,hs,i,x,j,c,hx,hj=>by
  have hy:=hs y List.mem_cons_self;rw[List.flatMap_cons];cases i with
  |zero=>
   grind
  |succ i=>
   simp only[List.getElem?_cons_succ] at hx;have e:(i+1)*sz+j=y.cells.length+(i*sz+j):=by grind
   rw[e,cqq (by omega),Nat.add_sub_cancel_left]
   exact Nc (fun z hz=>hs z (List.mem_cons_of_mem _ hz)) i x j c hx hj
theorem L8{sz:Nat}:∀ {xs:List AV} (n:Nat),(∀x∈xs,x.cells.length=sz)→(xs.take n).flatMap AV.cells=(xs.flatMap AV.cells).take (n*sz)
 | [],n,_=>by simp
 |x::xs,0,_=>by simp
 |x::xs,n+1,h=>by
  have hx:=h x (by simp)
  rw[List.take_succ_cons,List.flatMap_cons,List.flatMap_cons,L8 n fun y hy=>h y (by simp[hy]),Nat.add_mul,Nat.one_mul,List.take_append]
  grind
theorem ST{sz:Nat}:∀ {xs:List AV} (i:Nat) (x y:AV),(∀x∈xs,x.cells.length=sz)→xs[i]? =some x→y.cells.length=sz→((xs.set i y).flatMap AV.cells)=(xs.flatMap AV.cells).take (i*sz)++(y.cells++(xs.flatMap AV.cells).drop (i*sz+sz))
 | [],i,x,y,_,hx,_=>by simp at hx
 |z::xs,0,x,y,h,hx,hy=>by
  simp_all
 |z::xs,i+1,x,y,h,hx,hy=>by
  have hz:=h z (by simp)
  simp only[List.set_cons_succ,List.flatMap_cons];rw[ST i x y (fun w hw=>h w (by simp[hw])) (by simp_all) hy,Nat.add_mul,Nat.one_mul]
  simp_all [List.take_append,List.take_of_length_le,Nat.add_sub_cancel_left,List.append_assoc,List.drop_append,List.drop_of_length_le,List.nil_append]
theorem YN{hp:Hp}{m:Nat→Lc}{id v:Nat}{cs:List AV}(h:hp id=some (.cells v cs)):(Q6 hp m).loc id v=some (m id):=by simp[Q6,h,Box.ver?]
theorem envAllB{hp:Hp}{m:Nat→Lc}{id ver:Nat}{b:Box}(h:hp id=some b)(hv:b.ver? =some ver):(Q6 hp m).loc id ver=some (m id):=by grind [Q6]
theorem Q1f(h:RelH m H B H0 gl (lkb st.hp) st.nx w){t:TypeId}{x:AV}{u:Value}{av:AV}(hx:RV H (st.env m) x u)(hk:CL P t x (lkb st.hp)=some av):∃v,(Instr.loadAt t u).run P w= .ok v w∧RV H (st.env m) av v:=by
 unfold CL at hk;split at hk
 ·rename_i n g ht;split at hk
  ·rename_i sz xs i off;split at hk
   ·rename_i hl;cases hk;exact load_ip ht h.sat hx.ip_inv (cqe hl)
   ·cases hk
  ·rename_i id ver off;split at hk
   ·rename_i v cs a4;split at hk
    ·rename_i hc;cases hk;simp only[cqb] at hc;obtain⟨hv,hl⟩:=hc;have hv:=cqa hv;have hl:=cqe hl;subst hv;obtain⟨ad,rfl,_,a5⟩:=hx.ptr_inv;have:=a5 _ (YN a4);subst this;obtain⟨C,e,hC,hs,aj,ah⟩:=h.box id _ a4;have af:(if g then n else 1)=wd g n:=by cases g<;>rfl
     have ai:∀j,j<cs.length→∃v,C[(m id).base+j]? =some v∧v.oneCell'=true∧RV H (st.env m) (cs[j]?.getD .undef) v:=fun j hj=>by
      simp_all
     let val:Nat→Value:=fun j=>(C[(m id).base+j]?).getD Go.undef
     have am:∀j,j<cs.length→C[(m id).base+j]? =some (val j):=fun j hj=>by
      grind
     refine⟨_,MQ ht (m id).g ((m id).base+off) (fun j=>val (off+j)) (fun j hj=> ?_),?_⟩
     ·grind [XP,Nat.add_assoc]
     simp_all [Ld,cqd]
    ·cases hk
   ·cases hk
  ·rename_i id ver sz i off;split at hk
   ·rename_i v z xs a4;split at hk
    ·rename_i hc;cases hk;simp only[cqb] at hc;obtain⟨hv,hz,hi,hl⟩:=hc;have hv:=cqa hv;have hz:=cqa hz;have hi:i<xs.length:=cqe hi;have hl:=cqe hl;subst hv;subst hz;obtain⟨ad,rfl,_,a5⟩:=hx.oe_inv;obtain⟨au,aa⟩:=a5 _ (Cc a4);subst aa;obtain⟨ak,ab,hb⟩:=h.box id _ a4;obtain⟨_,C,e,hC,hs,aj,ah⟩:0< (m id).size∧DP H (xs.flatMap AV.cells) (m id) w:=by
      grind
     have af:(if g then n else 1)=wd g n:=by cases g<;>rfl
     have an:xs[i]? =some xs[i]:=cqc hi;have b0:(xs[i]).cells.length=z:=ab _ (List.getElem_mem hi);rw[an,Option.getD_some];have ai:∀j c,(xs[i]).cells[j]? =some c→∃v,C[(m id).base+i*z+j]? =some v∧v.oneCell'=true∧RV H (st.env m) c v:=fun j c hj=>by
      obtain⟨v,a1,a2,a3⟩:=ah _ c (Nc ab i _ j c an hj);exact⟨v,by grind,a2,.imm _ _ a3⟩
     let val:Nat→Value:=fun j=>(C[(m id).base+i*z+j]?).getD Go.undef
     have am:∀j c,(xs[i]).cells[j]? =some c→C[(m id).base+i*z+j]? =some (val j):=fun j c hj=>by
      grind
     refine⟨_,MQ ht (m id).g ((m id).base+i*z+off) (fun j=>val (off+j)) (fun j hj=> ?_),?_⟩
     ·grind [XP,Nat.add_assoc,id,cqc]
     simp_all [Ld]
    ·cases hk
   ·rename_i v z xs i' c r a4;split at hk
    ·rename_i hc;cases hk;simp only[cqb] at hc;obtain⟨hv,hz,hi,hl,ae⟩:=hc;obtain rfl:=cqa hv;obtain rfl:=cqa hz;obtain rfl:=cqa hi;obtain rfl:=cqa hl;have ae:=cqa ae;obtain⟨ad,rfl,_,a5⟩:=hx.oe_inv;obtain⟨au,aa⟩:=a5 _ (envAllB a4 rfl);subst aa;obtain⟨ak,ab,az,ay,_,C,e,hC,hs,aj,_,u,a1,a2,a3⟩:=h.box id _ a4;have af:(if g then n else 1)=wd g n:=by cases g<;>rfl
     refine⟨_,MQ ht (m id).g ((m id).base+i*z+off) (fun _=>u) (fun j hj=> ?_),?_⟩
     ·rw[af,ae] at hj;obtain rfl:j=0:=by omega
      rw[XP _ _ _ _ _ _ hC,Nat.add_zero,Nat.add_assoc,a1]
     ·refine Ld (val:=fun _=>u) (off:=0) (by simp_all) (fun j c hj=> ?_) (fun j c hj=>a2)
      grind
    ·cases hk
   ·cases hk
  ·cases hk
 ·cases hk
theorem Ip{t:TypeId}{n:Nat}{g:Bool}(ht:tyI P t=some (n,g))(gb o:Nat)(v:Value)(hn:v.cells.size=n)(C:Array Value)(e:TypeId)(hC:w.heap[gb]? =some (.cells C e (0,0)))
  (a5:o+v.cells.size≤C.size) (h1:∀u∈v.cells,u.oneCell'=true):
  (Instr.storeAt t (.pointer (some ⟨gb,o,none⟩)) v).run P w= .ok () (w.setRow gb (C.toList.take o++v.cells.toList++C.toList.drop (o+v.cells.toList.length)).toArray):=by
 have a4:=run_storeCells_at P gb o e v.cells.toList 0 C w hC (by omega) (fun u hu=>h1 u (Array.mem_toList_iff.1 hu))
 simp only[Nat.add_zero] at a4;simp only[Instr.storeAt,Instr.sureAddr,storeVar,cqv,Sem.run_pure,cqw,VF ht]
 simp_all
theorem Pl{E:Env}{cs ds:List AV}{C:Array Value}{vs:List Value}{base off:Nat}(a7:base+cs.length≤C.size)(a6:∀j c,cs[j]? =some c→∃v,C[base+j]? =some v∧v.oneCell'=true∧RV H E c v)(hd:Z9 (RV H E) ds vs)(a5:off≤cs.length)(a4:base+off+ds.length≤C.size):
  ∀j c,(cs.take off++(ds++cs.drop (off+ds.length)))[j]? =some c→∃v,((C.toList.take (base+off)++vs++C.toList.drop (base+off+vs.length)).toArray)[base+j]? =some v∧v.oneCell'=true∧RV H E c v:=by
 intro j c hj;have e2:=hd.1;simp only[List.getElem?_append,List.length_take,List.getElem?_take,List.getElem?_drop] at hj;simp only[cqi,List.append_assoc,List.getElem?_append,List.length_take,List.getElem?_take,List.getElem?_drop,Array.length_toList,Array.getElem?_toList];have m1:min off cs.length=off:=by omega
 have m2:min (base+off) C.size=base+off:=by omega
 rw[m1] at hj;rw[m2];by_cases c1:j<off
 ·simp_all
 ·rw[if_neg c1] at hj;rw[if_neg (by omega)]
  by_cases c2:j - off<ds.length
  ·rw[if_pos c2] at hj;rw[if_pos (by omega),show base+j - (base+off)=j - off by omega]
   exact hd.2 _ c hj
  grind
theorem C9(h:RelH m H B H0 gl (lkb st.hp) st.nx w){id:Nat}{b:Box}(a3:lkb st.hp id=some b)(cs:Array Value)(a4:∀C e fr,w.heap[(m id).g]? =some (.cells C e fr)→cs.size=C.size)(hr:Real b (m id):=by trivial):Qa B w (w.setRow (m id).g cs):=by
 have:=(h.sepR id b a3 hr).1;exact⟨rfl,rfl,rfl,by simp_all,fun k hk=>setRow_other w _ k _ (fun e=>by simp_all),fun k C e fr hk=>by
  by_cases hkg:k=(m id).g
  ·subst hkg;exact⟨cs,fr,setRow_heap w _ C cs e fr hk,a4 C e fr hk⟩
  ·exact⟨C,fr,by rw[setRow_other w _ k _ hkg];exact hk,rfl⟩⟩
theorem Q84(h:RelS m H B H0 gl rest st a.tmps w)(hd:dst=none){t:TypeId}{x y:AV}{u v:Value}{r:AV×Option (Nat×Box)}(hx:RV H (st.env m) x u)(hy:RV H (st.env m) y v)(hk:Dc P t x y (lkb st.hp)=some r):
  OpOk P B H0 gl rest a w dst (st.eff dst r) (do Instr.storeAt t u v;pure .skip):=by
 subst hd;unfold Dc at hk;split at hk
 ·rename_i n g ht;split at hk
  ·rename_i id ver off;split at hk
   ·rename_i v' cs a4;split at hk
    ·rename_i hc;cases hk;simp only[cqb] at hc;obtain⟨hv,hl,ap,hn⟩:=hc;have hv:=cqa hv;have hl:=cqe hl;have hn:=cqa hn;subst hv;obtain⟨ad,rfl,_,aa⟩:=hx.ptr_inv;have:=aa _ (YN a4);subst this;obtain⟨C,e,hC,hs,an,ak⟩:=h.heap.box id _ a4;have a6:=hy.cellsRel ap;have ah:v.cells.size=n:=by rw[← hn,a6.1];simp
     have b8:v.cells.toList.length=y.cells.length:=by rw[a6.1]
     have hE:=SS (m:=m) (hp:=lkb st.hp) (cs':=cs.take off++(y.cells++cs.drop (off+n))) (l:=m id) a4 rfl;have a5:=h.heap.sep id _ a4;have ar:=Pl (base:=(m id).base) (off:=off) an ak a6 (by omega) (by omega)
     have hh:=h.heap.one (id:=id) (b:=.cells v' (cs.take off++(y.cells++cs.drop (off+n)))) (l:=m id) (w':=w.setRow (m id).g (C.toList.take ((m id).base+off)++v.cells.toList++C.toList.drop ((m id).base+off+v.cells.toList.length)).toArray)
      (fun k _ hk=>setRow_other w _ k _ hk) (by simp[World.setRow]) hE ⟨a5.1,by simp[World.setRow];exact a5.2.1,a5.2.2⟩ (fun aw b' ab aj hr e=>ab (h.heap.injR aw id b' _ aj a4 hr trivial e)) (by
       rcases Nat.lt_or_ge id st.nx with ao | am
       ·exact ao
       ·have:=h.heap.fresh id am;rw[this] at a4;cases a4) (Nat.le_refl _) (by
       refine⟨_,e,setRow_heap w _ C _ e _ hC,?_,?_,fun j c hj=> ?_⟩
       ·simp;omega
       ·simp;omega
       ·rw[← hn] at hj;obtain⟨v2,a1,a2,a3⟩:=ar j c hj;exact⟨v2,a1,a2,a3.mono (.refl _) hE⟩) (fun ver bf e2=>by
       cases e2;rcases h.heap.ty id _ _ a4 with h0 | ⟨h1,C2,fr,h2⟩
       ·exact .inl h0
       ·rw[hC] at h2;cases h2;exact .inr ⟨h1,_,_,setRow_heap w _ C _ _ _ hC⟩)
     have hm:updF m id (m id)=m:=by funext k;simp only[updF];split<;>simp[*]
     refine OpOk.heap (v:=Go.undef) h rfl ?_ (.inr ⟨rfl,rfl⟩) (C9 h.heap a4 _ (fun C0 e0 bg h0=>by rw[hC] at h0;cases h0;simp;omega)) hh hE (.imm _ _ (.undef _))
     rw[cqv,Ip ht (m id).g ((m id).base+off) v ah C e hC (by omega) (fun u hu=>by
      obtain⟨j,hj,rfl⟩:=Array.mem_iff_getElem.1 hu;obtain⟨u2,h3,h4,_⟩:=a6.2 j _ (cqc (by rw[a6.1];simpa using hj))
      rw[Array.getElem?_toList,cqh hj] at h3;cases h3;exact h4)]
     rfl
    ·cases hk
   ·cases hk
  ·rename_i id ver sz i off;split at hk
   ·rename_i v' z xs a4;split at hk
    ·rename_i hc;cases hk;simp only[cqb] at hc;obtain⟨hv,hz,hi,hl,ap,hn,bp⟩:=hc;have hv:=cqa hv;have hz:=cqa hz;have hi:i<xs.length:=cqe hi;have hl:=cqe hl;have hn:=cqa hn;subst hv;subst hz;obtain⟨ad,rfl,_,aa⟩:=hx.oe_inv;obtain⟨a7,b2⟩:=aa _ (Cc a4);subst b2;obtain⟨aq,a9,hb⟩:=h.heap.box id _ a4;obtain⟨_,C,e,hC,hs,an,ak⟩:0< (m id).size∧DP H (xs.flatMap AV.cells) (m id) w:=by
      rcases hb with⟨h0,_⟩ | hb
      ·omega
      ·exact hb
     have a6:=hy.cellsRel ap;have c0:Z9 (RV H ⟨fun _ _=>False,fun _ _=>none,fun _=>none⟩) y.cells v.cells.toList:=⟨a6.1,fun j c hj=>by
      obtain⟨u,a1,a2,a3⟩:=a6.2 j c hj;exact⟨u,a1,a2,.imm _ _ (Tg a3 (cqt.1 bp c (cqr hj)))⟩⟩
     have ah:v.cells.size=n:=by rw[← hn,a6.1];simp
     have b8:v.cells.toList.length=y.cells.length:=by rw[a6.1]
     have b9:xs[i]? =some xs[i]:=cqc hi;have bz:(xs[i]).cells.length=z:=a9 _ (List.getElem_mem hi);rw[b9,Option.getD_some];generalize hY:putE off n z xs[i] y=Y;have bk:Y.cells=(xs[i]).cells.take off++(y.cells++(xs[i]).cells.drop (off+n)):=by rw[← hY];exact F3 bz
     have bl:Y.cells.length=z:=by rw[bk];simp;omega
     have b0:∀x∈xs.set i Y,x.cells.length=z:=fun x hx=>by
      rcases List.mem_or_eq_of_mem_set hx with h | h
      ·exact a9 x h
      ·rw[h];exact bl
     have bm:=Kc a9;have bq:i*z+z≤xs.length*z:=by
      have:(i+1)*z≤xs.length*z:=cqp _ hi;rw[Nat.add_mul] at this;omega
     have b3:(xs.set i Y).flatMap AV.cells=(xs.flatMap AV.cells).take (i*z+off)++(y.cells++(xs.flatMap AV.cells).drop (i*z+off+n)):=by
      rw[ST i xs[i] Y a9 b9 bl,bk];have bx:∀j,j<z→(xs.flatMap AV.cells)[i*z+j]? =(xs[i]).cells[j]? :=fun j hj=>by
       rw[Nc a9 i xs[i] j _ b9 (cqc (by omega))];exact(cqc (by omega)).symm
      apply List.ext_getElem?;intro j;simp only[List.getElem?_append,List.length_append,List.length_take,List.getElem?_take,List.getElem?_drop,List.length_drop,bm,bz];have m1:min (i*z) (xs.length*z)=i*z:=by omega
      have m2:min (i*z+off) (xs.length*z)=i*z+off:=by omega
      have m3:min off z=off:=by omega
      rw[m1,m2,m3];by_cases c1:j<i*z;·rw[if_pos c1,if_pos c1,if_pos (by omega),if_pos (by omega)]
      ·rw[if_neg c1];by_cases c2:j<i*z+off
       ·rw[if_pos (by omega),if_pos (by omega),if_pos (by omega),if_pos c2,if_pos c2]
        have:=bx (j - i*z) (by omega)
        rw[show i*z+(j - i*z)=j by omega] at this
        exact this.symm
       ·rw[if_neg c2];by_cases c3:j - (i*z+off)<y.cells.length
        ·rw[if_pos (by omega),if_neg (by omega),if_pos (by omega),if_pos c3]
         congr 1;omega
        ·rw[if_neg c3];by_cases c4:j<i*z+z
         ·rw[if_pos (by omega),if_neg (by omega),if_neg (by omega)]
          have:=bx (j - i*z) (by omega)
          rw[show i*z+(j - i*z)=j by omega] at this
          rw[show i*z+off+n+(j - (i*z+off) - y.cells.length)=j by omega,this]
          congr 1;omega
         ·rw[if_neg (by omega)]
          congr 1;omega
     have hE:=Jt (m:=m) (hp:=lkb st.hp) (b':=.own v' z (xs.set i Y)) (l:=m id) a4 rfl rfl rfl;have a5:=h.heap.sepR id _ a4 a7;have ar:=Pl (base:=(m id).base) (off:=i*z+off) an (fun j c hj=>let⟨v,a,b,d⟩:=ak j c hj;⟨v,a,b,RV.imm (E:=⟨fun _ _=>False,fun _ _=>none,fun _=>none⟩) _ _ d⟩) c0 (by omega) (by omega)
     have hh:=h.heap.one (id:=id) (b:=.own v' z (xs.set i Y)) (l:=m id) (w':=w.setRow (m id).g (C.toList.take ((m id).base+(i*z+off))++v.cells.toList++C.toList.drop ((m id).base+(i*z+off)+v.cells.toList.length)).toArray)
      (fun k _ hk=>setRow_other w _ k _ hk) (by simp[World.setRow]) hE ⟨a5.1,by simp[World.setRow];exact a5.2.1,a5.2.2⟩ (fun aw b' ab aj hr e=>ab (h.heap.injR aw id b' _ aj a4 hr a7 e)) (by
       rcases Nat.lt_or_ge id st.nx with ao | am
       ·exact ao
       ·have:=h.heap.fresh id am;rw[this] at a4;cases a4) (Nat.le_refl _) (by
       refine⟨aq,b0,.inr ⟨a7,_,e,setRow_heap w _ C _ e _ hC,?_,?_,fun j c hj=> ?_⟩⟩
       ·simp;omega
       ·rw[Kc b0,List.length_set];simp;omega
       ·rw[b3,← hn] at hj;obtain⟨v2,a1,a2,a3⟩:=ar j c hj;exact⟨v2,a1,a2,Q9q a3⟩) (fun ver bf e2=>by cases e2) a7
     have hm:updF m id (m id)=m:=by funext k;simp only[updF];split<;>simp[*]
     refine OpOk.heap (v:=Go.undef) h rfl ?_ (.inr ⟨rfl,rfl⟩) (C9 h.heap a4 _ (fun C0 e0 bg h0=>by rw[hC] at h0;cases h0;simp;omega) a7) hh hE (.imm _ _ (.undef _))
     have b5:(m id).base+i*z+off=(m id).base+(i*z+off):=Nat.add_assoc _ _ _;rw[b5,cqv,Ip ht (m id).g ((m id).base+(i*z+off)) v ah C e hC (by omega) (fun u hu=>by
      obtain⟨j,hj,rfl⟩:=Array.mem_iff_getElem.1 hu;obtain⟨u2,h3,h4,_⟩:=a6.2 j _ (cqc (by rw[a6.1];simpa using hj))
      rw[Array.getElem?_toList,cqh hj] at h3;cases h3;exact h4)]
     rfl
    ·split at hk
     ·rename_i hc;cases hk;simp only[cqb] at hc;obtain⟨hv,hz,hi,hl,ap,hn,b4⟩:=hc;have hv:=cqa hv;have hz:=cqa hz;have hi:i<xs.length:=cqe hi;have hl:=cqe hl;have hn:=cqa hn;have b4:=cqa b4;subst hv;subst hz;subst b4;obtain⟨ad,rfl,_,aa⟩:=hx.oe_inv;obtain⟨a7,b2⟩:=aa _ (Cc a4);subst b2;obtain⟨aq,a9,hb⟩:=h.heap.box id _ a4;obtain⟨_,C,e,hC,hs,an,ak⟩:0< (m id).size∧DP H (xs.flatMap AV.cells) (m id) w:=by
       rcases hb with⟨h0,_⟩ | hb
       ·omega
       ·exact hb
      have a6:=hy.cellsRel ap;have ah:v.cells.size=1:=by rw[← hn,a6.1];simp
      have b8:v.cells.toList.length=1:=by simpa using ah
      obtain⟨y0,hy0⟩:∃y0,y.cells[0]? =some y0:=⟨_,cqc (by omega)⟩
      obtain⟨u,b6,bv,c9⟩:=a6.2 0 y0 hy0;have b7:v.cells.toList=[u]:=by
       match hvc:v.cells.toList,b8 with
       | [x],_=>rw[hvc] at b6;simp at b6;rw[b6]
      have bm:=Kc a9;have bq:i*z+z≤xs.length*z:=by
       have:(i+1)*z≤xs.length*z:=cqp _ hi;rw[Nat.add_mul] at this;omega
      rw[hy0,Option.getD_some];have hE:=Jt (m:=m) (hp:=lkb st.hp) (b':=.hol v' z xs i off y0) (l:=m id) a4 rfl rfl rfl;have a5:=h.heap.sepR id _ a4 a7;have ae:(C.toList.take ((m id).base+(i*z+off))++v.cells.toList++C.toList.drop ((m id).base+(i*z+off)+v.cells.toList.length)).toArray.size=C.size:=by simp;omega
      have bn:∀j,j≠i*z+off→(C.toList.take ((m id).base+(i*z+off))++v.cells.toList++C.toList.drop ((m id).base+(i*z+off)+v.cells.toList.length)).toArray[(m id).base+j]? =C[(m id).base+j]? :=fun j hj=>by
       rw[b7];simp only[cqi,List.append_assoc,List.getElem?_append,List.length_take,List.getElem?_take,List.getElem?_drop,Array.length_toList,Array.getElem?_toList,List.length_singleton];rcases Nat.lt_or_ge j (i*z+off) with c1 | c1
       ·rw[if_pos (by omega),if_pos (by omega)]
       ·rw[if_neg (by omega),if_neg (by omega)];congr 1;omega
      have c7:(C.toList.take ((m id).base+(i*z+off))++v.cells.toList++C.toList.drop ((m id).base+(i*z+off)+v.cells.toList.length)).toArray[(m id).base+(i*z+off)]? =some u:=by
       rw[b7];simp only[cqi,List.append_assoc,List.getElem?_append,List.length_take,List.getElem?_take,List.getElem?_drop,Array.length_toList,Array.getElem?_toList,List.length_singleton];rw[if_neg (by omega),if_pos (by omega),show(m id).base+(i*z+off) - min ((m id).base+(i*z+off)) C.size=0 by omega];rfl
      have hh:=h.heap.one (id:=id) (b:=.hol v' z xs i off y0) (l:=m id) (w':=w.setRow (m id).g (C.toList.take ((m id).base+(i*z+off))++v.cells.toList++C.toList.drop ((m id).base+(i*z+off)+v.cells.toList.length)).toArray)
       (fun k _ hk=>setRow_other w _ k _ hk) (by simp[World.setRow]) hE ⟨a5.1,by simp[World.setRow];exact a5.2.1,a5.2.2⟩ (fun aw b' ab aj hr e=>ab (h.heap.injR aw id b' _ aj a4 hr a7 e)) (by
        rcases Nat.lt_or_ge id st.nx with ao | am
        ·exact ao
        ·have:=h.heap.fresh id am;rw[this] at a4;cases a4) (Nat.le_refl _) (by
        refine⟨aq,a9,hi,by omega,a7,_,e,setRow_heap w _ C _ e _ hC,by rw[ae];exact hs,by rw[ae];exact an,fun j c hj ab=> ?_,u,c7,bv,c9.mono (.refl _) hE⟩
        rw[bn j ab];exact ak j c hj) (fun ver bf e2=>by cases e2) trivial
      have hm:updF m id (m id)=m:=by funext k;simp only[updF];split<;>simp[*]
      refine OpOk.heap (v:=Go.undef) h rfl ?_ (.inr ⟨rfl,rfl⟩) (C9 h.heap a4 _ (fun C0 e0 bg h0=>by rw[hC] at h0;cases h0;exact ae) a7) hh hE (.imm _ _ (.undef _))
      have b5:(m id).base+i*z+off=(m id).base+(i*z+off):=Nat.add_assoc _ _ _;rw[b5,cqv,Ip ht (m id).g ((m id).base+(i*z+off)) v ah C e hC (by omega) (fun u' hu=>by
       have:u'∈v.cells.toList:=Array.mem_toList_iff.2 hu;rw[b7] at this;simp at this;rw[this];exact bv)]
      rfl
     ·cases hk
   ·cases hk
  ·cases hk
 ·cases hk
end
def LP(P:Program)(bid:Nat)(t:TypeId)(l c:AV):Option (AV×Option (Nat×Box)):=
 match elG P t with
 |some (sz,by_,zs)=>match l,c with
  | .int _ l,.int _ c=>if 0≤l∧l≤c∧c≤16777216∧by_*c.toNat≤140737488355328 then some (.bs bid 0 sz 0 l.toNat,some (bid,.cells 0 (Me sz c.toNat zs))) else none
  |_,_=>none
 |none=>none
section
variable {P : Program} {m : Nat → Lc} {H : HV} {B : Nat → Prop} {H0 : HV} {gl : Nat → AV} {rest : List (AV × Value)} {st : St} {a : Act} {w : World} {dst : Option Nat}
theorem FG{E:Env}{sz n:Nat}{z:Value}{zs:List AV}(hz:Z9 (RV H E) zs z.cells.toList)(hs:z.cells.size=sz)(a5:0<sz):
  Z9 (RV H E) (Me sz n zs) ((Array.range (n*sz)).map (z.cells[· %z.cells.size]!)).toList:=by
 refine⟨by simp[Me],fun j c hj=> ?_⟩
 unfold Me at hj;simp only[cqs,Option.map_eq_some_iff] at hj;obtain⟨k,hk,rfl⟩:=hj;have a4:k=j∧j<n*sz:=by
  grind
 obtain⟨rfl,a7⟩:=a4;have hm:k%sz<zs.length:=by rw[hz.1];simp_all [Nat.mod_lt]
 obtain⟨u,h1,h2,h3⟩:=hz.2 (k%sz) _ (cqc hm)
 grind
theorem RO{ver:Nat}(h:RelS m H B H0 gl rest st a.tmps w)(hd:Z2 dst st.n=true){bid:Nat}(hb:lkb st.hp bid=none)(hn:bid<st.nx){sz len cap:Nat}(C:Array Value)(e:TypeId)(cs:List AV)(hC:Z9 (RV H (st.env m)) cs (C.toList.take cs.length))(ai:cs.length≤C.size)(ab:len≤cap)(a7:cap≤maxLen)(am:cap*sz≤C.size)
  {s:Sem Next} {w1:World} (a5:Below w.heap.size w w1) (ao:w1.heap.size=w.heap.size) (hs:s.run P w= .ok (.value (.slice (some ⟨w.heap.size,0,none⟩) len cap)) (w1.alloc (.cells C e))) (hv:ver=0∨(ver=e+1∧e<4000)):
  OpOk P B H0 gl rest a w dst (st.eff dst (.bs bid ver sz 0 len,some (bid,.cells ver cs))) s:=by
 have h1:RelS m H B H0 gl rest st a.tmps w1:=⟨h.heap.ext a5,h.size,h.slot,h.rest⟩;have hE:=Mu (m:=m) (hp:=lkb st.hp) (b:=.cells ver cs) (l:=⟨w1.heap.size,0,C.size⟩) hb;have a4:∀o,H w1.heap.size o=none:=fun o=>by
  cases hh:H w1.heap.size o with
  |none=>rfl
  |some v=>have:=Jh h1.heap.sat hh;omega
 have hh:RelH (updF m bid ⟨w1.heap.size,0,C.size⟩) H B H0 gl (updF (lkb st.hp) bid (some (.cells ver cs))) st.nx (w1.alloc (.cells C e)):=by
  refine h1.heap.one (l:=⟨w1.heap.size,0,C.size⟩) (fun k hk _=>Jz w1 _ k hk) (by simp_all) hE ⟨h1.heap.notB,by simp_all,a4⟩ (fun ad b' _ a9 hr=>by
   have:=(h1.heap.sepR ad b' a9 hr).2.1;grind) hn (Nat.le_refl _) ?_ (fun v cs e=>by cases e;exact tag_ty hv ⟨rfl,C,(0,0),Xn w1 _⟩)
  refine⟨C,e,Xn w1 _,rfl,by simp_all,fun j c hj=> ?_⟩
  obtain⟨u,h1,h2,h3⟩:=hC.2 j c hj;have aa:=(cqd.1 hj).1;rw[List.getElem?_take,if_pos aa] at h1;exact⟨u,by simp_all,h2,h3.mono (.refl _) hE⟩
 refine OpOk.heap h hd hs (.inl rfl) ((Qa.of a5 h.heap.low).trans (Wx h1 _)) hh hE (.bs bid ver sz 0 len _ cap (Rq _ _ _ _ _) ab a7 fun l hl=> ?_)
 grind [HG]
theorem Pw(h:RelS m H B H0 gl rest st a.tmps w)(hd:Z2 dst st.n=true){bid:Nat}(hb:lkb st.hp bid=none)(hn:bid<st.nx){t:TypeId}{len:Nat}{a3:List (Nat×AV)}{parts:Array (Nat×Value)}{r:AV×Option (Nat×Box)}
  (hp:a3.length=parts.toList.length∧∀(k:Nat) (x:Nat×AV) (y:Nat×Value),a3[k]? =some x→parts.toList[k]? =some y→x.1=y.1∧RV H (st.env m) x.2 y.2) (hk:WK P bid t len a3=some r):
  OpOk P B H0 gl rest a w dst (st.eff dst r) (do pure (.value (← Instr.buildSlice t len parts))):=by
 unfold WK at hk;split at hk
 ·rename_i sz aj zs ht;obtain⟨e,i,z,ab,hi,hz,af,a5,a6,am,aa,rfl⟩:=Dh ht;split at hk
  ·rename_i a4;have a4:=cqe a4;split at hk
   ·rename_i cs hf;cases hk;have ae:RV H (st.env m) (ofV z) z:=.imm _ _ (Nu H z);have ad:=FG (n:=len) (ae.cellsRel aa) af a5;obtain⟨a7,h3,h4⟩:=Eg (fun i=>some (i*sz,sz)) a3 parts.toList _ cs ((Array.range (len*sz)).map (z.cells[· %z.cells.size]!)) hp ad hf
    have a8:cs.length=a7.size:=by simpa using h4.1
    have a9:len*sz≤a7.size:=by
     rw[← a8];have:∀(l:List (Nat×AV)) (c c':List AV),NW (fun i=>some (i*sz,sz)) c l=some c'→c'.length=c.length:=by
      intro l
      induction l with
      |nil=>simp_all [NW,cqf]
      |cons x l ih=>
       grind [NW]
     grind [Me]
    refine RO h hd hb hn (cap:=len) a7 e cs (by grind [List.take_of_length_le]) (by omega) (Nat.le_refl _) ?_ a9 (Below.refl _ _) rfl ?_ ?_
    ·have:len≤len*sz:=Nat.le_mul_of_pos_right _ a5;simp only[maxLen];omega
    ·rw[cqv];simp only[Instr.buildSlice,cqv,run_underlying ab,cqw,Go.sizeOf,typeInfo,run_program,hi,Sem.run_pure,a6];rw[if_neg (by omega)]
     by_cases h0:len*sz=0
     ·have e0:(Array.range (len*sz)).map (fun x=>(#[]:Array Value)[x% (#[]:Array Value).size]!)=(Array.range (len*sz)).map (z.cells[· %z.cells.size]!):=by simp[h0]
      rw[if_pos h0];simp only[cqv,Sem.run_pure,cqw];rw[e0,h3];simp[newRow]
     ·rw[if_neg h0];simp only[cqv,Sem.run_pure,cqw,zeroValue,typeInfo,run_program,hi,hz];rw[h3];simp[newRow]
    omega
   ·cases hk
  ·cases hk
 ·cases hk
theorem Sv(n:Nat):(askRoom n).run P w= .ok () w:=by
 unfold askRoom;split<;>rfl
theorem OS(h:RelS m H B H0 gl rest st a.tmps w)(hd:Z2 dst st.n=true){bid:Nat}(hb:lkb st.hp bid=none)(hn:bid<st.nx){t:TypeId}{l c:AV}{ul uc:Value}{r:AV×Option (Nat×Box)}
  (hl:RV H (st.env m) l ul) (hc:RV H (st.env m) c uc) (hk:LP P bid t l c=some r):OpOk P B H0 gl rest a w dst (st.eff dst r) (do pure (.value (← Instr.makeSlice t ul uc))):=by
 unfold LP at hk;split at hk
 ·rename_i sz ah zs ht;obtain⟨e,i,z,aa,hi,hz,ae,a5,a4,a6,a9,rfl⟩:=Dh ht;split at hk
  ·rename_i k1 l k2 c;rw[hl.int_inv,hc.int_inv];split at hk
   ·rename_i a3;cases hk;obtain⟨h0,h1,h2,h3⟩:=a3;have ad:RV H (st.env m) (ofV z) z:=.imm _ _ (Nu H z);have ao:=FG (n:=c.toNat) (ad.cellsRel a9) ae a5;have a7:(Me sz c.toNat (ofV z).cells).length=c.toNat*sz:=by simp[Me]
    refine RO h hd hb hn (cap:=c.toNat) ((Array.range (c.toNat*sz)).map (z.cells[· %z.cells.size]!)) e _ (by simp_all [List.take_of_length_le]) (by simp[a7]) (by omega) (by simp only[maxLen];omega) (by simp) (Below.refl _ _) rfl ?_ (.inl rfl)
    have wl:IntKind.i64.wrap l=l:=IntWalk.i64_in _ (by omega)
    have wc:IntKind.i64.wrap c=c:=IntWalk.i64_in _ (by omega)
    subst a6;have ai:(i.bytes:Int)*c≤140737488355328:=by
     grind
    rw[cqv];simp only[Instr.makeSlice,asInt,asIntOf,cqv,run_underlying aa,cqw,Sem.run_pure,typeInfo,run_program,hi,wl,wc];rw[if_neg (by simp;omega)]
    simp only[cqv,Sem.run_pure,cqw,Sv,Go.sizeOf,typeInfo,run_program,hi,a4];by_cases hz:c.toNat*sz=0
    ·rw[if_pos hz];have e0:(Array.range (c.toNat*sz)).map (fun x=>(#[]:Array Value)[x% (#[]:Array Value).size]!)=(Array.range (c.toNat*sz)).map (z.cells[· %z.cells.size]!):=by simp_all
     simp only[cqv,Sem.run_pure,cqw];rw[e0];simp[newRow]
    ·rw[if_neg hz];simp[newRow,zeroValue,typeInfo,hi, *]
   ·cases hk
  ·cases hk
 ·cases hk
theorem TH(h:RelH m H B H0 gl (lkb st.hp) st.nx w){sz n:Nat}{x:AV}{u:Value}{ds:List AV}(hx:RV H (st.env m) x u)(hk:xsrc sz x (lkb st.hp)=some (n,ds))(a8:0<sz):
  ∃ad c vs,u= .slice ad n c∧Z9 (RV H (st.env m)) ds vs∧ds.length=n*sz∧(n≠0→∃a,ad=some a∧∀(j:Nat) (v:Value),vs[j]? =some v→w.cell? (a.add j)=some v):=by
 unfold xsrc at hk;split at hk
 ·rename_i z ys;split at hk
  ·rename_i hz;subst hz;cases hk;cases hx.sl_inv with
   |sl0 _ a cap _=>exact⟨_,_,[],rfl,⟨rfl,fun j c hj=>by simp at hj⟩,by simp,fun a7=>absurd rfl a7⟩
   |sl _ _ b o cap val h0 h1 h2 h3 h4 h5=>
    have key:∀(zs:List AV) (k:Nat),(∀i x,zs[i]? =some x→ys[k+i]? =some x)→Z9 (RV H (st.env m)) (zs.flatMap AV.cells) ((List.range (zs.length*z)).map fun i=>val (k+i/z) (i%z)):=by
     intro zs
     induction zs with
     |nil=>intro k _;exact⟨by simp,fun j c hj=>by simp at hj⟩
     |cons y zs ih=>
      intro k hk;have hy:=hk 0 y rfl;simp only[Nat.add_zero] at hy;have aj:=h3 _ _ hy;have ih:=ih (k+1) (fun i x hx=>by have:=hk (i+1) x (by simp_all);grind)
      have hr:(List.range ((y::zs).length*z)).map (fun i=>val (k+i/z) (i%z))=(List.range z).map (fun i=>val k i)++(List.range (zs.length*z)).map (fun i=>val (k+1+i/z) (i%z)):=by
       rw[List.length_cons,Nat.add_mul,Nat.one_mul,Nat.add_comm,List.range_add,List.map_append,List.map_map];congr 1
       ·simp_all [List.map_congr_left,List.mem_range,Nat.div_eq_of_lt,Nat.mod_eq_of_lt,Nat.add_zero]
       ·refine List.map_congr_left fun i hi=> ?_
        simp only[Function.comp];rw[Nat.add_div_left _ a8,Nat.add_mod_left]
        grind
      rw[hr,List.flatMap_cons];refine⟨by have:=ih.1;simp_all,fun j c hj=> ?_⟩
      rw[List.getElem?_append] at hj ⊢;split at hj
      ·rename_i a5;rw[if_pos (by simp_all)]
       have:=h4 k y j c hy hj;exact⟨val k j,by simp_all,this.2,.imm _ _ (h5 k y j c hy hj)⟩
      ·rename_i a5;rw[if_neg (by simp_all)]
       have:=ih.2 _ c hj
       simp_all
    have k0:=key ys 0 (fun i x hx=>by simp_all)
    refine⟨_,_,_,rfl,k0,by rw[k0.1];simp,fun _=>⟨_,rfl,fun j v hv=> ?_⟩⟩
    have hj:j<ys.length*z:=by grind
    simp[hj] at hv;subst hv;have hd:j/z<ys.length:=Nat.div_lt_of_lt_mul (by grind)
    have az:j%z<z:=Nat.mod_lt _ a8;have hy:ys[j/z]? =some ys[j/z]:=cqc hd;have aj:=h3 _ _ hy;have hc:ys[j/z].cells[j%z]? =some (ys[j/z].cells[j%z]'(by omega)):=cqc (by omega)
    have:=(h4 _ _ _ _ hy hc).1;rw[Xj];have e:o+j/z*z+j%z=o+j:=by simp_all [Nat.add_assoc,Nat.mul_comm,Nat.div_add_mod]
    rw[e] at this;exact h.sat _ _ _ this
  ·cases hk
 ·rename_i id ver z off len;split at hk
  ·rename_i v cs ae;split at hk
   ·rename_i hc;obtain⟨rfl,rfl,ay⟩:=hc;simp only[cqf,Prod.mk.injEq] at hk;obtain⟨a6,rfl⟩:=hk;obtain rfl:n=len:=a6.symm;clear a6;generalize n=len at*;obtain⟨a,cap,rfl,_,ax,aw,ag⟩:=hx.bs_inv;obtain⟨rfl,am⟩:=ag _ (YN ae);obtain⟨C,e,hC,hs,an,ab⟩:=h.box id _ ae;have af:((cs.drop off).take (len*z)).length=len*z:=by simp;omega
    refine⟨_,_,(List.range (len*z)).map fun j=>(C[(m id).base+off+j]?).getD Go.undef,rfl,⟨by simp_all,fun j c hj=> ?_⟩,af,fun _=>⟨_,rfl,fun j u hu=> ?_⟩⟩
    ·have a5:j<len*z:=by grind
     rw[List.getElem?_take,if_pos a5,List.getElem?_drop] at hj;obtain⟨u,a1,a2,a3⟩:=ab _ c hj
     simp_all [Nat.add_assoc]
    ·have a5:j<len*z:=by have:=(cqd.1 hu).1;grind
     have hj:cs[off+j]? =some (cs[off+j]'(by omega)):=cqc (by omega)
     obtain⟨u',a1,a2,a3⟩:=ab _ _ hj;rw[← Nat.add_assoc] at a1;simp[a5,a1] at hu;subst hu;rw[Xj,XP _ _ _ _ _ _ hC];exact a1
   ·cases hk
  ·cases hk
 ·cases hk;rw[hx.nil_inv];exact⟨_,_,[],rfl,⟨rfl,fun j c hj=>by simp at hj⟩,by simp,fun a7=>absurd rfl a7⟩
 ·cases hk;obtain⟨a,ha⟩:=hx.emp_inv;rw[ha];exact⟨_,_,[],rfl,⟨rfl,fun j c hj=>by simp at hj⟩,by simp,fun a7=>absurd rfl a7⟩
 ·cases hk
theorem Im(t ty e e':TypeId)(i:TypeInfo)(ht:P.underlying t=some (.slice e))(hi:P.info? e=some i)
  (g o a4 a6:Nat) (a5:Array Value) (hg:w.heap[g]? =some (.cells a5 e' (0,0)))
  (a:Addr) (m c:Nat) (a3:List Value) (hl:a3.length=m*i.size) (a7:∀(j:Nat) (u:Value),a3[j]? =some u→w.cell? (a.add j)=some u) (h1:∀u∈a3,u.oneCell'=true)
  (a8:a4+m≤a6) (ab:o+a4*i.size+a3.length≤a5.size):
  (Builtin.append_ #[t,t] ty #[.slice (some ⟨g,o,none⟩) a4 a6,.slice (some a) m c]).run P w=
   .ok (.slice (some ⟨g,o,none⟩) (a4+m) a6) (w.setRow g (a5.toList.take (o+a4*i.size)++a3++a5.toList.drop (o+a4*i.size+a3.length)).toArray):=by
 have hf:=run_firstCells_some (P:=P) w i.size m a m c a3 hl a7;have a9:=run_storeCells_at P g (o+a4*i.size) e' a3 0 a5 w hg (by omega) h1
 simp only[Nat.add_zero] at a9;simp[Builtin.append_,run_underlying ht,Go.sizeOf,typeInfo,hi,Builtin.lenOf,hf,a8,Xj,a9]
theorem IU(t ty e:TypeId)(i:TypeInfo)(ht:P.underlying t=some (.slice e))(hi:P.info? e=some i)(b:Option Addr)(n cap:Nat)(hn:n≤cap)(a:Option Addr)(c:Nat):
  (Builtin.append_ #[t,t] ty #[.slice b n cap,.slice a 0 c]).run P w= .ok (.slice b n cap) w:=by
 cases a with
 |none=>cases b<;>simp[Builtin.append_,run_underlying ht,Go.sizeOf,typeInfo,hi,Builtin.lenOf,Builtin.firstCells,hn,storeCells]
 |some a=>cases b<;>simp[Builtin.append_,run_underlying ht,Go.sizeOf,typeInfo,hi,Builtin.lenOf,Builtin.firstCells,hn,storeCells,loadCells,loadCellsFrom]
theorem CH(z:Array Value)(n:Nat):(Builtin.zeroCells z n).size=n*z.size:=by simp[Builtin.zeroCells]
theorem Z9.mem{R:AV→Value→Prop}{ds:List AV}{vs:List Value}(h:Z9 R ds vs):∀u∈vs,u.oneCell'=true:=by
 intro u hu;obtain⟨j,hj,rfl⟩:=List.mem_iff_getElem.1 hu;obtain⟨u',h1,h2,_⟩:=h.2 j _ (cqc (by rw[h.1];exact hj))
 simp_all
theorem Z9.append{R:AV→Value→Prop}{ds a3:List AV}{vs a4:List Value}(h:Z9 R ds vs)(h':Z9 R a3 a4):Z9 R (ds++a3) (vs++a4):=by
 refine⟨by simp[h.1,h'.1],fun j c hj=> ?_⟩
 rw[List.getElem?_append] at hj ⊢;have e:=h.1;split at hj;·rw[if_pos (by omega)];exact h.2 j c hj
 ·rw[if_neg (by omega),← e];exact h'.2 _ c hj
theorem Q70{x:AV}{u:Value}{E:Env}(hx:RV H E x u)(h:AQ x=true):∃a n c,u= .slice a n c∧n≤c:=by
 cases x<;>simp only[AQ,reduceCtorEq] at h
 ·rw[hx.nil_inv];grind
 ·obtain⟨a,ha⟩:=hx.emp_inv;grind
 ·obtain⟨a,c,e,h1,_⟩:=hx.sl_inv.len_inv;grind
 ·obtain⟨a,c,e,_,h1,_⟩:=hx.bs_inv;grind
structure AppSrc (P:Program) (w:World) (t tx ty e:TypeId) (i:TypeInfo) (z:Value) (v:Value) (n:Nat) (vs:List Value):Prop where
 nil:n*i.bytes≤140737488355328→n≤9223372036854775807→(Builtin.append_ #[t,tx] ty #[.slice none 0 0,v]).run P w=
  .ok (.slice (some ⟨w.heap.size,0,none⟩) n (grownCap w n 0 e)) (w.drew.alloc (.cells (vs.toArray++Builtin.zeroCells z.cells (grownCap w n 0 e - n)) e))
 grow:∀(b:Addr) (sLen sCap:Nat) (olds:List Value),olds.length=sLen*i.size→(∀(j:Nat) (u:Value),olds[j]? =some u→w.cell? (b.add j)=some u)→sCap<sLen+n→((sLen+n:Nat):Int)≤9223372036854775807→
  Builtin.nextslicecap (sLen+n) sCap*i.bytes≤281474976710656→(Builtin.append_ #[t,tx] ty #[.slice (some b) sLen sCap,v]).run P w=
  .ok (.slice (some ⟨w.heap.size,0,none⟩) (sLen+n) (grownCap w (sLen+n) sCap e)) (w.drew.alloc (.cells (olds.toArray++vs.toArray++Builtin.zeroCells z.cells (grownCap w (sLen+n) sCap e - (sLen+n))) e))
 room:∀(g o sLen sCap:Nat) (cur:Array Value) (e':TypeId),w.heap[g]? =some (.cells cur e' (0,0))→sLen+n≤sCap→o+sLen*i.size+vs.length≤cur.size→(Builtin.append_ #[t,tx] ty #[.slice (some ⟨g,o,none⟩) sLen sCap,v]).run P w=
  .ok (.slice (some ⟨g,o,none⟩) (sLen+n) sCap) (w.setRow g (cur.toList.take (o+sLen*i.size)++vs++cur.toList.drop (o+sLen*i.size+vs.length)).toArray)
theorem Q1a(h:RelS m H B H0 gl rest st a.tmps w)(hd:Z2 dst st.n=true){bid:Nat}(hb:lkb st.hp bid=none)(hn:bid<st.nx){t tx ty e:TypeId}{i:TypeInfo}{z:Value}{sz n tg:Nat}{ds:List AV}{vs:List Value}{s:AV}{u v:Value}{r:AV×Option (Nat×Box)}
  (a9:AppSrc P w t tx ty e i z v n vs) (bg:z.cells.size=sz) (c6:0<sz) (a3:i.size=sz) (hr:Z9 (RV H (st.env m)) ds vs) (cd:ds.length=n*sz) (ak:vs.length=n*i.size) (ci:¬n=0) (bx:tg=0∨(tg=e+1∧e<4000))
  (hs:RV H (st.env m) s u) (hk:UF bid e tg sz i.bytes n ds s (lkb st.hp)=some r):OpOk P B H0 gl rest a w dst (st.eff dst r) (do pure (.value (← Builtin.append_ #[t,tx] ty #[u,v]))):=by
 unfold UF at hk;have ad:∀(b:Option Addr),u= .slice b 0 0→n*i.bytes≤140737488355328→n≤9223372036854775807→OpOk P B H0 gl rest a w dst (st.eff dst (.bs bid tg sz 0 n,some (bid,.cells tg ds))) (do pure (.value (← Builtin.append_ #[t,tx] ty #[u,v]))):=by
  intro b hu h1 h2;subst hu;have ab:=grownCap_ge w n 0 e;have ba:=grownCap_le_maxLen w n 0 e (by simp only[maxLen];omega)
  have a6:(Builtin.append_ #[t,tx] ty #[.slice b 0 0,v]).run P w=
    .ok (.slice (some ⟨w.heap.size,0,none⟩) n (grownCap w n 0 e)) (w.drew.alloc (.cells (vs.toArray++Builtin.zeroCells z.cells (grownCap w n 0 e - n)) e)):=by
   cases b with
   |none=>exact a9.nil h1 h2
   |some b=>
    have:=a9.grow b 0 0 [] (by simp) (by simp) (by omega) (by simp;omega) (growslice_fits (by omega) (by simpa using h1))
    simpa using this
  refine RO h hd hb hn (cap:=grownCap w n 0 e) (vs.toArray++Builtin.zeroCells z.cells (grownCap w n 0 e - n)) e ds ?_ ?_ ab ba ?_ (w1:=w.drew) ((Below.refl _ _).drew) rfl (by rw[cqv,a6];rfl) bx
  ·simp only[Array.toList_append];rw[List.take_append_of_le_length (by simp[hr.1]),List.take_of_length_le (by simp[hr.1])]
   exact hr
  ·simp[hr.1]
  ·rw[Array.size_append,CH,List.size_toArray,ak,bg,a3,← Nat.add_mul];exact cqp _ (by omega)
 split at hk
 ·split at hk;·rename_i hc;cases hk;exact ad none hs.nil_inv hc.1 hc.2
  ·cases hk
 ·split at hk;·rename_i hc;cases hk;obtain⟨b,ae⟩:=hs.emp_inv;exact ad b ae hc.1 hc.2
  ·cases hk
 ·rename_i id ver z' off len;split at hk
  ·rename_i v' cs a4;split at hk
   ·rename_i hc;obtain⟨rfl,rfl,ba,h1,h2⟩:=hc;cases hk;obtain⟨a1,cap,rfl,_,ce,br,bc⟩:=hs.bs_inv;obtain⟨rfl,b6⟩:=bc _ (YN a4);obtain⟨C,e',hC,bw,c5,au⟩:=h.heap.box id _ a4;have ag:=h.heap.sep id _ a4;have ao:id<st.nx:=by
     rcases Nat.lt_or_ge id st.nx with aw | ab
     ·exact aw
     ·have:=h.heap.fresh id ab;rw[this] at a4;cases a4
    have b8:∀a7 b',a7≠id→lkb st.hp a7=some b'→Real b' (m a7)→(m a7).g≠(m id).g:=fun a7 b' bu ae hr e=>bu (h.heap.injR a7 id b' _ ae a4 hr trivial e)
    have hold:Z9 (RV H (st.env m)) ((cs.drop off).take (len*z')) ((List.range (len*z')).map fun j=>(C[(m id).base+off+j]?).getD Go.undef):=by
     refine⟨by simp;omega,fun j c hj=> ?_⟩
     have a8:j<len*z':=by
      have:=(cqd.1 hj).1;simp at this;omega
     rw[List.getElem?_take,if_pos a8,List.getElem?_drop] at hj;obtain⟨u,b1,b2,b3⟩:=au _ c hj;rw[← Nat.add_assoc] at b1;exact⟨u,by simp[a8,b1],b2,b3⟩
    have hol:((cs.drop off).take (len*z')).length=len*z':=by simp;omega
    by_cases hroom:len+n≤cap
    ·have aj:(len+n)*z'≤cap*z':=cqp _ hroom;rw[Nat.add_mul] at aj;have af:(m id).base+off+len*i.size+vs.length≤C.size:=by rw[ak,a3,bw];omega
     have a6:=a9.room (m id).g ((m id).base+off) len cap C e' hC hroom af;have hE:=BE (ver':=DF e off v') (m:=m) (hp:=lkb st.hp) (cs':=(cs.drop off).take (len*z')++ds) (l:=⟨(m id).g,(m id).base+off,(m id).size⟩) (Q01 _ _ _) a4;have hh:=h.heap.one (id:=id) (b:=.cells (DF e off v') ((cs.drop off).take (len*z')++ds)) (l:=⟨(m id).g,(m id).base+off,(m id).size⟩)
      (w':=w.setRow (m id).g (C.toList.take ((m id).base+off+len*i.size)++vs++C.toList.drop ((m id).base+off+len*i.size+vs.length)).toArray)
      (fun k _ hk=>setRow_other w _ k _ hk) (by simp[World.setRow]) hE ⟨ag.1,by simp[World.setRow];exact ag.2.1,ag.2.2⟩ b8 ao (Nat.le_refl _) (by
       refine⟨_,e',setRow_heap w _ C _ e' _ hC,?_,?_,fun j c hj=> ?_⟩
       ·simp;omega
       ·simp;rw[a3] at af;rw[← a3] at hol ⊢;have:=hr.1;omega
       ·show ∃v,((C.toList.take ((m id).base+off+len*i.size)++vs++C.toList.drop ((m id).base+off+len*i.size+vs.length)).toArray)[(m id).base+off+j]? =some v∧_;rw[List.getElem?_append,hol] at hj;simp only[cqi,List.append_assoc,List.getElem?_append,List.length_take,List.getElem?_take,Array.length_toList,Array.getElem?_toList];have m2:min ((m id).base+off+len*i.size) C.size=(m id).base+off+len*i.size:=by omega
        rw[m2];split at hj
        ·rename_i a8;rw[a3,if_pos (by omega),if_pos (by omega)]
         obtain⟨u,b1,b2,b3⟩:=hold.2 j c hj;simp only[cqs,List.getElem?_range a8,Option.map_some,cqf] at b1;have hx:cs[off+j]? =some (cs[off+j]'(by omega)):=cqc (by omega)
         obtain⟨u2,c1,c2,c3⟩:=au _ _ hx;rw[← Nat.add_assoc] at c1;rw[c1] at b1 ⊢;simp only[Option.getD_some] at b1;subst b1;exact⟨u2,rfl,b2,b3.mono (.refl _) hE⟩
        ·rename_i a8;rw[if_neg (by rw[a3];omega)]
         obtain⟨u,b1,b2,b3⟩:=hr.2 _ c hj;have c7:=(cqd.1 b1).1;rw[a3,if_pos (by omega),show(m id).base+off+j - ((m id).base+off+len*z')=j - len*z' by omega]
         exact⟨u,b1,b2,b3.mono (.refl _) hE⟩) (fun ver bm e2=>by
        cases e2;refine Q02 fun h0 h1=> ?_
        rcases h.heap.ty id _ _ a4 with h2 | ⟨h2,C2,fr,h3⟩
        ·omega
        ·rw[hC] at h3;cases h3;have he:=setRow_heap w (m id).g C (C.toList.take ((m id).base+off+len*i.size)++vs++C.toList.drop ((m id).base+off+len*i.size+vs.length)).toArray _ (0,0) hC;rw[show v'%4096 - 1=e by omega] at he
         exact⟨by show(m id).base+off=0;omega,_,_,he⟩)
     refine OpOk.heap h hd (by rw[cqv,a6];rfl) (.inl rfl) (C9 h.heap a4 _ (fun C0 e0 ca h0=>by rw[hC] at h0;cases h0;simp;omega)) hh hE (.bs id (DF e off v') z' 0 (len+n) _ cap (Rq _ _ _ _ _) hroom br fun l hl=> ?_)
     rw[HG] at hl;cases hl;exact⟨rfl,by simpa using b6⟩
    ·have ab:=grownCap_ge w (len+n) cap e;have bb:=grownCap_le_maxLen w (len+n) cap e (by simp only[maxLen];omega)
     have a6:=a9.grow ⟨(m id).g,(m id).base+off,none⟩ len cap ((List.range (len*z')).map fun j=>(C[(m id).base+off+j]?).getD Go.undef) (by rw[a3];simp) (fun j u hu=>by
      have a8:j<len*z':=by have:=(cqd.1 hu).1;simpa using this
      have hx:cs[off+j]? =some (cs[off+j]'(by omega)):=cqc (by omega)
      obtain⟨u2,c1,c2,c3⟩:=au _ _ hx;rw[← Nat.add_assoc] at c1;simp[a8,c1] at hu;subst hu;rw[Xj,XP _ _ _ _ _ _ hC];exact c1) (by omega) (by omega) (growslice_fits (by omega) h1)
     have bp:RelH m H B H0 gl (lkb st.hp) st.nx w.drew:=h.heap.ext (Below.refl _ _).drew;have bz:w.drew.heap.size=w.heap.size:=rfl;have be:∀o,H w.heap.size o=none:=fun o=>by
      cases hh:H w.heap.size o with
      |none=>rfl
      |some v=>have:=Jh h.heap.sat hh;omega
     generalize hC0:(((List.range (len*z')).map fun j=>(C[(m id).base+off+j]?).getD Go.undef).toArray++vs.toArray++Builtin.zeroCells z.cells (grownCap w (len+n) cap e - (len+n)))=C0 at a6
     have am:C0.size=grownCap w (len+n) cap e*z':=by
      rw[← hC0,Array.size_append,Array.size_append,CH,List.size_toArray,List.size_toArray,ak,bg,a3];simp only[List.length_map,List.length_range];rw[← Nat.add_mul,← Nat.add_mul];congr 1;omega
     have b4:=hold.append hr;have hE:=BE (ver':=DF e off v') (m:=m) (hp:=lkb st.hp) (cs':=(cs.drop off).take (len*z')++ds) (l:=⟨w.heap.size,0,C0.size⟩) (Q01 _ _ _) a4;have hh:=bp.one (id:=id) (b:=.cells (DF e off v') ((cs.drop off).take (len*z')++ds)) (l:=⟨w.heap.size,0,C0.size⟩) (w':=w.drew.alloc (.cells C0 e))
      (fun k hk _=>Jz w.drew _ k hk) (by rw[IK];omega) hE ⟨h.heap.notB,by rw[IK,bz];show w.heap.size<_;omega,be⟩ (fun a7 b' _ ae bv=>by
       have:=(h.heap.sepR a7 b' ae bv).2.1;show(m a7).g≠w.heap.size;omega) ao (Nat.le_refl _) (by
       refine⟨C0,e,Xn w.drew _,rfl,?_,fun j c hj=> ?_⟩
       ·have b5:=b4.1;simp only[List.length_append,List.length_map,List.length_range] at b5 ⊢;rw[am];have:(len+n)*z'≤grownCap w (len+n) cap e*z':=cqp _ ab;rw[Nat.add_mul] at this;rw[ak,a3] at b5;show 0+_≤_;omega
       ·obtain⟨u,b1,b2,b3⟩:=b4.2 j c hj;refine⟨u,?_,b2,b3.mono (.refl _) hE⟩;have aw:=(cqd.1 b1).1;rw[← hC0];show(_++_++_:Array Value)[0+j]? =some u;rw[Nat.zero_add,Array.getElem?_append_left (by simpa using aw)]
        simpa using b1) (fun ver bm e2=>by cases e2;exact Q02 fun _ _=>⟨rfl,_,_,Xn w.drew _⟩)
     have bq:Qa B w (w.drew.alloc (.cells C0 e)):=((Qa.refl B w).drew).alloc (by simpa using h.heap.low) _
     refine OpOk.heap h hd (by rw[cqv,a6];rfl) (.inl rfl) bq hh hE (.bs id (DF e off v') z' 0 (len+n) _ _ (Rq _ _ _ _ _) ab bb fun l hl=> ?_)
     rw[HG] at hl;cases hl;exact⟨rfl,by show 0+0+_≤C0.size;rw[am];omega⟩
   ·cases hk
  ·cases hk
 ·cases hk
theorem Q60(h:RelS m H B H0 gl rest st a.tmps w)(hd:Z2 dst st.n=true){bid:Nat}(hb:lkb st.hp bid=none)(hn:bid<st.nx){t t' ty:TypeId}{s x:AV}{u v:Value}{r:AV×Option (Nat×Box)}
  (hs:RV H (st.env m) s u) (hx:RV H (st.env m) x v) (hk:JB P bid t t' s x (lkb st.hp)=some r):OpOk P B H0 gl rest a w dst (st.eff dst r) (do pure (.value (← Builtin.append_ #[t,t'] ty #[u,v]))):=by
 unfold JB at hk;split at hk
 ·rename_i sz ax zs ht;obtain⟨e,i,z,ab,hi,hz,au,a9,a4,am,b3,rfl⟩:=Dh ht;subst am;split at hk
  ·rename_i ar;subst ar;split at hk
   ·rename_i n ds af;obtain⟨ad,c,vs,rfl,hr,ae,aa⟩:=TH h.heap hx af a9;have an:elT P t'=e:=by simp_all [elT]
    rw[an] at hk;split at hk
    ·rename_i a7;subst a7;split at hk
     ·rename_i aq;cases hk;obtain⟨b,k,cp,rfl,b1⟩:=Q70 hs aq;exact OpOk.val h hd (by simp_all [IU]) hs
     ·cases hk
    ·rename_i a7;obtain⟨a0,rfl,a3⟩:=aa a7;have a8:vs.length=n*i.size:=by rw[a4,← ae,hr.1]
     refine Q1a h hd hb hn (z:=z) (i:=i) ⟨fun h1 h2=>run_append_nil w t' ty e i z ab hi hz a0 n c vs a8 a3 (by omega) (by omega) (by omega),fun b a6 a5 ag h1 h2 h3 h4 h5=>run_append_grow w t' ty e i z ab hi hz b a6 a5 ag h1 h2 a0 n c vs a8 a3 h3 h4 h5,
      fun g o a6 a5 aj e' h1 h2 h3=>Im t' ty e e' i ab hi g o a6 a5 aj h1 a0 n c vs a8 a3 hr.mem h2 h3⟩ au a9 a4 hr ae a8 a7 (PZ P e) hs hk
   ·cases hk
  ·cases hk
 ·cases hk
end
def UB(b:UInt8):AV:=.int .u8 b.toNat
def I7:List AV→Option (List UInt8)
 | []=>some []
 | .int .u8 n::r=>match decide (0≤n)&&decide (n<256) with
  |true=>match I7 r with
   |some l=>some (UInt8.ofNat n.toNat::l)
   |none=>none
  |false=>none
 |_=>none
theorem Rw:∀ {cs:List AV} {s:List UInt8},I7 cs=some s→cs=s.map UB
 | [],s,h=>by cases h;rfl
 |c::r,s,h=>by
  unfold I7 at h;split at h
  ·simp_all
  ·rename_i n r' a3;cases a3;split at h
   ·rename_i hc;split at h
    ·rename_i l hl;cases h;rw[List.map_cons,← Rw hl]
     grind [UB,UInt8.toNat_ofNat']
    ·cases h
   ·cases h
  ·cases h
def AR(P:Program)(t:TypeId):Bool:=match P.underlying t with | some .unsafePointer=>true | _=>false
def ptTo(P:Program)(t:TypeId):Option TypeId:=match P.underlying t with | some (.pointer u)=>some u | _=>none
def szOf(P:Program)(u:TypeId):Nat:=match P.info? u with | some i=>i.size | none=>0
def Mw(P:Program)(t:TypeId):Bool:=match P.underlying t with | some (.slice e)=>isU8 P e | _=>false
def Md(P:Program)(op:BinOp)(t:TypeId)(x y:AV)(hp:Hp):Option AV:=
 match x,y with
 | .ptr id ver off,.ptr id' ver' off'=>match hp id with
  |some (.cells v _)=>match ptTo P t with
   |some u=>match(P.info? u).isSome&& (Nat.beq v ver&& (Nat.beq id id'&& (Nat.beq ver ver'&&Nat.beq off off'))) with
    |true=>MT op true
    |false=>none
   |none=>none
  |_=>none
 |_,_=>none
def Mb(P:Program)(a3 to:TypeId)(x:AV)(hp:Hp):Option AV:=
 match x with
 | .ptr id ver off=>match hp id with
  |some (.cells v cs)=>match Nat.beq v ver&&Nat.blt off cs.length with
   |true=>match ptTo P a3,ptTo P to with
    |some t,_=>match AR P to&&Nat.blt 0 (szOf P t) with
     |true=>some (.ptr id ver off)
     |false=>none
    |none,some u=>match AR P a3&& (Nat.beq off 0&& (Nat.beq (ver%4096) (u+1)&& (Nat.blt 0 (P.cellsOf u)&&Nat.ble (P.cellsOf u) cs.length))) with
     |true=>some (.ptr id ver off)
     |false=>none
    |none,none=>none
   |false=>none
  |_=>none
 | .bs id ver sz off len=>match hp id with
  |some (.cells v cs)=>match Nat.beq v ver&& (Nat.beq sz 1&& (Nat.ble (off+len) cs.length&& (Mw P a3&&V6 P to))) with
   |true=>match I7 ((cs.drop off).take len) with
    |some s=>some (.str s)
    |none=>none
   |false=>none
  |_=>none
 | .nil=>match Mw P a3&&V6 P to with
  |true=>some (.str [])
  |false=>none
 |_=>none
def T3(x:AV):Option AV:=
 match x with
 | .nil=>some .nilp
 | .bs id ver _ off len=>match Nat.blt 0 len with
  |true=>some (.ptr id ver off)
  |false=>none
 |_=>none
def LQ(P:Program)(pt:TypeId)(p n:AV)(hp:Hp):Option (AV×Option (Nat×Box)):=
 match p,n with
 | .nilp,.int .i64 0=>some (.str [],none)
 | .ptr id ver off,.int .i64 n=>match hp id with
  |some (.cells v cs)=>match ptTo P pt with
   |some e=>match Nat.beq v ver&& (Nat.beq off 0&& (Nat.beq (ver%4096) (e+1)&& (Nat.beq (P.cellsOf e) 1&& (decide (0<n)&& (decide (n≤9223372036854775807)&&Nat.ble n.toNat cs.length))))) with
    |true=>match I7 (cs.take n.toNat) with
     |some s=>some (.str s,some (id,.dead))
     |none=>none
    |false=>none
   |none=>none
  |_=>none
 |_,_=>none
section
variable {P : Program} {m : Nat → Lc} {H : HV} {B : Nat → Prop} {H0 : HV} {gl : Nat → AV} {rest : List (AV × Value)} {st : St} {a : Act} {w : World} {dst : Option Nat}
theorem PF{t:TypeId}(h:AR P t=true):P.underlying t=some .unsafePointer:=by
 grind [AR]
theorem HL{t u:TypeId}(h:ptTo P t=some u):P.underlying t=some (.pointer u):=by
 grind [ptTo]
theorem isU8_ok{t:TypeId}(h:isU8 P t=true):P.underlying t=some (.int .u8):=by
 grind [isU8]
theorem Sk{t:TypeId}(h:Mw P t=true):∃e,P.underlying t=some (.slice e)∧P.underlying e=some (.int .u8):=by
 grind [Mw,isU8_ok]
theorem szOf_ok{u:TypeId}(h:0<szOf P u):∃i,P.info? u=some i∧i.size≠0:=by
 grind [szOf]
theorem A9{tp te:TypeId}{j:TypeInfo}(ad:Addr)(hp:P.underlying tp=some (.pointer te))(a4:P.info? te=some j):
  (binOp .eql tp (.pointer (some ad)) (.pointer (some ad))).run P w= .ok (.bool true) w:=by
 have h:∀d:Nat,(Op.equalIn (d+1) tp (.pointer (some ad)) (.pointer (some ad))).run P w= .ok true w:=fun d=>by
  simp[Op.equalIn,run_underlying hp,Go.sizeOf,typeInfo,a4,run_sameAddr_same]
 simp only[binOp];simp[Op.equal,Op.maxDepth,h 9999]
theorem Q7x(h:RelH m H B H0 gl (lkb st.hp) st.nx w){op:BinOp}{t:TypeId}{x y:AV}{u v:Value}{av:AV}{ox oy:Operand}(hx:RV H (st.env m) x u)(hy:RV H (st.env m) y v)(hk:Md P op t x y (lkb st.hp)=some av):
  ∃r,(binOp op t u v).run P w= .ok r w∧(eqGuard op t ox oy u v).run P w= .ok () w∧∀H,RelI H av r:=by
 unfold Md at hk;split at hk
 ·rename_i id ver off ak ver' a8;split at hk
  ·rename_i v' cs a3;split at hk
   ·rename_i ty ht;split at hk
    ·rename_i hc;simp only[cqb] at hc;obtain⟨hi,h1,h2,h3,h4⟩:=hc;obtain rfl:=cqa h1;obtain rfl:=cqa h2;obtain rfl:=cqa h3;obtain rfl:=cqa h4;obtain⟨ad,rfl,_,hl⟩:=hx.ptr_inv;obtain⟨a9,rfl,_,a4⟩:=hy.ptr_inv;obtain rfl:=hl _ (YN a3);obtain rfl:=a4 _ (YN a3);obtain⟨j,hj⟩:=Option.isSome_iff_exists.1 hi;unfold MT at hk;split at hk
     ·cases hk;exact⟨_,A9 _ (HL ht) hj,by simp[eqGuard],fun _=>.bool _⟩
     ·cases hk;exact⟨_,Lib.run_neq_ptr_same w _ (HL ht) hj,by simp[eqGuard],fun _=>.bool _⟩
     ·cases hk
    ·cases hk
   ·cases hk
  ·cases hk
 ·cases hk
theorem Q71{e:TypeId}(hc:0<P.cellsOf e)(a3:Nat)(hn:1≤a3):liesAt P P.depth e a3 0 e 1=true:=by
 have hd:P.depth=(2*(P.types.size+Made.depth)+1)+1:=rfl;rw[hd];simp only[liesAt,Bool.or_eq_true];left;rw[hd];simp[rowAt,sameLayout];omega
theorem Se(h:RelH m H B H0 gl (lkb st.hp) st.nx w){id v off:Nat}{cs:List AV}{s:List UInt8}(a5:lkb st.hp id=some (.cells v cs))(hs:(cs.drop off).take s.length=s.map UB):
  ∀(j:Nat) (x:UInt8),s[j]? =some x→w.cell? ⟨(m id).g,(m id).base+off+j,none⟩=some (.int .u8 x.toNat):=by
 intro j x hj;obtain⟨C,e,hC,ab,aa,a4⟩:=h.box id _ a5;have a9:=(cqd.1 hj).1;have hc:cs[off+j]? =some (UB x):=by
  have:(s.map UB)[j]? =some (UB x):=by simp[hj]
  grind
 obtain⟨u,a1,_,a3⟩:=a4 _ _ hc;have:=a3.int_inv
 grind [XP,Nat.add_assoc]
theorem Q50(h:RelH m H B H0 gl (lkb st.hp) st.nx w){a3 to:TypeId}(a8:Mw P a3=true)(a9:V6 P to=true){id ver off len:Nat}{cs:List AV}{u:Value}(hx:RV H (st.env m) (.bs id ver 1 off len) u)(a7:lkb st.hp id=some (.cells ver cs))(s:List UInt8)(a4:s.length=len)(hs:(cs.drop off).take len=s.map UB):
  (convert a3 to u).run P w= .ok (.string ⟨s.toArray⟩) w:=by
 subst a4;obtain⟨e,he,a6⟩:=Sk a8;obtain⟨ad,cap,rfl,_,_,_,a5⟩:=hx.bs_inv;obtain⟨rfl,_⟩:=a5 _ (YN a7);refine run_convert_bytes_back w a3 to e _ cap s he a6 (Ju a9) fun j hj=> ?_
 grind [Xj,Se,cqc]
theorem Q7r(h:RelH m H B H0 gl (lkb st.hp) st.nx w){a7 to:TypeId}{x:AV}{u:Value}{av:AV}(hx:RV H (st.env m) x u)(hk:Mb P a7 to x (lkb st.hp)=some av):
  ∃v,(convert a7 to u).run P w= .ok v w∧RV H (st.env m) av v:=by
 unfold Mb at hk;split at hk
 ·rename_i id ver off;split at hk
  ·rename_i v' cs a4;split at hk
   ·rename_i hc;rw[cqb] at hc;obtain rfl:=cqa hc.1;have ap:off<cs.length:=cqe hc.2;have ae:=hx;obtain⟨ad,rfl,_,hl⟩:=hx.ptr_inv;obtain rfl:=hl _ (YN a4);obtain⟨C,e,hC,ax,aw,ar⟩:=h.box id _ a4;have a6:w.shape? (m id).g=some (e,C.size):=by simp[World.shape?,hC]
    split at hk
    ·rename_i t ht;split at hk
     ·rename_i a3;cases hk;rw[cqb] at a3;obtain⟨i,hi,ak⟩:=szOf_ok (cqe a3.2);exact⟨_,Lib.run_to_unsafe w _ (HL ht) (PF a3.1) hi ak a6 (by grind),ae⟩
     ·cases hk
    ·rename_i ut _ ht;split at hk
     ·rename_i a3;cases hk;simp only[cqb] at a3;obtain⟨h1,h2,h3,h4,h5⟩:=a3;obtain rfl:=cqa h2;have h3:=cqa h3;have h4:0<P.cellsOf ut:=cqe h4;have h5:=cqe h5;rcases h.ty id _ _ a4 with h0 | ⟨hb,C2,fr,ab⟩
      ·omega
      ·rw[hC] at ab;cases ab;have he:v'%4096 - 1=ut:=by omega
       rw[he] at a6;obtain⟨j,hj⟩:∃j,P.info? ut=some j:=by
        unfold Program.cellsOf at h4;cases hh:P.info? ut with
        |none=>simp_all
        |some j=>simp_all
       refine⟨_,Lib.run_from_unsafe w _ (PF h1) (HL ht) hj a6 ?_,ae⟩;show liesAt P P.depth ut (C.size/P.cellsOf ut) ((m id).base+0) ut 1=true;rw[hb,Nat.add_zero]
       grind [Q71,Nat.le_div_iff_mul_le]
     ·cases hk
    ·cases hk
   ·cases hk
  ·cases hk
 ·rename_i id ver sz off len;split at hk
  ·rename_i v' cs a4;split at hk
   ·rename_i hc;simp only[cqb] at hc;obtain⟨h1,h2,h3,h4,h5⟩:=hc;obtain rfl:=cqa h1;obtain rfl:=cqa h2;have h3:=cqe h3;split at hk
    ·rename_i s hs;cases hk;have hs:=Rw hs;have hl:s.length=len:=by have:=congrArg List.length hs;grind
     exact⟨_,Q50 h h4 h5 hx a4 s hl hs,.imm _ _ (.str s)⟩
    ·cases hk
   ·cases hk
  ·cases hk
 ·split at hk
  ·rename_i hc;cases hk;rw[cqb] at hc;obtain⟨e,he,aj⟩:=Sk hc.1;rw[hx.nil_inv];refine⟨_,?_,.imm _ _ (.str [])⟩;rw[run_convert_bytes_string w a7 to e none 0 0 he aj (Ju hc.2)];rfl
  ·cases hk
 ·cases hk
theorem Q81{x:AV}{u:Value}{av:AV}{ts:Array TypeId}{ty:TypeId}{E:Env}(hx:RV H E x u)(hk:T3 x=some av):∃v,(Builtin.unsafeSliceData_ ts ty #[u]).run P w= .ok v w∧RV H E av v:=by
 unfold T3 at hk;split at hk
 ·cases hk;rw[hx.nil_inv];exact⟨_,Lib.run_unsafeSliceData_nil w ts ty 0 0,.imm _ _ .nilp⟩
 ·rename_i id ver sz off len;split at hk
  ·rename_i hl;cases hk;have hl:0<len:=cqe hl;obtain⟨ad,cap,rfl,a4,h1,h2,a3⟩:=hx.bs_inv;exact⟨_,Lib.run_unsafeSliceData_row w ts ty ad len cap (by omega),.ptr _ _ _ _ a4 fun l a5=>(a3 l a5).1⟩
  ·cases hk
 ·cases hk
theorem Q7m(h:RelS m H B H0 gl rest st a.tmps w)(hd:Z2 dst st.n=true){pt it ty e:TypeId}(ag:P.underlying pt=some (.pointer e))(aa:P.cellsOf e=1){id ver:Nat}{cs:List AV}{u:Value}(hx:RV H (st.env m) (.ptr id ver 0) u)
  (a3:lkb st.hp id=some (.cells ver cs)) (an:ver%4096=e+1) (s:List UInt8) (h0:s≠[]) (a7:s.length≤9223372036854775807) (hs:cs.take s.length=s.map UB):
  OpOk P B H0 gl rest a w dst (st.eff dst (.str s,some (id,.dead))) (do pure (.value (← Builtin.unsafeString_ #[pt,it] ty #[u,.int .i64 s.length]))):=by
 obtain⟨ad,rfl,_,hl⟩:=hx.ptr_inv;obtain rfl:=hl _ (YN a3);obtain⟨C,e',hC,az,ax,ar⟩:=h.heap.box id _ a3;rcases h.heap.ty id _ _ a3 with h1 | ⟨hb,C2,fr,a5⟩
 ·omega
 ·rw[hC] at a5;cases a5;have he:ver%4096 - 1=e:=by omega
  rw[he] at hC;have ak:s.length≤cs.length:=by have:=congrArg List.length hs;grind
  have aq:=Se (off:=0) h.heap a3 (by simpa using hs)
  have am:=Lib.run_unsafeString_row (P:=P) w pt it ty e ag aa (m id).g C.size (by simp[World.shape?,hC]) s h0 (by omega) a7 (fun j x hj=>by
   simp_all [Xj,Nat.zero_add])
  have a4:=h.heap.sep id _ a3;have a6:id<st.nx:=by
   rcases Nat.lt_or_ge id st.nx with ae | ab
   ·exact ae
   ·have:=h.heap.fresh id ab;simp_all
  have hE:=Q8s (m:=m) (hp:=lkb st.hp) (l:=m id) a3;have ah:s.length≠0:=by simp_all
  have hh:=h.heap.one (id:=id) (b:=.dead) (l:=m id) (w':=w.freeze ⟨(m id).g,0,none⟩ s.length) (fun k _ hk=>by
    unfold World.freeze
    grind) (by unfold World.freeze;simp_all) hE ⟨a4.1,by unfold World.freeze;simp_all,a4.2.2⟩ (fun ai b' af a9 hr e=>af (h.heap.injR ai id b' _ a9 a3 hr trivial e)) a6 (Nat.le_refl _) trivial (fun _ _ e=>by cases e)
  have hm:updF m id (m id)=m:=by grind [updF]
  refine OpOk.heap h hd (v:=.string ⟨s.toArray⟩) ?_ (.inl rfl) (by
   unfold World.freeze;rw[if_neg ah];exact⟨rfl,rfl,rfl,by simp,fun k hk=>by
    grind,fun k C0 e0 ao hk=>by
    grind⟩) hh hE (.imm _ _ (.str s))
  simp_all
theorem Qb3(h:RelS m H B H0 gl rest st a.tmps w)(hd:Z2 dst st.n=true){pt it ty:TypeId}{p n:AV}{u v:Value}{r:AV×Option (Nat×Box)}(hp:RV H (st.env m) p u)(hn:RV H (st.env m) n v)(hk:LQ P pt p n (lkb st.hp)=some r):
  OpOk P B H0 gl rest a w dst (st.eff dst r) (do pure (.value (← Builtin.unsafeString_ #[pt,it] ty #[u,v]))):=by
 unfold LQ at hk;split at hk
 ·cases hk;rw[hp.nilp_inv,hn.int_inv];refine OpOk.val h hd (v:=.string .empty) (by rw[cqv,Lib.run_unsafeString_none (P:=P) w pt it ty none];rfl) (.imm _ _ (.str []))
 ·rename_i id ver off n;split at hk
  ·rename_i v' cs a5;split at hk
   ·rename_i e ht;split at hk
    ·rename_i hc;simp only[cqb] at hc;obtain⟨h1,h2,h3,h4,h5,h6,h7⟩:=hc;obtain rfl:=cqa h1;obtain rfl:=cqa h2;have h3:=cqa h3;have h4:=cqa h4;have h5:0<n:=by simp_all
     have h6:n≤9223372036854775807:=by simp_all
     have h7:=cqe h7;split at hk
     ·rename_i s hs;cases hk;have hs:=Rw hs;have hl:s.length=n.toNat:=by have:=congrArg List.length hs;grind
      have:=hn.int_inv;subst this;have a6:n=(s.length:Int):=by omega
      rw[a6];rw[← hl] at hs;exact Q7m h hd (HL ht) h4 hp a5 h3 s (by grind) (by omega) hs
     ·cases hk
    ·cases hk
   ·cases hk
  ·cases hk
 ·cases hk
theorem str_app(s:List UInt8){t tx ty e:TypeId}{i:TypeInfo}{z:Value}(ht:P.underlying t=some (.slice e))(hu:P.underlying tx=some .string)(hi:P.info? e=some i)(hz:i.zero=some z)(a7:i.size=1)(h0:s.length≠0):
  AppSrc P w t tx ty e i z (.string ⟨s.toArray⟩) s.length (s.map fun b=>.int .u8 b.toNat):=by
 have a8:(⟨s.toArray⟩:ByteArray).size=s.length:=by simp[ByteArray.size]
 have af:Lib.strCells ⟨s.toArray⟩=s.map fun b=>Value.int .u8 b.toNat:=by simp[Lib.strCells]
 refine⟨fun h1 h2=> ?_,fun b a3 a5 a9 h1 h2 h3 h4 h5=> ?_,fun g o a3 a5 ab e' hg a6 ak=> ?_⟩
 ·have:=run_append_nil_string (P:=P) w t tx ty e i z ht hu hi hz ⟨s.toArray⟩ (by omega) (by omega) (by grind)
  simp_all
 ·have:=Lib.run_append_grow_string (P:=P) w t tx ty e i z ht hu hi hz b a3 a5 a9 h1 h2 ⟨s.toArray⟩ (by omega) (by omega) (by simp_all)
  simp_all
 ·have hf:=Lib.run_firstCells_string (P:=P) w 1 ⟨s.toArray⟩;have a4:=run_storeCells_at P g (o+a3*1) e' (Lib.strCells ⟨s.toArray⟩) 0 ab w hg (by simp_all) (Lib.strCells_oneCell _)
  simp only[Nat.add_zero] at a4;rw[a8] at hf;rw[af] at hf a4;rw[a7];simp only[Nat.mul_one] at a4 ⊢;simp[Builtin.append_,run_underlying ht,run_underlying hu,Go.sizeOf,typeInfo,hi,a7,Builtin.lenOf,a8,a6,hf,Xj,a4]
def MR(P:Program)(bid:Nat)(t t':TypeId)(s x:AV)(hp:Hp):Option (AV×Option (Nat×Box)):=
 match x with
 | .str b=>match elG P t with
  |some (sz,by_,_)=>match V6 P t'&&Nat.beq sz 1 with
   |true=>match b with
    | []=>none
    |_::_=>UF bid (elT P t) (tagE P (elT P t)) sz by_ b.length (b.map UB) s hp
   |false=>none
  |none=>none
 |_=>none
theorem Qad(h:RelS m H B H0 gl rest st a.tmps w)(hd:Z2 dst st.n=true){bid:Nat}(hb:lkb st.hp bid=none)(hn:bid<st.nx){t t' ty:TypeId}{s x:AV}{u v:Value}{r:AV×Option (Nat×Box)}
  (hs:RV H (st.env m) s u) (hx:RV H (st.env m) x v) (hk:MR P bid t t' s x (lkb st.hp)=some r):OpOk P B H0 gl rest a w dst (st.eff dst r) (do pure (.value (← Builtin.append_ #[t,t'] ty #[u,v]))):=by
 unfold MR at hk;split at hk
 ·rename_i b;split at hk
  ·rename_i sz af zs ht;obtain⟨e,i,z,a8,hi,hz,a9,a4,a3,a5,ai,rfl⟩:=Dh ht;subst a5;split at hk
   ·rename_i hc;rw[cqb] at hc;obtain rfl:=cqa hc.2;have a7:elT P t=e:=by simp_all [elT]
    rw[a7] at hk;rw[hx.str_inv];split at hk;·cases hk
    ·rename_i c0 b0;have h0:¬(c0::b0).length=0:=by simp
     refine Q1a h hd hb hn (str_app (c0::b0) a8 (Ju hc.1) hi hz a3 h0) a9 a4 a3 ⟨by simp,fun j c hj=> ?_⟩ (by simp) (by simp_all) h0 (PZ P e) hs hk
     rw[cqs,Option.map_eq_some_iff] at hj;obtain⟨x,am,rfl⟩:=hj;exact⟨.int .u8 x.toNat,by grind,rfl,.imm _ _ (.int _ _)⟩
   ·cases hk
  ·cases hk
 ·cases hk
end
def KF(sz:Nat):Nat→List AV→List AV
 |0,_=>[]
 |n+1,ds=>aggE (ds.take sz)::KF sz n (ds.drop sz)
theorem MO{sz:Nat}:∀(n:Nat) (ds:List AV),ds.length=n*sz→(KF sz n ds).flatMap AV.cells=ds
 |0,ds,h=>by
  have:ds=[]:=cqn (by omega)
  subst this;rfl
 |n+1,ds,h=>by
  rw[Nat.add_mul] at h;simp only[KF,List.flatMap_cons,E8];rw[MO n (ds.drop sz) (by simp;omega),List.take_append_drop]
theorem Hh{sz:Nat}:∀(n:Nat) (ds:List AV),ds.length=n*sz→∀x∈KF sz n ds,x.cells.length=sz
 |0,_,_,x,hx=>by grind [KF]
 |n+1,ds,h,x,hx=>by
  rw[Nat.add_mul] at h;simp only[KF,List.mem_cons] at hx;rcases hx with rfl | hx
  ·simp_all [E8,List.length_take]
  ·exact Hh n (ds.drop sz) (by simp;omega) x hx
theorem Ed{sz:Nat}:∀(n:Nat) (ds:List AV),(KF sz n ds).length=n
 |0,_=>rfl
 |n+1,ds=>by simp[KF,Ed n]
def xels(sz:Nat)(x:AV)(hp:Hp):Option (List AV):=
 match x with
 | .sl z ys=>if Nat.beq z sz then some ys else none
 | .bs id ver z off len=>match hp id with
  |some (.cells v cs)=>if Nat.beq z sz&& (Nat.beq v ver&& (Nat.ble (off+len*sz) cs.length&& ((cs.drop off).take (len*sz)).all immA)) then some (KF sz len ((cs.drop off).take (len*sz))) else none
  |_=>none
 | .ow id ver z len=>match hp id with
  |some (.own v z' xs)=>if Nat.beq z sz&& (Nat.beq z' sz&& (Nat.beq v ver&&Nat.ble len xs.length)) then some (xs.take len) else none
  |_=>none
 | .nil=>some []
 | .emp=>some []
 |_=>none
def CJ(P:Program)(t t':TypeId)(s x:AV)(hp:Hp):Option (AV×Option (Nat×Box)):=
 match s with
 | .ow id ver sz len=>match elG P t with
  |some (z,by_,_)=>match Nat.beq z sz&&Nat.beq t' t with
   |true=>match hp id with
    |some (.own v z' xs)=>match Nat.beq z' sz&& (Nat.beq v ver&&Nat.ble len xs.length) with
     |true=>match xels sz x hp with
      |some ys=>if(len+ys.length)*by_≤140737488355328∧len+ys.length≤9223372036854775807 then some (.ow id (ver+4096) sz (len+ys.length),some (id,.own (ver+4096) sz (xs.take len++ys))) else none
      |none=>none
     |false=>none
    |_=>none
   |false=>none
  |none=>none
 |_=>none
section
variable {P : Program} {m : Nat → Lc} {H : HV} {B : Nat → Prop} {H0 : HV} {gl : Nat → AV} {rest : List (AV × Value)} {st : St} {a : Act} {w : World} {dst : Option Nat}
theorem RQ{E:Env}{ver sz:Nat}{xs:List AV}{l:Lc}(h:Yq H E (.own ver sz xs) l w)(hs:0<l.size):DP H (xs.flatMap AV.cells) l w:=by
 obtain⟨_,_,h⟩:=h
 grind
theorem PA{cs:List AV}{l:Lc}{C:Array Value}(a3:∀j c,cs[j]? =some c→∃v,C[l.base+j]? =some v∧v.oneCell'=true∧RelI H c v)(n:Nat)(hn:n≤cs.length):
  Z9 (RelI H) (cs.take n) ((List.range n).map fun j=>(C[l.base+j]?).getD Go.undef):=by
 refine⟨by simp;omega,fun j c hj=> ?_⟩
 grind
theorem xels_ok(h:RelH m H B H0 gl (lkb st.hp) st.nx w){sz:Nat}{x:AV}{u:Value}{ys:List AV}(hx:RV H (st.env m) x u)(hk:xels sz x (lkb st.hp)=some ys)(a8:0<sz):
  ∃ad c vs,u= .slice ad ys.length c∧Z9 (RelI H) (ys.flatMap AV.cells) vs∧(∀y∈ys,y.cells.length=sz)∧(ys.length≠0→∃a,ad=some a∧∀(j:Nat) (v:Value),vs[j]? =some v→w.cell? (a.add j)=some v):=by
 unfold xels at hk;split at hk
 ·rename_i z _;split at hk
  ·rename_i hz;obtain rfl:=cqa hz;cases hk;obtain⟨ad,c,vs,h1,h2,_,h4⟩:=TH (n:=ys.length) (ds:=ys.flatMap AV.cells) h hx (by simp[xsrc]) a8
   have a4:∀y∈ys,y.cells.length=z:=fun y hy=>by
    obtain⟨j,hj⟩:=List.getElem?_of_mem hy;cases hx.sl_inv with
    |sl0=>simp at hy
    |sl _ _ b o cap val h0 h1 h2 h3 h4 h5=>grind
   refine⟨ad,c,vs,h1,⟨h2.1,fun j c' hj=> ?_⟩,a4,h4⟩
   obtain⟨u',a1,a2,a3⟩:=h2.2 j c' hj;have ah:=hx.sl_inv;rw[h1] at ah;by_cases hy0:ys=[]
   ·simp_all
   ·obtain⟨b0,rfl,ab⟩:=h4 (by simp_all)
    generalize hv:Value.slice (some b0) ys.length c=v at ah;cases ah with
    |sl0=>simp_all
    |sl _ _ b o cap val h0 hl h2' h3 h4' h5=>
     cases hv;have ag:=(cqd.1 hj).1;rw[Kc a4] at ag;have hd:j/z<ys.length:=Nat.div_lt_of_lt_mul (by grind)
     have bp:j%z<z:=Nat.mod_lt _ a8;have aj:ys[j/z]? =some ys[j/z]:=cqc hd;have br:=a4 _ (List.getElem_mem hd);have ae:ys[j/z].cells[j%z]? =some (ys[j/z].cells[j%z]'(by omega)):=cqc (by omega)
     have e:j/z*z+j%z=j:=by grind [Nat.mul_comm,Nat.div_add_mod]
     have hf:=Nc a4 _ _ _ _ aj ae;rw[e,hj] at hf;cases hf;have b1:=(h4' _ _ _ _ aj ae).1;have b2:=h5 _ _ _ _ aj ae;have b3:=ab j u' a1;rw[Xj] at b3;have b4:=h.sat _ _ _ b1
     grind
  ·cases hk
 ·rename_i id ver z off len;split at hk
  ·rename_i v cs af;split at hk
   ·rename_i hc;simp only[cqb] at hc;obtain rfl:=cqa hc.1;obtain rfl:=cqa hc.2.1;have ap:=cqe hc.2.2.1;have ao:=hc.2.2.2;cases hk;obtain⟨ad,c,vs,h1,h2,h3,h4⟩:=TH (n:=len) (ds:=(cs.drop off).take (len*z)) h hx (by simp_all [xsrc]) a8
    refine⟨ad,c,vs,by grind [Ed],by
     rw[MO _ _ h3];exact⟨h2.1,fun j c' hj=>let⟨u',a1,a2,a3⟩:=h2.2 j c' hj;⟨u',a1,a2,Tg a3 (cqt.1 ao c' (cqr hj))⟩⟩,Hh _ _ h3,by grind [Ed]⟩
   ·cases hk
  ·cases hk
 ·rename_i id ver z len;split at hk
  ·rename_i v z' xs af;split at hk
   ·rename_i hc;simp only[cqb] at hc;obtain rfl:=cqa hc.1;obtain rfl:=cqa hc.2.1;obtain rfl:=cqa hc.2.2.1;have ap:=cqe hc.2.2.2;cases hk;obtain⟨oa,cap,rfl,bk,bo,bm,bq,aq⟩:=hx.ow_inv;have aa:=h.box id _ af;have a4:=aa.2.1;have b7:(xs.take len).length=len:=by simp;omega
    have an:∀y∈xs.take len,y.cells.length=z':=fun y hy=>a4 y (List.mem_of_mem_take hy)
    rw[b7];rcases aq _ (Cc af) with⟨ar,bl⟩ | ⟨ar,b5,bc⟩
    ·have:len=0:=by omega
     subst this;exact⟨oa,cap,[],rfl,⟨rfl,fun j c hj=>by simp at hj⟩,fun y hy=>by simp at hy,fun a6=>absurd rfl a6⟩
    ·obtain⟨C,e,hC,hs,be,b6⟩:=RQ aa ar;have bn:=Kc a4;have hm:len*z'≤xs.length*z':=cqp _ ap;refine⟨oa,cap,_,rfl,by rw[L8 len a4];exact PA b6 (len*z') (by omega),an,fun a6=>⟨_,b5,fun j v hv=> ?_⟩⟩
     have ag:j<len*z':=by grind
     simp[ag] at hv
     grind [Xj,XP,AV.cells,cqc]
   ·cases hk
  ·cases hk
 ·cases hk;rw[hx.nil_inv];exact⟨_,_,[],rfl,⟨rfl,fun j c hj=>by simp at hj⟩,fun y hy=>by simp at hy,fun a6=>absurd rfl a6⟩
 ·cases hk;obtain⟨a,ha⟩:=hx.emp_inv;rw[ha];exact⟨_,_,[],rfl,⟨rfl,fun j c hj=>by simp at hj⟩,fun y hy=>by simp at hy,fun a6=>absurd rfl a6⟩
 ·cases hk
theorem idn(h:RelS m H B H0 gl rest st a.tmps w){id:Nat}{b:Box}(a5:lkb st.hp id=some b):id<st.nx:=by
 rcases Nat.lt_or_ge id st.nx with a4 | a3
 ·exact a4
 ·have:=h.heap.fresh id a3;simp_all
theorem Vg(m:Nat→Lc)(id:Nat):updF m id (m id)=m:=by funext k;simp only[updF];split<;>simp[*]
theorem Pi(h:RelS m H B H0 gl rest st a.tmps w)(hd:Z2 dst st.n=true){id ver sz n cap:Nat}{xs ys:List AV}(a3:lkb st.hp id=some (.own ver sz xs))(a8:0<sz)(a5:∀y∈ys,y.cells.length=sz){s:Sem Next}{w1:World}(aa:Below w.heap.size w w1)(ar:w1.heap.size=w.heap.size)
  (C:Array Value) (e:TypeId) (hC:Z9 (RelI H) (ys.flatMap AV.cells) (C.toList.take (ys.length*sz))) (aj:cap*sz≤C.size) (hn:n=ys.length) (a6:n≤cap) (ab:cap≤maxLen) (ao:n≠0)
  (hs:s.run P w= .ok (.value (.slice (some ⟨w.heap.size,0,none⟩) n cap)) (w1.alloc (.cells C e))):OpOk P B H0 gl rest a w dst (st.eff dst (.ow id (ver+4096) sz n,some (id,.own (ver+4096) sz ys))) s:=by
 have h1:RelS m H B H0 gl rest st a.tmps w1:=⟨h.heap.ext aa,h.size,h.slot,h.rest⟩;have hE:=L6 (m:=m) (hp:=lkb st.hp) (b':=.own (ver+4096) sz ys) (l:=⟨w1.heap.size,0,C.size⟩) (show ver<ver+4096 by omega) a3 rfl rfl
 have a7:∀o,H w1.heap.size o=none:=fun o=>by
  cases hh:H w1.heap.size o with
  |none=>rfl
  |some v=>have:=Jh h1.heap.sat hh;omega
 have ak:=Kc a5;have ag:1*sz≤cap*sz:=cqp _ (by omega)
 have a9:0<C.size:=by omega
 have ah:n*sz≤cap*sz:=cqp _ a6;have hh:RelH (updF m id ⟨w1.heap.size,0,C.size⟩) H B H0 gl (updF (lkb st.hp) id (some (.own (ver+4096) sz ys))) st.nx (w1.alloc (.cells C e)):=by
  refine h1.heap.one (l:=⟨w1.heap.size,0,C.size⟩) (fun k hk _=>Jz w1 _ k hk) (by simp_all) hE ⟨h1.heap.notB,by simp_all,a7⟩ (fun ae b' _ a3 hr=>by
   have:=(h1.heap.sepR ae b' a3 hr).2.1;grind) (idn h a3) (Nat.le_refl _) ?_ (fun v cs e=>by cases e) a9
  refine⟨a8,a5,.inr ⟨a9,C,e,Xn w1 _,rfl,?_,fun j c hj=> ?_⟩⟩
  ·grind
  ·obtain⟨u,h1,h2,h3⟩:=hC.2 j c hj
   grind
 refine OpOk.heap h hd hs (.inl rfl) ((Qa.of aa h.heap.low).trans (Wx h1 _)) hh hE (.ow id (ver+4096) sz n _ cap ⟨_,Qn _ _ _,fun v hv=>by cases hv;omega⟩ a6 ab (fun e=>by cases e) fun l hl=>.inr ?_)
 have an:l=⟨w1.heap.size,0,C.size⟩:=by
  simp_all [Q6,Qn,Box.ver?,if_true,cqf]
 simp_all
theorem A1(h:RelS m H B H0 gl rest st a.tmps w)(hd:Z2 dst st.n=true){id ver sz n:Nat}{xs ys:List AV}(a4:lkb st.hp id=some (.own ver sz xs)){s:Sem Next}{oa:Option Addr}{cap:Nat}{w':World}
  (a3:∀k,k<w.heap.size→(Real (.own (ver+4096) sz ys) (m id)→k≠(m id).g)→w'.heap[k]? =w.heap[k]?) (ai:w.heap.size=w'.heap.size) (hw:w'.os=w.os∧w'.tape=w.tape∧w'.output=w.output) (a5:∀(k:Nat) (C:Array Value) (e:TypeId) (fr:Nat×Nat),w.heap[k]? =some (Obj.cells C e fr)→∃(C':Array Value) (a8:Nat×Nat),w'.heap[k]? =some (Obj.cells C' e a8)∧C'.size=C.size)
  (a6:∀E',Env.le (st.env m) E'→Yq H E' (.own (ver+4096) sz ys) (m id) w') (ae:n≤cap) (ad:cap≤maxLen) (ag:oa=none→cap=0) (am:((m id).size=0∧cap=0)∨(0< (m id).size∧oa=some ⟨(m id).g,(m id).base,none⟩∧(m id).base+cap*sz≤(m id).size))
  (hs:s.run P w= .ok (.value (.slice oa n cap)) w'):OpOk P B H0 gl rest a w dst (st.eff dst (.ow id (ver+4096) sz n,some (id,.own (ver+4096) sz ys))) s:=by
 have hE:=L6 (m:=m) (hp:=lkb st.hp) (b':=.own (ver+4096) sz ys) (l:=m id) (show ver<ver+4096 by omega) a4 rfl rfl
 have an:Real (.own (ver+4096) sz ys) (m id)→_:=fun hr=>h.heap.sepR id _ a4 hr
 have hh:=h.heap.oneR (id:=id) (b:=.own (ver+4096) sz ys) (l:=m id) (w':=w') a3 (by omega) hE (fun hr=>by simp_all)
  (fun ak b' af aa hr ah e=>af (h.heap.injR ak id b' _ aa a4 hr ah e)) (idn h a4) (Nat.le_refl _) (a6 _ hE) (fun ver cs e=>by cases e)
 have ab:Qa B w w':=⟨hw.1,hw.2.1,hw.2.2,by omega,fun k hk=>a3 k (h.heap.low k hk) fun hr e=>by simp_all,a5⟩
 refine OpOk.heap h hd hs (.inl rfl) ab hh hE (.ow id (ver+4096) sz n oa cap ⟨_,Qn _ _ _,fun v hv=>by cases hv;omega⟩ ae ad ag fun l hl=> ?_)
 have ap:l=m id:=by
  simp_all [Q6,Qn,Box.ver?,if_true,cqf]
 simp_all
theorem Q18(h:RelS m H B H0 gl rest st a.tmps w)(hd:Z2 dst st.n=true){t t' ty:TypeId}{s x:AV}{u v:Value}{r:AV×Option (Nat×Box)}
  (hs:RV H (st.env m) s u) (hx:RV H (st.env m) x v) (hk:CJ P t t' s x (lkb st.hp)=some r):OpOk P B H0 gl rest a w dst (st.eff dst r) (do pure (.value (← Builtin.append_ #[t,t'] ty #[u,v]))):=by
 unfold CJ at hk;split at hk
 ·rename_i id ver sz len;split at hk
  ·rename_i z0 c2 zs ht;obtain⟨e,i,z,ap,hi,hz,bc,a9,a4,bn,c6,rfl⟩:=Dh ht;subst bn;split at hk
   ·rename_i ag;rw[cqb] at ag;obtain rfl:=cqa ag.1;obtain rfl:=cqa ag.2;split at hk
    ·rename_i v0 z' xs ab;split at hk
     ·rename_i hc;simp only[cqb] at hc;obtain rfl:=cqa hc.1;obtain rfl:=cqa hc.2.1;have br:=cqe hc.2.2;split at hk
      ·rename_i ys bw;split at hk
       ·rename_i b0;cases hk;obtain⟨h2,h3⟩:=b0;obtain⟨ad,c,vs,rfl,hr,aq,ay⟩:=xels_ok h.heap hx bw a9;obtain⟨oa,cap,rfl,c5,bq,b6,ba,aw⟩:=hs.ow_inv;have ae:=h.heap.box id _ ab;have az:=ae.2.1;have af:∀y∈xs.take len++ys,y.cells.length=z':=fun y hy=>by
         grind
        have ar:=L8 len az;have bo:=Kc az;have b8:=Kc aq;have c0:len*z'≤xs.length*z':=cqp _ br;have c8:(xs.take len).length=len:=by simp;omega
        by_cases hn0:ys.length=0
        ·
         have bv:ys=[]:=cqn hn0;subst bv;rw[List.append_nil,List.length_nil,Nat.add_zero];refine A1 h hd ab (w':=w) (fun _ _ _=>rfl) rfl ⟨rfl,rfl,rfl⟩ (fun _ C _ fr h=>⟨C,fr,h,rfl⟩) (fun E' hE=> ?_) bq b6 ba (aw _ (Cc ab)) (by simp_all [IU])
         refine⟨a9,fun y hy=>az y (List.mem_of_mem_take hy),?_⟩
         rcases ae.2.2 with⟨h0,h1⟩ | ⟨h0,C,e',hC,b3,b9,an⟩
         ·simp_all
         ·refine .inr ⟨h0,C,e',hC,b3,by grind,fun j c hj=> ?_⟩
          simp_all [List.getElem?_take]
        ·obtain⟨a0,rfl,a5⟩:=ay hn0;have a6:vs.length=ys.length*i.size:=by rw[a4,← b8,hr.1]
         rcases aw _ (Cc ab) with⟨ak,ag⟩ | ⟨ak,bm,b7⟩
         ·
          have bp:len=0:=by omega
          subst bp;subst ag;have bu:xs=[]:=by
           rcases ae.2.2 with⟨_,h1⟩ | ⟨h0,_⟩
           ·exact h1
           ·omega
          subst bu;simp only[List.take_nil,List.nil_append,Nat.zero_add] at*;have b1:=grownCap_ge w ys.length 0 e;have aj:=grownCap_le_maxLen w ys.length 0 e (by simp only[maxLen];omega)
          have aa:(Builtin.append_ #[t',t'] ty #[.slice oa 0 0,.slice (some a0) ys.length c]).run P w=
            .ok (.slice (some ⟨w.heap.size,0,none⟩) ys.length (grownCap w ys.length 0 e)) (w.drew.alloc (.cells (vs.toArray++Builtin.zeroCells z.cells (grownCap w ys.length 0 e - ys.length)) e)):=by
           cases oa with
           |none=>exact run_append_nil w t' ty e i z ap hi hz a0 ys.length c vs a6 a5 (by omega) (by omega) (by omega)
           |some b=>
            have:=run_append_grow w t' ty e i z ap hi hz b 0 0 [] (by simp) (by simp) a0 ys.length c vs a6 a5 (by omega) (by simp;omega) (growslice_fits (by omega) (by simpa using h2))
            simpa using this
          refine Pi h hd ab a9 aq (w1:=w.drew) ((Below.refl _ _).drew) rfl (vs.toArray++Builtin.zeroCells z.cells (grownCap w ys.length 0 e - ys.length)) e ?_ ?_ rfl b1 aj (by omega) (by rw[cqv,aa];rfl)
          ·simp only[Array.toList_append];have am:vs.length=ys.length*z':=by rw[a6,a4]
           rw[List.take_append_of_le_length (by simp[am]),List.take_of_length_le (by simp[am])]
           exact hr
          ·rw[Array.size_append,CH,List.size_toArray,a6,bc,a4,← Nat.add_mul];exact cqp _ (by omega)
         ·subst bm;obtain⟨C,e',hC,b3,b9,an⟩:=RQ ae ak;have hold:=PA an (len*z') (by omega)
          rw[← ar] at hold;have b5:=hold.append hr;rw[← List.flatMap_append] at b5;have a8:(xs.take len++ys).length=len+ys.length:=by simp;omega
          by_cases hroom:len+ys.length≤cap
          ·have ao:(len+ys.length)*z'≤cap*z':=cqp _ hroom;rw[Nat.add_mul] at ao;have ah:(m id).base+len*i.size+vs.length≤C.size:=by rw[a6,a4,b3];omega
           have aa:=Im t' ty e e' i ap hi (m id).g (m id).base len cap C hC a0 ys.length c vs a6 a5 hr.mem hroom ah;refine A1 h hd ab (w':=w.setRow (m id).g (C.toList.take ((m id).base+len*i.size)++vs++C.toList.drop ((m id).base+len*i.size+vs.length)).toArray) (fun k _ hk=>setRow_other w _ k _ (hk ak)) (by simp[World.setRow]) ⟨rfl,rfl,rfl⟩ (fun k C0 e0 bk hk=>by
            by_cases hkg:k=(m id).g
            ·subst hkg;rw[hC] at hk;cases hk;exact⟨_,_,setRow_heap w _ C _ _ _ hC,by simp;omega⟩
            ·exact⟨C0,bk,by rw[setRow_other w _ k _ hkg];exact hk,rfl⟩) (fun E' hE=> ?_) hroom b6 ba (.inr ⟨ak,rfl,b7⟩) (by rw[cqv,aa];rfl)
           refine⟨a9,af,.inr ⟨ak,_,e',setRow_heap w _ C _ e' _ hC,?_,?_,fun j c hj=> ?_⟩⟩
           ·simp;omega
           ·rw[Kc af,a8,Nat.add_mul];simp;omega
           ·have b2:=(cqd.1 hj).1;rw[Kc af,a8,Nat.add_mul] at b2;rw[List.flatMap_append,ar,List.getElem?_append] at hj;simp only[List.length_take,bo] at hj;have mn:min (len*z') (xs.length*z')=len*z':=by omega
            rw[mn] at hj;simp only[cqi,List.append_assoc,List.getElem?_append,List.length_take,List.getElem?_take,List.getElem?_drop,Array.length_toList,Array.getElem?_toList];rw[a4] at ah ⊢;have m2:min ((m id).base+len*z') C.size=(m id).base+len*z':=by omega
            rw[m2];split at hj
            ·rename_i au;rw[List.getElem?_take,if_pos au] at hj;rw[if_pos (by omega),if_pos (by omega)]
             obtain⟨v,a1,a2,a3⟩:=an j c hj;exact⟨v,a1,a2,a3⟩
            ·rename_i au;rw[if_neg (by omega),show(m id).base+j - ((m id).base+len*z')=j - len*z' by omega,if_pos (by rw[a6,a4];omega)]
             obtain⟨v,a1,a2,a3⟩:=hr.2 _ c hj;exact⟨v,a1,a2,a3⟩
          ·have b1:=grownCap_ge w (len+ys.length) cap e;have aj:=grownCap_le_maxLen w (len+ys.length) cap e (by simp only[maxLen];omega)
           have hol:((List.range (len*z')).map fun j=>(C[(m id).base+j]?).getD Go.undef).length=len*i.size:=by rw[a4];simp
           have aa:=run_append_grow w t' ty e i z ap hi hz ⟨(m id).g,(m id).base,none⟩ len cap ((List.range (len*z')).map fun j=>(C[(m id).base+j]?).getD Go.undef) hol (fun j u hu=>by
            have b2:j<len*z':=by have:=(cqd.1 hu).1;simpa using this
            simp[b2] at hu;rw[Xj,XP _ _ _ _ _ _ hC];have hj:(xs.flatMap AV.cells)[j]? =some ((xs.flatMap AV.cells)[j]'(by omega)):=cqc (by omega)
            obtain⟨u',a1,a2,a3⟩:=an _ _ hj;rw[a1] at hu ⊢;simpa using hu) a0 ys.length c vs a6 a5 (by omega) (by omega) (growslice_fits (by omega) (by omega))
           refine Pi h hd ab a9 af (w1:=w.drew) ((Below.refl _ _).drew) rfl _ e ?_ ?_ a8.symm b1 aj (by omega) (by rw[cqv,aa];rfl)
           ·simp only[Array.toList_append];have am:vs.length=ys.length*z':=by rw[a6,a4]
            generalize hO:((List.range (len*z')).map fun j=>(C[(m id).base+j]?).getD Go.undef)=O at*
            have hL:(O++vs).length=len*z'+ys.length*z':=by rw[List.length_append,hol,a6,a4]
            rw[a8,Nat.add_mul,List.take_append_of_le_length (l₁:=O++vs) (by rw[hL];exact Nat.le_refl _),List.take_of_length_le (l:=O++vs) (by rw[hL];exact Nat.le_refl _)]
            exact b5
           ·rw[Array.size_append,Array.size_append,CH,List.size_toArray,List.size_toArray,a6,hol,bc,a4,← Nat.add_mul,← Nat.add_mul];exact cqp _ (by omega)
       ·cases hk
      ·cases hk
     ·cases hk
    ·cases hk
   ·cases hk
  ·cases hk
 ·cases hk
end
open Go.MapKept
def JY(P:Program)(t:TypeId):Option TypeId:=
 match P.underlying t with
 |some (.map k e)=>bif V6 P k then some e else none
 |_=>none
theorem IV{P:Program}{t e:TypeId}(h:JY P t=some e):∃k,P.underlying t=some (.map k e)∧P.underlying k=some .string:=by
 unfold JY at h;split at h
 ·rename_i k e' hu;cases hs:V6 P k with
  |true=>rw[hs] at h;cases h;exact⟨k,hu,Ju hs⟩
  |false=>rw[hs] at h;cases h
 ·cases h
def DE(k:List UInt8):List (List UInt8×AV)→Nat→Option (Nat×AV)
 | [],_=>none
 |p::r,i=>bif p.1==k then some (i,p.2) else DE k r (i+1)
def VX(k:List UInt8):List (List UInt8×Int)→Option Int
 | []=>none
 |p::r=>bif p.1==k then some p.2 else VX k r
def UC(k:List UInt8)(n:Int):List (List UInt8×Int)→List (List UInt8×Int)
 | []=>[(k,n)]
 |p::r=>bif p.1==k then(k,n)::r else p::UC k n r
def Ej(k:List UInt8):List (List UInt8×Int)→List (List UInt8×Int)
 | []=>[]
 |p::r=>bif p.1==k then r else p::Ej k r
theorem LJ(k:List UInt8):∀(es:List (List UInt8×Int)) (i:Nat),match VX k es with
  |some n=>∃j,DE k (encM es) i=some (i+j,.int .i64 n)∧(encM es).set j (k,.int .i64 n)=encM es∧(∀n',(encM es).set j (k,.int .i64 n')=encM (UC k n' es))∧(encM es).eraseIdx j=encM (Ej k es)
  |none=>DE k (encM es) i=none∧(∀n',encM es++[(k,.int .i64 n')]=encM (UC k n' es))∧Ej k es=es
 | [],i=>⟨rfl,fun _=>rfl,rfl⟩
 |p::r,i=>by
  have ih:=LJ k r (i+1);simp only[VX,UC,Ej];cases hp:(p.1==k) with
  |true=>
   have:p.1=k:=by simpa using hp
   simp only[cond_true];refine⟨0,?_,?_,fun n'=> ?_,?_⟩
   ·simp[encM,DE,hp]
   ·subst this;rfl
   ·rfl
   ·rfl
  |false=>
   simp only[cond_false];split at ih
   ·rename_i n hn;obtain⟨j,h1,h2,h3,h4⟩:=ih;refine⟨j+1,?_,?_,fun n'=> ?_,?_⟩
    ·simp only[encM,List.map_cons,DE,hp,cond_false];simp only[encM] at h1;rw[h1];congr 2;omega
    ·simp only[encM,List.map_cons,List.set_cons_succ];simp only[encM] at h2;rw[h2]
    ·have:=h3 n';simp only[encM,List.map_cons,List.set_cons_succ] at this ⊢;rw[this]
    ·simp only[encM,List.map_cons,List.eraseIdx_cons_succ] at h4 ⊢;rw[h4]
   ·rename_i hn;obtain⟨h1,h2,h3⟩:=ih;refine⟨?_,fun n'=> ?_,by rw[h3]⟩
    ·simp only[encM,List.map_cons,DE,hp,cond_false];exact h1
    ·have:=h2 n';simp only[encM,List.map_cons,List.cons_append] at this ⊢;rw[this]
def isZ:AV→Bool
 | .int .i64 n=>decide (n=0)
 |_=>false
theorem isZ_eq{z:AV}(h:isZ z=true):z= .int .i64 0:=by
 unfold isZ at h;split at h;·rw[of_decide_eq_true h]
 ·cases h
def TD(P:Program)(t:TypeId)(x i:AV)(ok:Bool)(hp:Hp):Option AV:=
 match x with
 | .mp id=>match hp id with
  |some (.map es)=>match i with
   | .str k=>match JY P t with
    |some e=>match DE k es 0 with
     |some (_,v)=>some (bif ok then .tup [v,.bool true] else v)
     |none=>match H9 P e with
      |some z=>some (bif ok then .tup [z,.bool false] else z)
      |none=>none
    |none=>none
   |_=>none
  |some (.mapI es)=>match i with
   | .str k=>match JY P t with
    |some e=>match H9 P e with
     |some z=>match isZ z with
      |true=>some (bif ok then .tup [.int .i64 ((VX k es).getD 0),.bool (VX k es).isSome] else .int .i64 ((VX k es).getD 0))
      |false=>none
     |none=>none
    |none=>none
   |_=>none
  |_=>none
 |_=>none
def Q1g(P:Program)(t:TypeId)(s:List UInt8)(es:List (List UInt8×AV))(ok:Bool):Option AV:=
 match JY P t with
 |some e=>match DE s es 0 with
  |some (_,v)=>some (bif ok then .tup [v,.bool true] else v)
  |none=>match H9 P e with
   |some z=>some (bif ok then .tup [z,.bool false] else z)
   |none=>none
 |none=>none
section
variable {H : HV} {E : Env}
def DA(H:HV)(E:Env)(es:List (List UInt8×AV))(A:Array MapEntry):Prop:=
 A.size=es.length∧∀(j:Nat) (k:List UInt8) (x:AV) (e:MapEntry),es[j]? =some (k,x)→A[j]? =some e→e.key= .string ⟨k.toArray⟩∧RV H E x e.val
theorem Q6i{a b:List UInt8}:((⟨a.toArray⟩:ByteArray)==⟨b.toArray⟩)=(b==a):=by
 by_cases h:b=a;·subst h;rw[(bytes_beq _ _).2 rfl];simp
 ·have h1:((⟨a.toArray⟩:ByteArray)==⟨b.toArray⟩)=false:=by
   cases hq:((⟨a.toArray⟩:ByteArray)==⟨b.toArray⟩) with
   |false=>rfl
   |true=>
    have:=(bytes_beq _ _).1 hq;simp only[ByteArray.mk.injEq] at this;exact absurd (by simpa using this.symm) h
  rw[h1];simp[h]
theorem EN(s:List UInt8):∀(es:List (List UInt8×AV)) (L:List MapEntry) (i:Nat),L.length=es.length→(∀(j:Nat) (k:List UInt8) (x:AV) (e:MapEntry),es[j]? =some (k,x)→L[j]? =some e→e.key= .string ⟨k.toArray⟩∧RV H E x e.val)→
  match DE s es i with
  |none=>Instr.findNow .string (.string ⟨s.toArray⟩) L i=some none
  |some (j,x)=>∃q e,j=i+q∧Instr.findNow .string (.string ⟨s.toArray⟩) L i=some (some (j,e.val))∧L[q]? =some e∧es[q]? =some (s,x)
 | [],[],i,_,_=>rfl
 | [],_::_,_,h,_=>by simp at h
 |_::_,[],_,h,_=>by simp at h
 |p::es,e::L,i,hl,h=>by
  obtain⟨hk,hv⟩:=h 0 p.1 p.2 e rfl rfl;simp only[DE,Instr.findNow,hk,Instr.sameNow,Q6i];cases hp:(p.1==s) with
  |true=>
   simp only[cond_true];have:p.1=s:=by simpa using hp
   exact⟨0,e,rfl,rfl,rfl,by subst this;rfl⟩
  |false=>
   simp only[cond_false];have ih:=EN s es L (i+1) (by simpa using hl) fun j k x e h1 h2=>h (j+1) k x e (by simpa using h1) (by simpa using h2)
   split;·rename_i hm;rw[hm] at ih;exact ih
   ·rename_i j x hm;rw[hm] at ih;obtain⟨q,e',h1,h2,h3,h4⟩:=ih;exact⟨q+1,e',by omega,h2,by simpa using h3,by simpa using h4⟩
theorem Ei{es:List (List UInt8×AV)}{A:Array MapEntry}(h:DA H E es A)(s:List UInt8):
  match DE s es 0 with
  |none=>Instr.findNow .string (.string ⟨s.toArray⟩) A.toList 0=some none
  |some (j,x)=>∃e,Instr.findNow .string (.string ⟨s.toArray⟩) A.toList 0=some (some (j,e.val))∧A[j]? =some e∧es[j]? =some (s,x):=by
 have:=EN (H:=H) (E:=E) s es A.toList 0 (by simpa using h.1) fun j k x e h1 h2=>h.2 j k x e h1 (by simpa using h2)
 split;·rename_i hm;rw[hm] at this;exact this
 ·rename_i j x hm;rw[hm] at this;obtain⟨q,e,h1,h2,h3,h4⟩:=this;have:j=q:=by omega
  subst this;exact⟨e,h2,by simpa using h3,h4⟩
end
section
variable {P : Program} {m : Nat → Lc} {H : HV} {B : Nat → Prop} {H0 : HV} {gl : Nat → AV} {rest : List (AV × Value)} {st : St} {a : Act} {w : World}
theorem B9{nx:Nat}{hp:Hp}(h:RelH m H B H0 gl hp nx w){id:Nat}{es:List (List UInt8×AV)}(a3:hp id=some (.map es)):∃A c,w.heap[(m id).g]? =some (.map A c)∧DA H (Q6 hp m) es A∧(Q6 hp m).lp id=some (m id).g:=by
 obtain⟨A,c,h1,h2,h3⟩:=h.box id _ a3;exact⟨A,c,h1,⟨h2,h3⟩,by simp[Q6,a3]⟩
theorem AW{nx:Nat}{hp:Hp}(h:RelH m H B H0 gl hp nx w){id:Nat}{es:List (List UInt8×Int)}(a3:hp id=some (.mapI es)):∃A c,w.heap[(m id).g]? =some (.map A c)∧DA H (Q6 hp m) (encM es) A∧(Q6 hp m).lp id=some (m id).g:=by
 obtain⟨A,c,h1,h2,h3⟩:=h.box id _ a3;exact⟨A,c,h1,⟨h2,h3⟩,by simp[Q6,a3]⟩
theorem isK(s:List UInt8):IsKey .string (.string ⟨s.toArray⟩):=by simp[IsKey]
theorem Oe{hp:Hp}{t:TypeId}{r:AV}{ok:Bool}{A:Array MapEntry}{c g:Nat}{es:List (List UInt8×AV)}{s:List UInt8}(hA:w.heap[g]? =some (.map A c))(a9:DA H (Q6 hp m) es A)(hk:Q1g P t s es ok=some r):
  ∃y,(Instr.lookup t (.map (some g)) (.string ⟨s.toArray⟩) ok).run P w= .ok y w∧RV H (Q6 hp m) r y:=by
 unfold Q1g at hk;split at hk<;>first | cases hk | skip
 rename_i e he;obtain⟨kt,hm,a5⟩:=IV he;have hf:=Ei a9 s;split at hk
 ·rename_i j x a7;rw[a7] at hf;cases hk;obtain⟨en,f1,f2,f3⟩:=hf;obtain⟨_,hv⟩:=a9.2 j s x en f3 f2;have a4:(Instr.lookup t (.map (some g)) (.string ⟨s.toArray⟩) ok).run P w= .ok (if ok then .tuple #[en.val,.bool true] else en.val) w:=by
   simp[Instr.lookup,run_underlying hm,run_getObj_map hA,run_checkKey a5 (isK s),run_findKey a5 f1,Result.andThen]
  refine⟨_,a4,?_⟩;cases ok with
  |false=>exact hv
  |true=>
   refine .tup _ _ rfl fun q c y hq hy=> ?_
   match q with
   |0=>simp at hq hy;subst hq;subst hy;exact hv
   |1=>simp at hq hy;subst hq;subst hy;exact .imm _ _ (.bool _)
   |q+2=>simp at hq
 ·rename_i a7;rw[a7] at hf;simp only at hf;split at hk<;>first | cases hk | skip
  rename_i z hz;obtain⟨ii,zv,ae,af,rfl⟩:=T4 hz;have ag:(zeroValue e).run P w= .ok zv w:=by simp[zeroValue,typeInfo,ae,af,Result.andThen]
  have ab:∀H,RelI H (ofV zv) zv:=fun H=>Nu H zv
  have a4:(Instr.lookup t (.map (some g)) (.string ⟨s.toArray⟩) ok).run P w= .ok (if ok then .tuple #[zv,.bool false] else zv) w:=by
   simp[Instr.lookup,run_underlying hm,run_getObj_map hA,run_checkKey a5 (isK s),run_findKey a5 hf,Result.andThen,ag]
  refine⟨_,a4,?_⟩;cases ok with
  |false=>exact .imm _ _ (ab H)
  |true=>
   refine .tup _ _ rfl fun q c y hq hy=> ?_
   match q with
   |0=>simp at hq hy;subst hq;subst hy;exact .imm _ _ (ab H)
   |1=>simp at hq hy;subst hq;subst hy;exact .imm _ _ (.bool _)
   |q+2=>simp at hq
theorem Q63{nx:Nat}{hp:Hp}(h:RelH m H B H0 gl hp nx w){t:TypeId}{x i r:AV}{u v:Value}{ok:Bool}(hx:RV H (Q6 hp m) x u)(hi:RV H (Q6 hp m) i v)(hk:TD P t x i ok hp=some r):
  ∃y,(Instr.lookup t u v ok).run P w= .ok y w∧RV H (Q6 hp m) r y:=by
 unfold TD at hk;split at hk<;>first | cases hk | skip
 split at hk<;>first | cases hk | skip
 ·rename_i id _ es a4;split at hk<;>first | cases hk | skip
  rename_i _ s;obtain⟨A,c,hA,a3,a5⟩:=B9 h a4;obtain⟨l,rfl,hl⟩:=hx.mp_inv;rw[a5] at hl;cases hl;rw[hi.str_inv];exact Oe hA a3 hk
 ·rename_i id _ es a4;split at hk<;>first | cases hk | skip
  rename_i _ s;obtain⟨A,c,hA,a3,a5⟩:=AW h a4;obtain⟨l,rfl,hl⟩:=hx.mp_inv;rw[a5] at hl;cases hl;rw[hi.str_inv];split at hk<;>first | cases hk | skip
  rename_i e he;split at hk<;>first | cases hk | skip
  rename_i z hz;split at hk<;>first | cases hk | skip
  rename_i ab;refine Oe hA a3 ?_;unfold Q1g;have hf:=LJ s es 0;rw[he];have aa:=isZ_eq ab;subst aa;split at hf
  ·rename_i n hn;obtain⟨j,h1,_⟩:=hf;rw[hn];simp only[h1,Option.getD_some,Option.isSome_some]
  ·rename_i hn;obtain⟨h1,_⟩:=hf;rw[hn];simp only[h1,hz,Option.getD_none,Option.isSome_none]
end
end HY
