/- Proved in the last of these texts: for every input the law returns true and its arguments read afterwards as they read before. This text: a part of the proof. -/
import Derived.Test.YtkgphhemcglgnaaGreatDoorP1
import Derived.Laws.Cover4
import Derived.Laws.IdiomCopy
import Derived.OrdersIn
import Derived.RangeFuncLeaves
import Derived.RangeFuncOwn
set_option linter.unusedVariables false
set_option linter.unusedSimpArgs false
set_option linter.unusedSectionVars false
section
namespace HY
open Go Go.RowKit
def xv (o : Option AV) : Option (AV × Option (Nat × Box)) := match o with | some v => some (v, none) | none => none
def KD (P : Program) (bid : Nat) (b : Builtin) (ts : List TypeId) (xs : List AV) (hp : Hp) : Option (AV × Option (Nat × Box)) :=
 match b with
 | .len => match ts, xs with
  | [t], [x] => xv (xlen P t x)
  | _, _ => none
 | .max => xv (xmax true xs)
 | .min => xv (xmax false xs)
 | .append => match ts, xs with
  | [t, t'], [s, x] => VO P bid t t' s x hp
  | _, _ => none
 | _ => none
def xop0 (P : Program) (bid : Nat) (dst : Option Nat) (op : Op) (ev : Operand → AV) (hp : Hp) : Option (AV × Option (Nat × Box)) :=
 match op with
 | .move x => some (ev x, none)
 | .assign x => some (ev x, none)
 | .pick c x y => match ev c with
  | .bool b => some (if b = true then ev x else ev y, none)
  | _ => none
 | .alloc t => match ND P t with
  | some z => if z.okc = true then some (xnewT (tagT P t) bid z.cells) else none
  | none => none
 | .box _ x => if (ev x).okc = true then some (xnew bid (ev x).cells) else none
 | .build t parts => xv (S9 P t (parts.toList.map fun p => (p.1, ev p.2)))
 | .buildSlice t len parts => GR P bid t len (parts.toList.map fun p => (p.1, ev p.2))
 | .load t x => xv (Gq P t (ev x) hp)
 | .store t x y => if dst.isNone then Un P t (ev x) (ev y) hp else none
 | .binOp op t x y _ => xv (xbin P op t (ev x) (ev y))
 | .unOp op _ x => xv (xun op (ev x))
 | .convert src to x => xv (Et P src to (ev x))
 | .makeFunc (.func f) first caps => if first.size = 0 then some (.fn f (caps.toList.map ev), none) else none
 | .makeSlice t l c => Wu P bid t (ev l) (ev c)
 | .slice t x lo hi mx => xv (Vy P t (ev x) (lo.map ev) (hi.map ev) (mx.map ev))
 | .fieldAddr s x f => xv (L2 P s (ev x) f)
 | .field s x f => xv (Sb P s (ev x) f)
 | .indexAddr t x i => xv (Yl P t (ev x) (ev i))
 | .index t x i => xv (Mg P t (ev x) (ev i))
 | .extract x j => xv (Hy (ev x) j)
 | .nilCheck x => match ev x with
  | .ptr id ver off => some (.ptr id ver off, none)
  | .ip sz xs i off => some (.ip sz xs i off, none)
  | .fn f cs => some (.fn f cs, none)
  | .yld id => some (.yld id, none)
  | _ => none
 | .call c => match c.callee with
  | .builtin b => KD P bid b c.argTypes.toList (c.args.toList.map ev) hp
  | _ => none
 | _ => none
section
variable {P : Program} {m : Nat → Lc} {H : HV} {B : Nat → Prop} {H0 : HV} {gl : Nat → AV} {rest : List (AV × Value)} {st : St} {a : Act} {w : World}
theorem YO {o : Option AV} {r : AV × Option (Nat × Box)} (h : xv o = some r) : ∃ v, o = some v ∧ r = (v, none) := by
 cases o with
 | none => cases h
 | some v => cases h; exact ⟨v, rfl, rfl⟩
theorem Rg (h : RelS m H B H0 gl rest st a.tmps w) (ps : List (Nat × Operand)) :
  (ps.map fun p => (p.1, st.ev gl p.2)).length = (ps.map fun p => (p.1, a.eval p.2)).length ∧
   ∀ (k : Nat) (x : Nat × AV) (y : Nat × Value), (ps.map fun p => (p.1, st.ev gl p.2))[k]? = some x → (ps.map fun p => (p.1, a.eval p.2))[k]? = some y → x.1 = y.1 ∧ RV H (st.env m) x.2 y.2 := by
 refine ⟨by simp, fun k x y hx hy => ?_⟩
 simp only [List.getElem?_map, Option.map_eq_some_iff] at hx hy
 obtain ⟨p, hp, rfl⟩ := hx
 obtain ⟨q, hq, rfl⟩ := hy
 rw [hp] at hq; cases hq
 exact ⟨rfl, h.ev p.2⟩
theorem WW (h : RelS m H B H0 gl rest st a.tmps w) (xs : List Operand) :
  (xs.map (st.ev gl)).length = (xs.map a.eval).length ∧ ∀ (j : Nat) (c : AV) (v : Value), (xs.map (st.ev gl))[j]? = some c → (xs.map a.eval)[j]? = some v → RV H (st.env m) c v := by
 refine ⟨by simp, fun k x y hx hy => ?_⟩
 simp only [List.getElem?_map, Option.map_eq_some_iff] at hx hy
 obtain ⟨p, hp, rfl⟩ := hx
 obtain ⟨q, hq, rfl⟩ := hy
 rw [hp] at hq; cases hq
 exact h.ev p
theorem EQ (h : RelS m H B H0 gl rest st a.tmps w) (o : Option Operand) : (o.map (st.ev gl) = none ∧ o.map a.eval = none) ∨ ∃ x u, o.map (st.ev gl) = some x ∧ o.map a.eval = some u ∧ RV H (st.env m) x u := by
 cases o with
 | none => exact .inl ⟨rfl, rfl⟩
 | some x => exact .inr ⟨_, _, rfl, rfl, h.ev x⟩
set_option maxHeartbeats 1000000 in
theorem xop0_ok (h : RelS m H B H0 gl rest st a.tmps w) {o : Oper} (hd : QV o.dst st.n = true) {bid : Nat} (hb : lkb st.hp bid = none) (hn : bid < st.nx) {r : AV × Option (Nat × Box)} (hk : xop0 P bid o.dst o.op (st.ev gl) (lkb st.hp) = some r) :
  OpOk P B H0 gl rest a w o.dst (st.eff o.dst r) (execOp a.eval o) := by
 unfold xop0 at hk
 unfold execOp
 split at hk
 ·rename_i x ho; simp only [ho]; cases hk; exact OpOk.val h hd rfl (h.ev x)
 ·rename_i x ho; simp only [ho]; cases hk; exact OpOk.val h hd rfl (h.ev x)
 ·rename_i c x y ho
  simp only [ho]
  split at hk
  ·rename_i b hc
   have hc' := h.ev c
   rw [hc] at hc'
   have hc' := hc'.bool_inv
   cases hk
   cases b
   ·exact OpOk.val h hd (by simp [hc', asBool]) (h.ev y)
   ·exact OpOk.val h hd (by simp [hc', asBool]) (h.ev x)
  ·cases hk
 ·rename_i t ho
  simp only [ho]
  split at hk
  ·rename_i z hz
   split at hk
   ·rename_i hok
    cases hk
    obtain ⟨i, v, hi, hv, rfl⟩ := LY hz
    exact A1 h hd hb hn (.imm _ _ (Cn H v)) hok (Fu P t) (by simp [Instr.alloc, zeroValue, typeInfo, hi, hv, newVar, newRow])
   ·cases hk
  ·cases hk
 ·rename_i t x ho
  simp only [ho]
  split at hk
  ·rename_i hok
   cases hk
   exact new_ok h hd hb hn (h.ev x) hok (by simp [Instr.box, newVar, newRow]; rfl)
  ·cases hk
 ·rename_i t ps ho
  simp only [ho]
  obtain ⟨v, h1, rfl⟩ := YO hk
  have hp := Rg h ps.toList
  obtain ⟨u, h2, h3⟩ := Fz (P := P) (w := w) (parts := ps.map fun p => (p.1, a.eval p.2)) (by rw [Array.toList_map]; exact hp) h1
  exact OpOk.val h hd (by rw [Sem.run_bind, h2]; rfl) h3
 ·rename_i t len ps ho
  simp only [ho]
  have hp := Rg h ps.toList
  have hp' : (ps.toList.map fun p => (p.1, st.ev gl p.2)).length = (ps.map fun p => (p.1, a.eval p.2)).toList.length ∧ ∀ (k : Nat) (x : Nat × AV) (y : Nat × Value), (ps.toList.map fun p => (p.1, st.ev gl p.2))[k]? = some x → (ps.map fun p => (p.1, a.eval p.2)).toList[k]? = some y → x.1 = y.1 ∧ RV H (st.env m) x.2 y.2 := by rw [Array.toList_map]; exact hp
  have := R0 (P := P) h hd hb hn hp' hk
  exact this
 ·rename_i t x ho
  simp only [ho]
  obtain ⟨v, h1, rfl⟩ := YO hk
  obtain ⟨u, h2, h3⟩ := Sc (P := P) h.heap (h.ev x) h1
  exact OpOk.val h hd (by rw [Sem.run_bind, h2]; rfl) h3
 ·rename_i t x y ho
  simp only [ho]
  split at hk
  ·rename_i hdn
   exact FO h (by simpa using hdn) (h.ev x) (h.ev y) hk
  ·cases hk
 ·rename_i op t x y ty ho
  simp only [ho]
  obtain ⟨v, h1, rfl⟩ := YO hk
  obtain ⟨u, h2, hg, h3⟩ := xbin_ok (P := P) (w := w) (ox := x) (oy := y) (h.ev x) (h.ev y) h1
  exact OpOk.val h hd (v := u) (by simp [hg, h2]) (.imm _ _ (h3 _))
 ·rename_i op t x ho
  simp only [ho]
  obtain ⟨v, h1, rfl⟩ := YO hk
  obtain ⟨u, h2, h3⟩ := xun_ok (P := P) (w := w) (h.ev x) h1
  exact OpOk.val h hd (v := u) (by simp [h2]) (.imm _ _ (h3 _))
 ·rename_i src to x ho
  simp only [ho]
  obtain ⟨v, h1, rfl⟩ := YO hk
  obtain ⟨u, h2, h3⟩ := PE (P := P) (w := w) (h.ev x) h1
  exact OpOk.val h hd (v := u) (by simp [h2]) (.imm _ _ (h3 _))
 ·rename_i f first caps ho
  simp only [ho]
  split at hk
  ·rename_i h0
   cases hk
   have : first = #[] := Array.eq_empty_of_size_eq_zero h0
   subst this
   have hl := WW h caps.toList
   refine OpOk.val h hd (v := .func (.func f) #[] (caps.map a.eval)) (by simp [Instr.makeFunc]) ?_
   refine .fn f _ _ (by simp) fun j c v hj hv => ?_
   exact hl.2 j c v hj (by rw [← hv]; simp)
  ·cases hk
 ·rename_i t l c ho
  simp only [ho]
  exact RP h hd hb hn (h.ev l) (h.ev c) hk
 ·rename_i t x lo hi mx ho
  simp only [ho]
  obtain ⟨v, h1, rfl⟩ := YO hk
  obtain ⟨u, h2, h3⟩ := FN (P := P) (w := w) (h.ev x) (EQ h lo) (EQ h hi) (EQ h mx) h1
  exact OpOk.val h hd (v := u) (by simp [h2]) h3
 ·rename_i s x f ho
  simp only [ho]
  obtain ⟨v, h1, rfl⟩ := YO hk
  obtain ⟨u, h2, h3⟩ := RN (P := P) (w := w) (h.ev x) h1
  exact OpOk.val h hd (v := u) (by simp [h2]) h3
 ·rename_i s x f ho
  simp only [ho]
  obtain ⟨v, h1, rfl⟩ := YO hk
  obtain ⟨u, h2, h3⟩ := FC (P := P) (w := w) (h.ev x) h1
  exact OpOk.val h hd (v := u) (by simp [h2]) h3
 ·rename_i t x i ho
  simp only [ho]
  obtain ⟨v, h1, rfl⟩ := YO hk
  obtain ⟨u, h2, h3⟩ := RO (P := P) (w := w) (h.ev x) (h.ev i) h1
  exact OpOk.val h hd (v := u) (by simp [h2]) h3
 ·rename_i t x i ho
  simp only [ho]
  obtain ⟨v, h1, rfl⟩ := YO hk
  obtain ⟨u, h2, h3⟩ := FD (P := P) (w := w) (h.ev x) (h.ev i) h1
  exact OpOk.val h hd (v := u) (by simp [h2]) h3
 ·rename_i x j ho
  simp only [ho]
  obtain ⟨v, h1, rfl⟩ := YO hk
  obtain ⟨u, h2, h3⟩ := SJ (P := P) (w := w) (h.ev x) h1
  exact OpOk.val h hd (v := u) (by simp [h2]) h3
 ·rename_i x ho
  simp only [ho]
  have hx := h.ev x
  split at hk
  ·rename_i id ver off he
   cases hk
   rw [he] at hx
   have hx' := hx
   obtain ⟨ad, hp, _⟩ := hx.ptr_inv
   exact OpOk.val h hd (v := a.eval x) (by rw [hp]; rfl) hx'
  ·rename_i sz xs i off he
   cases hk
   rw [he] at hx
   have hx' := hx
   have : ∃ ad, a.eval x = .pointer (some ad) := by
    have := hx.ip_inv
    generalize a.eval x = u at this
    cases this; exact ⟨_, rfl⟩
   obtain ⟨ad, hp⟩ := this
   exact OpOk.val h hd (v := a.eval x) (by rw [hp]; rfl) hx'
  ·rename_i f cs he
   cases hk
   rw [he] at hx
   have hx' := hx
   obtain ⟨vs, hp, _⟩ := hx.fn_inv
   exact OpOk.val h hd (v := a.eval x) (by rw [hp]; rfl) hx'
  ·rename_i id he
   cases hk
   rw [he] at hx
   have hx' := hx
   obtain ⟨l, hp, _⟩ := hx.yld_inv
   exact OpOk.val h hd (v := a.eval x) (by rw [hp]; rfl) hx'
  ·cases hk
 ·rename_i c ho
  simp only [ho]
  split at hk
  ·rename_i b hb'
   obtain ⟨callee, args, argTypes⟩ := c
   dsimp only at hb'
   subst hb'
   simp only [resolve]
   have hargs : args.map a.eval = (args.toList.map a.eval).toArray := by apply Array.ext'; rw [Array.toList_map]
   have hl := WW h args.toList
   unfold KD at hk
   split at hk
   ·split at hk
    ·rename_i t x ht hx
     obtain ⟨v, h1, rfl⟩ := YO hk
     obtain ⟨y, hy, rfl⟩ : ∃ y, args.toList = [y] ∧ st.ev gl y = x := by
      match hh : args.toList with
      | [] => rw [hh] at hx; cases hx
      | [y] => rw [hh] at hx; simp only [List.map_cons, List.map_nil, List.cons.injEq, and_true] at hx; exact ⟨y, rfl, hx⟩
      | _ :: _ :: _ => rw [hh] at hx; simp at hx
     have e1 : argTypes = #[t] := by cases argTypes; simpa using ht
     have e2 : args = #[y] := by cases args; simpa using hy
     subst e1; subst e2
     obtain ⟨u, h2, h3⟩ := xlen_ok (P := P) (w := w) (ty := o.type) (h.ev y) h1
     refine OpOk.val h hd (v := u) ?_ (.imm _ _ (h3 _))
     simp only [Sem.run_bind, Sem.run_pure, Result.andThen_ok, invoke, builtin, List.map_toArray, List.map_cons, List.map_nil, h2]
    ·cases hk
   ·obtain ⟨v, h1, rfl⟩ := YO hk
    obtain ⟨u, h2, h3⟩ := At (P := P) (w := w) true hl h1 argTypes o.type
    refine OpOk.val h hd (v := u) ?_ (.imm _ _ (h3 _))
    rw [if_pos rfl] at h2
    simp only [Sem.run_bind, Sem.run_pure, Result.andThen_ok, invoke, builtin]
    rw [hargs, h2]; rfl
   ·obtain ⟨v, h1, rfl⟩ := YO hk
    obtain ⟨u, h2, h3⟩ := At (P := P) (w := w) false hl h1 argTypes o.type
    refine OpOk.val h hd (v := u) ?_ (.imm _ _ (h3 _))
    rw [if_neg (by simp)] at h2
    simp only [Sem.run_bind, Sem.run_pure, Result.andThen_ok, invoke, builtin]
    rw [hargs, h2]; rfl
   ·split at hk
    ·rename_i t t' s x ht hx
     obtain ⟨y, z, hy, rfl, rfl⟩ : ∃ y z, args.toList = [y, z] ∧ st.ev gl y = s ∧ st.ev gl z = x := by
      match hh : args.toList with
      | [] => rw [hh] at hx; cases hx
      | [y] => rw [hh] at hx; simp at hx
      | [y, z] => rw [hh] at hx; simp only [List.map_cons, List.map_nil, List.cons.injEq, and_true] at hx; exact ⟨y, z, rfl, hx⟩
      | _ :: _ :: _ :: _ => rw [hh] at hx; simp at hx
     have e1 : argTypes = #[t, t'] := by cases argTypes; simpa using ht
     have e2 : args = #[y, z] := by cases args; simpa using hy
     subst e1; subst e2
     have := AT (ty := o.type) h hd hb hn (h.ev y) (h.ev z) hk
     simpa only [List.map_toArray, List.map_cons, List.map_nil, invoke, builtin, pure_bind] using this
    ·cases hk
   ·cases hk
  ·cases hk
 ·cases hk
def xopX (P : Program) (bid : Nat) (op : Op) (ev : Operand → AV) (hp : Hp) : Option (AV × Option (Nat × Box)) :=
 match op with
 | .binOp o t x y _ => xv (DX P o t (ev x) (ev y) hp)
 | .convert src to x => xv (DV P src to (ev x) hp)
 | .call c => match c.callee with
  | .builtin b => match b with
   | .append => match c.argTypes.toList, c.args.toList.map ev with
    | [t, t'], [s, x] => CI P bid t t' s x hp
    | _, _ => none
   | .unsafeSliceData => match c.args.toList.map ev with
    | [x] => xv (LX x)
    | _ => none
   | .unsafeString => match c.argTypes.toList, c.args.toList.map ev with
    | [pt, _], [p, n] => Wv P pt p n hp
    | _, _ => none
   | _ => none
  | _ => none
 | _ => none
def xopO (P : Program) (op : Op) (ev : Operand → AV) (hp : Hp) : Option (AV × Option (Nat × Box)) :=
 match op with
 | .lookup t x i ok => xv (Il P t (ev x) (ev i) ok hp)
 | .call c => match c.callee with
  | .builtin .append => match c.argTypes.toList, c.args.toList.map ev with
   | [t, t'], [s, x] => Gn P t t' s x hp
   | _, _ => none
  | _ => none
 | _ => none
def xop (P : Program) (bid : Nat) (dst : Option Nat) (op : Op) (ev : Operand → AV) (hp : Hp) : Option (AV × Option (Nat × Box)) :=
 match xop0 P bid dst op ev hp with
 | some r => some r
 | none => match xopX P bid op ev hp with
  | some r => some r
  | none => xopO P op ev hp
theorem ZA {bid : Nat} {dst : Option Nat} {op : Op} {ev : Operand → AV} {hp : Hp} {r : AV × Option (Nat × Box)} (h : xop0 P bid dst op ev hp = some r) : xop P bid dst op ev hp = some r := by unfold xop; rw [h]
theorem Wy {bid : Nat} {dst : Option Nat} {op : Op} {ev : Operand → AV} {hp : Hp} {r : AV × Option (Nat × Box)} (h0 : xop0 P bid dst op ev hp = none) (h : xopX P bid op ev hp = some r) : xop P bid dst op ev hp = some r := by unfold xop; rw [h0]; simp only [h]
theorem Av {bid : Nat} {dst : Option Nat} {op : Op} {ev : Operand → AV} {hp : Hp} {r : AV × Option (Nat × Box)} (h0 : xop0 P bid dst op ev hp = none) (h1 : xopX P bid op ev hp = none) (h : xopO P op ev hp = some r) : xop P bid dst op ev hp = some r := by unfold xop; rw [h0]; simp only [h1, h]
theorem Di {args : Array Operand} {f : Operand → AV} {s x : AV} (h : args.toList.map f = [s, x]) : ∃ y z, args = #[y, z] ∧ f y = s ∧ f z = x := by
 match hh : args.toList with
 | [] => rw [hh] at h; cases h
 | [y] => rw [hh] at h; simp at h
 | [y, z] => rw [hh] at h; simp only [List.map_cons, List.map_nil, List.cons.injEq, and_true] at h; exact ⟨y, z, by cases args; simpa using hh, h.1, h.2⟩
 | _ :: _ :: _ :: _ => rw [hh] at h; simp at h
theorem one_arg {args : Array Operand} {f : Operand → AV} {s : AV} (h : args.toList.map f = [s]) : ∃ y, args = #[y] ∧ f y = s := by
 match hh : args.toList with
 | [] => rw [hh] at h; cases h
 | [y] => rw [hh] at h; simp only [List.map_cons, List.map_nil, List.cons.injEq, and_true] at h; exact ⟨y, by cases args; simpa using hh, h⟩
 | _ :: _ :: _ => rw [hh] at h; simp at h
theorem Nz {ts : Array TypeId} {t t' : TypeId} (h : ts.toList = [t, t']) : ts = #[t, t'] := by cases ts; simpa using h
theorem xopX_ok (h : RelS m H B H0 gl rest st a.tmps w) {o : Oper} (hd : QV o.dst st.n = true) {bid : Nat} (hb : lkb st.hp bid = none) (hn : bid < st.nx) {r : AV × Option (Nat × Box)} (hk : xopX P bid o.op (st.ev gl) (lkb st.hp) = some r) :
  OpOk P B H0 gl rest a w o.dst (st.eff o.dst r) (execOp a.eval o) := by
 unfold xopX at hk
 unfold execOp
 split at hk
 ·rename_i op t x y ty ho
  simp only [ho]
  obtain ⟨v, h1, rfl⟩ := YO hk
  obtain ⟨u, h2, hg, h3⟩ := FH (P := P) (ox := x) (oy := y) h.heap (h.ev x) (h.ev y) h1
  exact OpOk.val h hd (v := u) (by simp [hg, h2]) (.imm _ _ (h3 _))
 ·rename_i src to x ho
  simp only [ho]
  obtain ⟨v, h1, rfl⟩ := YO hk
  obtain ⟨u, h2, h3⟩ := FB (P := P) h.heap (h.ev x) h1
  exact OpOk.val h hd (v := u) (by simp [h2]) h3
 ·rename_i c ho
  simp only [ho]
  split at hk
  ·rename_i b hb'
   obtain ⟨callee, args, argTypes⟩ := c
   dsimp only at hb'
   subst hb'
   simp only [resolve]
   split at hk
   ·split at hk
    ·rename_i t t' s x ht hx
     obtain ⟨y, z, rfl, rfl, rfl⟩ := Di hx
     obtain rfl := Nz ht
     have := PA (ty := o.type) h hd hb hn (h.ev y) (h.ev z) hk
     simpa only [List.map_toArray, List.map_cons, List.map_nil, invoke, builtin, pure_bind] using this
    ·cases hk
   ·split at hk
    ·rename_i x hx
     obtain ⟨v, h1, rfl⟩ := YO hk
     obtain ⟨y, rfl, rfl⟩ := one_arg hx
     obtain ⟨u, h2, h3⟩ := FL (P := P) (w := w) (ts := argTypes) (ty := o.type) (h.ev y) h1
     refine OpOk.val h hd (v := u) ?_ h3
     simp only [Sem.run_bind, Sem.run_pure, Result.andThen_ok, invoke, builtin, List.map_toArray, List.map_cons, List.map_nil, h2]
    ·cases hk
   ·split at hk
    ·rename_i pt it p n ht hx
     obtain ⟨y, z, rfl, rfl, rfl⟩ := Di hx
     obtain rfl := Nz ht
     have := O4 (it := it) (ty := o.type) h hd (h.ev y) (h.ev z) hk
     simpa only [List.map_toArray, List.map_cons, List.map_nil, invoke, builtin, pure_bind] using this
    ·cases hk
   ·cases hk
  ·cases hk
 ·cases hk
theorem xopO_ok (h : RelS m H B H0 gl rest st a.tmps w) {o : Oper} (hd : QV o.dst st.n = true) {r : AV × Option (Nat × Box)} (hk : xopO P o.op (st.ev gl) (lkb st.hp) = some r) :
  OpOk P B H0 gl rest a w o.dst (st.eff o.dst r) (execOp a.eval o) := by
 unfold xopO at hk
 unfold execOp
 split at hk
 ·rename_i t x i ok ho
  simp only [ho]
  obtain ⟨v, h1, rfl⟩ := YO hk
  obtain ⟨y, h2, h3⟩ := AX (P := P) h.heap (h.ev x) (h.ev i) h1
  exact OpOk.val h hd (v := y) (by simp [h2]) h3
 ·rename_i c ho
  simp only [ho]
  split at hk
  ·rename_i hb'
   obtain ⟨callee, args, argTypes⟩ := c
   dsimp only at hb'
   subst hb'
   simp only [resolve]
   split at hk
   ·rename_i t t' s x ht hx
    obtain ⟨y, z, rfl, rfl, rfl⟩ := Di hx
    obtain rfl := Nz ht
    have := S5 (ty := o.type) h hd (h.ev y) (h.ev z) hk
    simpa only [List.map_toArray, List.map_cons, List.map_nil, invoke, builtin, pure_bind] using this
   ·cases hk
  ·cases hk
 ·cases hk
theorem Sf (h : RelS m H B H0 gl rest st a.tmps w) {o : Oper} (hd : QV o.dst st.n = true) {bid : Nat} (hb : lkb st.hp bid = none) (hn : bid < st.nx) {r : AV × Option (Nat × Box)} (hk : xop P bid o.dst o.op (st.ev gl) (lkb st.hp) = some r) :
  OpOk P B H0 gl rest a w o.dst (st.eff o.dst r) (execOp a.eval o) := by
 unfold xop at hk
 split at hk
 ·rename_i r' hr; cases hk; exact xop0_ok h hd hb hn hr
 ·split at hk
  ·rename_i r' hr; cases hk; exact xopX_ok h hd hb hn hr
  ·exact xopO_ok h hd hk
end
end HY
end
section
namespace HY
open Go Go.RowKit Go.MapKept
def mput (k : List UInt8) (v : AV) (es : List (List UInt8 × AV)) : List (List UInt8 × AV) :=
 match UC k es 0 with
 | some (i, _) => es.set i (k, v)
 | none => es ++ [(k, v)]
def WV (P : Program) (t : TypeId) : Bool := match P.underlying t with
 | some (.slice e) => match P.underlying e with
  | some (.int .i32) => true
  | _ => false
 | _ => false
theorem IJ {P : Program} {t : TypeId} (h : WV P t = true) : ∃ e, P.underlying t = some (.slice e) ∧ P.underlying e = some (.int .i32) := by
 grind [WV]
def Eb : List AV → Option (List Int)
 | [] => some []
 | .int .i32 n :: r => match Eb r with
  | some l => some (n :: l)
  | none => none
 | _ :: _ => none
def HJ : List Int → Option (List UInt8)
 | [] => some []
 | n :: r => bif decide (0 ≤ n) && decide (n < 128) then (match HJ r with
  | some l => some (UInt8.ofNat n.toNat :: l)
  | none => none) else none
def Si (P : Program) (src to : TypeId) (x : AV) (hp : Hp) : Option AV :=
 bif WV P src && KC P to then (match x with
  | .bs id ver sz off len => match hp id with
   | some (.cells v cs) => match Nat.beq v ver && (Nat.beq sz 1 && Nat.ble (off + len) cs.length) with
    | true => match Eb ((cs.drop off).take len) with
     | some ns => match HJ ns with
      | some s => some (.str s)
      | none => none
     | none => none
    | false => none
   | _ => none
  | .nil => some (.str [])
  | _ => none) else none
theorem IF : ∀ (ns : List Int) (s : List UInt8) (b : ByteArray), HJ ns = some s → ns.foldl (fun r n => r ++ Utf8.encode n) b = b ++ ⟨s.toArray⟩
 | [], s, b, h => by
  cases h
  rw [show (⟨([] : List UInt8).toArray⟩ : ByteArray) = ByteArray.empty from rfl]
  simp
 | n :: r, s, b, h => by
  simp only [HJ] at h
  cases hc : (decide (0 ≤ n) && decide (n < 128)) with
  | false => simp_all
  | true =>
   rw [hc] at h
   simp only [cond_true] at h
   rw [Bool.and_eq_true, decide_eq_true_eq, decide_eq_true_eq] at hc
   split at h
   ·rename_i l hl
    cases h
    rw [List.foldl_cons, IF r l _ hl]
    have he : Utf8.encode n = ⟨#[UInt8.ofNat n.toNat]⟩ := by
     unfold Utf8.encode
     have hv : Utf8.valid n = true := by unfold Utf8.valid; simp; omega
     simp_all
    rw [he]
    apply ByteArray.ext
    simp
   ·cases h
theorem IS : ∀ (cs : List AV) (ns : List Int), Eb cs = some ns → cs = ns.map (AV.int .i32)
 | [], ns, h => by cases h; rfl
 | c :: r, ns, h => by
  unfold Eb at h
  split at h
  ·simp_all
  ·rename_i n r' h1
   cases h1
   split at h
   ·rename_i l hl
    cases h
    rw [IS _ _ hl]; rfl
   ·cases h
  ·cases h
def xmput (P : Program) (t : TypeId) (x i v : AV) (hp : Hp) : Option (AV × Option (Nat × Box)) :=
 match x with
 | .mp id => match hp id with
  | some (.map es) => match i with
   | .str k => match VW P t with
    | some _ => some (.undef, some (id, .map (mput k v es)))
    | none => none
   | _ => none
  | some (.mapI es) => match i with
   | .str k => match v with
    | .int .i64 n => match VW P t with
     | some _ => some (.undef, some (id, .mapI (CG k n es)))
     | none => none
    | _ => none
   | _ => none
  | _ => none
 | _ => none
theorem Fg (k : List UInt8) (n : Int) (es : List (List UInt8 × Int)) : mput k (.int .i64 n) (encM es) = encM (CG k n es) := by
 have h := Wr k es 0
 grind [mput]
abbrev CallX := Nat → List AV → Tr Box → Nat → Option (AV × Tr Box × Nat)
def mdel (k : List UInt8) (es : List (List UInt8 × AV)) : List (List UInt8 × AV) :=
 match UC k es 0 with
 | some (i, _) => es.eraseIdx i
 | none => es
def xmdel (P : Program) (t : TypeId) (x i : AV) (hp : Hp) : Option (AV × Option (Nat × Box)) :=
 match x with
 | .mp id => match hp id with
  | some (.map es) => match i with
   | .str k => match VW P t with
    | some _ => some (.tup [], some (id, .map (mdel k es)))
    | none => none
   | _ => none
  | some (.mapI es) => match i with
   | .str k => match VW P t with
    | some _ => some (.tup [], some (id, .mapI (MC k es)))
    | none => none
   | _ => none
  | _ => none
 | _ => none
theorem Fe (k : List UInt8) (es : List (List UInt8 × Int)) : mdel k (encM es) = encM (MC k es) := by
 have h := Wr k es 0
 grind [mdel]
def Ir (sz n : Nat) (zs : List AV) : List AV := (List.range (n * sz)).map fun i => (zs[i % sz]?).getD .undef
def Sa (P : Program) (t : TypeId) (x : AV) (hp : Hp) : Option (AV × Option (Nat × Box)) :=
 match elG P t with
 | some (sz, _, zs) => match x with
  | .nil => some (.tup [], none)
  | .bs id ver z off len => match hp id with
   | some (.cells v cs) => match Nat.beq v ver && (Nat.beq z sz && Nat.ble (off + len * sz) cs.length) with
    | true => match Nat.beq len 0 with
     | true => some (.tup [], none)
     | false => some (.tup [], some (id, .cells v (cs.take off ++ (Ir sz len zs ++ cs.drop (off + len * sz)))))
    | false => none
   | _ => none
  | _ => none
 | none => none
def xdel (nf sz : Nat) (zs : List AV) : CallX := fun f args hp nx => bif Nat.beq f nf then (match args with
 | [.bs id ver z off len, .int .i64 i, .int .i64 j] => match lkb hp id with
  | some (.cells v cs) => match Nat.beq v ver && (Nat.beq z sz && (Nat.ble (off + len * sz) cs.length && (decide (0 ≤ i) && (decide (i < len) && decide (j = i + 1))))) with
   | true => some (.bs id ver z off (len - 1), pt hp id (.cells v (cs.take (off + i.toNat * sz) ++ ((cs.drop (off + (i.toNat + 1) * sz)).take ((len - (i.toNat + 1)) * sz) ++ (zs ++ cs.drop (off + len * sz))))), nx)
   | false => none
  | _ => none
 | _ => none) else none
def xmlen (P : Program) (t : TypeId) (x : AV) (hp : Hp) : Option AV :=
 match x with
 | .mp id => match hp id with
  | some (.map es) => match VW P t with
   | some _ => some (.int .i64 es.length)
   | none => none
  | some (.mapI es) => match VW P t with
   | some _ => some (.int .i64 es.length)
   | none => none
  | _ => none
 | _ => none
def CT (P : Program) (t : TypeId) : Bool := match VW P t with
 | some e => match ND P e with
  | some z => isZ z
  | none => false
 | none => false
def xcopy (P : Program) (t : TypeId) (x y : AV) (hp : Hp) : Option (AV × Option (Nat × Box)) :=
 match elG P t with
 | some (sz, _, _) => match xsrc sz y hp with
  | some (n, ds) => match x with
   | .bs id ver z off len => match hp id with
    | some (.cells v cs) => match Nat.beq v ver && (Nat.beq z sz && Nat.ble (off + len * sz) cs.length) with
     | true => match Nat.beq (Nat.min n len) 0 with
      | true => some (.int .i64 0, none)
      | false => some (.int .i64 (Nat.min n len), some (id, .cells v (cs.take off ++ (ds.take (Nat.min n len * sz) ++ cs.drop (off + Nat.min n len * sz)))))
     | false => none
    | _ => none
   | _ => none
  | none => none
 | none => none
def xopM (P : Program) (bid : Nat) (dst : Option Nat) (op : Op) (ev : Operand → AV) (hp : Hp) : Option (AV × Option (Nat × Box)) :=
 match op with
 | .makeMap t none => some (.mp bid, some (bid, bif CT P t then .mapI [] else .map []))
 | .convert src to x => xv (Si P src to (ev x) hp)
 | .mapUpdate t x i v => if dst.isNone then xmput P t (ev x) (ev i) (ev v) hp else none
 | .call c => match c.callee with
  | .builtin .copy => match c.argTypes.toList, c.args.toList.map ev with
   | [t, _], [x, y] => xcopy P t x y hp
   | _, _ => none
  | .builtin .clear => match c.argTypes.toList, c.args.toList.map ev with
   | [t], [x] => Sa P t x hp
   | _, _ => none
  | .builtin .len => match c.argTypes.toList, c.args.toList.map ev with
   | [t], [x] => xv (xmlen P t x hp)
   | _, _ => none
  | .builtin .delete => match c.argTypes.toList, c.args.toList.map ev with
   | [t, _], [x, y] => xmdel P t x y hp
   | _, _ => none
  | _ => none
 | _ => none
section
variable {P : Program} {m : Nat → Lc} {H : HV} {B : Nat → Prop} {H0 : HV} {gl : Nat → AV} {rest : List (AV × Value)} {st : St} {a : Act} {w : World}
theorem RelH.newObj {hp : Hp} {nx : Nat} (h : RelH m H B H0 gl hp nx w) {id : Nat} (hn : hp id = none) {nx' : Nat} (hid : id < nx') (hnx : nx ≤ nx') (o : Obj) (b : Box) (hbc : b.ver? = none) (hb : Y1 H (Q5 (updF hp id (some b)) (updF m id ⟨w.heap.size, 0, 0⟩)) b ⟨w.heap.size, 0, 0⟩ (w.alloc o)) :
  RelH (updF m id ⟨w.heap.size, 0, 0⟩) H B H0 gl (updF hp id (some b)) nx' (w.alloc o) ∧ Env.le (Q5 hp m) (Q5 (updF hp id (some b)) (updF m id ⟨w.heap.size, 0, 0⟩)) := by
 have hE := Ci (m := m) (hp := hp) (b := b) (l := ⟨w.heap.size, 0, 0⟩) hn
 have hnew : ∀ o, H w.heap.size o = none := fun o => by
  cases hh : H w.heap.size o with
  | none => rfl
  | some v => have := Vx h.sat hh; omega
 exact ⟨h.one (l := ⟨w.heap.size, 0, 0⟩) (fun k hk _ => VN w _ k hk) (by simp_all) hE ⟨h.notB, by simp_all, hnew⟩ (fun id' b' _ hid' hr => by
  have := (h.sepR id' b' hid' hr).2.1; grind) hid hnx hb (fun ver cs e => by subst e; cases hbc) (Box.elder_real (Box.nover hbc) _), hE⟩
theorem RelH.putObj {hp : Hp} {nx : Nat} (h : RelH m H B H0 gl hp nx w) {id : Nat} {b b' : Box} (hid : hp id = some b) (h1 : b.ver? = none) (h2 : b'.ver? = none) (o : Obj) (h3 : ∀ (C : Array Value) (e : TypeId) (fr : Nat × Nat), w.heap[(m id).g]? ≠ some (Obj.cells C e fr))
  (hb : ∀ E', Env.le (Q5 hp m) E' → Y1 H E' b' (m id) (w.putObj (m id).g o)) : RelH m H B H0 gl (updF hp id (some b')) nx (w.putObj (m id).g o) ∧ Env.le (Q5 hp m) (Q5 (updF hp id (some b')) m) ∧ Q8 B w (w.putObj (m id).g o) := by
 have hm : updF m id (m id) = m := by grind [updF]
 have hE := env_obj (m := m) (hp := hp) (l := m id) hid h1 h2 rfl
 have hr1 := Box.elder_real (Box.nover h1) (m id)
 obtain ⟨s1, s2, s3⟩ := h.sepR id b hid hr1
 have hidn : id < nx := by
  rcases Nat.lt_or_ge id nx with hlt | hge
  ·exact hlt
  ·have := h.fresh id hge; simp_all
 have := h.one (id := id) (b := b') (l := m id) (w' := w.putObj (m id).g o) (fun k _ hk => World.putObj_heap_other hk) (by simp) hE ⟨s1, by simp_all, s3⟩ (fun id' b2 hne hb2 hr e => hne (h.injR id' id b2 b hb2 hid hr hr1 e)) hidn (Nat.le_refl _) (hb _ hE) (fun ver cs e => by subst e; cases h2) (Box.elder_real (Box.nover h2) _)
 rw [hm] at this hE
 exact ⟨this, hE, rfl, rfl, rfl, by simp, fun k hk => World.putObj_heap_other (fun e => by simp_all), fun k C e fr hk => by
  by_cases hkg : k = (m id).g
  ·simp_all
  ·exact ⟨C, fr, by rw [World.putObj_heap_other hkg]; exact hk, rfl⟩⟩
theorem A0 {E' : Env} {es : List (List UInt8 × AV)} {A : Array MapEntry} (h : UA H E' es A) (s : List UInt8) {v : AV} {u : Value} (hv : RV H E' v u) (c : Nat) :
  match UC s es 0 with
  | none => UA H E' (mput s v es) (A.push { key := .string ⟨s.toArray⟩, val := u, born := c })
  | some (j, _) => UA H E' (mput s v es) (A.modify j fun e => { e with key := .string ⟨s.toArray⟩, val := u }) := by
 unfold mput
 split
 ·rename_i hm
  rw [hm]
  refine ⟨by simp [h.1], fun j k x e hj he => ?_⟩
  rw [Array.getElem?_push] at he
  by_cases hl : j < es.length
  ·rw [List.getElem?_append_left hl] at hj
   rw [if_neg (by rw [h.1]; omega)] at he
   exact h.2 j k x e hj he
  ·rw [List.getElem?_append_right (by omega)] at hj
   have hj0 : j - es.length = 0 := by
    grind
   rw [hj0] at hj
   simp only [List.getElem?_cons_zero, Option.some.injEq, Prod.mk.injEq] at hj
   obtain ⟨rfl, rfl⟩ := hj
   rw [if_pos (by rw [h.1]; omega)] at he
   grind
 ·rename_i i x hm
  rw [hm]
  refine ⟨by simp [h.1], fun j k x e hj he => ?_⟩
  rw [Array.getElem?_modify] at he
  rw [List.getElem?_set] at hj
  by_cases hij : i = j
  ·grind
  ·rw [if_neg hij] at he hj
   exact h.2 j k x e hj he
theorem TA {t : TypeId} {e : TypeId} {E : Env} {es : List (List UInt8 × AV)} {A : Array MapEntry} {c g : Nat} {k : List UInt8} {y : AV} {z : Value} (he : VW P t = some e) (hA : w.heap[g]? = some (.map A c)) (hat : UA H E es A) (hy : RV H E y z) :
  ∃ A' c', (Instr.mapUpdate t (.map (some g)) (.string ⟨k.toArray⟩) z).run P w = .ok () (w.putObj g (.map A' c')) ∧ ∀ E', Env.le E E' → UA H E' (mput k y es) A' := by
 obtain ⟨kt, hm, hkt⟩ := Ny he
 have hf := MB hat k
 split at hf
 ·rename_i hmf
  refine ⟨A.push { key := .string ⟨k.toArray⟩, val := z, born := c }, c + 1, ?_, fun E' hE => ?_⟩
  ·simp [Instr.mapUpdate, run_underlying hm, run_getObj_map hA, run_checkKey hkt (isK k), run_findKey hkt hf, run_setObj_map _ hA, Result.andThen]
   rfl
  ·have := A0 (E' := E') (es := es) (A := A) ⟨hat.1, fun j k x e h1 h2 => let ⟨a, b⟩ := hat.2 j k x e h1 h2; ⟨a, b.mono (.refl _) hE⟩⟩ k (hy.mono (.refl _) hE) c
   simp_all
 ·rename_i j x hmf
  obtain ⟨en, f1, f2, f3⟩ := hf
  obtain ⟨hkey, _⟩ := hat.2 j k x en f3 f2
  refine ⟨A.modify j fun e => { e with key := .string ⟨k.toArray⟩, val := z }, c, ?_, fun E' hE => ?_⟩
  ·simp [Instr.mapUpdate, run_underlying hm, run_getObj_map hA, run_checkKey hkt (isK k), run_findKey hkt f1, f2, hkey, run_keyThatStays (isK k), run_setObj_map _ hA, Result.andThen]
   rfl
  ·have := A0 (E' := E') (es := es) (A := A) ⟨hat.1, fun j k x e h1 h2 => let ⟨a, b⟩ := hat.2 j k x e h1 h2; ⟨a, b.mono (.refl _) hE⟩⟩ k (hy.mono (.refl _) hE) c
   simp_all
theorem PN (h : RelS m H B H0 gl rest st a.tmps w) {t : TypeId} {x i y : AV} {u v z : Value} {r : AV × Option (Nat × Box)} (hx : RV H (st.env m) x u) (hi : RV H (st.env m) i v) (hy : RV H (st.env m) y z) (hk : xmput P t x i y (lkb st.hp) = some r) {dst : Option Nat} (hd : QV dst st.n = true) {s : Sem Next}
  (hs : ∀ w', (Instr.mapUpdate t u v z).run P w = .ok () w' → s.run P w = .ok .skip w') : OpOk P B H0 gl rest a w dst (st.eff dst r) s := by
 unfold xmput at hk
 split at hk <;> first | cases hk | skip
 rename_i id
 obtain ⟨l, rfl, hl⟩ := hx.mp_inv
 split at hk <;> first | cases hk | skip
 ·rename_i es hid
  split at hk <;> first | cases hk | skip
  rename_i k
  split at hk <;> first | cases hk | skip
  rename_i e he
  obtain ⟨A, c, hA, hat, hlp⟩ := RY h.heap hid
  have hl' : l = (m id).g := by simp_all
  subst hl'
  rw [hi.str_inv] at hs
  obtain ⟨A', c', hrun, hat'⟩ := TA (P := P) (k := k) he hA hat hy
  obtain ⟨hh, hE, hb⟩ := h.heap.putObj hid rfl (b' := .map (mput k y es)) rfl (.map A' c') (fun C e fr q => by simp_all) (fun E' hE' => ⟨A', c', World.putObj_heap_same (h.heap.sep id _ hid).2.1, (hat' E' hE').1, (hat' E' hE').2⟩)
  exact OpOk.heap h hd (hs _ hrun) (.inr ⟨rfl, rfl⟩) hb hh hE (.imm _ _ (.undef _))
 ·rename_i es hid
  split at hk <;> first | cases hk | skip
  rename_i k
  split at hk <;> first | cases hk | skip
  rename_i n
  split at hk <;> first | cases hk | skip
  rename_i e he
  obtain ⟨A, c, hA, hat, hlp⟩ := HZ h.heap hid
  have hl' : l = (m id).g := by simp_all
  subst hl'
  rw [hi.str_inv] at hs
  obtain ⟨A', c', hrun, hat'⟩ := TA (P := P) (k := k) he hA hat hy
  rw [Fg] at hat'
  obtain ⟨hh, hE, hb⟩ := h.heap.putObj hid rfl (b' := .mapI (CG k n es)) rfl (.map A' c') (fun C e fr q => by simp_all) (fun E' hE' => ⟨A', c', World.putObj_heap_same (h.heap.sep id _ hid).2.1, (hat' E' hE').1, (hat' E' hE').2⟩)
  exact OpOk.heap h hd (hs _ hrun) (.inr ⟨rfl, rfl⟩) hb hh hE (.imm _ _ (.undef _))
theorem mdel_at {E' : Env} {es : List (List UInt8 × AV)} {A : Array MapEntry} (h : UA H E' es A) (j : Nat) : UA H E' (es.eraseIdx j) (A.eraseIdxIfInBounds j) := by
 obtain ⟨h1, h2⟩ := h
 have hsz : (A.eraseIdxIfInBounds j).toList = A.toList.eraseIdx j := by simp
 refine ⟨?_, fun q k x e hj he => ?_⟩
 ·grind
 grind
theorem Tv {t t' ty e : TypeId} {E : Env} {es : List (List UInt8 × AV)} {A : Array MapEntry} {c g : Nat} {k : List UInt8} (he : VW P t = some e) (hA : w.heap[g]? = some (.map A c)) (hat : UA H E es A) :
  ∃ A', (Builtin.delete_ #[t, t'] ty #[.map (some g), .string ⟨k.toArray⟩]).run P w = .ok (.tuple #[]) (w.putObj g (.map A' c)) ∧ ∀ E', Env.le E E' → UA H E' (mdel k es) A' := by
 obtain ⟨kt, hm, hkt⟩ := Ny he
 have hf := MB hat k
 unfold mdel
 split at hf
 ·rename_i hmf
  refine ⟨A, ?_, fun E' hE => ?_⟩
  ·simp [Builtin.delete_, run_underlying hm, run_getObj_map hA, run_checkKey hkt (isK k), run_findKey hkt hf, run_setObj_map _ hA, Result.andThen]
   rfl
  ·rw [hmf]
   exact ⟨hat.1, fun j k x e h1 h2 => let ⟨a, b⟩ := hat.2 j k x e h1 h2; ⟨a, b.mono (.refl _) hE⟩⟩
 ·rename_i j x hmf
  obtain ⟨en, f1, f2, f3⟩ := hf
  refine ⟨A.eraseIdxIfInBounds j, ?_, fun E' hE => ?_⟩
  ·simp [Builtin.delete_, run_underlying hm, run_getObj_map hA, run_checkKey hkt (isK k), run_findKey hkt f1, run_setObj_map _ hA, Result.andThen]
   rfl
  ·rw [hmf]
   exact mdel_at ⟨hat.1, fun j k x e h1 h2 => let ⟨a, b⟩ := hat.2 j k x e h1 h2; ⟨a, b.mono (.refl _) hE⟩⟩ j
theorem PK (h : RelS m H B H0 gl rest st a.tmps w) {t t' ty : TypeId} {x i : AV} {u v : Value} {r : AV × Option (Nat × Box)} (hx : RV H (st.env m) x u) (hi : RV H (st.env m) i v) (hk : xmdel P t x i (lkb st.hp) = some r) {dst : Option Nat} (hd : QV dst st.n = true) :
  OpOk P B H0 gl rest a w dst (st.eff dst r) (do pure (.value (← Builtin.delete_ #[t, t'] ty #[u, v]))) := by
 unfold xmdel at hk
 split at hk <;> first | cases hk | skip
 rename_i id
 obtain ⟨l, rfl, hl⟩ := hx.mp_inv
 split at hk <;> first | cases hk | skip
 ·rename_i es hid
  split at hk <;> first | cases hk | skip
  rename_i k
  split at hk <;> first | cases hk | skip
  rename_i e he
  obtain ⟨A, c, hA, hat, hlp⟩ := RY h.heap hid
  have hl' : l = (m id).g := by simp_all
  subst hl'
  rw [hi.str_inv]
  obtain ⟨A', hrun, hat'⟩ := Tv (P := P) (t' := t') (ty := ty) (k := k) he hA hat
  obtain ⟨hh, hE, hb⟩ := h.heap.putObj hid rfl (b' := .map (mdel k es)) rfl (.map A' c) (fun C e fr q => by simp_all) (fun E' hE' => ⟨A', c, World.putObj_heap_same (h.heap.sep id _ hid).2.1, (hat' E' hE').1, (hat' E' hE').2⟩)
  exact OpOk.heap h hd (nx := .value (.tuple #[])) (by simp_all) (.inl rfl) hb hh hE (.imm _ _ (.tup _ _ rfl (fun j c v hj => by simp at hj)))
 ·rename_i es hid
  split at hk <;> first | cases hk | skip
  rename_i k
  split at hk <;> first | cases hk | skip
  rename_i e he
  obtain ⟨A, c, hA, hat, hlp⟩ := HZ h.heap hid
  have hl' : l = (m id).g := by simp_all
  subst hl'
  rw [hi.str_inv]
  obtain ⟨A', hrun, hat'⟩ := Tv (P := P) (t' := t') (ty := ty) (k := k) he hA hat
  rw [Fe] at hat'
  obtain ⟨hh, hE, hb⟩ := h.heap.putObj hid rfl (b' := .mapI (MC k es)) rfl (.map A' c) (fun C e fr q => by simp_all) (fun E' hE' => ⟨A', c, World.putObj_heap_same (h.heap.sep id _ hid).2.1, (hat' E' hE').1, (hat' E' hE').2⟩)
  exact OpOk.heap h hd (nx := .value (.tuple #[])) (by simp_all) (.inl rfl) hb hh hE (.imm _ _ (.tup _ _ rfl (fun j c v hj => by simp at hj)))
theorem PM (h : RelS m H B H0 gl rest st a.tmps w) {t ty : TypeId} {x r : AV} {u : Value} (hx : RV H (st.env m) x u) (hk : xmlen P t x (lkb st.hp) = some r) :
  ∃ y, (Builtin.len_ #[t] ty #[u]).run P w = .ok y w ∧ RV H (st.env m) r y := by
 unfold xmlen at hk
 split at hk <;> first | cases hk | skip
 rename_i id
 obtain ⟨l, rfl, hl⟩ := hx.mp_inv
 have go : ∀ (es : List (List UInt8 × AV)) (A : Array MapEntry) (c : Nat) (e : TypeId), w.heap[(m id).g]? = some (.map A c) → UA H (st.env m) es A → (st.env m).lp id = some (m id).g → VW P t = some e → ∃ y, (Builtin.len_ #[t] ty #[.map (some l)]).run P w = .ok y w ∧ RV H (st.env m) (.int .i64 es.length) y := fun es A c e hA hat hlp he => by
  obtain ⟨kt, hm, hkt⟩ := Ny he
  have hl' : l = (m id).g := by simp_all
  subst hl'
  refine ⟨.int .i64 A.size, ?_, by rw [hat.1]; exact .imm _ _ (.int _ _)⟩
  simp [Builtin.len_, run_underlying hm, run_getObj_map hA, goInt, Result.andThen]
 split at hk <;> first | cases hk | skip
 ·rename_i es hid
  split at hk <;> first | cases hk | skip
  rename_i e he
  obtain ⟨A, c, hA, hat, hlp⟩ := RY h.heap hid
  simp_all
 ·rename_i es hid
  split at hk <;> first | cases hk | skip
  rename_i e he
  obtain ⟨A, c, hA, hat, hlp⟩ := HZ h.heap hid
  grind [encM]
theorem FK {nx : Nat} {hp : Hp} (h : RelH m H B H0 gl hp nx w) {src to : TypeId} {x r : AV} {u : Value} (hx : RV H (Q5 hp m) x u) (hk : Si P src to x hp = some r) :
  ∃ y, (convert src to u).run P w = .ok y w ∧ RV H (Q5 hp m) r y := by
 unfold Si at hk
 cases hc : (WV P src && KC P to) with
 | false => simp_all
 | true =>
  rw [hc] at hk
  simp only [cond_true] at hk
  rw [Bool.and_eq_true] at hc
  obtain ⟨e, hs, he⟩ := IJ hc.1
  have hd := VH hc.2
  split at hk <;> first | cases hk | skip
  ·rename_i id ver sz off len
   split at hk <;> first | cases hk | skip
   rename_i v cs hid
   split at hk <;> first | cases hk | skip
   rename_i hcc
   split at hk <;> first | cases hk | skip
   rename_i ns hns
   split at hk <;> first | cases hk | skip
   rename_i s hss
   simp only [Bool.and_eq_true] at hcc
   obtain rfl := Nat.eq_of_beq_eq_true hcc.1
   obtain rfl := Nat.eq_of_beq_eq_true hcc.2.1
   have hle := Nat.le_of_ble_eq_true hcc.2.2
   obtain ⟨a, cap, rfl, _, _, _, hloc⟩ := hx.bs_inv
   obtain ⟨rfl, _⟩ := hloc (m id) (Ye hid)
   obtain ⟨C, e', hC, hsz, hbl, hcs⟩ := h.box id _ hid
   have hcl := IS _ _ hns
   have hnl : ns.length = len := by have := congrArg List.length hcl; grind
   refine ⟨.string (runesBytes (ns.take len)), run_convert_runes w src to e _ len cap ns (by omega) hs he hd fun j hj => ?_, ?_⟩
   ·have h1 : cs[off + j]? = some (.int .i32 (ns.getD j 0)) := by
     have h2 : ((cs.drop off).take len)[j]? = (ns.map (AV.int .i32))[j]? := by rw [hcl]
     grind
    obtain ⟨v, f1, f2, f3⟩ := hcs _ _ h1
    cases f3 with
    | imm _ _ f3 =>
     cases f3
     rw [ZW]
     simp only [World.cell?, hC]
     grind
   ·rw [List.take_of_length_le (by omega)]
    have := IF ns s ByteArray.empty hss
    unfold runesBytes
    rw [this, ByteArray.empty_append]
    exact .imm _ _ (.str s)
  ·rw [hx.nil_inv]
   exact ⟨_, run_convert_runes_nil w src to e 0 0 hs he hd, .imm _ _ (.str [])⟩
theorem SG (t t' ty e : TypeId) (i : TypeInfo) (ht : P.underlying t = some (.slice e)) (hi : P.info? e = some i)
  (g o dLen dCap : Nat) (a0 : Addr) (sLen sCap : Nat) (cur : Array Value) (e' : TypeId) (vs : List Value) (hg : w.heap[g]? = some (.cells cur e' (0, 0))) (hl : vs.length = Nat.min sLen dLen * i.size)
  (hsrc : ∀ (j : Nat) (v : Value), vs[j]? = some v → w.cell? (a0.add j) = some v) (hfit : o + vs.length ≤ cur.size) (h1 : ∀ v ∈ vs, v.oneCell' = true) :
  (Builtin.copy_ #[t, t'] ty #[.slice (some ⟨g, o, none⟩) dLen dCap, .slice (some a0) sLen sCap]).run P w =
   .ok (goInt (Nat.min sLen dLen)) (w.setRow g (cur.toList.take o ++ vs ++ cur.toList.drop (o + vs.length)).toArray) := by
 have hf := run_firstCells_some (P := P) (w := w) i.size (Nat.min sLen dLen) a0 sLen sCap vs hl hsrc
 have hst := run_storeCells_at P g o e' vs 0 cur w hg (by omega) h1
 simp only [Nat.add_zero] at hst
 simp [Builtin.copy_, run_underlying ht, Go.sizeOf, typeInfo, hi, Builtin.lenOf, hf, hst]
theorem RK (t t' ty e : TypeId) (i : TypeInfo) (ht : P.underlying t = some (.slice e)) (hi : P.info? e = some i) (b a0 : Option Addr) (n c m c' : Nat) (h0 : Nat.min m n = 0) :
  (Builtin.copy_ #[t, t'] ty #[.slice b n c, .slice a0 m c']).run P w = .ok (goInt 0) w := by
 cases a0 with
 | none => cases b <;> simp [Builtin.copy_, run_underlying ht, Go.sizeOf, typeInfo, hi, Builtin.lenOf, Builtin.firstCells, h0, storeCells]
 | some a => cases b <;> simp [Builtin.copy_, run_underlying ht, Go.sizeOf, typeInfo, hi, Builtin.lenOf, Builtin.firstCells, h0, storeCells, loadCells, loadCellsFrom]
theorem PF (h : RelS m H B H0 gl rest st a.tmps w) {dst : Option Nat} (hd : QV dst st.n = true) {t t' ty : TypeId} {x y : AV} {u v : Value} {r : AV × Option (Nat × Box)} (hx : RV H (st.env m) x u) (hy : RV H (st.env m) y v) (hk : xcopy P t x y (lkb st.hp) = some r) :
  OpOk P B H0 gl rest a w dst (st.eff dst r) (do pure (.value (← Builtin.copy_ #[t, t'] ty #[u, v]))) := by
 unfold xcopy at hk
 split at hk <;> first | cases hk | skip
 rename_i sz by_ zs ht
 obtain ⟨e, i, z0, hte, hi, hz, hzs, hpos, hsize, hby, hok, rfl⟩ := G9 ht
 split at hk <;> first | cases hk | skip
 rename_i n ds hsrc
 obtain ⟨ad, c, vs, rfl, hr, hdl, hcell⟩ := Iq h.heap hy hsrc hpos
 split at hk <;> first | cases hk | skip
 rename_i id ver z off len
 split at hk <;> first | cases hk | skip
 rename_i v' cs hid
 split at hk <;> first | cases hk | skip
 rename_i hc
 simp only [Bool.and_eq_true] at hc
 obtain rfl := Nat.eq_of_beq_eq_true hc.1
 obtain rfl := Nat.eq_of_beq_eq_true hc.2.1
 have hle0 := Nat.le_of_ble_eq_true hc.2.2
 obtain ⟨b, cap, rfl, hlc, hcm, _, hloc⟩ := hx.bs_inv
 obtain ⟨rfl, hfit0⟩ := hloc (m id) (Ye hid)
 split at hk
 ·rename_i h0
  cases hk
  have h0 := Nat.eq_of_beq_eq_true h0
  exact OpOk.val h hd (by rw [Sem.run_bind, RK t t' ty e i hte hi _ ad len cap n c h0]; rfl) (.imm _ _ (.int _ _))
 ·rename_i h0
  cases hk
  have h0 : Nat.min n len ≠ 0 := fun e => by rw [e] at h0; cases h0
  generalize hkk : Nat.min n len = k at *
  have hk1 : k ≤ n := by rw [← hkk]; exact Nat.min_le_left _ _
  have hk2 : k ≤ len := by rw [← hkk]; exact Nat.min_le_right _ _
  obtain ⟨a0, rfl, hcells⟩ := hcell (by omega)
  obtain ⟨C, e2, hC, hs, hle, hcs⟩ := h.heap.box id _ hid
  have hkz : k * z ≤ n * z := Nat.mul_le_mul_right _ hk1
  have hkl : k * z ≤ len * z := Nat.mul_le_mul_right _ hk2
  have hdv : ds.length = vs.length := hr.1
  have hyc : Zc (RV H (st.env m)) (ds.take (k * z)) (vs.take (k * z)) := ⟨by simp [hdv], fun j c hj => by
   rw [List.getElem?_take] at hj ⊢
   split at hj
   ·rename_i hlt
    rw [if_pos hlt]; exact hr.2 j c hj
   ·cases hj⟩
  have hvl : (vs.take (k * z)).length = k * z := by simp; omega
  have hdl' : (ds.take (k * z)).length = k * z := by simp; omega
  have hE := He (m := m) (hp := lkb st.hp) (cs' := cs.take off ++ (ds.take (k * z) ++ cs.drop (off + k * z))) (l := m id) hid rfl
  have hsep := h.heap.sep id _ hid
  have hrow := ER (base := (m id).base) (off := off) hle hcs hyc (by omega) (by omega)
  have hh := h.heap.one (id := id) (b := .cells v' (cs.take off ++ (ds.take (k * z) ++ cs.drop (off + k * z)))) (l := m id) (w' := w.setRow (m id).g (C.toList.take ((m id).base + off) ++ vs.take (k * z) ++ C.toList.drop ((m id).base + off + (vs.take (k * z)).length)).toArray)
   (fun k _ hk => setRow_other w _ k _ hk) (by simp [World.setRow]) hE ⟨hsep.1, by simp [World.setRow]; omega, hsep.2.2⟩ (fun id' b' hne hb' hr e => hne (h.heap.injR id' id b' _ hb' hid hr trivial e)) (by
    rcases Nat.lt_or_ge id st.nx with hlt | hge
    ·exact hlt
    ·have := h.heap.fresh id hge; simp_all) (Nat.le_refl _) (by
    refine ⟨_, e2, setRow_heap w _ C _ e2 _ hC, ?_, ?_, fun j c hj => ?_⟩
    ·simp; omega
    ·simp; omega
    ·rw [← hdl'] at hj
     simp only [hdl'] at hj
     obtain ⟨v2, a1, a2, a3⟩ := hrow j c (by rw [hdl']; exact hj)
     exact ⟨v2, a1, a2, a3.mono (.refl _) hE⟩) (fun ver cs2 e3 => by
    cases e3
    rcases h.heap.ty id _ _ hid with h0 | ⟨h1, C2, fr, h2⟩
    ·exact .inl h0
    ·rw [hC] at h2; cases h2
     exact .inr ⟨h1, _, _, setRow_heap w _ C _ _ _ hC⟩)
  have hm : updF m id (m id) = m := by funext k; simp only [updF]; split <;> simp [*]
  refine OpOk.heap (v := goInt k) h hd ?_ (.inl rfl) (UU h.heap hid _ (fun C0 e0 fr0 h0 => by grind)) hh hE (.imm _ _ (.int _ _))
  have hrun := SG (P := P) (w := w) t t' ty e i hte hi (m id).g ((m id).base + off) len cap a0 n c C e2 (vs.take (k * z)) hC (by rw [hvl, hkk, hsize]) (fun j v hj => by
   rw [List.getElem?_take] at hj
   split at hj
   ·exact hcells j v hj
   ·cases hj) (by omega) hyc.mem
  simp_all
theorem La {e : TypeId} {fr : Nat × Nat} (b : Nat) : ∀ (vs : List Value) (o : Nat) (w : World) (C : Array Value), w.heap[b]? = some (.cells C e fr) → o + vs.length ≤ C.size →
  ∃ C', (w.setCells b o vs).heap[b]? = some (.cells C' e fr) ∧ C'.size = C.size ∧ (∀ j, j < vs.length → C'[o + j]? = vs[j]?) ∧ (∀ k, k < o ∨ o + vs.length ≤ k → C'[k]? = C[k]?) ∧ (w.setCells b o vs).heap.size = w.heap.size
 | [], o, w, C, h, _ => ⟨C, h, rfl, fun j hj => by simp at hj, fun _ _ => rfl, rfl⟩
 | v :: vs, o, w, C, h, ho => by
  simp only [List.length_cons] at ho
  have hb : b < w.heap.size := (Array.getElem?_eq_some_iff.1 h).1
  have h0 : (w.setCell ⟨b, o, none⟩ v).heap[b]? = some (.cells (C.setIfInBounds o v) e fr) := by
   show (w.heap.modify b _)[b]? = _
   grind
  obtain ⟨C', a1, a2, a3, a4, a5⟩ := La b vs (o + 1) (w.setCell ⟨b, o, none⟩ v) _ h0 (by simp; omega)
  refine ⟨C', a1, by simp_all, fun j hj => ?_, fun k hk => ?_, by rw [show (w.setCells b o (v :: vs)) = (w.setCell ⟨b, o, none⟩ v).setCells b (o + 1) vs from rfl, a5]; simp_all⟩
  ·grind
  grind
theorem Ld (b : Nat) : ∀ (vs : List Value) (o : Nat) (w : World), (w.setCells b o vs).os = w.os ∧ (w.setCells b o vs).tape = w.tape ∧ (w.setCells b o vs).output = w.output ∧ ∀ k, k ≠ b → (w.setCells b o vs).heap[k]? = w.heap[k]?
 | [], o, w => ⟨rfl, rfl, rfl, fun _ _ => rfl⟩
 | v :: vs, o, w => by
  obtain ⟨a1, a2, a3, a4⟩ := Ld b vs (o + 1) (w.setCell ⟨b, o, none⟩ v)
  refine ⟨a1, a2, a3, fun k hk => (a4 k hk).trans ?_⟩
  show (w.heap.modify b _)[k]? = _
  grind
structure PutC (H : HV) (E : Env) (w W : World) (l : Lc) (cs' : List AV) : Prop where
 os : W.os = w.os
 tape : W.tape = w.tape
 out : W.output = w.output
 size : w.heap.size ≤ W.heap.size
 oth : ∀ k, k < w.heap.size → k ≠ l.g → W.heap[k]? = w.heap[k]?
 row : ∀ C e, w.heap[l.g]? = some (.cells C e (0, 0)) → ∃ C', W.heap[l.g]? = some (.cells C' e (0, 0)) ∧ C'.size = C.size ∧ l.base + cs'.length ≤ C.size ∧
  ∀ j c, cs'[j]? = some c → ∃ v, C'[l.base + j]? = some v ∧ v.oneCell' = true ∧ RV H E c v
theorem F7 {hp : Hp} {nx : Nat} {W : World} {id ver : Nat} {cs cs' : List AV} (hh : RelH m H B H0 gl hp nx w) (hid : hp id = some (.cells ver cs)) (hW : PutC H (Q5 hp m) w W (m id) cs') :
  RelH m H B H0 gl (updF hp id (some (.cells ver cs'))) nx W ∧ Env.le (Q5 hp m) (Q5 (updF hp id (some (.cells ver cs'))) m) ∧ Q8 B w W := by
 have hn : id < nx := by
  rcases Nat.lt_or_ge id nx with h | h
  ·exact h
  ·rw [hh.fresh id h] at hid; cases hid
 obtain ⟨hb, hlt, hnone⟩ := hh.sep id _ hid
 obtain ⟨C, e, h1, h2, h3, h4⟩ := hh.box id _ hid
 obtain ⟨C', g1, g2, g3, g4⟩ := hW.row C e h1
 have hE := He (m := m) (hp := hp) (cs' := cs') (l := m id) hid rfl
 have hm : updF m id (m id) = m := by grind [updF]
 have hoth := hW.oth
 have := hh.one (id := id) (nx' := nx) (b := .cells ver cs') (l := m id) (w' := W) (fun k hk hne => hoth k hk hne) hW.size hE ⟨hb, Nat.lt_of_lt_of_le hlt hW.size, hnone⟩
  (fun id' b' hne hb' hr e => hne (hh.injR id' id b' _ hb' hid hr trivial e)) hn (Nat.le_refl _) ⟨C', e, g1, by omega, by omega, fun j c hj => let ⟨v, a, b, c'⟩ := g4 j c hj; ⟨v, a, b, c'.mono (.refl _) hE⟩⟩ (fun ver2 cs2 e3 => by
   cases e3
   rcases hh.ty id _ _ hid with h0 | ⟨q1, C2, fr, q2⟩
   ·exact .inl h0
   ·rw [h1] at q2; cases q2
    exact .inr ⟨q1, _, _, g1⟩)
 rw [hm] at this hE
 refine ⟨this, hE, ⟨hW.os, hW.tape, hW.out, hW.size, fun k hk => hoth k (hh.low k hk) fun e => hb (e ▸ hk), fun k C2 e2 fr hk => ?_⟩⟩
 grind
theorem TP {hp : Hp} {nx : Nat} {id ver off : Nat} {cs ds : List AV} {vs : List Value} (hh : RelH m H B H0 gl hp nx w) (hid : hp id = some (.cells ver cs)) (hr : Zc (RV H (Q5 hp m)) ds vs) (hfit : off + ds.length ≤ cs.length) :
  PutC H (Q5 hp m) w (w.setCells (m id).g ((m id).base + off) vs) (m id) (cs.take off ++ (ds ++ cs.drop (off + ds.length))) := by
 obtain ⟨C, e, h1, h2, h3, h4⟩ := hh.box id _ hid
 have hdv : ds.length = vs.length := hr.1
 obtain ⟨C', b1, b2, b3, b4, b5⟩ := La (e := e) (fr := (0, 0)) (m id).g vs ((m id).base + off) w C h1 (by omega)
 obtain ⟨s1, s2, s3, s4⟩ := Ld (m id).g vs ((m id).base + off) w
 refine ⟨s1, s2, s3, by omega, fun k _ hk => s4 k hk, fun C0 e0 h0 => ?_⟩
 rw [h1] at h0; cases h0
 refine ⟨C', b1, b2, by simp; omega, fun j c hj => ?_⟩
 have hto : (cs.take off).length = off := by grind
 by_cases q1 : j < off
 ·grind
 ·rw [List.getElem?_append_right (by omega), hto] at hj
  by_cases q2 : j - off < ds.length
  ·rw [List.getElem?_append_left q2] at hj
   obtain ⟨v, a1, a2, a3⟩ := hr.2 _ c hj
   grind
  grind
theorem FQ {E : Env} {sz n : Nat} {z : Value} (hz : z.cells.size = sz) (hpos : 0 < sz) (hok : (ofV z).okc = true) : Zc (RV H E) (Ir sz n (ofV z).cells) (Builtin.zeroCells z.cells n).toList := by
 have hr := (RV.imm (H := H) (E := E) _ _ (Cn H z)).cellsRel hok
 have hl : (ofV z).cells.length = sz := by rw [hr.1]; omega
 refine ⟨by simp [Ir, Builtin.zeroCells, hz], fun j c hj => ?_⟩
 unfold Ir at hj
 rw [List.getElem?_map, Option.map_eq_some_iff] at hj
 obtain ⟨i, hi, rfl⟩ := hj
 have hil : i = j ∧ j < n * sz := by
  grind
 obtain ⟨rfl, hjn⟩ := hil
 have hm : i % sz < sz := Nat.mod_lt _ hpos
 obtain ⟨v, a1, a2, a3⟩ := hr.2 (i % sz) ((ofV z).cells[i % sz]'(by omega)) (List.getElem?_eq_getElem (by omega))
 refine ⟨v, ?_, a2, by simp_all⟩
 rw [Array.getElem?_toList] at a1 ⊢
 unfold Builtin.zeroCells
 simp_all
theorem FA (h : RelS m H B H0 gl rest st a.tmps w) {t ty : TypeId} {x : AV} {u : Value} {r : AV × Option (Nat × Box)} (hx : RV H (st.env m) x u) (hk : Sa P t x (lkb st.hp) = some r) {dst : Option Nat} (hd : QV dst st.n = true) :
  OpOk P B H0 gl rest a w dst (st.eff dst r) (do pure (.value (← Builtin.clear_ #[t] ty #[u]))) := by
 unfold Sa at hk
 split at hk <;> first | cases hk | skip
 rename_i sz by_ zs ht
 obtain ⟨e, i, z0, hte, hi, hz, hzs, hpos, hsize, hby, hok, rfl⟩ := G9 ht
 have hzero : ∀ w, (zeroValue e).run P w = .ok z0 w := fun w => by simp [zeroValue, typeInfo, hi, hz, Result.andThen]
 have none0 : ∀ (b : Option Addr) (c : Nat), (Builtin.clear_ #[t] ty #[.slice b 0 c]).run P w = .ok (.tuple #[]) w := fun b c => by
  cases b <;> simp [Builtin.clear_, run_underlying hte]
 split at hk <;> first | cases hk | skip
 ·rw [hx.nil_inv]
  exact OpOk.val h hd (by rw [Sem.run_bind, none0]; rfl) (.imm _ _ (.tup _ _ rfl (fun j c v hj => by simp at hj)))
 ·rename_i id ver z off len
  split at hk <;> first | cases hk | skip
  rename_i v' cs hid
  split at hk <;> first | cases hk | skip
  rename_i hc
  simp only [Bool.and_eq_true] at hc
  obtain rfl := Nat.eq_of_beq_eq_true hc.1
  obtain rfl := Nat.eq_of_beq_eq_true hc.2.1
  have hle := Nat.le_of_ble_eq_true hc.2.2
  obtain ⟨b, cap, rfl, hlc, hcm, _, hloc⟩ := hx.bs_inv
  obtain ⟨rfl, hfit0⟩ := hloc (m id) (Ye hid)
  split at hk
  ·rename_i h0
   cases hk
   obtain rfl := Nat.eq_of_beq_eq_true h0
   exact OpOk.val h hd (by rw [Sem.run_bind, none0]; rfl) (.imm _ _ (.tup _ _ rfl (fun j c v hj => by simp at hj)))
  ·rename_i h0
   cases hk
   have hlen : len ≠ 0 := fun e => by simp_all
   have hrel := FQ (H := H) (E := st.env m) (n := len) hzs hpos hok
   have hzl : (Ir z len (ofV z0).cells).length = len * z := by simp [Ir]
   have hput := TP (m := m) (H := H) (off := off) h.heap hid hrel (by omega)
   rw [hzl] at hput
   obtain ⟨hh, hE, hb⟩ := F7 h.heap hid hput
   refine OpOk.heap (v := .tuple #[]) h hd ?_ (.inl rfl) hb hh hE (.imm _ _ (.tup _ _ rfl (fun j c v hj => by simp at hj)))
   obtain ⟨C, e2, h1, h2, h3, h4⟩ := h.heap.box id _ hid
   have hvl : (Builtin.zeroCells z0.cells len).toList.length = len * z := by rw [← hrel.1]; exact hzl
   have hst := run_storeCells_cells (P := P) (m id).g ((m id).base + off) (Builtin.zeroCells z0.cells len).toList 0 w (fun j hj => by
    have : (m id).base + off + (0 + j) < C.size := by omega
    simp [World.cell?, h1]; omega) (fun j hj => by simp [World.frozen?, h1]) hrel.mem
   simp only [Nat.add_zero] at hst
   obtain ⟨k, rfl⟩ : ∃ k, len = k + 1 := ⟨len - 1, by omega⟩
   rw [Sem.run_bind]
   have hrun : (Builtin.clear_ #[t] ty #[.slice (some ⟨(m id).g, (m id).base + off, none⟩) (k + 1) cap]).run P w = .ok (.tuple #[]) (w.setCells (m id).g ((m id).base + off) (Builtin.zeroCells z0.cells (k + 1)).toList) := by
    simp [Builtin.clear_, run_underlying hte, hzero, hst]
   simp_all
theorem R1 (h : RelS m H B H0 gl rest st a.tmps w) {o : Oper} (hd : QV o.dst st.n = true) {bid : Nat} (hb : lkb st.hp bid = none) (hn : bid < st.nx) {r : AV × Option (Nat × Box)} (hk : xopM P bid o.dst o.op (st.ev gl) (lkb st.hp) = some r) :
  OpOk P B H0 gl rest a w o.dst (st.eff o.dst r) (execOp a.eval o) := by
 unfold xopM at hk
 unfold execOp
 split at hk
 ·rename_i t ho
  simp only [ho]
  cases hk
  have h1 : ∀ t, (bif CT P t then Box.mapI [] else Box.map []).ver? = none := fun t => by cases CT P t <;> rfl
  have h2 : ∀ t E, Y1 H E (bif CT P t then Box.mapI [] else Box.map []) ⟨w.heap.size, 0, 0⟩ (w.alloc (.map #[] 0)) := fun t E => by
   cases CT P t with
   | true => exact ⟨#[], 0, X2 w _, rfl, fun j k x e hj => by simp_all⟩
   | false => exact ⟨#[], 0, X2 w _, rfl, fun j k x e hj => by simp at hj⟩
  have h3 : ∀ t m', (Q5 (updF (lkb st.hp) bid (some (bif CT P t then Box.mapI [] else Box.map []))) m').lp bid = some (m' bid).g := fun t m' => by grind [CT, Q5, Qk]
  obtain ⟨hh, hE⟩ := h.heap.newObj hb hn (Nat.le_refl _) (.map #[] 0) (bif CT P t then Box.mapI [] else Box.map []) (h1 t) (h2 t _)
  refine OpOk.heap h hd (nx := .value (.map (some w.heap.size))) ?_ (.inl rfl) (CC h _) hh hE (.mp _ _ (by simp_all [Qk]))
  simp [Instr.makeMap]
 ·rename_i src to x ho
  simp only [ho]
  obtain ⟨v, h1, rfl⟩ := YO hk
  obtain ⟨y, h2, h3⟩ := FK (P := P) h.heap (h.ev x) h1
  exact OpOk.val h hd (v := y) (by simp [h2]) h3
 ·rename_i t x i v ho
  simp only [ho]
  split at hk
  ·exact PN h (h.ev x) (h.ev i) (h.ev v) hk hd (fun w' hw' => by simp [hw'])
  ·cases hk
 ·rename_i c ho
  simp only [ho]
  split at hk
  ·rename_i hcal
   split at hk
   ·rename_i t t' x y hts hxs
    obtain ⟨cee, cargs, cts⟩ := c
    dsimp only at hcal hts hxs hk
    subst hcal
    obtain ⟨l1⟩ := cts
    obtain ⟨l2⟩ := cargs
    dsimp only at hts hxs
    subst hts
    match l2, hxs with
    | [o1, o2], hxs =>
     cases hxs
     have := PF (t' := t') (ty := o.type) h hd (h.ev o1) (h.ev o2) hk
     simp only [resolve]
     simpa only [List.map_toArray, List.map_cons, List.map_nil, invoke, builtin, pure_bind] using this
   ·cases hk
  ·rename_i hcal
   split at hk
   ·rename_i t x hts hxs
    obtain ⟨cee, cargs, cts⟩ := c
    dsimp only at hcal hts hxs hk
    subst hcal
    obtain ⟨l1⟩ := cts
    obtain ⟨l2⟩ := cargs
    dsimp only at hts hxs
    subst hts
    match l2, hxs with
    | [o1], hxs =>
     cases hxs
     have := FA (ty := o.type) h (h.ev o1) hk hd
     simp only [resolve]
     simpa only [List.map_toArray, List.map_cons, List.map_nil, invoke, builtin, pure_bind] using this
   ·cases hk
  ·rename_i hcal
   split at hk
   ·rename_i t x hts hxs
    obtain ⟨cee, cargs, cts⟩ := c
    dsimp only at hcal hts hxs hk
    subst hcal
    obtain ⟨l1⟩ := cts
    obtain ⟨l2⟩ := cargs
    dsimp only at hts hxs
    subst hts
    match l2, hxs with
    | [o1], hxs =>
     cases hxs
     obtain ⟨v, h1, rfl⟩ := YO hk
     obtain ⟨y, h2, h3⟩ := PM (P := P) (ty := o.type) h (h.ev o1) h1
     refine OpOk.val h hd (v := y) ?_ h3
     simp [resolve, invoke, builtin, h2]
   ·cases hk
  ·rename_i hcal
   split at hk
   ·rename_i t t' x y hts hxs
    obtain ⟨cee, cargs, cts⟩ := c
    dsimp only at hcal hts hxs hk
    subst hcal
    obtain ⟨l1⟩ := cts
    obtain ⟨l2⟩ := cargs
    dsimp only at hts hxs
    subst hts
    match l2, hxs with
    | [o1, o2], hxs =>
     cases hxs
     have := PK (t' := t') (ty := o.type) h (h.ev o1) (h.ev o2) hk hd
     simp only [resolve]
     simpa only [List.map_toArray, List.map_cons, List.map_nil, invoke, builtin, pure_bind] using this
   ·cases hk
  ·cases hk
 ·cases hk
theorem Nb {bid : Nat} {dst : Option Nat} {op : Op} {ev : Operand → AV} {hp : Hp} {r : AV × Option (Nat × Box)} (h : xopM P bid dst op ev hp = some r) : ∀ c, op ≠ .defer c := by
 grind [xopM]
end
end HY
end
section
namespace HY
open Go Go.RowKit
def FW (r : Option Nat) : Fence := { fn := fun _ => True, depth := none, alive := false, round := r }
theorem DL {r : Option Nat} {n : Nat} {P : Program} {f : FuncId} {args : Array Value} {w : World} {R : Ending → World → Prop} (h : Calls P f args w R) : CallsIn (FW r) n P f args w R :=
 show CallsIn Fence.wide n P f args w R from callsIn_wide.2 h
def Wz (P : Program) (f : FuncId) : Prop := ∀ args w, (callFunc f args).run P w = .ok (.enter f args) w
theorem U0 {P : Program} {f : FuncId} {fn : Func} (hf : P.funcs[f]? = some fn) (hn : (fn.name == "runtime.NumGoroutine") = false) (hb : fn.body.isSome = true) : Wz P f := by
 intro args w
 have hb' : fn.body.isNone = false := by simp_all
 simp only [callFunc, Sem.run_bind, run_program, Result.andThen_ok, hf, hn, hb', Bool.false_eq_true, if_false, Sem.run_pure]
def Ans (P : Program) (f : FuncId) (vs : Array Value) (w : World) (Q : Ending → World → Prop) : Prop :=
 (Wz P f ∧ Calls P f vs w Q) ∨ ∃ v w', (callFunc f vs).run P w = .ok (.value v) w' ∧ Q (.returned v) w'
theorem Ans.mono {P : Program} {f : FuncId} {vs : Array Value} {w : World} {Q Q' : Ending → World → Prop} (h : Ans P f vs w Q) (hq : ∀ e w', Q e w' → Q' e w') : Ans P f vs w Q' := by
 rcases h with ⟨h1, h2⟩ | ⟨v, w', h1, h2⟩
 ·exact .inl ⟨h1, h2.mono hq⟩
 ·exact .inr ⟨v, w', h1, hq _ _ h2⟩
theorem Ans.calls {P : Program} {f : FuncId} {vs : Array Value} {w : World} {Q : Ending → World → Prop} (h : Ans P f vs w Q) (he : Wz P f) : Calls P f vs w Q := by
 rcases h with ⟨_, h2⟩ | ⟨v, w', h1, _⟩
 ·exact h2
 ·rw [he vs w] at h1; cases h1
def Lo (P : Program) (gl : Nat → AV) (f : FuncId) (args : List AV) (hp : Tr Box) (nx : Nat) (r : AV) (hp' : Tr Box) (nx' : Nat) : Prop :=
 ∀ (m : Nat → Lc) (H : HV) (B : Nat → Prop) (H0 : HV) (rest : List (AV × Value)) (w : World) (vs : Array Value), RelH m H B H0 gl (lkb hp) nx w → args.length = vs.size →
  (∀ (j : Nat) (x : AV) (v : Value), args[j]? = some x → vs[j]? = some v → RV H (Q5 (lkb hp) m) x v) → (∀ p ∈ rest, RV H (Q5 (lkb hp) m) p.1 p.2) →
  Ans P f vs w fun e w' => ∃ v m' H', e = .returned v ∧ Q8 B w w' ∧ RelH m' H' B H0 gl (lkb hp') nx' w' ∧ RV H' (Q5 (lkb hp') m') r v ∧ ∀ p ∈ rest, RV H' (Q5 (lkb hp') m') p.1 p.2
def KW (P : Program) (gl : Nat → AV) (f : FuncId) (args : List AV) (r : AV) (hp' : Tr Box) (nx' : Nat) : Prop :=
 ∀ (m : Nat → Lc) (H : HV) (B : Nat → Prop) (H0 : HV) (w : World) (vs : Array Value), RelH m H B H0 gl (lkb .nil) 0 w → args.length = vs.size →
  (∀ (j : Nat) (x : AV) (v : Value), args[j]? = some x → vs[j]? = some v → RV H (Q5 (lkb .nil) m) x v) →
  Ans P f vs w fun e w' => ∃ v m' H', e = .returned v ∧ Q8 B w w' ∧ RelH m' H' B H0 gl (lkb hp') nx' w' ∧ RV H' (Q5 (lkb hp') m') r v
abbrev Ql := Nat → List AV → Tr Box → Nat → Option (AV × Tr Box × Nat)
def Ql.Ok (P : Program) (gl : Nat → AV) (ch : Ql) : Prop := ∀ f args hp nx r hp' nx', ch f args hp nx = some (r, hp', nx') → Lo P gl f args hp nx r hp' nx'
def optL (f : AV → Option AV) : List AV → Option (List AV)
 | [] => some []
 | x :: xs => match f x with
  | some y => match optL f xs with
   | some ys => some (y :: ys)
   | none => none
  | none => none
def VX (sz len : Nat) (ds : List AV) : List AV := (List.range len).map fun i => .agg ((ds.drop (i * sz)).take sz)
def tree (hp : Hp) (strict : Bool) : Nat → AV → Option AV
 | 0, _ => none
 | k + 1, x => match x with
  | .bs id ver sz off len => match hp id with
   | some (.cells v cs) => if v = ver ∧ off + len * sz ≤ cs.length ∧ 0 < sz then (match optL (tree hp strict k) ((cs.drop off).take (len * sz)) with
    | some ds => some (.sl sz (VX sz len ds))
    | none => none) else none
   | _ => none
  | .agg cs => match optL (tree hp strict k) cs with
   | some ds => some (.agg ds)
   | none => none
  | .tup cs => match optL (tree hp strict k) cs with
   | some ds => some (.tup ds)
   | none => none
  | .sl sz xs => if strict && !xs.isEmpty then none else some (.sl sz xs)
  | .ip sz xs i off => if strict then none else some (.ip sz xs i off)
  | .fn f cs => match optL (tree hp strict k) cs with
   | some ds => some (.fn f ds)
   | none => none
  | .ptr .. => none
  | .ow .. => none
  | .oe .. => none
  | .yld _ => none
  | .mp _ => none
  | x => some x
theorem UZ {f : AV → Option AV} : ∀ {xs ys : List AV}, optL f xs = some ys → ys.length = xs.length ∧ ∀ (j : Nat) (y : AV), ys[j]? = some y → ∃ x, xs[j]? = some x ∧ f x = some y
 | [], ys, h => by simp only [optL, Option.some.injEq] at h; simp_all
 | x :: xs, ys, h => by
  simp only [optL] at h
  split at h
  ·rename_i y hy
   split at h
   ·rename_i zs hz
    cases h
    obtain ⟨h1, h2⟩ := UZ hz
    grind
   ·cases h
  ·cases h
noncomputable def snap (H : HV) (hp : Hp) (m : Nat → Lc) (w : World) : HV := fun b o =>
 open Classical in if ∃ id bx ver, hp id = some bx ∧ bx.ver? = some ver ∧ Real bx (m id) ∧ (m id).g = b then w.cell? ⟨b, o, none⟩ else H b o
theorem Hr {H : HV} {hp : Hp} {m : Nat → Lc} {w : World} (h : HV.sat H w) : HV.sat (snap H hp m w) w := by
 intro b o v hv
 unfold snap at hv
 split at hv
 ·exact hv
 ·exact h b o v hv
theorem Me {H : HV} {hp : Hp} {m : Nat → Lc} {w : World} (hd : ∀ id bx, hp id = some bx → Real bx (m id) → ∀ o, H (m id).g o = none) : HV.le H (snap H hp m w) := fun b o u hu => by
 unfold snap
 grind
theorem Cs {H : HV} {hp : Hp} {m : Nat → Lc} {w : World} {E : Env} (strict : Bool) {H1 : HV} (hE : ∀ id ver cs, hp id = some (.cells ver cs) → E.loc id ver = some (m id)) (hbox : ∀ id ver cs, hp id = some (.cells ver cs) → Y1 H E (.cells ver cs) (m id) w)
  (hd : ∀ id bx, hp id = some bx → Real bx (m id) → ∀ o, H (m id).g o = none) (hH1 : strict = false → H1 = H) : ∀ (k : Nat) (x t : AV) (v : Value), RV H E x v → tree hp strict k x = some t → RelI (snap H1 hp m w) t v
 | 0, x, t, v, _, h => by cases h
 | k + 1, x, t, v, hx, h => by
  have ih := Cs strict hE hbox hd hH1 k
  have hle : strict = false → HV.le H (snap H1 hp m w) := fun hs => by simp_all [Me]
  unfold tree at h
  split at h
  ·rename_i id ver sz off len
   split at h
   ·rename_i v' cs hid
    split at h
    ·rename_i hc
     obtain ⟨rfl, hle', hpos⟩ := hc
     split at h
     ·rename_i ds hds
      cases h
      obtain ⟨hl, hget⟩ := UZ hds
      obtain ⟨a, cap, rfl, _, hlc, hcm, hloc⟩ := hx.bs_inv
      obtain ⟨rfl, hfit⟩ := hloc _ (hE _ _ _ hid)
      obtain ⟨C, e, hC, hsC, hle2, hcs⟩ := hbox _ _ _ hid
      have hdl : ds.length = len * sz := by grind
      have hcl : (VX sz len ds).length = len := by simp [VX]
      have hel : ∀ (i : Nat) (x : AV), (VX sz len ds)[i]? = some x → i < len ∧ x = .agg ((ds.drop (i * sz)).take sz) := fun i x hx => by
       grind [List.getElem?_eq_some_iff, VX]
      have hmul : ∀ i, i < len → i * sz + sz ≤ len * sz := fun i hi => by
       have : (i + 1) * sz ≤ len * sz := Nat.mul_le_mul_right _ hi
       grind
      have hcell : ∀ (i : Nat) (x : AV) (j : Nat) (c : AV), (VX sz len ds)[i]? = some x → x.cells[j]? = some c → i < len ∧ j < sz ∧ ds[i * sz + j]? = some c := fun i x j c hx hj => by
       obtain ⟨hi, rfl⟩ := hel i x hx
       simp only [AV.cells] at hj
       grind
      have hreal : ∀ (n : Nat) (c : AV), ds[n]? = some c → ∃ u, C[(m id).base + off + n]? = some u ∧ u.oneCell' = true ∧ RelI (snap H1 hp m w) c u := fun n c hn => by
       grind
      have := RelI.sl (H := snap H1 hp m w) sz (VX sz len ds) (m id).g ((m id).base + off) cap (fun i j => (C[(m id).base + off + (i * sz + j)]?).getD Go.undef) hpos (by omega) hcm
       (fun i x hx => by
        obtain ⟨hi, rfl⟩ := hel i x hx
        grind [AV.cells])
       (fun i x j c hx hj => by
        obtain ⟨hi, hjl, hn⟩ := hcell i x j c hx hj
        obtain ⟨u, a1, a2, a3⟩ := hreal _ c hn
        rw [a1]
        refine ⟨?_, a2⟩
        have hex : ∃ id' bx ver, hp id' = some bx ∧ bx.ver? = some ver ∧ Real bx (m id') ∧ (m id').g = (m id).g := ⟨id, _, _, hid, rfl, trivial, rfl⟩
        unfold snap
        rw [if_pos hex, Xw _ _ _ _ _ _ hC, Nat.add_assoc, a1]
        rfl)
       (fun i x j c hx hj => by
        grind)
      grind
     ·cases h
    ·cases h
   ·cases h
  ·rename_i cs
   split at h
   ·rename_i ds hds
    cases h
    obtain ⟨hl, hget⟩ := UZ hds
    obtain ⟨vs, rfl, h1, h2, h3⟩ := hx.agg_inv
    refine .agg ds vs (by rw [hl]; exact h1) h2 fun j c u hj hu => ?_
    grind
   ·cases h
  ·rename_i cs
   split at h
   ·rename_i ds hds
    cases h
    obtain ⟨hl, hget⟩ := UZ hds
    obtain ⟨vs, rfl, h1, h3⟩ := hx.tup_inv
    refine .tup ds vs (by rw [hl]; exact h1) fun j c u hj hu => ?_
    obtain ⟨x, a1, a2⟩ := hget j c hj
    exact ih x c u (h3 j x u a1 hu) a2
   ·cases h
  ·rename_i sz xs
   split at h
   ·cases h
   ·rename_i hc
    cases h
    cases strict with
    | false => exact hx.sl_inv.mono (hle rfl)
    | true =>
     simp at hc
     subst hc
     obtain ⟨a, cap, rfl, h1, h2⟩ := hx.sl_inv.len_inv
     exact .sl0 _ _ _ h2
  ·rename_i sz xs i off
   split at h
   ·cases h
   ·rename_i hc
    cases h
    exact hx.ip_inv.mono (hle (by simp_all))
  ·rename_i f cs
   split at h
   ·rename_i ds hds
    cases h
    obtain ⟨hl, hget⟩ := UZ hds
    obtain ⟨vs, rfl, h1, h3⟩ := hx.fn_inv
    refine .fn f ds vs (by omega) fun j c u hj hu => ?_
    obtain ⟨x, a1, a2⟩ := hget j c hj
    exact ih x c u (h3 j x u a1 hu) a2
   ·cases h
  ·cases h
  ·cases h
  ·cases h
  ·cases h
  ·cases h
  ·rename_i x n1 n2 n3 n4 n5 n6 n7 n9 n10 n8 n11
   cases h
   cases hx with
   | imm _ _ hx =>
    cases hx with
    | undef => exact .undef _
    | bool => exact .bool _
    | int => exact .int _ _
    | str => exact .str _
    | nil => exact .nil
    | emp => exact .emp _
    | nilp => exact .nilp
    | nilfn => exact .nilfn
    | val => exact .val _
    | sl0 => exact absurd rfl (n4 _ _)
    | sl => exact absurd rfl (n4 _ _)
    | ip => exact absurd rfl (n5 _ _ _ _)
    | fn => exact absurd rfl (n6 _ _)
    | agg => exact absurd rfl (n2 _)
    | tup => exact absurd rfl (n3 _)
   | ptr => exact absurd rfl (n7 _ _ _)
   | bs => exact absurd rfl (n1 _ _ _ _ _)
   | ow => exact absurd rfl (n9 _ _ _ _)
   | oe => exact absurd rfl (n10 _ _ _ _ _)
   | yld => exact absurd rfl (n8 _)
   | mp => exact absurd rfl (n11 _)
   | fn => exact absurd rfl (n6 _ _)
   | agg => exact absurd rfl (n2 _)
   | tup => exact absurd rfl (n3 _)
def immN : AV → Bool
 | .bool _ | .int _ _ | .str _ => true
 | _ => false
def immE (x : AV) : Bool := x.cells.all immN
theorem P5 {H H' : HV} {c : AV} {v : Value} (h : RelI H c v) (hc : immN c = true) : RelI H' c v := by
 cases h with
 | bool b => exact .bool b
 | int k n => exact .int k n
 | str s => exact .str s
 | _ => cases hc
theorem UH.imm {H H' : HV} {xs : List AV} {l : Lc} {w : World} (h : UH H (xs.flatMap AV.cells) l w) (hi : xs.all immE = true) : UH H' (xs.flatMap AV.cells) l w := by
 obtain ⟨C, e, h1, h2, h3, h4⟩ := h
 refine ⟨C, e, h1, h2, h3, fun j c hj => ?_⟩
 obtain ⟨v, a, b, d⟩ := h4 j c hj
 obtain ⟨x, hx, hc⟩ := List.mem_flatMap.1 (List.mem_of_getElem? hj)
 exact ⟨v, a, b, P5 d (List.all_eq_true.1 (List.all_eq_true.1 hi x hx) c hc)⟩
def Jp (strict : Bool) (bid : Nat) (o : Option (AV × Tr Box × Nat)) : Option (AV × Option (Nat × Box)) :=
 match o with
 | some (r, hp', _) => match r with
  | .bs id ver sz off len => match lkb hp' id with
   | some (.cells v cs) => if v = ver ∧ off + len * sz ≤ cs.length ∧ 0 < sz then (match optL (tree (updF (lkb hp') id none) strict 12) ((cs.drop off).take (len * sz)) with
     | some ds => some (.bs bid 0 sz 0 len, some (bid, .cells 0 ds))
     | none => none) else none
   | _ => none
  | .ow id ver sz len => match lkb hp' id with
   | some (.own v z xs) => match Nat.beq v ver && (Nat.beq z sz && (!strict || xs.all immE)) with
    | true => some (.ow bid 0 sz len, some (bid, .own 0 sz xs))
    | false => none
   | _ => none
  | r => xv (tree (lkb hp') strict 12 r)
 | none => none
def Gr (ch : Ql) (hp : Hp) (bid f : Nat) (args : List AV) : Option (AV × Option (Nat × Box)) :=
 match optL (tree (fun _ => none) false 12) args with
 | some ts => Jp false bid (ch f ts .nil 0)
 | none => match optL (tree hp false 12) args with
  | some ts => Jp true bid (ch f ts .nil 0)
  | none => none
section
variable {P : Program} {m : Nat → Lc} {H : HV} {B : Nat → Prop} {H0 : HV} {gl : Nat → AV} {rest : List (AV × Value)} {st : St} {a : Act} {w : World} {dst : Option Nat}
theorem RelS.after (h : RelS m H B H0 gl rest st a.tmps w) {w' : World} (hb : Below w.heap.size w w') (K : HV) (hK : ∀ b o v, K b o = some v → w'.cell? ⟨b, o, none⟩ = some v) :
    RelS m (fun b o => if b < w.heap.size then H b o else K b o) B H0 gl rest st a.tmps w' ∧ HV.le H (fun b o => if b < w.heap.size then H b o else K b o) := by
  have hle : HV.le H (fun b o => if b < w.heap.size then H b o else K b o) := fun b o v hv => by
    have := Vx h.heap.sat hv
    simp_all
  refine ⟨⟨?_, h.size, fun k => (h.slot k).mono hle (.refl _), fun p hp => (h.rest p hp).mono hle (.refl _)⟩, hle⟩
  exact { sat := fun b o v hv => by
            simp only at hv
            split at hv
            · rename_i hlt
              rw [← h.heap.sat b o v hv]; exact hb.cell (p := ⟨b, o, none⟩) hlt
            simp_all
          old := fun b o hlt => by
            simp only [if_pos (h.heap.low b hlt)]; exact h.heap.old b o hlt
          low := fun b hB => Nat.lt_of_lt_of_le (h.heap.low b hB) hb.size
          fresh := h.heap.fresh
          box := fun id b hid => (h.heap.box id b hid).mono' hle (.refl _) fun hr => hb.block _ (h.heap.sepR id b hid hr).2.1
          sepR := fun id b hid hr => by
            obtain ⟨x, y, z⟩ := h.heap.sepR id b hid hr
            exact ⟨x, Nat.lt_of_lt_of_le y hb.size, fun o => by simp_all⟩
          injR := h.heap.injR
          gl := fun g => (h.heap.gl g).mono hle
          ty := fun id ver cs hid => (h.heap.ty id ver cs hid).mono (hb.block _ (h.heap.sep id _ hid).2.1)
          gv := h.heap.gv.mono fun k hk => hb.block k (h.heap.low k hk) }
theorem MK {f : AV → Option AV} {xs ts : List AV} {vs : Array Value} {R R' : AV → Value → Prop} (hl : xs.length = vs.size) (hr : ∀ (j : Nat) (x : AV) (v : Value), xs[j]? = some x → vs[j]? = some v → R x v) (h : optL f xs = some ts)
  (hf : ∀ x t v, R x v → f x = some t → R' t v) : ts.length = vs.size ∧ ∀ (j : Nat) (x : AV) (v : Value), ts[j]? = some x → vs[j]? = some v → R' x v := by
 grind [UZ]
theorem Ey {ch : Ql} (hch : ∀ f ts r0 hp' nx', ch f ts .nil 0 = some (r0, hp', nx') → KW P gl f ts r0 hp' nx') (h : RelS m H B H0 gl rest st a.tmps w) (hd : QV dst st.n = true) {bid : Nat} (hb : lkb st.hp bid = none) (hn : bid < st.nx) {f : Nat} {vs : Array Value} {r : AV × Option (Nat × Box)}
  (strict : Bool) (hpx : Hp) (ts : List AV) (hsub : ∀ id bx, hpx id = some bx → lkb st.hp id = some bx) (hstr : strict = false → hpx = fun _ => none) (hl' : ts.length = vs.size) (hr' : ∀ (j : Nat) (x : AV) (v : Value), ts[j]? = some x → vs[j]? = some v → RelI (snap H hpx m w) x v)
  (hk : Jp strict bid (ch f ts .nil 0) = some r) : Ans P f vs w fun e w' => ∃ v m' H', e = .returned v ∧ Q8 B w w' ∧ RelS m' H' B H0 gl rest (st.eff dst r) (a.put dst v).tmps w' := by
 have hbox : ∀ id ver cs, hpx id = some (.cells ver cs) → Y1 H (st.env m) (.cells ver cs) (m id) w := fun id ver cs hh => h.heap.box id _ (hsub _ _ hh)
 have hdis : ∀ id bx, hpx id = some bx → Real bx (m id) → ∀ o, H (m id).g o = none := fun id bx hh hr => (h.heap.sepR id _ (hsub _ _ hh) hr).2.2
 unfold Jp at hk
 split at hk
 ·rename_i r0 hp' nx' hcall
  have hc := hch _ _ _ _ _ hcall
  have h0 : RelH m (snap H hpx m w) (fun k => k < w.heap.size) (snap H hpx m w) gl (lkb .nil) 0 w :=
   { sat := Hr h.heap.sat, old := fun _ _ _ => rfl, low := fun _ hk => hk, fresh := fun _ _ => Zm _, box := (fun _ _ hh => by simp_all [Zm]), sepR := (fun _ _ hh => by simp_all [Zm]), injR := (fun _ _ _ _ hh => by simp_all [Zm]), gl := fun g => (h.heap.gl g).mono (Me hdis), ty := (fun _ _ _ hh => by simp_all [Zm]), gv := fun g sz cs hg => let ⟨h1, h2⟩ := h.heap.gv g sz cs hg; ⟨h.heap.low _ h1, h2⟩ }
  refine (hc m (snap H hpx m w) _ (snap H hpx m w) w vs h0 hl' (fun j x v hx hv => .imm _ _ (hr' j x v hx hv))).mono fun e w' hpost => ?_
  obtain ⟨v, m', H', rfl, hbl, hH, hrv⟩ := hpost
  have key : ∀ (hpy : Hp), (∀ id bx, hpy id = some bx → lkb hp' id = some bx) →
    HV.le (snap (if strict then fun _ _ => none else H') hpy m' w') (fun b o => if b < w.heap.size then H b o else snap H' hpy m' w' b o) := by
   intro hpy hsy b o u hu
   unfold snap at hu
   split at hu
   ·rename_i hh
    obtain ⟨id, bx, ver, h1, h1', h1'', h2⟩ := hh
    have hge := (hH.sepR id _ (hsy _ _ h1) h1'').1
    rw [h2] at hge
    simp only [if_neg (show ¬ b < w.heap.size from hge)]
    unfold snap
    rw [if_pos ⟨id, bx, ver, h1, h1', h1'', h2⟩]; exact hu
   ·rename_i hh
    cases strict with
    | true => simp at hu
    | false =>
     simp only [Bool.false_eq_true, if_false] at hu
     by_cases hlt : b < w.heap.size
     ·simp only [if_pos hlt]
      rw [hH.old b o hlt] at hu
      unfold snap at hu
      simp_all
     simp_all [if_neg, snap]
  have hval : ∀ (hpy : Hp), (∀ id bx, hpy id = some bx → lkb hp' id = some bx) → ∀ (x t : AV) (u : Value), RV H' (Q5 (lkb hp') m') x u → tree hpy strict 12 x = some t → RelI (fun b o => if b < w.heap.size then H b o else snap H' hpy m' w' b o) t u := by
   intro hpy hsy x t u hx ht
   refine (Cs (H1 := if strict then fun _ _ => none else H') strict (fun id ver cs hh => Ye (hsy _ _ hh)) (fun id ver cs hh => hH.box id _ (hsy _ _ hh)) (fun id bx hh hr => (hH.sepR id _ (hsy _ _ hh) hr).2.2) (fun e => by simp [e]) 12 x t u hx ht).mono (key hpy hsy)
  have hsat : ∀ (hpy : Hp), ∀ b o v, snap H' hpy m' w' b o = some v → w'.cell? ⟨b, o, none⟩ = some v := fun hpy => Hr hH.sat
  have hBl : Q8 B w w' := hbl.mono h.heap.low
  have hbl := hbl.toB
  split at hk
  ·rename_i id ver sz off len
   split at hk
   ·rename_i v' cs hid
    split at hk
    ·rename_i hcond
     obtain ⟨rfl, hle, hpos⟩ := hcond
     split at hk
     ·rename_i ds hds
      cases hk
      have hsy : ∀ id2 bx, updF (lkb hp') id none id2 = some bx → lkb hp' id2 = some bx := fun id2 bx hh => by
       grind [id, Qk, Qo]
      obtain ⟨hA, hleA⟩ := h.after hbl (snap H' (updF (lkb hp') id none) m' w') (hsat _)
      obtain ⟨ad, cap, rfl, _, hlc, hcm, hloc⟩ := hrv.bs_inv
      obtain ⟨rfl, hfit⟩ := hloc _ (Ye hid)
      obtain ⟨C, e, hC, hsC, hle2, hcs⟩ := hH.box id _ hid
      obtain ⟨s1, s2, s3⟩ := hH.sep id _ hid
      obtain ⟨hdl, hget⟩ := UZ hds
      have hE := Ci (m := m) (hp := lkb st.hp) (b := .cells 0 ds) (l := ⟨(m' id).g, (m' id).base + off, (m' id).size⟩) hb
      have hnone : ∀ o, snap H' (updF (lkb hp') id none) m' w' (m' id).g o = none := fun o => by
       unfold snap
       rw [if_neg ?_]
       ·exact s3 o
       ·rintro ⟨id2, bx, ver, h1, _, hr, h2⟩
        have h1' := hsy _ _ h1
        have := hH.injR id2 id _ _ h1' hid hr trivial h2
        simp_all [Qk]
      have hh := hA.heap.one (id := bid) (b := .cells 0 ds) (l := ⟨(m' id).g, (m' id).base + off, (m' id).size⟩) (w' := w') (fun _ _ _ => rfl) (Nat.le_refl _) hE
       ⟨fun hb => s1 (h.heap.low _ hb), s2, fun o => by simp only [if_neg (show ¬ (m' id).g < w.heap.size from s1)]; exact hnone o⟩
       (fun id2 b2 _ hid2 hr => by have := (h.heap.sepR id2 b2 hid2 hr).2.1; have s1' : ¬ (m' id).g < w.heap.size := s1; show (m id2).g ≠ (m' id).g; omega) hn (Nat.le_refl _) (by
        refine ⟨C, e, hC, hsC, ?_, fun j c hj => ?_⟩
        ·rw [hdl]; show (m' id).base + off + _ ≤ _; simp; omega
        ·obtain ⟨x, hx, ht⟩ := hget j c hj
         have hjl : j < len * sz := by
          have := (List.getElem?_eq_some_iff.1 hx).1
          simp at this; omega
         rw [List.getElem?_take, if_pos hjl, List.getElem?_drop] at hx
         obtain ⟨u, a1, a2, a3⟩ := hcs _ _ hx
         exact ⟨u, by show C[(m' id).base + off + j]? = some u; rw [Nat.add_assoc]; exact a1, a2, .imm _ _ (hval _ hsy x c u a3 ht)⟩) (fun ver cs e => by cases e; exact .inl rfl)
      have h1 := hA.heapTo (hp' := pt st.hp bid (.cells 0 ds)) (nx' := st.nx) (by rw [Z1]; exact hh) (.refl _) (by rw [Z1]; exact hE)
      have hv : RV (fun b o => if b < w.heap.size then H b o else snap H' (updF (lkb hp') id none) m' w' b o) (Q5 (lkb (pt st.hp bid (.cells 0 ds))) (updF m bid ⟨(m' id).g, (m' id).base + off, (m' id).size⟩)) (.bs bid 0 sz 0 len) (.slice (some ⟨(m' id).g, (m' id).base + off, none⟩) len cap) := by
       rw [Z1]
       refine .bs bid 0 sz 0 len _ cap (Ly _ _ _ _ _) hlc hcm fun l hl => ?_
       rw [M6] at hl
       cases hl
       exact ⟨rfl, by omega⟩
      have h2 := h1.putO (dst := dst) hd hv
      have : ({ st with hp := pt st.hp bid (.cells 0 ds), nx := st.nx } : St).putO dst (.bs bid 0 sz 0 len) = st.eff dst (.bs bid 0 sz 0 len, some (bid, .cells 0 ds)) := by cases dst <;> rfl
      grind
     ·cases hk
    ·cases hk
   ·cases hk
  ·rename_i id ver sz len
   split at hk
   ·rename_i v' z xs hid
    split at hk
    ·rename_i hcond
     rw [Bool.and_eq_true, Bool.and_eq_true] at hcond
     obtain ⟨hv1, hz1, hst⟩ := hcond
     obtain rfl := Nat.eq_of_beq_eq_true hv1
     obtain rfl := Nat.eq_of_beq_eq_true hz1
     cases hk
     have hsy : ∀ id2 bx, updF (lkb hp') id none id2 = some bx → lkb hp' id2 = some bx := fun id2 bx hh => by
      by_cases e : id2 = id
      ·subst e; rw [Qk] at hh; cases hh
      ·rwa [Qo _ _ e] at hh
     obtain ⟨hA, hleA⟩ := h.after hbl (snap H' (updF (lkb hp') id none) m' w') (hsat _)
     obtain ⟨ad, cap, rfl, _, hlc, hcm, hnl, hloc⟩ := hrv.ow_inv
     have hloc := hloc _ (UX hid)
     have hle' : strict = false → HV.le H' (fun b o => if b < w.heap.size then H b o else snap H' (updF (lkb hp') id none) m' w' b o) := fun hst b o u hu => by
      by_cases hlt : b < w.heap.size
      ·simp only [if_pos hlt]
       rw [hH.old b o hlt] at hu
       unfold snap at hu
       rw [if_neg (by rw [hstr hst]; rintro ⟨_, _, _, e, _⟩; cases e)] at hu
       exact hu
      ·simp only [if_neg hlt]
       exact Me (fun id bx hh hr => (hH.sepR id _ (hsy _ _ hh) hr).2.2) b o u hu
     have hE := Ci (m := m) (hp := lkb st.hp) (b := .own 0 z xs) (l := m' id) hb
     have hnone : Real (.own v' z xs) (m' id) → ∀ o, snap H' (updF (lkb hp') id none) m' w' (m' id).g o = none := fun hre o => by
      unfold snap
      rw [if_neg ?_]
      ·exact (hH.sepR id _ hid hre).2.2 o
      ·rintro ⟨id2, bx, ver, h1, _, hr, h2⟩
       have h1' := hsy _ _ h1
       have := hH.injR id2 id _ _ h1' hid hr hre h2
       subst this
       rw [Qk] at h1; cases h1
     have hh := hA.heap.oneR (id := bid) (b := .own 0 z xs) (l := m' id) (w' := w') (fun _ _ _ => rfl) (Nat.le_refl _) hE
      (fun hre => by
       have hre : Real (.own v' z xs) (m' id) := hre
       obtain ⟨s1, s2, s3⟩ := hH.sepR id _ hid hre
       exact ⟨fun hb => s1 (h.heap.low _ hb), s2, fun o => by simp only [if_neg (show ¬ (m' id).g < w.heap.size from s1)]; exact hnone hre o⟩)
      (fun id2 b2 _ hid2 hr hre => by
       have hre : Real (.own v' z xs) (m' id) := hre
       have := (h.heap.sepR id2 b2 hid2 hr).2.1
       have s1' : ¬ (m' id).g < w.heap.size := (hH.sepR id _ hid hre).1
       omega) hn (Nat.le_refl _) (by
       obtain ⟨q0, q1, q2⟩ := hH.box id _ hid
       refine ⟨q0, q1, ?_⟩
       rcases q2 with q2 | ⟨q2, q3⟩
       ·exact .inl q2
       ·refine .inr ⟨q2, ?_⟩
        cases hs : strict with
        | false => exact q3.mono (hle' hs) rfl
        | true => rw [hs] at hst; exact q3.imm (by simpa using hst)) (fun ver cs e => by cases e)
     have h1 := hA.heapTo (hp' := pt st.hp bid (.own 0 z xs)) (nx' := st.nx) (by rw [Z1]; exact hh) (.refl _) (by rw [Z1]; exact hE)
     have hv : RV (fun b o => if b < w.heap.size then H b o else snap H' (updF (lkb hp') id none) m' w' b o) (Q5 (lkb (pt st.hp bid (.own 0 z xs))) (updF m bid (m' id))) (.ow bid 0 z len) (.slice ad len cap) := by
      rw [Z1]
      refine .ow bid 0 z len ad cap ⟨_, Qk _ _ _, fun v2 h => by omega⟩ hlc hcm hnl fun l hl => ?_
      rw [UX (Qk _ _ _), Qk] at hl
      cases hl
      exact hloc
     have h2 := h1.putO (dst := dst) hd hv
     have : ({ st with hp := pt st.hp bid (.own 0 z xs), nx := st.nx } : St).putO dst (.ow bid 0 z len) = st.eff dst (.ow bid 0 z len, some (bid, .own 0 z xs)) := by cases dst <;> rfl
     rw [this] at h2
     exact ⟨_, _, _, rfl, hBl, h2⟩
    ·cases hk
   ·cases hk
  ·obtain ⟨t, ht, rfl⟩ := YO hk
   obtain ⟨hA, hleA⟩ := h.after hbl (snap H' (lkb hp') m' w') (hsat _)
   exact ⟨v, m, _, rfl, hBl, hA.putO hd (.imm _ _ (hval _ (fun _ _ hh => hh) r0 t v hrv ht))⟩
 ·cases hk
theorem Rx {ch : Ql} (hch : ∀ f ts r0 hp' nx', ch f ts .nil 0 = some (r0, hp', nx') → KW P gl f ts r0 hp' nx') (h : RelS m H B H0 gl rest st a.tmps w) (hd : QV dst st.n = true) {bid : Nat} (hb : lkb st.hp bid = none) (hn : bid < st.nx) {f : Nat} {args : List AV} {vs : Array Value} {r : AV × Option (Nat × Box)} (hl : args.length = vs.size)
  (hr : ∀ (j : Nat) (x : AV) (v : Value), args[j]? = some x → vs[j]? = some v → RV H (st.env m) x v) (hk : Gr ch (lkb st.hp) bid f args = some r) :
  Ans P f vs w fun e w' => ∃ v m' H', e = .returned v ∧ Q8 B w w' ∧ RelS m' H' B H0 gl rest (st.eff dst r) (a.put dst v).tmps w' := by
 have main : ∀ (strict : Bool) (hpx : Hp) (ts : List AV), (∀ id bx, hpx id = some bx → lkb st.hp id = some bx) → (strict = false → hpx = fun _ => none) → optL (tree hpx false 12) args = some ts → Jp strict bid (ch f ts .nil 0) = some r →
   Ans P f vs w fun e w' => ∃ v m' H', e = .returned v ∧ Q8 B w w' ∧ RelS m' H' B H0 gl rest (st.eff dst r) (a.put dst v).tmps w' := by
  intro strict hpx ts hsub hstr hts hk
  have hbox : ∀ id ver cs, hpx id = some (.cells ver cs) → Y1 H (st.env m) (.cells ver cs) (m id) w := fun id ver cs hh => h.heap.box id _ (hsub _ _ hh)
  have hdis : ∀ id bx, hpx id = some bx → Real bx (m id) → ∀ o, H (m id).g o = none := fun id bx hh hr => (h.heap.sepR id _ (hsub _ _ hh) hr).2.2
  obtain ⟨hl', hr'⟩ := MK (R' := RelI (snap H hpx m w)) hl hr hts fun x t v hx ht => Cs (H1 := H) false (fun id ver cs hh => Ye (hsub _ _ hh)) hbox hdis (fun _ => rfl) 12 x t v hx ht
  exact Ey hch h hd hb hn strict hpx ts hsub hstr hl' hr' hk
 unfold Gr at hk
 grind
theorem Lo.zero {f : Nat} {args : List AV} {r : AV} {hp' : Tr Box} {nx' : Nat} (h : Lo P gl f args .nil 0 r hp' nx') : KW P gl f args r hp' nx' :=
 fun m H B H0 w vs hh hl hv => (h m H B H0 [] w vs hh hl hv (fun p hp => by simp at hp)).mono fun _ _ ⟨v, m', H', a, b, c, d, _⟩ => ⟨v, m', H', a, b, c, d⟩
end
end HY
end
section
namespace HY
open Go Go.RowKit
def Conv (gl : Nat → AV) (st st' : St) : Prop := st'.n = st.n ∧ ∀ (m : Nat → Lc) (H : HV) (B : Nat → Prop) (H0 : HV) (rest : List (AV × Value)) (tmps : Array Value) (w : World), RelS m H B H0 gl rest st tmps w → ∃ m' H', RelS m' H' B H0 gl rest st' tmps w
theorem Conv.refl {gl : Nat → AV} {st : St} : Conv gl st st := ⟨rfl, fun m H _ _ _ _ _ h => ⟨m, H, h⟩⟩
theorem Conv.trans {gl : Nat → AV} {a b c : St} (h : Conv gl a b) (k : Conv gl b c) : Conv gl a c := ⟨k.1.trans h.1, fun m H B H0 rest tmps w hr => by
 obtain ⟨m', H', h'⟩ := h.2 m H B H0 rest tmps w hr
 exact k.2 m' H' B H0 rest tmps w h'⟩
theorem Ji {hp : Hp} {m : Nat → Lc} {id ver : Nat} {b : Box} (h : hp id = some b) (hv : b.ver? = some ver) : (Q5 hp m).loc id ver = some (m id) := by grind [Q5]
theorem RS {hp : Hp} {m : Nat → Lc} {id ver : Nat} {b : Box} (h : hp id = some b) (hv : b.ver? = some ver) : (Q5 hp m).al id ver := ⟨b, h, fun v e => by simp_all⟩
def D0 : List Nat → AV → Option AV
 | [], v => some v
 | i :: p, v => match v with
  | .agg cs => match cs[i]? with
   | some c => D0 p c
   | none => none
  | .tup cs => match cs[i]? with
   | some c => D0 p c
   | none => none
  | _ => none
def JK : List Nat → AV → AV → AV
 | [], _, y => y
 | i :: p, v, y => match v with
  | .agg cs => match cs[i]? with
   | some c => .agg (cs.set i (JK p c y))
   | none => v
  | .tup cs => match cs[i]? with
   | some c => .tup (cs.set i (JK p c y))
   | none => v
  | v => v
theorem Hl {H H' : HV} {E E' : Env} (hle : HV.le H H') (hE : Env.le E E') {x y : AV} (hx : ∀ u, RV H E x u → RV H' E' y u) : ∀ (p : List Nat) (v : AV) (u : Value), RV H E v u → D0 p v = some x → RV H' E' (JK p v y) u
 | [], v, u, h, hi => by cases hi; exact hx u h
 | i :: p, v, u, h, hi => by
  simp only [D0] at hi
  split at hi
  ·rename_i cs
   split at hi
   ·rename_i c hc
    simp only [JK, hc]
    obtain ⟨vs, rfl, hl, h1, hcs⟩ := h.agg_inv
    refine .agg _ vs (by simp_all) h1 fun j c' v' hj hv => ?_
    rw [List.getElem?_set] at hj
    split at hj
    ·rename_i hij
     subst hij
     split at hj
     ·cases hj; exact Hl hle hE hx p c v' (hcs _ c v' hc hv) hi
     ·cases hj
    ·exact (hcs j c' v' hj hv).mono hle hE
   ·cases hi
  ·rename_i cs
   split at hi
   ·rename_i c hc
    simp only [JK, hc]
    obtain ⟨vs, rfl, hl, hcs⟩ := h.tup_inv
    refine .tup _ vs (by simp_all) fun j c' v' hj hv => ?_
    rw [List.getElem?_set] at hj
    split at hj
    ·rename_i hij
     subst hij
     split at hj
     ·cases hj; exact Hl hle hE hx p c v' (hcs _ c v' hc hv) hi
     ·cases hj
    ·exact (hcs j c' v' hj hv).mono hle hE
   ·cases hi
  ·cases hi
theorem MV {gl : Nat → AV} {m m' : Nat → Lc} {H H' : HV} {B : Nat → Prop} {H0 : HV} {rest : List (AV × Value)} {st : St} {tmps : Array Value} {w : World} {hp' : Tr Box} {nx' : Nat} (h : RelS m H B H0 gl rest st tmps w) (hh : RelH m' H' B H0 gl (lkb hp') nx' w) (hle : HV.le H H') (hE : Env.le (st.env m) (Q5 (lkb hp') m')) (k : Nat) (p : List Nat) {x y : AV} (hi : D0 p (st.get k) = some x) (hx : ∀ u, RV H (st.env m) x u → RV H' (Q5 (lkb hp') m') y u) :
  RelS m' H' B H0 gl rest ⟨st.n, pt st.sl k (JK p (st.get k) y), hp', nx'⟩ tmps w := by
 refine ⟨hh, h.size, fun j => ?_, fun p hp => (h.rest p hp).mono hle hE⟩
 show RV H' _ (lk .undef (pt st.sl k _) j) _
 rw [JI]
 by_cases e : k = j
 ·subst e
  rw [if_pos rfl]
  exact Hl hle hE hx p _ _ (h.slot k) hi
 ·rw [if_neg e]; exact (h.slot j).mono hle hE
section
variable {m : Nat → Lc} {H : HV} {B : Nat → Prop} {H0 : HV} {gl : Nat → AV} {rest : List (AV × Value)} {st : St} {tmps : Array Value} {w : World}
theorem RelS.newOwn (h : RelS m H B H0 gl rest st tmps w) (sz : Nat) (hpos : 0 < sz) : RelS (updF m st.nx ⟨0, 0, 0⟩) H B H0 gl rest ⟨st.n, st.sl, pt st.hp st.nx (.own 0 sz []), st.nx + 1⟩ tmps w ∧ Env.le (st.env m) (Q5 (lkb (pt st.hp st.nx (.own 0 sz []))) (updF m st.nx ⟨0, 0, 0⟩)) := by
 have hn := h.heap.fresh st.nx (Nat.le_refl _)
 have hE := Ci (m := m) (hp := lkb st.hp) (b := .own 0 sz []) (l := ⟨0, 0, 0⟩) hn
 have hh := h.heap.oneR (id := st.nx) (nx' := st.nx + 1) (b := .own 0 sz []) (l := ⟨0, 0, 0⟩) (w' := w) (fun _ _ _ => rfl) (Nat.le_refl _) hE (fun hr => absurd hr (Nat.lt_irrefl 0)) (fun _ _ _ _ _ hr => absurd hr (Nat.lt_irrefl 0)) (Nat.lt_succ_self _) (Nat.le_succ _) ⟨hpos, fun x hx => by simp at hx, .inl ⟨rfl, rfl⟩⟩ (fun _ _ e => by cases e)
 rw [← Z1] at hh hE
 exact ⟨⟨hh, h.size, fun k => (h.slot k).mono (.refl _) hE, fun p hp => (h.rest p hp).mono (.refl _) hE⟩, hE⟩
theorem TE {hp : Tr Box} {id sz : Nat} {a : Option Addr} : RV H (Q5 (lkb (pt hp id (.own 0 sz []))) (updF m id ⟨0, 0, 0⟩)) (.ow id 0 sz 0) (.slice a 0 0) := by
 rw [Z1]
 refine .ow id 0 sz 0 a 0 (RS (Qk _ _ _) rfl) (Nat.le_refl _) (Nat.zero_le _) (fun _ => rfl) fun l hl => ?_
 rw [Ji (Qk _ _ _) rfl, Qk] at hl
 grind
def RU : AV → Bool
 | .nil => true
 | .emp => true
 | _ => false
theorem LH {E : Env} {x : AV} {v : Value} (hx : RV H E x v) (h : RU x = true) : ∃ a, v = .slice a 0 0 := by
 cases x <;> first | (cases h; done) | skip
 ·exact ⟨_, hx.nil_inv⟩
 ·exact hx.emp_inv
theorem R6 (k : Nat) (p : List Nat) (sz : Nat) (x : AV) (hpos : 0 < sz) (hi : D0 p (st.get k) = some x) (hk : RU x = true) : Conv gl st ⟨st.n, pt st.sl k (JK p (st.get k) (.ow st.nx 0 sz 0)), pt st.hp st.nx (.own 0 sz []), st.nx + 1⟩ := ⟨rfl, fun m H B H0 rest tmps w h => by
 obtain ⟨h1, hE⟩ := h.newOwn sz hpos
 exact ⟨_, H, MV h h1.heap (.refl _) hE k p hi fun u hu => by
  obtain ⟨a, rfl⟩ := LH hu hk
  exact TE⟩⟩
theorem KG.set {E : Env} {cs : List AV} {l : Lc} (h : KG H E cs l w) (i : Nat) (x : AV) (hx : ∀ c v, cs[i]? = some c → RV H E c v → v.oneCell' = true → RV H E x v) : KG H E (cs.set i x) l w := by
 obtain ⟨C, e, h1, h2, h3, h4⟩ := h
 refine ⟨C, e, h1, h2, by simp_all, fun j c hj => ?_⟩
 rw [List.getElem?_set] at hj
 split at hj
 ·rename_i hij
  subst hij
  split at hj
  ·rename_i hlt
   cases hj
   obtain ⟨v, a1, a2, a3⟩ := h4 i _ (List.getElem?_eq_getElem hlt)
   simp_all
  ·cases hj
 simp_all
theorem RelS.reBox (h : RelS m H B H0 gl rest st tmps w) {id ver : Nat} {b b' : Box} (hid : lkb st.hp id = some b) (hv : b.ver? = some ver) (hv' : b'.ver? = some ver) (hr : Real b' (m id) → Real b (m id)) (hb : Y1 H (Q5 (lkb (pt st.hp id b')) m) b' (m id) w) (hty : ∀ v cs, b' = .cells v cs → TyOk w (m id) v) :
  RelS m H B H0 gl rest ⟨st.n, st.sl, pt st.hp id b', st.nx⟩ tmps w ∧ Env.le (st.env m) (Q5 (lkb (pt st.hp id b')) m) := by
 have hE := VG (m := m) (hp := lkb st.hp) (b' := b') (l := m id) hid hv hv' rfl
 rw [VI] at hE
 have hidn : id < st.nx := by
  rcases Nat.lt_or_ge id st.nx with hlt | hge
  ·exact hlt
  ·have := h.heap.fresh id hge; simp_all
 have hh := h.heap.oneR (id := id) (nx' := st.nx) (b := b') (l := m id) (w' := w) (fun _ _ _ => rfl) (Nat.le_refl _) (by grind [VI]) (fun r => h.heap.sepR id b hid (hr r)) (fun id' b2 hne hb2 r2 r e => hne (h.heap.injR id' id b2 b hb2 hid r2 (hr r) e)) hidn (Nat.le_refl _) (by simp_all [VI, Z1]) hty
 rw [VI, ← Z1] at hh
 rw [← Z1] at hE
 exact ⟨⟨hh, h.size, fun k => (h.slot k).mono (.refl _) hE, fun p hp => (h.rest p hp).mono (.refl _) hE⟩, hE⟩
theorem R5 (id i sz ver : Nat) (cs : List AV) (c : AV) (hpos : 0 < sz) (hid : lkb st.hp id = some (.cells ver cs)) (hc : cs[i]? = some c) (hk : RU c = true) : Conv gl st ⟨st.n, st.sl, pt (pt st.hp st.nx (.own 0 sz [])) id (.cells ver (cs.set i (.ow st.nx 0 sz 0))), st.nx + 1⟩ := ⟨rfl, fun m H B H0 rest tmps w h => by
 have hne : id ≠ st.nx := fun e => by have := h.heap.fresh st.nx (Nat.le_refl _); simp_all
 obtain ⟨h1, hE⟩ := h.newOwn sz hpos
 have hid1 : lkb (pt st.hp st.nx (.own 0 sz [])) id = some (.cells ver cs) := by simp_all [Z1, Qo]
 obtain ⟨h2, _⟩ := h1.reBox (b' := .cells ver (cs.set i (.ow st.nx 0 sz 0))) hid1 rfl rfl (fun _ => trivial) (by
  have hE2 := VG (m := updF m st.nx ⟨0, 0, 0⟩) (hp := lkb (pt st.hp st.nx (.own 0 sz []))) (b' := .cells ver (cs.set i (.ow st.nx 0 sz 0))) (l := (updF m st.nx ⟨0, 0, 0⟩) id) hid1 rfl rfl rfl
  rw [VI] at hE2
  have hb : KG H _ cs _ w := h1.heap.box id _ hid1
  have := hb.set i (.ow st.nx 0 sz 0) fun c' v hc' hv h1c => by
   grind [LH, TE]
  show KG H (Q5 (lkb (pt (pt st.hp st.nx (.own 0 sz [])) id _)) _) _ _ w
  rw [Z1]
  exact this.mono (.refl _) hE2 rfl) (fun v cs2 e => by cases e; exact h1.heap.ty id _ _ hid1)
 grind⟩
theorem LN {E : Env} {ver sz len : Nat} {cs : List AV} {l : Lc} (h : KG H E cs l w) (hpos : 0 < sz) (hle : len * sz ≤ cs.length) (himm : (cs.take (len * sz)).all immA = true) : Y1 H E (.own ver sz (K6 sz len (cs.take (len * sz)))) l w := by
 have hl : (cs.take (len * sz)).length = len * sz := by simp; omega
 obtain ⟨C, e, h1, h2, h3, h4⟩ := h
 refine ⟨hpos, NN _ _ hl, ?_⟩
 by_cases hs : l.size = 0
 ·have : len = 0 := by
   rcases Nat.eq_zero_or_pos len with h0 | h0
   ·exact h0
   ·have : 1 * sz ≤ len * sz := Nat.mul_le_mul_right _ h0
    omega
  subst this
  exact .inl ⟨hs, rfl⟩
 ·refine .inr ⟨by omega, C, e, h1, h2, by grind [CD], fun j c hj => ?_⟩
  grind [CD, List.all_eq_true, List.mem_of_getElem?, I4]
theorem TF {E : Env} {id ver sz len : Nat} {v : Value} (hpos : 0 < sz) (h : RV H E (.bs id ver sz 0 len) v) : RV H E (.ow id ver sz len) v := by
 obtain ⟨a, cap, rfl, h1, h2, h3, h4⟩ := h.bs_inv
 refine .ow id ver sz len _ cap h1 h2 h3 (fun e => by cases e) fun l hl => ?_
 obtain ⟨rfl, h5⟩ := h4 l hl
 rw [Nat.add_zero] at h5 ⊢
 by_cases hs : l.size = 0
 ·by_cases hc : cap = 0
  ·omega
  ·have : 1 * 1 ≤ cap * sz := Nat.mul_le_mul (by omega) (by omega)
   omega
 grind
theorem LC (k : Nat) (p : List Nat) (id ver sz len : Nat) (cs : List AV) (hpos : 0 < sz) (hk : D0 p (st.get k) = some (.bs id ver sz 0 len)) (hid : lkb st.hp id = some (.cells ver cs)) (hle : len * sz ≤ cs.length) (himm : (cs.take (len * sz)).all immA = true) :
  Conv gl st ⟨st.n, pt st.sl k (JK p (st.get k) (.ow id ver sz len)), pt st.hp id (.own ver sz (K6 sz len (cs.take (len * sz)))), st.nx⟩ := ⟨rfl, fun m H B H0 rest tmps w h => by
 have hE := VG (m := m) (hp := lkb st.hp) (b' := .own ver sz (K6 sz len (cs.take (len * sz)))) (l := m id) hid rfl rfl rfl
 rw [VI, ← Z1] at hE
 obtain ⟨h1, _⟩ := h.reBox (b' := .own ver sz (K6 sz len (cs.take (len * sz)))) hid rfl rfl (fun _ => trivial) (LN (KG.mono (h.heap.box id _ hid) (.refl _) hE rfl) hpos hle himm) (fun _ _ e => by cases e)
 exact ⟨m, H, MV h h1.heap (.refl _) hE k p hk fun u hu => TF hpos (hu.mono (.refl _) hE)⟩⟩
theorem Tg (bx i id ver vb sz len : Nat) (cb cs : List AV) (hpos : 0 < sz) (hne : bx ≠ id) (hbx : lkb st.hp bx = some (.cells vb cb)) (hk : cb[i]? = some (.bs id ver sz 0 len)) (hid : lkb st.hp id = some (.cells ver cs)) (hle : len * sz ≤ cs.length) (himm : (cs.take (len * sz)).all immA = true) :
  Conv gl st ⟨st.n, st.sl, pt (pt st.hp id (.own ver sz (K6 sz len (cs.take (len * sz))))) bx (.cells vb (cb.set i (.ow id ver sz len))), st.nx⟩ := ⟨rfl, fun m H B H0 rest tmps w h => by
 have hE := VG (m := m) (hp := lkb st.hp) (b' := .own ver sz (K6 sz len (cs.take (len * sz)))) (l := m id) hid rfl rfl rfl
 rw [VI, ← Z1] at hE
 obtain ⟨h1, _⟩ := h.reBox (b' := .own ver sz (K6 sz len (cs.take (len * sz)))) hid rfl rfl (fun _ => trivial) (LN (KG.mono (h.heap.box id _ hid) (.refl _) hE rfl) hpos hle himm) (fun _ _ e => by cases e)
 have hbx1 : lkb (pt st.hp id (.own ver sz (K6 sz len (cs.take (len * sz))))) bx = some (.cells vb cb) := by simp_all [Z1, Qo]
 have hE2 := VG (m := m) (hp := lkb (pt st.hp id (.own ver sz (K6 sz len (cs.take (len * sz)))))) (b' := .cells vb (cb.set i (.ow id ver sz len))) (l := m bx) hbx1 rfl rfl rfl
 rw [VI, ← Z1] at hE2
 have hc : KG H _ cb (m bx) w := h1.heap.box bx _ hbx1
 obtain ⟨h2, _⟩ := h1.reBox (b' := .cells vb (cb.set i (.ow id ver sz len))) hbx1 rfl rfl (fun _ => trivial) (KG.mono (hc.set i (.ow id ver sz len) fun c v hc' hv _ => by
  simp_all [TF]) (.refl _) hE2 rfl) (fun v cs2 e => by cases e; exact h1.heap.ty bx _ _ hbx1)
 grind⟩
theorem FV (id ver sz n : Nat) (xs : List AV) (hid : lkb st.hp id = some (.own ver sz xs)) : Conv gl st ⟨st.n, st.sl, pt st.hp id (.own ver sz (xs.take n)), st.nx⟩ := ⟨rfl, fun m H B H0 rest tmps w h => by
 have hE := VG (m := m) (hp := lkb st.hp) (b' := .own ver sz (xs.take n)) (l := m id) hid rfl rfl rfl
 rw [VI, ← Z1] at hE
 obtain ⟨hpos, hel, hb⟩ := h.heap.box id _ hid
 obtain ⟨h1, _⟩ := h.reBox (b' := .own ver sz (xs.take n)) hid rfl rfl (fun r => r) (by
  refine ⟨hpos, fun y hy => hel y (List.mem_of_mem_take hy), ?_⟩
  rcases hb with ⟨h0, rfl⟩ | ⟨h0, C, e, c1, c2, c3, c4⟩
  ·simp_all
  ·refine .inr ⟨h0, C, e, c1, c2, by rw [CS n hel]; grind, fun j c hj => ?_⟩
   simp_all [CS, List.getElem?_take]) (fun _ _ e => by cases e)
 grind⟩
theorem MM {E : Env} {ver sz id len : Nat} {xs : List AV} {l : Lc} {v : Value} (hx : RV H E (.ow id ver sz len) v) (hl : E.loc id ver = some l) (hb : Y1 H E (.own ver sz xs) l w) (hlen : len = xs.length) {K : HV} (hle : HV.le H K) (hK : 0 < l.size → ∀ o, K l.g o = w.cell? ⟨l.g, o, none⟩) : RelI K (.sl sz xs) v := by
 obtain ⟨a, cap, rfl, _, hlc, hcm, hno, hloc⟩ := hx.ow_inv
 subst hlen
 rcases hloc l hl with ⟨h0, h1⟩ | ⟨h0, rfl, hfit⟩
 ·have : xs = [] := List.eq_nil_of_length_eq_zero (by omega)
  subst this
  exact .sl0 _ _ _ hcm
 ·have hpos := hb.1
  have hel := hb.2.1
  obtain ⟨C, e, hC, hsC, hle2, hcs⟩ := LM (w := w) hb h0
  have hcell : ∀ (i : Nat) (x : AV) (j : Nat) (c : AV), xs[i]? = some x → x.cells[j]? = some c → ∃ u, C[l.base + (i * sz + j)]? = some u ∧ u.oneCell' = true ∧ RelI K c u := fun i x j c hx hj => by
   obtain ⟨u, a1, a2, a3⟩ := hcs _ _ (Ck hel i x j c hx hj)
   exact ⟨u, a1, a2, a3.mono hle⟩
  refine RelI.sl (H := K) sz xs l.g l.base cap (fun i j => (C[l.base + (i * sz + j)]?).getD Go.undef) hpos hlc hcm (fun i x hx => hel x (List.mem_of_getElem? hx)) (fun i x j c hx hj => ?_) (fun i x j c hx hj => ?_)
  ·grind [Xw, Nat.add_assoc]
  grind
theorem ML {m : Nat → Lc} {H : HV} {B : Nat → Prop} {H0 : HV} {gl : Nat → AV} {rest : List (AV × Value)} {st : St} {tmps : Array Value} {w : World} (h : RelS m H B H0 gl rest st tmps w) {id ver sz : Nat} {xs : List AV} (hid : lkb st.hp id = some (.own ver sz xs)) : ∃ K : HV, HV.le H K ∧ RelH (updF m id ⟨0, 0, 0⟩) K B H0 gl (lkb (pt st.hp id (.own (ver + 4096) sz []))) st.nx w ∧ Env.le (st.env m) (Q5 (lkb (pt st.hp id (.own (ver + 4096) sz []))) (updF m id ⟨0, 0, 0⟩)) ∧ (0 < (m id).size → ∀ o, K (m id).g o = w.cell? ⟨(m id).g, o, none⟩) := by
 classical
 have hE := CR (m := m) (hp := lkb st.hp) (b' := .own (ver + 4096) sz []) (l := ⟨0, 0, 0⟩) (show ver < ver + 4096 by omega) hid rfl rfl
 obtain ⟨hpos, hel, hb⟩ := h.heap.box id _ hid
 have hK : HV.le H (fun b o => if 0 < (m id).size ∧ b = (m id).g then w.cell? ⟨b, o, none⟩ else H b o) := fun b o v hv => by
  show (if _ then _ else _) = _
  split
  ·rename_i hc
   obtain ⟨h0, rfl⟩ := hc
   have := (h.heap.sepR id _ hid h0).2.2 o
   simp_all
  ·exact hv
 have hKs : ∀ id' b', id' ≠ id → lkb st.hp id' = some b' → Real b' (m id') → ∀ o, (if 0 < (m id).size ∧ (m id').g = (m id).g then w.cell? ⟨(m id').g, o, none⟩ else H (m id').g o) = none := fun id' b' hne hb' hr o => by
  rw [if_neg]
  ·exact (h.heap.sepR id' b' hb' hr).2.2 o
  ·rintro ⟨h0, he⟩
   exact hne (h.heap.injR id' id b' _ hb' hid hr h0 he)
 have hidn : id < st.nx := by
  rcases Nat.lt_or_ge id st.nx with hlt | hge
  ·exact hlt
  ·have := h.heap.fresh id hge; simp_all
 have hh : RelH (updF m id ⟨0, 0, 0⟩) (fun b o => if 0 < (m id).size ∧ b = (m id).g then w.cell? ⟨b, o, none⟩ else H b o) B H0 gl (updF (lkb st.hp) id (some (.own (ver + 4096) sz []))) st.nx w := by
  refine { sat := fun b o v hv => ?_, old := fun b o hB => ?_, low := h.heap.low, fresh := fun j hj => ?_, box := fun j b hj => ?_, sepR := fun j b hj hr => ?_, injR := fun i j b1 b2 h1 h2 r1 r2 heq => ?_, gv := h.heap.gv, gl := fun g => (h.heap.gl g).mono hK, ty := fun j v cs hj => ?_ }
  ·dsimp only at hv
   split at hv
   ·exact hv
   ·exact h.heap.sat b o v hv
  ·rw [if_neg]
   ·exact h.heap.old b o hB
   ·rintro ⟨h0, rfl⟩
    exact (h.heap.sepR id _ hid h0).1 hB
  ·rw [Qo _ _ (by omega)]; exact h.heap.fresh j hj
  ·by_cases e : j = id
   ·subst e; rw [Qk] at hj; cases hj
    rw [Qk]
    exact ⟨hpos, fun x hx => by simp at hx, .inl ⟨rfl, rfl⟩⟩
   ·rw [Qo _ _ e] at hj ⊢
    exact (h.heap.box j b hj).mono hK hE rfl
  ·by_cases e : j = id
   ·subst e; rw [Qk] at hj hr; cases hj; exact absurd hr (Nat.lt_irrefl 0)
   ·rw [Qo _ _ e] at hj hr ⊢
    obtain ⟨x, y, z⟩ := h.heap.sepR j b hj hr
    grind
  ·by_cases e1 : i = id
   ·subst e1; rw [Qk] at h1 r1; cases h1; exact absurd r1 (Nat.lt_irrefl 0)
   ·by_cases e2 : j = id
    ·subst e2; rw [Qk] at h2 r2; cases h2; exact absurd r2 (Nat.lt_irrefl 0)
    ·rw [Qo _ _ e1] at heq h1 r1; rw [Qo _ _ e2] at heq h2 r2
     exact h.heap.injR i j b1 b2 h1 h2 r1 r2 heq
  ·by_cases e : j = id
   ·simp_all [Qk]
   ·rw [Qo _ _ e] at hj ⊢
    exact h.heap.ty j v cs hj
 rw [← Z1] at hh hE
 grind
theorem Sw (k : Nat) (p : List Nat) (id ver sz len : Nat) (xs : List AV) (hk : D0 p (st.get k) = some (.ow id ver sz len)) (hid : lkb st.hp id = some (.own ver sz xs)) (hlen : len = xs.length) :
  Conv gl st ⟨st.n, pt st.sl k (JK p (st.get k) (.sl sz xs)), pt st.hp id (.own (ver + 4096) sz []), st.nx⟩ := ⟨rfl, fun m H B H0 rest tmps w h => by
 obtain ⟨K, hK, hh, hE, hKc⟩ := ML h hid
 exact ⟨_, _, MV h hh hK hE k p hk fun u hs => .imm _ _ (MM (w := w) hs (Ji hid rfl) (h.heap.box id _ hid) hlen hK hKc)⟩⟩
theorem Th (bx i id ver vb sz len : Nat) (cb xs : List AV) (hne : bx ≠ id) (hbx : lkb st.hp bx = some (.cells vb cb)) (hk : cb[i]? = some (.ow id ver sz len)) (hid : lkb st.hp id = some (.own ver sz xs)) (hlen : len = xs.length) :
  Conv gl st ⟨st.n, st.sl, pt (pt st.hp id (.own (ver + 4096) sz [])) bx (.cells vb (cb.set i (.sl sz xs))), st.nx⟩ := ⟨rfl, fun m H B H0 rest tmps w h => by
 obtain ⟨K, hK, hh, hE, hKc⟩ := ML h hid
 have h1 : RelS (updF m id ⟨0, 0, 0⟩) K B H0 gl rest ⟨st.n, st.sl, pt st.hp id (.own (ver + 4096) sz []), st.nx⟩ tmps w := ⟨hh, h.size, fun k => (h.slot k).mono hK hE, fun p hp => (h.rest p hp).mono hK hE⟩
 have hbx1 : lkb (pt st.hp id (.own (ver + 4096) sz [])) bx = some (.cells vb cb) := by simp_all [Z1, Qo]
 have hmm : (updF m id ⟨0, 0, 0⟩) bx = m bx := Qo _ _ hne
 have hE2 := VG (m := updF m id ⟨0, 0, 0⟩) (hp := lkb (pt st.hp id (.own (ver + 4096) sz []))) (b' := .cells vb (cb.set i (.sl sz xs))) (l := (updF m id ⟨0, 0, 0⟩) bx) hbx1 rfl rfl rfl
 rw [VI, ← Z1] at hE2
 obtain ⟨C, e, hC, hs, hle, hcs⟩ := h.heap.box bx _ hbx
 refine ⟨_, _, (h1.reBox (b' := .cells vb (cb.set i (.sl sz xs))) hbx1 rfl rfl (fun _ => trivial) ?_ (fun v cs2 e => by cases e; exact hh.ty bx _ _ hbx1)).1⟩
 rw [hmm]
 refine ⟨C, e, hC, hs, by simpa using hle, fun j c hj => ?_⟩
 rw [List.getElem?_set] at hj
 split at hj
 ·rename_i e1
  subst e1
  split at hj
  ·cases hj
   obtain ⟨v, a1, a2, a3⟩ := hcs i _ hk
   exact ⟨v, a1, a2, .imm _ _ (MM (w := w) a3 (Ji hid rfl) (h.heap.box id _ hid) hlen hK hKc)⟩
  ·cases hj
 ·obtain ⟨v, a1, a2, a3⟩ := hcs j c hj
  exact ⟨v, a1, a2, a3.mono hK (hE.trans hE2)⟩⟩
theorem Ti (k : Nat) (p : List Nat) (id ver off : Nat) (cs : List AV) (hk : D0 p (st.get k) = some (.ptr id ver off)) (hid : lkb st.hp id = some (.cells ver cs)) (hne : 0 < cs.length) (himm : cs.all immA = true) :
  Conv gl st ⟨st.n, pt st.sl k (JK p (st.get k) (.ip cs.length [.agg cs] 0 off)), pt st.hp id (.own (ver + 4096) 1 []), st.nx⟩ := ⟨rfl, fun m H B H0 rest tmps w h => by
 classical
 have hE := CR (m := m) (hp := lkb st.hp) (b' := .own (ver + 4096) 1 []) (l := ⟨0, 0, 0⟩) (show ver < ver + 4096 by omega) hid rfl rfl
 have hbx := h.heap.box id _ hid
 have hK : HV.le H (fun b o => if b = (m id).g then w.cell? ⟨b, o, none⟩ else H b o) := fun b o v hv => by
  show (if _ then _ else _) = _
  split
  ·rename_i hc
   subst hc
   have := (h.heap.sepR id _ hid trivial).2.2 o
   simp_all
  ·exact hv
 have hKs : ∀ id' b', id' ≠ id → lkb st.hp id' = some b' → Real b' (m id') → ∀ o, (if (m id').g = (m id).g then w.cell? ⟨(m id').g, o, none⟩ else H (m id').g o) = none := fun id' b' hne' hb' hr o => by
  rw [if_neg]
  ·exact (h.heap.sepR id' b' hb' hr).2.2 o
  ·intro he
   exact hne' (h.heap.injR id' id b' _ hb' hid hr trivial he)
 have hidn : id < st.nx := by
  rcases Nat.lt_or_ge id st.nx with hlt | hge
  ·exact hlt
  ·have := h.heap.fresh id hge; simp_all
 have hh : RelH (updF m id ⟨0, 0, 0⟩) (fun b o => if b = (m id).g then w.cell? ⟨b, o, none⟩ else H b o) B H0 gl (updF (lkb st.hp) id (some (.own (ver + 4096) 1 []))) st.nx w := by
  refine { sat := fun b o v hv => ?_, old := fun b o hB => ?_, low := h.heap.low, fresh := fun j hj => ?_, box := fun j b hj => ?_, sepR := fun j b hj hr => ?_, injR := fun i j b1 b2 h1 h2 r1 r2 heq => ?_, gv := h.heap.gv, gl := fun g => (h.heap.gl g).mono hK, ty := fun j v cs hj => ?_ }
  ·dsimp only at hv
   split at hv
   ·exact hv
   ·exact h.heap.sat b o v hv
  ·rw [if_neg]
   ·exact h.heap.old b o hB
   ·intro he
    subst he
    exact (h.heap.sepR id _ hid trivial).1 hB
  ·rw [Qo _ _ (by omega)]; exact h.heap.fresh j hj
  ·by_cases e : j = id
   ·subst e; rw [Qk] at hj; cases hj
    rw [Qk]
    exact ⟨Nat.one_pos, fun x hx => by simp at hx, .inl ⟨rfl, rfl⟩⟩
   ·rw [Qo _ _ e] at hj ⊢
    exact (h.heap.box j b hj).mono hK hE rfl
  ·by_cases e : j = id
   ·subst e; rw [Qk] at hj hr; cases hj; exact absurd hr (Nat.lt_irrefl 0)
   ·rw [Qo _ _ e] at hj hr ⊢
    obtain ⟨x, y, z⟩ := h.heap.sepR j b hj hr
    grind
  ·by_cases e1 : i = id
   ·subst e1; rw [Qk] at h1 r1; cases h1; exact absurd r1 (Nat.lt_irrefl 0)
   ·by_cases e2 : j = id
    ·subst e2; rw [Qk] at h2 r2; cases h2; exact absurd r2 (Nat.lt_irrefl 0)
    ·rw [Qo _ _ e1] at heq h1 r1; rw [Qo _ _ e2] at heq h2 r2
     exact h.heap.injR i j b1 b2 h1 h2 r1 r2 heq
  ·by_cases e : j = id
   ·simp_all [Qk]
   ·rw [Qo _ _ e] at hj ⊢
    exact h.heap.ty j v cs hj
 rw [← Z1] at hh hE
 refine ⟨_, _, MV h hh hK hE k p hk fun u hs => ?_⟩
 obtain ⟨a, rfl, _, hloc⟩ := hs.ptr_inv
 obtain rfl := hloc _ (Ji hid rfl)
 obtain ⟨C, e, hC, hsC, hle2, hcs⟩ := hbx
 have hcell : ∀ (i : Nat) (x : AV) (j : Nat) (c : AV), [AV.agg cs][i]? = some x → x.cells[j]? = some c → i = 0 ∧ ∃ u, C[(m id).base + j]? = some u ∧ u.oneCell' = true ∧ RelI _ c u := fun i x j c hx hj => by
  cases i with
  | succ i => simp at hx
  | zero =>
   simp only [List.getElem?_cons_zero, Option.some.injEq] at hx
   subst hx
   obtain ⟨u, a1, a2, a3⟩ := hcs j c hj
   exact ⟨rfl, u, a1, a2, (I4 a3 (List.all_eq_true.1 himm c (List.mem_of_getElem? hj))).mono hK⟩
 have := RelI.ip (H := fun b o => if b = (m id).g then w.cell? ⟨b, o, none⟩ else H b o) cs.length [.agg cs] (m id).g (m id).base 0 off (fun i j => (C[(m id).base + j]?).getD Go.undef) hne (by simp) (fun i x hx => by
  cases i with
  | succ i => simp at hx
  | zero => simp only [List.getElem?_cons_zero, Option.some.injEq] at hx; subst hx; rfl) (fun i x j c hx hj => by
  obtain ⟨rfl, u, a1, a2, a3⟩ := hcell i x j c hx hj
  rw [a1]
  refine ⟨?_, a2⟩
  rw [if_pos rfl, Nat.zero_mul, Nat.add_zero, Xw _ _ _ _ _ _ hC, a1]; rfl) (fun i x j c hx hj => by
  grind)
 rw [Nat.zero_mul, Nat.add_zero] at this
 exact .imm _ _ this⟩
theorem P1 {z i off n : Nat} {xs : List AV} {x y : AV} (hel : ∀ x ∈ xs, x.cells.length = z) (hxi : xs[i]? = some x) (hl : off + n ≤ z) (hn : y.cells.length = n) : (∀ u ∈ xs.set i (putE off n z x y), u.cells.length = z) ∧ (xs.set i (putE off n z x y)).flatMap AV.cells = (xs.flatMap AV.cells).take (i * z + off) ++ (y.cells ++ (xs.flatMap AV.cells).drop (i * z + off + n)) := by
 have hi := (List.getElem?_eq_some_iff.1 hxi).1
 have hxl : x.cells.length = z := hel _ (List.mem_of_getElem? hxi)
 generalize hY : putE off n z x y = Y
 have hYc : Y.cells = x.cells.take off ++ (y.cells ++ x.cells.drop (off + n)) := by grind [E6]
 have hYl : Y.cells.length = z := by grind
 have hfl := Kk hel
 have hmul : i * z + z ≤ xs.length * z := by
  have : (i + 1) * z ≤ xs.length * z := Nat.mul_le_mul_right _ hi
  grind
 refine ⟨fun u hx => by
  grind, ?_⟩
 rw [Hf i x Y hel hxi hYl, hYc]
 have hx2 : ∀ j, j < z → (xs.flatMap AV.cells)[i * z + j]? = x.cells[j]? := fun j hj => by
  simp_all [Ck, List.getElem?_eq_getElem]
 apply List.ext_getElem?
 intro j
 simp only [List.getElem?_append, List.length_append, List.length_take, List.getElem?_take, List.getElem?_drop, List.length_drop, hfl, hxl]
 grind
theorem F8 (id ver z i c id2 v2 z2 len : Nat) (xs ys : List AV) (x : AV) (hid : lkb st.hp id = some (.hol ver z xs i c (.ow id2 v2 z2 len))) (hid2 : lkb st.hp id2 = some (.own v2 z2 ys)) (hlen : len = ys.length) (hxi : xs[i]? = some x) :
  Conv gl st ⟨st.n, st.sl, pt (pt st.hp id2 (.own (v2 + 4096) z2 [])) id (.own ver z (xs.set i (putE c 1 z x (.sl z2 ys)))), st.nx⟩ := ⟨rfl, fun m H B H0 rest tmps w h => by
 have hne : id ≠ id2 := fun e => by simp_all
 obtain ⟨K, hK, hh, hE, hKc⟩ := ML h hid2
 have h1 : RelS (updF m id2 ⟨0, 0, 0⟩) K B H0 gl rest ⟨st.n, st.sl, pt st.hp id2 (.own (v2 + 4096) z2 []), st.nx⟩ tmps w := ⟨hh, h.size, fun k => (h.slot k).mono hK hE, fun p hp => (h.rest p hp).mono hK hE⟩
 have hid1 : lkb (pt st.hp id2 (.own (v2 + 4096) z2 [])) id = some (.hol ver z xs i c (.ow id2 v2 z2 len)) := by simp_all [Z1, Qo]
 obtain ⟨hpos, hel, hil, hcl, hsz, C, e, hC, hs, hle, hcs, u, a1, a2, a3⟩ := h.heap.box id _ hid
 have ht : RelI K (.sl z2 ys) u := MM (w := w) a3 (Ji hid2 rfl) (h.heap.box id2 _ hid2) hlen hK hKc
 obtain ⟨f1, f2⟩ := P1 (y := .sl z2 ys) (n := 1) (off := c) hel hxi (by omega) rfl
 have hmm : (updF m id2 ⟨0, 0, 0⟩) id = m id := Qo _ _ hne
 refine ⟨_, _, (h1.reBox (b' := .own ver z (xs.set i (putE c 1 z x (.sl z2 ys)))) hid1 rfl rfl (fun _ => trivial) ?_ (fun _ _ e => by cases e)).1⟩
 rw [hmm]
 refine ⟨hpos, f1, .inr ⟨hsz, C, e, hC, hs, ?_, fun j d hj => ?_⟩⟩
 ·rw [Kk f1, List.length_set, ← Kk hel]; exact hle
 ·rw [f2] at hj
  have hfl := Kk hel
  have hmul : i * z + z ≤ xs.length * z := by
   have : (i + 1) * z ≤ xs.length * z := Nat.mul_le_mul_right _ hil
   grind
  simp only [List.getElem?_append, List.length_take, List.getElem?_take, List.getElem?_drop, hfl, AV.cells, List.length_singleton] at hj
  rw [show min (i * z + c) (xs.length * z) = i * z + c by omega] at hj
  by_cases c1 : j < i * z + c
  ·rw [if_pos c1, if_pos c1] at hj
   obtain ⟨v, b1, b2, b3⟩ := hcs j d hj (by omega)
   exact ⟨v, b1, b2, b3.mono hK⟩
  ·rw [if_neg c1] at hj
   by_cases c2 : j - (i * z + c) < 1
   ·grind
   ·rw [if_neg c2] at hj
    rw [show i * z + c + 1 + (j - (i * z + c) - 1) = j by omega] at hj
    obtain ⟨v, b1, b2, b3⟩ := hcs j d hj (by omega)
    exact ⟨v, b1, b2, b3.mono hK⟩⟩
end
end HY
end
section
namespace HY
open Go Go.RowKit
def Y7 (ev : Operand → AV) (op : Op) : Option (Nat × List AV) :=
 match op with
 | .call c => match c.callee with
  | .value x => match ev x with
   | .fn f caps => some (f, c.args.toList.map ev ++ caps)
   | _ => none
  | _ => none
 | _ => none
def Vi (op : Op) : Bool :=
 match op with
 | .call c => match c.callee with
  | .builtin _ => false
  | _ => true
 | _ => false
abbrev Y2 := Nat → Ql
def Y2.Ok (P : Program) (gl : Nat → AV) (cb : Y2) : Prop := ∀ b f ts r hp' nx', cb b f ts .nil 0 = some (r, hp', nx') → KW P gl f ts r hp' nx'
theorem CP {P : Program} {gl : Nat → AV} {ch : Ql} (h : ch.Ok P gl) : Y2.Ok P gl (fun _ => ch) := fun _ _ _ _ _ _ hk => (h _ _ _ _ _ _ _ hk).zero
def xo (P : Program) (ch : Y2) (bid : Nat) (dst : Option Nat) (op : Op) (ev : Operand → AV) (hp : Hp) : Option (AV × Option (Nat × Box)) :=
 if Vi op then (match Y7 ev op with
  | some (f, args) => Gr (ch bid) hp bid f args
  | none => none) else xop P bid dst op ev hp
def appTo (x : Operand) (o : Oper) : Bool := match o.op with
 | .call c => match c.callee with
  | .builtin .append => match c.args.toList, x with
   | .tmp s :: _, .tmp t => Nat.beq s t
   | _, _ => false
  | _ => false
 | _ => false
def seed (all : List Oper) (o : Oper) : Bool := match o.op with
 | .buildSlice _ len _ => match o.dst with
  | some d => Nat.beq len 0 && all.any (appTo (.tmp d))
  | none => false
 | _ => false
def Ip (P : Program) (bid : Nat) (op : Op) : Option (AV × Option (Nat × Box)) := match op with
 | .buildSlice t len parts => match Nat.beq len 0 && parts.toList.isEmpty with
  | true => match elG P t with
   | some (sz, _, _) => some (.ow bid 0 sz 0, some (bid, .own 0 sz []))
   | none => none
  | false => none
 | _ => none
def idOf : AV → List Nat
 | .ptr id _ _ => [id]
 | .bs id _ _ _ _ => [id]
 | .ow id _ _ _ => [id]
 | .oe id _ _ _ _ => [id]
 | _ => []
def foot (op : Op) (ev : Operand → AV) : Option (List Nat) := match op with
 | .load _ x => some (idOf (ev x))
 | .store _ x _ => some (idOf (ev x))
 | .binOp _ _ x _ _ => some (idOf (ev x))
 | .convert _ _ x => some (idOf (ev x))
 | .call c => match c.callee with
  | .builtin .append => match c.args.toList with
   | [x, y] => some (idOf (ev x) ++ idOf (ev y))
   | _ => none
  | .builtin _ => none
  | _ => match Y7 ev op with
   | some (_, args) => match optL (tree (fun _ => none) false 12) args with
    | some _ => some []
    | none => none
   | none => none
 | _ => none
abbrev Z4 := Nat → Option (List Nat)
def GO (md : Bool) (F : Z4) (bid : Nat) (o : Oper) (ev : Operand → AV) : Bool := match md with
 | false => true
 | true => match F bid with
  | none => true
  | some ids => match foot o.op ev with
   | some l => l.all (fun i => ids.any (Nat.beq i))
   | none => false
def xoF (P : Program) (ch : Y2) (md : Bool) (F : Z4) (all : List Oper) (bid : Nat) (o : Oper) (ev : Operand → AV) (hp : Hp) : Option (AV × Option (Nat × Box)) :=
 match GO md F bid o ev with
 | true => match md && seed all o with
  | true => Ip P bid o.op
  | false => xo P ch bid o.dst o.op ev hp
 | false => none
def DN (all : List Oper) (j : Nat) : Option Nat :=
 match all[j]? with
 | some o => o.dst
 | none => none
def Wo (x : AV) (want : Bool) : Option Bool :=
 match x with
 | .bool t => some (bif t then want else !want)
 | .tup [] => some false
 | _ => none
def X4 (P : Program) (gl : Nat → AV) (ch : Y2) (md : Bool) (F : Z4) (all : List Oper) (bid : Nat) (o : Oper) (st : St) : Option St :=
 if QV o.dst st.n && (lkb st.hp bid).isNone && Nat.blt bid st.nx then match o.guard with
  | none => match xoF P ch md F all bid o (st.ev gl) (lkb st.hp) with
   | some r => some (st.eff o.dst r)
   | none => none
  | some (j, want) => match DN all j with
   | some g => match Wo (st.get g) want with
    | some true => match xoF P ch md F all bid o (st.ev gl) (lkb st.hp) with
     | some r => some (st.eff o.dst r)
     | none => none
    | some false => some (st.eff o.dst (.tup [], none))
    | none => none
   | none => none
 else none
def VS (P : Program) (r : Option Nat) (n : Nat) (B : Nat → Prop) (H0 : HV) (gl : Nat → AV) (rest : List (AV × Value)) (a : Act) (w : World) (o : Oper) (st' : St) : Prop :=
 ∀ (next : Act → World → Prop) (Q : Exit → Act → World → Prop),
  (∀ a' w' m' H', a'.defers = a.defers → Q8 B w w' → RelS m' H' B H0 gl rest st' a'.tmps w' → next a' w') → o.wpIn (FW r) n P a w next Q
theorem Xx (a : Act) (d : Option Tmp) (v : Value) : (a.put d v).defers = a.defers := by cases d <;> rfl
theorem NT {P : Program} {bid : Nat} {dst : Option Nat} {op : Op} {ev : Operand → AV} {hp : Hp} {r : AV × Option (Nat × Box)} (h : xop P bid dst op ev hp = some r) : ∀ c, op ≠ .defer c := by
 intro c e; subst e; simp [xop, xop0, xopX, xopO] at h
section
variable {P : Program} {m : Nat → Lc} {H : HV} {B : Nat → Prop} {H0 : HV} {gl : Nat → AV} {rest : List (AV × Value)} {st : St} {a : Act} {w : World}
theorem OpOk.step {ro : Option Nat} {n : Nat} {o : Oper} {st' : St} (h : OpOk P B H0 gl rest a w o.dst st' (execOp a.eval o)) (hnd : ∀ c, o.op ≠ .defer c) : VS P ro n B H0 gl rest a w o st' := by
 intro next Q hn
 obtain ⟨nx, v, w', m', H', hr, hx, hb, hrel⟩ := h
 refine ⟨fun _ _ => trivial, ?_⟩
 rw [Oper.semAt_eq _ _ _ hnd, hr]
 rcases hx with rfl | ⟨rfl, rfl⟩
 ·exact hn _ _ _ _ (Xx _ _ _) hb hrel
 ·exact hn _ _ _ _ (Xx _ _ _) hb hrel
theorem Ub {ev : Operand → AV} {op : Op} {f : Nat} {args : List AV} (h : Y7 ev op = some (f, args)) : ∃ c x caps, op = .call c ∧ c.callee = .value x ∧ ev x = .fn f caps ∧ args = c.args.toList.map ev ++ caps := by
 unfold Y7 at h
 split at h
 ·rename_i c
  split at h
  ·rename_i x hx
   split at h
   ·rename_i f' caps hf
    cases h
    exact ⟨c, x, caps, rfl, hx, hf, rfl⟩
   ·cases h
  ·cases h
 ·cases h
theorem Hb (h : RelS m H B H0 gl rest st a.tmps w) {o : Oper} {f : Nat} {args : List AV} (hc : Y7 (st.ev gl) o.op = some (f, args)) :
  ∃ vs : Array Value, (execOp a.eval o).run P w = (callFunc f vs).run P w ∧ args.length = vs.size ∧ ∀ (j : Nat) (x : AV) (v : Value), args[j]? = some x → vs[j]? = some v → RV H (st.env m) x v := by
 obtain ⟨c, x, caps, ho, hx, hf, rfl⟩ := Ub hc
 have hfx := h.ev x
 rw [hf] at hfx
 obtain ⟨us, hu, hul, hur⟩ := hfx.fn_inv
 have hl := WW h c.args.toList
 refine ⟨c.args.map a.eval ++ us, ?_, by simp [hul], fun j y v hy hv => ?_⟩
 ·unfold execOp
  simp only [ho, resolve, hx, Sem.run_bind, hu, Deferred.ofValue, Sem.run_pure, Result.andThen_ok, invoke, Array.empty_append]
 ·rw [List.getElem?_append] at hy
  rw [Array.getElem?_append] at hv
  simp only [List.length_map, Array.length_toList, Array.size_map] at hy hv
  split at hy
  ·rename_i hj
   rw [if_pos hj] at hv
   exact hl.2 j y v hy (by simpa using hv)
  ·rename_i hj
   rw [if_neg hj] at hv
   exact hur _ y v hy hv
theorem We (h : RelS m H B H0 gl rest st a.tmps w) {o : Oper} {f : Nat} {args : List AV} (hc : Y7 (st.ev gl) o.op = some (f, args)) {st' : St} (ro : Option Nat) (n : Nat)
  (hcalls : ∀ vs : Array Value, args.length = vs.size → (∀ (j : Nat) (x : AV) (v : Value), args[j]? = some x → vs[j]? = some v → RV H (st.env m) x v) →
   Ans P f vs w fun e w' => ∃ v m' H', e = .returned v ∧ Q8 B w w' ∧ RelS m' H' B H0 gl rest st' (a.put o.dst v).tmps w') : VS P ro n B H0 gl rest a w o st' := by
 intro next Q hn
 obtain ⟨vs, hrun, hl, hr⟩ := Hb h hc
 obtain ⟨c, x, caps, ho, _⟩ := Ub hc
 refine ⟨fun _ _ => trivial, ?_⟩
 rw [Oper.semAt_eq _ _ _ (fun c e => by rw [ho] at e; cases e), hrun]
 rcases hcalls vs hl hr with ⟨hent, hcs⟩ | ⟨v, w', hv, hq⟩
 ·rw [hent vs w]
  refine ⟨(fun hh => by simp [FW] at hh), DL (hcs.mono fun e w' hp => ?_)⟩
  obtain ⟨v, m', H', rfl, hb, hrel⟩ := hp
  exact hn _ _ _ _ (Xx _ _ _) hb hrel
 ·rw [hv]
  obtain ⟨v', m', H', he, hb, hrel⟩ := hq
  cases he
  exact hn _ _ _ _ (Xx _ _ _) hb hrel
theorem xo_ok {ch : Y2} (hch : ch.Ok P gl) (h : RelS m H B H0 gl rest st a.tmps w) {o : Oper} (hd : QV o.dst st.n = true) {bid : Nat} (hb : lkb st.hp bid = none) (hn : bid < st.nx) {r : AV × Option (Nat × Box)} (hk : xo P ch bid o.dst o.op (st.ev gl) (lkb st.hp) = some r) (ro : Option Nat) (n : Nat) :
  VS P ro n B H0 gl rest a w o (st.eff o.dst r) := by
 unfold xo at hk
 split at hk
 ·split at hk
  ·rename_i f args hc
   exact We h hc ro n fun vs hl hr => Rx (fun _ _ _ _ _ hk => hch _ _ _ _ _ _ hk) h hd hb hn hl hr hk
  ·cases hk
 ·exact (Sf h hd hb hn hk).step (NT hk)
theorem F9 {k bid sz : Nat} (hpos : 0 < sz) (hk : st.get k = .bs bid 0 sz 0 0) (hid : lkb st.hp bid = some (.cells 0 [])) :
  Conv gl st ⟨st.n, pt st.sl k (.ow bid 0 sz 0), pt st.hp bid (.own 0 sz []), st.nx⟩ := by
 have := LC (gl := gl) (st := st) k [] bid 0 sz 0 [] hpos (by rw [hk]; rfl) hid (by simp) (by simp)
 simpa [JK, K6] using this
theorem EW {d bid : Nat} {v v' : AV} {b b' : Box} : lkb (pt (st.eff (some d) (v, some (bid, b))).hp bid b') = lkb (st.eff (some d) (v', some (bid, b'))).hp := by
 show lkb (pt (pt st.hp bid b) bid b') = lkb (pt st.hp bid b')
 funext k
 rw [Z1, Z1, Z1]
 unfold updF
 split <;> rfl
theorem Pn {d bid : Nat} {v v' : AV} {b b' : Box} {hp : Tr Box} {n nx k : Nat} : St.get ⟨n, pt (st.eff (some d) (v, some (bid, b))).sl d v', hp, nx⟩ k = (st.eff (some d) (v', some (bid, b'))).get k := by
 show lk .undef (pt (pt st.sl d v) d v') k = lk .undef (pt st.sl d v') k
 rw [JI, JI, JI]
 split <;> rfl
theorem PZ {ch : Y2} (hch : ch.Ok P gl) (h : RelS m H B H0 gl rest st a.tmps w) {o : Oper} (hd : QV o.dst st.n = true) {bid : Nat} (hb : lkb st.hp bid = none) (hn : bid < st.nx) {d : Nat} (hdst : o.dst = some d) {r : AV × Option (Nat × Box)} (hk : Ip P bid o.op = some r) (ro : Option Nat) (n : Nat) :
  VS P ro n B H0 gl rest a w o (st.eff o.dst r) := by
 unfold Ip at hk
 split at hk
 ·rename_i t len parts ho
  split at hk
  ·rename_i hc
   rw [Bool.and_eq_true] at hc
   obtain rfl := Nat.eq_of_beq_eq_true hc.1
   have hp : parts.toList = [] := by simpa using hc.2
   split at hk
   ·rename_i sz by_ zs hel
    cases hk
    have hpos : 0 < sz := by obtain ⟨_, _, _, _, _, _, _, hpos, _⟩ := G9 hel; exact hpos
    have h0 : xo P ch bid o.dst o.op (st.ev gl) (lkb st.hp) = some (.bs bid 0 sz 0 0, some (bid, .cells 0 [])) := by
     unfold xo
     rw [if_neg (by rw [ho]; simp [Vi]), ho]
     refine ZA ?_
     simp [xop0, GR, hel, hp, DY, DI]
    have hop := xo_ok hch h hd hb hn h0 ro n
    intro next Q hnx
    refine hop next Q fun a' w' m' H' hd' hb' hr' => ?_
    rw [hdst] at hr'
    obtain ⟨m2, H2, hr2⟩ := (F9 (gl := gl) (st := st.eff (some d) (.bs bid 0 sz 0 0, some (bid, .cells 0 []))) (k := d) (bid := bid) (sz := sz) hpos (by
     show lk .undef (pt st.sl d _) d = _
     rw [JI, if_pos rfl]) (by
     show lkb (pt st.hp bid _) bid = _
     rw [Z1, Qk])).2 _ _ _ _ _ _ _ hr'
    refine hnx a' w' m2 H2 hd' hb' ?_
    rw [hdst]
    refine ⟨?_, hr2.size, fun k => ?_, fun p hp => ?_⟩
    ·have := hr2.heap
     rwa [EW] at this
    ·have := hr2.slot k
     rw [Pn] at this
     unfold St.env at this ⊢
     rwa [EW] at this
    ·have := hr2.rest p hp
     unfold St.env at this ⊢
     rwa [EW] at this
   ·cases hk
  ·cases hk
 ·cases hk
theorem xoF_ok {ch : Y2} (hch : ch.Ok P gl) (h : RelS m H B H0 gl rest st a.tmps w) {md : Bool} {F : Z4} {all : List Oper} {o : Oper} (hd : QV o.dst st.n = true) {bid : Nat} (hb : lkb st.hp bid = none) (hn : bid < st.nx) {r : AV × Option (Nat × Box)} (hk : xoF P ch md F all bid o (st.ev gl) (lkb st.hp) = some r) (ro : Option Nat) (n : Nat) :
  VS P ro n B H0 gl rest a w o (st.eff o.dst r) := by
 unfold xoF at hk
 split at hk
 ·split at hk
  ·rename_i hs
   rw [Bool.and_eq_true] at hs
   have : ∃ d, o.dst = some d := by
    have hs := hs.2
    unfold seed at hs
    split at hs
    ·split at hs
     ·exact ⟨_, by assumption⟩
     ·cases hs
    ·cases hs
   obtain ⟨d, hdst⟩ := this
   exact PZ hch h hd hb hn hdst hk ro n
  ·exact xo_ok hch h hd hb hn hk ro n
 ·cases hk
theorem Sm {l : List Oper} {j g : Nat} {t : Bool} (hg : DN l j = some g) (ht : a.tmps.getD g Go.undef = .bool t) : yielded l.toArray a.tmps j = some t := by
 have hlt : g < a.tmps.size := by
  rcases Nat.lt_or_ge g a.tmps.size with h | h
  ·exact h
  ·rw [Array.getD_eq_getD_getElem?, Array.getElem?_eq_none h] at ht; cases ht
 have hgo : ((l.toArray[j]?).bind (·.dst)) = some g := by
  unfold DN at hg
  simp only [List.getElem?_toArray]
  split at hg
  ·rename_i o ho; rw [ho]; exact hg
  ·cases hg
 rw [Array.getD_eq_getD_getElem?, Array.getElem?_eq_getElem hlt, Option.getD_some] at ht
 simp only [yielded, hgo, Option.bind_some, Array.getElem?_eq_getElem hlt, ht]
theorem SM {l : List Oper} {j g : Nat} (hg : DN l j = some g) (ht : a.tmps.getD g Go.undef = .tuple #[]) : yielded l.toArray a.tmps j = none := by
 have hgo : ((l.toArray[j]?).bind (·.dst)) = some g := by
  unfold DN at hg
  simp only [List.getElem?_toArray]
  split at hg
  ·rename_i o ho; rw [ho]; exact hg
  ·cases hg
 rcases Nat.lt_or_ge g a.tmps.size with hlt | hge
 ·rw [Array.getD_eq_getD_getElem?, Array.getElem?_eq_getElem hlt, Option.getD_some] at ht
  simp only [yielded, hgo, Option.bind_some, Array.getElem?_eq_getElem hlt, ht]
 ·simp only [yielded, hgo, Option.bind_some, Array.getElem?_eq_none hge]
theorem W1 {H : HV} {E : Env} {l : List Oper} {o : Oper} {j g : Nat} {want b : Bool} {x : AV} (ho : o.guard = some (j, want)) (hg : DN l j = some g) (hw : Wo x want = some b) (hv : RV H E x (a.tmps.getD g Go.undef)) : Region.wanted o (yielded l.toArray a.tmps) = b := by
 unfold Wo at hw
 split at hw
 ·rename_i t
  have hy := Sm hg hv.bool_inv
  cases hw
  simp only [Region.wanted, ho, hy]
  cases t <;> cases want <;> rfl
 ·cases hw
  obtain ⟨vs, h1, h2, _⟩ := hv.tup_inv
  have : vs = #[] := Array.eq_empty_of_size_eq_zero (by simpa using h2.symm)
  subst this
  simp only [Region.wanted, ho, SM hg h1]
  rfl
 ·cases hw
theorem Dq {ch : Y2} (hch : ch.Ok P gl) (h : RelS m H B H0 gl rest st a.tmps w) {md : Bool} {F : Z4} {all : List Oper} {o : Oper} {bid : Nat} {st' : St} (hk : X4 P gl ch md F all bid o st = some st') (ro : Option Nat) (n : Nat)
  (next : Act → World → Prop) (Q : Exit → Act → World → Prop) (hn : ∀ a' w' m' H', a'.defers = a.defers → Q8 B w w' → RelS m' H' B H0 gl rest st' a'.tmps w' → next a' w') :
  if Region.wanted o (yielded all.toArray a.tmps) then o.wpIn (FW ro) n P a w next Q else (∀ f, o.about P w a.eval = some f → (FW ro).fn f) ∧ next (a.put o.dst Go.undef) w := by
 unfold X4 at hk
 split at hk
 ·rename_i hc
  simp only [Bool.and_eq_true, Option.isNone_iff_eq_none] at hc
  obtain ⟨⟨hd, hb⟩, hbn⟩ := hc
  have hbn : bid < st.nx := Nat.le_of_ble_eq_true hbn
  have go : ∀ r, xoF P ch md F all bid o (st.ev gl) (lkb st.hp) = some r → some (st.eff o.dst r) = some st' → o.wpIn (FW ro) n P a w next Q := fun r hr he => by
   cases he
   exact xoF_ok hch h hd hb hbn hr ro n next Q hn
  split at hk
  ·rename_i hg
   rw [if_pos (by simp [Region.wanted, hg])]
   split at hk
   ·rename_i r hr; exact go r hr hk
   ·cases hk
  ·rename_i j want hg
   split at hk
   ·rename_i g hgs
    split at hk
    ·rename_i ht
     rw [if_pos (W1 hg hgs ht (h.slot g))]
     split at hk
     ·rename_i r hr; exact go r hr hk
     ·cases hk
    ·rename_i ht
     rw [if_neg (by rw [W1 hg hgs ht (h.slot g)]; simp)]
     cases hk
     exact ⟨fun _ _ => trivial, hn _ _ _ _ (Xx _ _ _) (Q8.refl _ _) (h.putO hd (.tup [] #[] rfl (fun j c v hj => by simp at hj)))⟩
    ·cases hk
   ·cases hk
 ·cases hk
end
end HY
end
section
namespace HY
open Go Go.RowKit
structure StEq (a b : St) : Prop where
 n : a.n = b.n
 nx : a.nx = b.nx
 get : ∀ k, a.get k = b.get k
 hp : lkb a.hp = lkb b.hp
theorem StEq.refl (a : St) : StEq a a := ⟨rfl, rfl, fun _ => rfl, rfl⟩
theorem StEq.symm {a b : St} (h : StEq a b) : StEq b a := ⟨h.n.symm, h.nx.symm, fun k => (h.get k).symm, h.hp.symm⟩
theorem StEq.trans {a b c : St} (h : StEq a b) (k : StEq b c) : StEq a c := ⟨h.n.trans k.n, h.nx.trans k.nx, fun i => (h.get i).trans (k.get i), h.hp.trans k.hp⟩
theorem StEq.ev {a b : St} (h : StEq a b) (gl : Nat → AV) : a.ev gl = b.ev gl := by
 funext x; cases x <;> first | rfl | exact h.get _
theorem StEq.rel {m : Nat → Lc} {H : HV} {B : Nat → Prop} {H0 : HV} {gl : Nat → AV} {rest : List (AV × Value)} {a b : St} {tmps : Array Value} {w : World} (h : StEq a b) (hr : RelS m H B H0 gl rest a tmps w) : RelS m H B H0 gl rest b tmps w := by
 refine ⟨by rw [← h.hp, ← h.nx]; exact hr.heap, by rw [← h.n]; exact hr.size, fun k => ?_, fun p hp => ?_⟩
 ·show RV H (Q5 (lkb b.hp) m) _ _
  rw [← h.hp, ← h.get]; exact hr.slot k
 ·show RV H (Q5 (lkb b.hp) m) _ _
  rw [← h.hp]; exact hr.rest p hp
theorem KI (st : St) (d : Option Nat) (r : AV × Option (Nat × Box)) (k : Nat) : (st.eff d r).get k = if d = some k then r.1 else st.get k := by
 have : ∀ st : St, (st.putO d r.1).get k = if d = some k then r.1 else st.get k := fun st => by
  cases d with
  | none => simp [St.putO]
  | some d =>
   show lk .undef (pt st.sl d r.1) k = _
   rw [JI]
   simp only [Option.some.injEq]
   rfl
 obtain ⟨v, b⟩ := r
 cases b with
 | none => exact this st
 | some b =>
  have := this st
  cases d <;> exact this
theorem Vw (st : St) (d : Option Nat) (r : AV × Option (Nat × Box)) : lkb (st.eff d r).hp = match r.2 with | some (id, b) => updF (lkb st.hp) id (some b) | none => lkb st.hp := by
 obtain ⟨v, b⟩ := r
 cases b with
 | none => show lkb (st.putO d v).hp = _; rw [V1]
 | some b => cases d <;> exact Z1 _ _ _
theorem StEq.eff {a b : St} (h : StEq a b) (d : Option Nat) (r : AV × Option (Nat × Box)) : StEq (a.eff d r) (b.eff d r) :=
 ⟨by rw [CE, CE]; exact h.n, by rw [UV, UV]; exact h.nx, fun k => by rw [KI, KI, h.get], by rw [Vw, Vw, h.hp]⟩
def Jo (P : Program) (ch : Y2) (md : Bool) (F : Z4) (all : List Oper) (bid : Nat) (o : Oper) (gv : Option AV) (ev : Operand → AV) (hp : Hp) : Option (AV × Option (Nat × Box)) :=
 match o.guard with
 | none => xoF P ch md F all bid o ev hp
 | some (_, want) => match gv with
  | some x => match Wo x want with
   | some true => xoF P ch md F all bid o ev hp
   | some false => some (.tup [], none)
   | none => none
  | none => none
def gval (all : List Oper) (o : Oper) (st : St) : Option AV :=
 match o.guard with
 | none => none
 | some (j, _) => match DN all j with
  | some g => some (st.get g)
  | none => none
theorem Kq {P : Program} {gl : Nat → AV} {ch : Y2} {md : Bool} {F : Z4} {all : List Oper} {bid : Nat} {o : Oper} {st : St} :
  X4 P gl ch md F all bid o st = if QV o.dst st.n && (lkb st.hp bid).isNone && Nat.blt bid st.nx then (match Jo P ch md F all bid o (gval all o st) (st.ev gl) (lkb st.hp) with | some r => some (st.eff o.dst r) | none => none) else none := by
 unfold X4 Jo gval
 split
 ·cases hg : o.guard with
  | none => rfl
  | some x =>
   obtain ⟨j, want⟩ := x
   simp only
   cases hgs : DN all j with
   | none => rfl
   | some g =>
    simp only
    cases hv : Wo (st.get g) want with
    | none => rfl
    | some b => cases b <;> rfl
 ·rfl
theorem StEq.stepO {P : Program} {gl : Nat → AV} {ch : Y2} {md : Bool} {F : Z4} {all : List Oper} {bid : Nat} {o : Oper} {a b s : St} (h : StEq a b) (hk : X4 P gl ch md F all bid o a = some s) : ∃ s', X4 P gl ch md F all bid o b = some s' ∧ StEq s s' := by
 rw [Kq] at hk ⊢
 have hg : gval all o a = gval all o b := by
  unfold gval
  split
  ·rfl
  ·split
   ·rw [h.get]
   ·rfl
 rw [h.n, h.nx, h.hp, hg, h.ev] at hk
 split at hk
 ·rename_i hc
  rw [if_pos hc]
  split at hk
  ·rename_i r hr
   cases hk
   exact ⟨_, rfl, h.eff _ _⟩
  ·cases hk
 ·cases hk
def tmp? : Operand → Option Nat
 | .tmp t => some t
 | _ => none
def rdO (all : List Oper) (o : Oper) : List Nat :=
 o.op.operands.toList.filterMap tmp? ++ match o.guard with
  | some (j, _) => (DN all j).toList
  | none => []
def Ma (c : Call) : Bool := match c.args.toList with | .const _ :: _ => true | _ => false
def hk (op : Op) : Nat :=
 match op with
 | .load .. => 1
 | .lookup .. => 1
 | .store .. => 2
 | .binOp o .. => match o with
  | .eql | .neq => 1
  | _ => 0
 | .convert .. => 1
 | .call c => match c.callee with
  | .builtin .append => match Ma c with | true => 1 | false => 2
  | .builtin .unsafeString => 2
  | .builtin _ => 0
  | _ => 1
 | _ => 0
def hkCl (a b : Nat) : Bool := (Nat.beq a 2 && !Nat.beq b 0) || (Nat.beq b 2 && !Nat.beq a 0)
def Wq (d : Option Nat) (l : List Nat) : Bool := match d with | some d => l.contains d | none => false
def Wm (a b : Option (List Nat)) : Bool := match a, b with
 | some l, some k => l.all fun i => k.all fun j => !Nat.beq i j
 | _, _ => false
def M4 (all : List Oper) (o p : Oper) : Bool := Wq o.dst (rdO all p) || Wq o.dst p.dst.toList || Wq p.dst (rdO all o)
def DM (md : Bool) (all : List Oper) (o p : Oper) : Bool := M4 all o p || (!md && hkCl (hk o.op) (hk p.op))
section
variable {P : Program} {m : Nat → Lc} {H : HV} {B : Nat → Prop} {H0 : HV} {gl : Nat → AV} {rest : List (AV × Value)} {st : St} {a : Act} {w : World} {ch : Y2}
theorem AY {bid : Nat} {dst : Option Nat} {op : Op} {ev ev' : Operand → AV} {hp : Hp} (h : ∀ x ∈ op.operands, ev x = ev' x) : xop0 P bid dst op ev hp = xop0 P bid dst op ev' hp := by
 have hopt : ∀ (o : Option Operand), (∀ x ∈ o.toList, ev x = ev' x) → o.map ev = o.map ev' := fun o ho => by
  cases o with
  | none => rfl
  | some x => simp [ho x (by simp)]
 cases op <;> simp only [Op.operands, List.mem_toArray, List.mem_cons, List.not_mem_nil, or_false, forall_eq_or_imp, forall_eq, List.mem_map, Array.mem_toList_iff] at h <;> (try rfl) <;> simp only [xop0]
 case move => rw [h]
 case assign => rw [h]
 case pick => rw [h.1, h.2.1, h.2.2]
 case box => rw [h]
 case build t ps => congr 2; refine List.map_congr_left fun p hp => ?_; rw [h _ ⟨p, by simpa using hp, rfl⟩]
 case buildSlice t l ps => congr 1; refine List.map_congr_left fun p hp => ?_; rw [h _ ⟨p, by simpa using hp, rfl⟩]
 case load => rw [h]
 case store => rw [h.1, h.2]
 case nilCheck => rw [h]
 case binOp => rw [h.1, h.2]
 case unOp => rw [h]
 case convert => rw [h]
 case makeFunc fn first caps =>
  cases fn <;> try rfl
  simp only
  split
  ·congr 3
   refine List.map_congr_left fun x hx => h x ?_
   simp at hx ⊢
   exact .inr hx
  ·rfl
 case makeSlice => rw [h.1, h.2]
 case slice t x lo hi mx =>
  have h' : ∀ y, y = x ∨ y ∈ lo.toList ∨ y ∈ hi.toList ∨ y ∈ mx.toList → ev y = ev' y := fun y hy => h y (by
   simp only [Array.mem_append, List.mem_toArray, List.mem_singleton, Option.mem_toArray] at *
   rcases hy with h1 | h1 | h1 | h1
   ·exact .inl (.inl (.inl (by simp [h1])))
   ·exact .inl (.inl (.inr (by simpa using h1)))
   ·exact .inl (.inr (by simpa using h1))
   ·exact .inr (by simpa using h1))
  rw [h' x (.inl rfl), hopt lo (fun y hy => h' y (.inr (.inl hy))), hopt hi (fun y hy => h' y (.inr (.inr (.inl hy)))), hopt mx (fun y hy => h' y (.inr (.inr (.inr hy))))]
 case fieldAddr => rw [h]
 case field => rw [h]
 case indexAddr => rw [h.1, h.2]
 case index => rw [h.1, h.2]
 case extract => rw [h]
 case call c =>
  cases hc : c.callee <;> simp only
  rename_i b
  congr 1
  refine List.map_congr_left fun x hx => h x ?_
  simp [Call.operands, hc]
  simpa using hx
theorem F0 {bid : Nat} {op : Op} {ev ev' : Operand → AV} {hp : Hp} (h : ∀ x ∈ op.operands, ev x = ev' x) : xopX P bid op ev hp = xopX P bid op ev' hp := by
 cases op <;> (try rfl)
 case binOp => simp only [Op.operands, List.mem_toArray, List.mem_cons, List.not_mem_nil, or_false, forall_eq_or_imp, forall_eq] at h; simp only [xopX]; rw [h.1, h.2]
 case convert => simp only [Op.operands, List.mem_toArray, List.mem_cons, List.not_mem_nil, or_false, forall_eq] at h; simp only [xopX]; rw [h]
 case call c =>
  simp only [xopX]
  cases hc : c.callee with
  | builtin b =>
   have hl : c.args.toList.map ev = c.args.toList.map ev' := List.map_congr_left fun x hx => h x (by simp [Op.operands, Call.operands, hc]; simpa using hx)
   simp only [hl]
  | value x => rfl
  | invoke x y => rfl
theorem AZ {op : Op} {ev ev' : Operand → AV} {hp : Hp} (h : ∀ x ∈ op.operands, ev x = ev' x) : xopO P op ev hp = xopO P op ev' hp := by
 cases op <;> (try rfl)
 case lookup => simp only [Op.operands, List.mem_toArray, List.mem_cons, List.not_mem_nil, or_false, forall_eq_or_imp, forall_eq] at h; simp only [xopO]; rw [h.1, h.2]
 case call c =>
  simp only [xopO]
  cases hc : c.callee with
  | builtin b =>
   have hl : c.args.toList.map ev = c.args.toList.map ev' := List.map_congr_left fun x hx => h x (by simp [Op.operands, Call.operands, hc]; simpa using hx)
   simp only [hl]
  | value x => rfl
  | invoke x y => rfl
theorem FG {bid : Nat} {dst : Option Nat} {op : Op} {ev ev' : Operand → AV} {hp : Hp} (h : ∀ x ∈ op.operands, ev x = ev' x) : xop P bid dst op ev hp = xop P bid dst op ev' hp := by
 unfold xop; rw [AY h, F0 h, AZ h]
end
end HY
end
section
namespace HY
open Go Go.RowKit
section
variable {P : Program} {m : Nat → Lc} {H : HV} {B : Nat → Prop} {H0 : HV} {gl : Nat → AV} {rest : List (AV × Value)} {st : St} {a : Act} {w : World} {ch : Y2}
theorem DK {op : Op} {ev ev' : Operand → AV} (h : ∀ x ∈ op.operands, ev x = ev' x) : Y7 ev op = Y7 ev' op := by
 unfold Y7
 split
 ·rename_i c
  split
  ·rename_i x hx
   have hx' : ev x = ev' x := h x (by simp [Op.operands, Call.operands, hx])
   have hl : c.args.toList.map ev = c.args.toList.map ev' := List.map_congr_left fun y hy => h y (by simp [Op.operands, Call.operands, hx]; simp_all)
   grind
  ·rfl
 ·rfl
theorem PR {bid : Nat} {dst : Option Nat} {op : Op} {ev ev' : Operand → AV} {hp : Hp} (h : ∀ x ∈ op.operands, ev x = ev' x) : xo P ch bid dst op ev hp = xo P ch bid dst op ev' hp := by
 grind [xo, DK, FG]
theorem xo_hk0 {bid : Nat} {dst : Option Nat} {op : Op} {ev : Operand → AV} {hp hp' : Hp} (h : hk op = 0) : xo P ch bid dst op ev hp = xo P ch bid dst op ev hp' := by
 unfold xo
 split
 ·rename_i hc
  unfold Vi at hc
  grind [hk]
 ·rename_i hnc
  clear hnc
  unfold xop
  have e0 : xop0 P bid dst op ev hp = xop0 P bid dst op ev hp' := by
   cases op <;> first | rfl | (cases h; done) | skip
   case makeFunc fn first caps => cases fn <;> rfl
   case call c =>
    simp only [xop0]
    cases hcc : c.callee with
    | builtin b =>
     simp only
     cases b <;> first | rfl | grind [hk] | omega
    | value x => rfl
    | invoke x y => rfl
  have e1 : xopX P bid op ev hp = xopX P bid op ev hp' := by
   cases op <;> first | rfl | (cases h; done) | skip
   case binOp o t x y ty =>
    have hno : ∀ hp, DX P o t (ev x) (ev y) hp = none := fun hp => by
     have ho : ∀ b, CK o b = none := fun b => by cases o <;> first | rfl | (cases h; done)
     unfold DX
     grind
    simp_all [xopX]
   grind [xopX, hk]
  have e2 : xopO P op ev hp = xopO P op ev hp' := by
   cases op <;> first | rfl | (cases h; done) | skip
   grind [xopO, hk]
  simp_all
def Ext (hp hp' : Hp) : Prop := ∀ id b, hp id = some b → hp' id = some b
theorem I0 {hp : Hp} {id : Nat} {b : Box} (h : hp id = none) : Ext hp (updF hp id (some b)) := fun id' b' h' => by
 grind [id, Qo]
theorem Mc {E : Env} {id ver off : Nat} {v : Value} (h : RV H E (.ptr id ver off) v) : E.al id ver := let ⟨_, _, h, _⟩ := h.ptr_inv; h
theorem Mu {E : Env} {id ver sz off len : Nat} {v : Value} (h : RV H E (.bs id ver sz off len) v) : E.al id ver := let ⟨_, _, _, h, _⟩ := h.bs_inv; h
theorem ow_al {E : Env} {id ver sz len : Nat} {v : Value} (h : RV H E (.ow id ver sz len) v) : E.al id ver := let ⟨_, _, _, h, _⟩ := h.ow_inv; h
theorem oe_al {E : Env} {id ver sz i off : Nat} {v : Value} (h : RV H E (.oe id ver sz i off) v) : E.al id ver := let ⟨_, _, h, _⟩ := h.oe_inv; h
theorem YG {hp : Hp} {m : Nat → Lc} {id ver : Nat} (h : (Q5 hp m).al id ver) : ∃ b, hp id = some b := let ⟨b, h, _⟩ := h; ⟨b, h⟩
theorem Ge {f g : AV → Option AV} : ∀ {l : List AV}, (∀ x ∈ l, f x = g x) → optL f l = optL g l
 | [], _ => rfl
 | x :: l, h => by
  simp only [optL]
  rw [h x (by simp), Ge (l := l) fun y hy => h y (by simp [hy])]
theorem Hu {hp hp' : Hp} (hb : ∀ id b, hp id = some b → Y1 H (Q5 hp m) b (m id) w) (he : Ext hp hp') (s : Bool) : ∀ (k : Nat) (x : AV) (v : Value), RV H (Q5 hp m) x v → tree hp' s k x = tree hp s k x
 | 0, _, _, _ => rfl
 | k + 1, x, v, hx => by
  have ih := Hu hb he s k
  cases x with
  | bs id ver sz off len =>
   obtain ⟨b, hid⟩ := YG (Mu hx)
   simp only [tree, he _ _ hid, hid]
   cases b with
   | cells v' cs =>
    obtain ⟨C, e, hC, _, _, hcs⟩ := hb _ _ hid
    grind [optL, tree, Ge, List.getElem?_of_mem, List.mem_of_mem_drop, List.mem_of_mem_take]
   | own => rfl
   | hol => rfl
   | loop => rfl
   | defb => rfl
   | map => rfl
   | mapI => rfl
   | dead => rfl
  | agg cs =>
   obtain ⟨vs, rfl, hl, _, hc⟩ := hx.agg_inv
   simp only [tree]
   rw [Ge fun y hy => ?_]
   obtain ⟨j, hj⟩ := List.getElem?_of_mem hy
   exact ih y _ (hc j y _ hj (Array.getElem?_eq_getElem (by grind)))
  | tup cs =>
   obtain ⟨vs, rfl, hl, hc⟩ := hx.tup_inv
   simp only [tree]
   rw [Ge fun y hy => ?_]
   obtain ⟨j, hj⟩ := List.getElem?_of_mem hy
   exact ih y _ (hc j y _ hj (Array.getElem?_eq_getElem (by grind)))
  | fn f cs =>
   obtain ⟨vs, rfl, hl, hc⟩ := hx.fn_inv
   simp only [tree]
   rw [Ge fun y hy => ?_]
   obtain ⟨j, hj⟩ := List.getElem?_of_mem hy
   exact ih y _ (hc j y _ hj (Array.getElem?_eq_getElem (by grind)))
  | _ => rfl
theorem O1 {hp hp' : Hp} (he : Ext hp hp') {sz : Nat} {x : AV} {v : Value} (hx : RV H (Q5 hp m) x v) : xsrc sz x hp' = xsrc sz x hp := by
 cases x with
 | bs id ver z off len =>
  obtain ⟨b, hid⟩ := YG (Mu hx)
  simp only [xsrc, he _ _ hid, hid]
 | _ => rfl
theorem SI {hp hp' : Hp} (he : Ext hp hp') {bid : Nat} {t t' : TypeId} {s x : AV} {u v : Value} (hs : RV H (Q5 hp m) s u) (hx : RV H (Q5 hp m) x v) : VO P bid t t' s x hp' = VO P bid t t' s x hp := by
 unfold VO
 split
 ·split
  ·rw [O1 he hx]
   split
   ·split
    ·rfl
    ·cases s with
     | bs id ver z off len =>
      obtain ⟨b, hid⟩ := YG (Mu hs)
      simp only [Jm, he _ _ hid, hid]
     | _ => rfl
   ·rfl
  ·rfl
 ·rfl
theorem PS (h : RelS m H B H0 gl rest st a.tmps w) {hp' : Hp} (he : Ext (lkb st.hp) hp') {bid : Nat} {dst : Option Nat} {op : Op} : xop0 P bid dst op (st.ev gl) hp' = xop0 P bid dst op (st.ev gl) (lkb st.hp) := by
      cases op <;> first | rfl | skip
      case makeFunc fn first caps => cases fn <;> rfl
      case load t x =>
        simp only [xop0, Gq]
        have hx := h.ev x
        generalize st.ev gl x = y at hx ⊢
        cases y <;> first | rfl | skip
        · obtain ⟨b, hid⟩ := YG (Mc hx)
          simp only [he _ _ hid, hid]
        · obtain ⟨b, hid⟩ := YG (oe_al hx)
          simp only [he _ _ hid, hid]
      case store t x y =>
        simp only [xop0, Un]
        have hx := h.ev x
        generalize st.ev gl x = z at hx ⊢
        cases z <;> first | rfl | skip
        · obtain ⟨b, hid⟩ := YG (Mc hx)
          simp only [he _ _ hid, hid]
        · obtain ⟨b, hid⟩ := YG (oe_al hx)
          simp only [he _ _ hid, hid]
      case call c =>
        simp only [xop0]
        cases hcc : c.callee <;> first | rfl | skip
        rename_i b
        cases b <;> first | rfl | skip
        simp only [KD]
        split
        · rename_i t t' s x ht hx
          match hh : c.args.toList with
          | [] => simp_all
          | [y] => simp_all
          | [y, z] =>
            rw [hh] at hx; simp only [List.map_cons, List.map_nil, List.cons.injEq, and_true] at hx
            obtain ⟨rfl, rfl⟩ := hx
            exact SI he (h.ev y) (h.ev z)
          | _ :: _ :: _ :: _ => simp_all
        · rfl
theorem SL {pt : TypeId} {p n : AV} {hp hp' : Hp} (h : ∀ id ver off, p = .ptr id ver off → hp id = hp' id) : Wv P pt p n hp = Wv P pt p n hp' := by
 unfold Wv
 grind
theorem PX (h : RelS m H B H0 gl rest st a.tmps w) {hp' : Hp} (he : Ext (lkb st.hp) hp') {bid : Nat} {op : Op} : xopX P bid op (st.ev gl) hp' = xopX P bid op (st.ev gl) (lkb st.hp) := by
 cases op <;> first | rfl | skip
 case binOp o t x y ty =>
  simp only [xopX]
  congr 1
  have hx := h.ev x
  generalize st.ev gl x = z at hx ⊢
  cases z <;> first | rfl | skip
  obtain ⟨b, hid⟩ := YG (Mc hx)
  generalize st.ev gl y = y'
  cases y' <;> first | rfl | simp only [DX, he _ _ hid, hid]
 case convert src to x =>
  simp only [xopX]
  congr 1
  have hx := h.ev x
  generalize st.ev gl x = z at hx ⊢
  cases z <;> first | rfl | skip
  ·obtain ⟨b, hid⟩ := YG (Mc hx)
   simp only [DV, he _ _ hid, hid]
  ·obtain ⟨b, hid⟩ := YG (Mu hx)
   simp only [DV, he _ _ hid, hid]
 case call c =>
  simp only [xopX]
  cases hcc : c.callee <;> first | rfl | skip
  rename_i b
  cases b <;> first | rfl | skip
  ·simp only
   split
   ·rename_i t t' s x ht hx
    obtain ⟨y, z, _, rfl, rfl⟩ := Di hx
    unfold CI
    split
    ·split
     ·split
      ·split
       ·rfl
       ·have hs := h.ev y
        generalize st.ev gl y = y' at hs ⊢
        cases y' <;> first | rfl | skip
        obtain ⟨b, hid⟩ := YG (Mu hs)
        simp only [Jm, he _ _ hid, hid]
      ·rfl
     ·rfl
    ·rfl
   ·rfl
  ·simp only
   split
   ·rename_i pt it p n ht hx
    obtain ⟨y, z, _, rfl, rfl⟩ := Di hx
    refine SL fun id ver off e => ?_
    have hs := h.ev y
    rw [e] at hs
    obtain ⟨b, hid⟩ := YG (Mc hs)
    rw [he _ _ hid, hid]
   ·rfl
theorem PG {hp hp' : Hp} (he : Ext hp hp') {sz : Nat} {x : AV} {v : Value} (hx : RV H (Q5 hp m) x v) : xels sz x hp' = xels sz x hp := by
 cases x with
 | bs id ver z off len =>
  obtain ⟨b, hid⟩ := YG (Mu hx)
  simp only [xels, he _ _ hid, hid]
 | ow id ver z len =>
  obtain ⟨b, hid⟩ := YG (ow_al hx)
  simp only [xels, he _ _ hid, hid]
 | _ => rfl
theorem Fy {hp hp' : Hp} (he : Ext hp hp') {t t' : TypeId} {s x : AV} {u v : Value} (hs : RV H (Q5 hp m) s u) (hx : RV H (Q5 hp m) x v) : Gn P t t' s x hp' = Gn P t t' s x hp := by
 cases s with
 | ow id ver z len =>
  obtain ⟨b, hid⟩ := YG (ow_al hs)
  simp only [Gn, he _ _ hid, hid, PG he hx]
 | _ => rfl
theorem PV (h : RelS m H B H0 gl rest st a.tmps w) {hp' : Hp} (he : Ext (lkb st.hp) hp') {op : Op} : xopO P op (st.ev gl) hp' = xopO P op (st.ev gl) (lkb st.hp) := by
 cases op <;> first | rfl | skip
 case lookup t x i ok =>
  simp only [xopO]
  have hx := h.ev x
  generalize st.ev gl x = y at hx
  cases y with
  | mp id =>
   obtain ⟨l, _, hl⟩ := hx.mp_inv
   have : ∃ b, lkb st.hp id = some b := by
    cases hid : lkb st.hp id with
    | some b => simp_all
    | none => simp_all [St.env, Q5]
   obtain ⟨b, hid⟩ := this
   simp only [Il, he _ _ hid, hid]
  | _ => rfl
 case call c =>
  simp only [xopO]
  cases hcc : c.callee <;> first | rfl | skip
  rename_i b
  cases b <;> first | rfl | skip
  simp only
  split
  ·rename_i t t' s x ht hx
   obtain ⟨y, z, _, rfl, rfl⟩ := Di hx
   exact Fy he (h.ev y) (h.ev z)
  ·rfl
theorem xo_ext (h : RelS m H B H0 gl rest st a.tmps w) {hp' : Hp} (he : Ext (lkb st.hp) hp') {bid : Nat} {dst : Option Nat} {op : Op} : xo P ch bid dst op (st.ev gl) hp' = xo P ch bid dst op (st.ev gl) (lkb st.hp) := by
 by_cases h0 : hk op = 0
 ·exact xo_hk0 h0
 ·unfold xo
  split
  ·split
   ·rename_i f args hc
    obtain ⟨c, x, caps, ho, hx, hf, rfl⟩ := Ub hc
    unfold Gr
    have : optL (tree hp' false 12) (c.args.toList.map (st.ev gl) ++ caps) = optL (tree (lkb st.hp) false 12) (c.args.toList.map (st.ev gl) ++ caps) := Ge fun y hy => by
     rw [List.mem_append, List.mem_map] at hy
     rcases hy with ⟨z, _, rfl⟩ | hy
     ·exact Hu (fun id b hid => h.heap.box id b hid) he false 12 _ _ (h.ev z)
     ·have hfx := h.ev x
      rw [hf] at hfx
      obtain ⟨us, _, hul, hur⟩ := hfx.fn_inv
      obtain ⟨j, hj⟩ := List.getElem?_of_mem hy
      exact Hu (fun id b hid => h.heap.box id b hid) he false 12 _ _ (hur j y _ hj (Array.getElem?_eq_getElem (by grind)))
    rw [this]
   ·rfl
  grind [xop, PS, PX, PV]
theorem AG (v : Value) : (∀ a b c d e, ofV0 v ≠ .bs a b c d e) ∧ ∀ a b c d, ofV0 v ≠ .ow a b c d := by
 unfold ofV0
 grind
theorem Rd (v : Value) : (∀ a b c d e, ofV v ≠ .bs a b c d e) ∧ ∀ a b c d, ofV v ≠ .ow a b c d := by
 unfold ofV
 split
 ·grind
 ·simp_all
 ·exact AG _
theorem E0 {c : Call} {ev : Operand → AV} (hev : ∀ v, ev (.const v) = ofV v) (hn : Ma c = true) {s x : AV} (h : c.args.toList.map ev = [s, x]) : ∃ v, s = ofV v := by
 grind [Ma]
theorem hk_app {c : Call} (hc : c.callee = .builtin .append) (hn : Ma c = false) : hk (.call c) = 2 := by grind [hk]
theorem Rs {bid e tg sz by_ n : Nat} {ds : List AV} {s : AV} {hp : Hp} {v : AV} {id : Nat} {b : Box} (h : Jm bid e tg sz by_ n ds s hp = some (v, some (id, b))) : id = bid ∨ ((∃ a b c d e, s = .bs a b c d e) ∧ ∃ b', hp id = some b') := by
 unfold Jm at h
 grind
theorem SN {bid : Nat} {c : Call} {ev : Operand → AV} {s x : AV} {hp : Hp} {id : Nat} (hc : c.callee = .builtin .append) (hev : ∀ v, ev (.const v) = ofV v) (ha : c.args.toList.map ev = [s, x]) (h : id = bid ∨ ((∃ a b c d e, s = .bs a b c d e) ∧ ∃ b', hp id = some b')) : id = bid ∨ (hk (.call c) = 2 ∧ ∃ b', hp id = some b') := by
 refine h.imp (fun e => e) fun ⟨⟨a, b, d, e, f, hs⟩, hb⟩ => ⟨hk_app hc ?_, hb⟩
 cases hn : Ma c with
 | false => rfl
 | true =>
  obtain ⟨v, hv⟩ := E0 hev hn ha
  simp_all [absurd, Rd]
theorem PW {bid : Nat} {op : Op} {ev : Operand → AV} (hev : ∀ v, ev (.const v) = ofV v) {hp : Hp} {v : AV} {id : Nat} {b : Box} (h : xopX P bid op ev hp = some (v, some (id, b))) : id = bid ∨ (hk op = 2 ∧ ∃ b', hp id = some b') := by
 have xvno : ∀ o : Option AV, xv o ≠ some (v, some (id, b)) := fun o e => by cases o <;> simp [xv] at e
 unfold xopX at h
 split at h
 ·simp_all
 ·simp_all
 ·rename_i c
  split at h
  ·rename_i bb hbb
   split at h
   ·split at h
    ·rename_i ha
     unfold CI at h
     split at h
     ·split at h
      ·split at h
       ·split at h
        ·cases h
        ·exact SN hbb hev ha (Rs h)
       ·cases h
      ·cases h
     ·cases h
    ·cases h
   ·grind
   ·split at h
    ·unfold Wv at h
     split at h
     ·cases h
     ·grind [hk]
     ·cases h
    ·cases h
   ·cases h
  ·cases h
 ·cases h
theorem PT {op : Op} {ev : Operand → AV} (hev : ∀ v, ev (.const v) = ofV v) {hp : Hp} {v : AV} {id : Nat} {b : Box} (h : xopO P op ev hp = some (v, some (id, b))) : hk op = 2 ∧ ∃ b', hp id = some b' := by
 unfold xopO at h
 split at h
 ·grind [YO]
 ·rename_i c
  split at h
  ·rename_i hbb
   split at h
   ·rename_i ha
    unfold Gn at h
    split at h
    ·split at h
     ·split at h
      ·split at h
       ·rename_i hid
        split at h
        ·split at h
         ·split at h
          ·cases h
           refine ⟨hk_app hbb ?_, _, hid⟩
           cases hn : Ma c with
           | false => rfl
           | true =>
            obtain ⟨v, hv⟩ := E0 hev hn ha
            exact absurd hv.symm ((Rd v).2 _ _ _ _)
          ·cases h
         ·cases h
        ·cases h
       ·cases h
      ·cases h
     ·cases h
    ·cases h
   ·cases h
  ·cases h
 ·cases h
theorem xo_box {bid : Nat} {dst : Option Nat} {op : Op} {ev : Operand → AV} (hev : ∀ v, ev (.const v) = ofV v) {hp : Hp} {v : AV} {id : Nat} {b : Box} (h : xo P ch bid dst op ev hp = some (v, some (id, b))) : id = bid ∨ (hk op = 2 ∧ ∃ b', hp id = some b') := by
 have xvno : ∀ o : Option AV, xv o ≠ some (v, some (id, b)) := fun o e => by cases o <;> simp [xv] at e
 unfold xo at h
 split at h
 ·split at h
  ·rename_i f args hc
   left
   have key : ∀ s o, Jp s bid o = some (v, some (id, b)) → id = bid := fun s o hh => by
    unfold Jp at hh
    grind
   grind [Gr]
  ·cases h
 ·unfold xop at h
  split at h
  rotate_left
  ·grind [PW, PT]
  rename_i r0 h0
  cases h
  have h := h0
  unfold xop0 at h
  split at h <;> first
   | (cases h; done)
   | exact absurd h (xvno _)
   | skip
  ·grind
  ·split at h
   ·split at h
    ·cases h; omega
    ·cases h
   ·cases h
  ·split at h
   ·cases h; omega
   ·cases h
  ·unfold GR at h
   grind
  ·rename_i t x y
   split at h
   ·right
    unfold Un at h
    split at h
    ·split at h
     ·split at h
      ·rename_i hid
       split at h
       ·cases h; exact ⟨rfl, _, hid⟩
       ·cases h
      ·cases h
     ·split at h
      ·rename_i hid
       split at h
       ·cases h; exact ⟨rfl, _, hid⟩
       ·split at h
        ·cases h; exact ⟨rfl, _, hid⟩
        ·cases h
      ·cases h
     ·cases h
    ·cases h
   ·cases h
  ·simp_all
  ·unfold Wu at h
   grind
  ·grind
  ·rename_i c
   split at h
   ·rename_i bb hbb
    unfold KD at h
    split at h
    ·grind
    ·simp_all
    ·simp_all
    ·split at h
     ·rename_i ha
      unfold VO at h
      split at h
      ·split at h
       ·split at h
        ·split at h
         ·simp_all
         ·exact SN hbb hev ha (Rs h)
        ·cases h
       ·cases h
      ·cases h
     ·cases h
    ·cases h
   ·cases h
theorem FE {t : TypeId} {x : AV} {hp hp' : Hp} (hh : ∀ id ∈ idOf x, hp id = hp' id) : Gq P t x hp = Gq P t x hp' := by
 unfold Gq
 split
 ·cases x <;> first | rfl | simp only [hh _ (List.mem_singleton.2 rfl)]
 ·rfl
theorem F3 {t : TypeId} {x y : AV} {hp hp' : Hp} (hh : ∀ id ∈ idOf x, hp id = hp' id) : Un P t x y hp = Un P t x y hp' := by
 unfold Un
 split
 ·cases x <;> first | rfl | simp only [hh _ (List.mem_singleton.2 rfl)]
 ·rfl
theorem F1 {o : BinOp} {t : TypeId} {x y : AV} {hp hp' : Hp} (hh : ∀ id ∈ idOf x, hp id = hp' id) : DX P o t x y hp = DX P o t x y hp' := by
 cases x <;> first | rfl | skip
 cases y <;> first | rfl | simp only [DX, hh _ (List.mem_singleton.2 rfl)]
theorem AU {t t' : TypeId} {x : AV} {hp hp' : Hp} (hh : ∀ id ∈ idOf x, hp id = hp' id) : DV P t t' x hp = DV P t t' x hp' := by
 cases x <;> first | rfl | simp only [DV, hh _ (List.mem_singleton.2 rfl)]
theorem Rt {bid e tg sz by_ n : Nat} {ds : List AV} {s : AV} {hp hp' : Hp} (hh : ∀ id ∈ idOf s, hp id = hp' id) : Jm bid e tg sz by_ n ds s hp = Jm bid e tg sz by_ n ds s hp' := by
 cases s <;> first | rfl | simp only [Jm, hh _ (List.mem_singleton.2 rfl)]
theorem O3 {sz : Nat} {x : AV} {hp hp' : Hp} (hh : ∀ id ∈ idOf x, hp id = hp' id) : xsrc sz x hp = xsrc sz x hp' := by
 cases x <;> first | rfl | simp only [xsrc, hh _ (List.mem_singleton.2 rfl)]
theorem PI {sz : Nat} {x : AV} {hp hp' : Hp} (hh : ∀ id ∈ idOf x, hp id = hp' id) : xels sz x hp = xels sz x hp' := by
 cases x <;> first | rfl | simp only [xels, hh _ (List.mem_singleton.2 rfl)]
theorem PB {bid : Nat} {dst : Option Nat} {c : Call} (hc : c.callee = .builtin .append) {x y : Operand} (ha : c.args.toList = [x, y]) {ev : Operand → AV} {hp hp' : Hp} (hx : ∀ id ∈ idOf (ev x), hp id = hp' id) (hy : ∀ id ∈ idOf (ev y), hp id = hp' id) : xop P bid dst (.call c) ev hp = xop P bid dst (.call c) ev hp' := by
 unfold xop
 have e0 : xop0 P bid dst (.call c) ev hp = xop0 P bid dst (.call c) ev hp' := by
  simp only [xop0, hc, ha, List.map_cons, List.map_nil, KD]
  split
  ·rename_i h
   cases h
   unfold VO
   simp only [O3 hy]
   split <;> (try rfl)
   grind [Rt]
  ·rfl
 have e1 : xopX P bid (.call c) ev hp = xopX P bid (.call c) ev hp' := by
  simp only [xopX, hc, ha, List.map_cons, List.map_nil]
  split
  ·rename_i h
   cases h
   unfold CI
   split <;> (try rfl)
   grind [Rt]
  ·rfl
 have e2 : xopO P (.call c) ev hp = xopO P (.call c) ev hp' := by
  simp only [xopO, hc, ha, List.map_cons, List.map_nil]
  split
  ·rename_i h
   cases h
   unfold Gn
   split
   ·rename_i heq
    rw [heq] at hx
    simp only [PI hy, hx _ (List.mem_singleton.2 rfl)]
   ·rfl
  ·rfl
 simp_all
theorem Tn {c : Call} {ev : Operand → AV} {ids : List Nat} (hc : c.callee = .builtin .append) (hf : foot (.call c) ev = some ids) : ∃ x y, c.args.toList = [x, y] ∧ ids = idOf (ev x) ++ idOf (ev y) := by
 simp only [foot, hc] at hf
 grind
theorem xo_foot {bid : Nat} {dst : Option Nat} {op : Op} {ev : Operand → AV} {hp hp' : Hp} {ids : List Nat} (hf : foot op ev = some ids) (hh : ∀ id ∈ ids, hp id = hp' id) : xo P ch bid dst op ev hp = xo P ch bid dst op ev hp' := by
 cases op <;> first | (cases hf; done) | skip
 case load t x =>
  cases hf
  unfold xo xop
  simp only [Vi, Bool.false_eq_true, if_false, xop0, xopX, xopO, FE hh]
 case store t x y =>
  cases hf
  unfold xo xop
  simp only [Vi, Bool.false_eq_true, if_false, xop0, xopX, xopO, F3 hh]
 case binOp o t x y ty =>
  cases hf
  unfold xo xop
  simp only [Vi, Bool.false_eq_true, if_false, xop0, xopX, xopO, F1 hh]
 case convert t t' x =>
  cases hf
  unfold xo xop
  simp only [Vi, Bool.false_eq_true, if_false, xop0, xopX, xopO, AU hh]
 case call c =>
  cases hc : c.callee with
  | builtin b =>
   cases b <;> first | grind [foot] | skip
   obtain ⟨x, y, ha, rfl⟩ := Tn hc hf
   unfold xo
   rw [if_neg (by simp [Vi, hc]), if_neg (by simp [Vi, hc])]
   grind [PB, id, List.mem_append_left, List.mem_append_right]
  | value x =>
   unfold xo
   rw [if_pos (by simp [Vi, hc]), if_pos (by simp [Vi, hc])]
   grind [foot, Gr]
  | invoke x y =>
   simp_all [foot, Y7]
theorem S6 {bid e tg sz by_ n : Nat} {ds : List AV} {s : AV} {hp : Hp} {v : AV} {id : Nat} {b : Box} (h : Jm bid e tg sz by_ n ds s hp = some (v, some (id, b))) : id = bid ∨ id ∈ idOf s := by
 unfold Jm at h
 split at h
 ·simp_all
 ·simp_all
 ·split at h
  ·split at h
   ·cases h; exact .inr (List.mem_singleton.2 rfl)
   ·cases h
  ·cases h
 ·cases h
theorem xo_id {bid : Nat} {dst : Option Nat} {op : Op} {ev : Operand → AV} (hev : ∀ v, ev (.const v) = ofV v) {hp : Hp} {ids : List Nat} (hf : foot op ev = some ids) {v : AV} {id : Nat} {b : Box} (h : xo P ch bid dst op ev hp = some (v, some (id, b))) : id = bid ∨ (hk op = 2 ∧ (∃ b', hp id = some b') ∧ id ∈ ids) := by
 rcases xo_box hev h with h0 | ⟨h2, hb⟩
 ·omega
 ·cases op <;> first | (cases h2; done) | skip
  case store t x y =>
   cases hf
   refine .inr ⟨h2, hb, ?_⟩
   unfold xo xop at h
   simp only [Vi, Bool.false_eq_true, if_false, xop0, xopX, xopO] at h
   split at h
   ·rename_i r hr
    cases h
    split at hr
    ·unfold Un at hr
     split at hr
     ·split at hr
      ·rename_i e
       split at hr
       ·split at hr
        ·cases hr; rw [e]; exact List.mem_singleton.2 rfl
        ·cases hr
       ·cases hr
      ·rename_i e
       split at hr
       ·split at hr
        ·cases hr; rw [e]; exact List.mem_singleton.2 rfl
        ·split at hr
         ·cases hr; rw [e]; exact List.mem_singleton.2 rfl
         ·cases hr
       ·cases hr
      ·cases hr
     ·cases hr
    ·cases hr
   ·cases h
  case binOp o t x y ty => exfalso; simp only [hk] at h2; grind
  case call c =>
   cases hc : c.callee with
   | value x => simp_all [hk]
   | invoke x y => simp_all [hk]
   | builtin bb =>
    cases bb <;> first | grind [foot] | skip
    obtain ⟨x, y, ha, rfl⟩ := Tn hc hf
    unfold xo at h
    rw [if_neg (by simp [Vi, hc])] at h
    have done : id = bid ∨ id ∈ idOf (ev x) → id = bid ∨ hk (Op.call c) = 2 ∧ (∃ b', hp id = some b') ∧ id ∈ idOf (ev x) ++ idOf (ev y) := fun hx => hx.imp (fun e => e) fun hx => ⟨h2, hb, List.mem_append_left _ hx⟩
    refine done ?_
    unfold xop at h
    split at h
    ·rename_i r hr
     cases h
     simp only [xop0, hc, ha, List.map_cons, List.map_nil, KD] at hr
     grind [VO, S6]
    ·split at h
     ·rename_i r hr
      cases h
      simp only [xopX, hc, ha, List.map_cons, List.map_nil] at hr
      split at hr
      ·rename_i he
       cases he
       unfold CI at hr
       grind [S6]
      ·cases hr
     ·simp only [xopO, hc, ha, List.map_cons, List.map_nil] at h
      split at h
      ·rename_i he
       cases he
       unfold Gn at h
       split at h
       ·rename_i e
        split at h
        ·split at h
         ·split at h
          ·split at h
           ·split at h
            ·split at h
             ·cases h; right; rw [e]; exact List.mem_singleton.2 rfl
             ·cases h
            ·cases h
           ·cases h
          ·cases h
         ·cases h
        ·cases h
       ·cases h
      ·cases h
theorem Tm {md : Bool} {F : Z4} {bid : Nat} {o : Oper} {ev ev' : Operand → AV} (h : ∀ x ∈ o.op.operands, ev x = ev' x) : GO md F bid o ev = GO md F bid o ev' := by
 have : foot o.op ev = foot o.op ev' := by
  have hcal := DK h
  cases hop : o.op <;> rw [hop] at h hcal <;> (try rfl) <;> simp only [Op.operands, List.mem_toArray, List.mem_cons, List.not_mem_nil, or_false, forall_eq_or_imp, forall_eq, List.mem_map, Array.mem_toList_iff] at h <;> simp only [foot]
  case load => rw [h]
  case store => rw [h.1]
  case binOp => rw [h.1]
  case convert => rw [h]
  case call c =>
   cases hc : c.callee with
   | value x => simp_all
   | invoke x y => simp_all
   | builtin b =>
    cases b <;> (try rfl)
    simp only
    have h' : ∀ x ∈ c.args.toList, ev x = ev' x := fun x hx => h x (by simp [Call.operands, hc]; simp_all)
    grind
 simp_all [GO]
theorem FF {md : Bool} {F : Z4} {all : List Oper} {bid : Nat} {o : Oper} {ev ev' : Operand → AV} {hp : Hp} (h : ∀ x ∈ o.op.operands, ev x = ev' x) : xoF P ch md F all bid o ev hp = xoF P ch md F all bid o ev' hp := by
 grind [xoF, Tm, PR]
theorem In {md : Bool} {F : Z4} {all : List Oper} {bid : Nat} {o : Oper} {ev : Operand → AV} {hp hp' : Hp} (h : hk o.op = 0) : xoF P ch md F all bid o ev hp = xoF P ch md F all bid o ev hp' := by
 grind [xoF, xo_hk0]
theorem Im (h : RelS m H B H0 gl rest st a.tmps w) {hp' : Hp} (he : Ext (lkb st.hp) hp') {md : Bool} {F : Z4} {all : List Oper} {bid : Nat} {o : Oper} : xoF P ch md F all bid o (st.ev gl) hp' = xoF P ch md F all bid o (st.ev gl) (lkb st.hp) := by
 grind [xoF, xo_ext]
theorem HR {F : Z4} {bid : Nat} {o : Oper} {ev : Operand → AV} {ids : List Nat} (h : GO true F bid o ev = true) (hc : F bid = some ids) : ∃ l, foot o.op ev = some l ∧ ∀ i ∈ l, i ∈ ids := by
 unfold GO at h
 cases hids : foot o.op ev with
 | none => simp_all
 | some l =>
  simp_all
theorem Au {F : Z4} {all : List Oper} {bid : Nat} {o : Oper} {ev : Operand → AV} {hp hp' : Hp} {ids : List Nat} (hc : F bid = some ids) (hh : ∀ id, id ∈ ids → hp id = hp' id) : xoF P ch true F all bid o ev hp = xoF P ch true F all bid o ev hp' := by
 grind [xoF, HR, xo_foot, id]
theorem FM {bid : Nat} {op : Op} {v : AV} {id : Nat} {b : Box} (h : Ip P bid op = some (v, some (id, b))) : id = bid := by
 unfold Ip at h
 grind
theorem xoF_box {md : Bool} {F : Z4} {all : List Oper} {bid : Nat} {o : Oper} {ev : Operand → AV} (hev : ∀ v, ev (.const v) = ofV v) {hp : Hp} {v : AV} {id : Nat} {b : Box} (h : xoF P ch md F all bid o ev hp = some (v, some (id, b))) : id = bid ∨ (hk o.op = 2 ∧ (∃ b', hp id = some b') ∧ (md = true → ∀ ids, F bid = some ids → id ∈ ids)) := by
 unfold xoF at h
 split at h
 ·rename_i hf
  split at h
  ·grind [FM]
  ·rcases xo_box hev h with h0 | ⟨h2, hb⟩
   ·omega
   ·by_cases hm : md = true ∧ ∃ ids, F bid = some ids
    ·obtain ⟨rfl, ids, hc⟩ := hm
     grind [HR, xo_id, id]
    simp_all
 ·cases h
theorem Mx {a b : Option (List Nat)} (h : Wm a b = true) : ∃ l k, a = some l ∧ b = some k ∧ ∀ i, i ∈ l → i ∈ k → False := by
 unfold Wm at h
 split at h
 ·rename_i l k
  refine ⟨l, k, rfl, rfl, fun i hi hj => ?_⟩
  have := List.all_eq_true.1 (List.all_eq_true.1 h i hi) i hj
  simp at this
 ·cases h
end
end HY
end
section
namespace HY
open Go Go.RowKit
section
variable {P : Program} {m : Nat → Lc} {H : HV} {B : Nat → Prop} {H0 : HV} {gl : Nat → AV} {rest : List (AV × Value)} {st : St} {a : Act} {w : World} {ch : Y2} {all : List Oper}
theorem CJ {md : Bool} {F : Z4} {bid : Nat} {o : Oper} {gv gv' : Option AV} {ev ev' : Operand → AV} {hp hp' : Hp} (hg : gv = gv') (hx : ∀ x ∈ o.op.operands, ev x = ev' x) (hh : xoF P ch md F all bid o ev' hp = xoF P ch md F all bid o ev' hp') : Jo P ch md F all bid o gv ev hp = Jo P ch md F all bid o gv' ev' hp' := by
 grind [Jo, FF]
theorem W3 {md : Bool} {F : Z4} {bid : Nat} {o : Oper} {gv : Option AV} {ev : Operand → AV} (hev : ∀ v, ev (.const v) = ofV v) {hp : Hp} {v : AV} {id : Nat} {b : Box} (h : Jo P ch md F all bid o gv ev hp = some (v, some (id, b))) : id = bid ∨ (hk o.op = 2 ∧ (∃ b', hp id = some b') ∧ (md = true → ∀ ids, F bid = some ids → id ∈ ids)) := by
 unfold Jo at h
 grind [xoF_box]
theorem WP {o p : Oper} (h : M4 all o p = false) : Wq o.dst (rdO all p) = false ∧ Wq o.dst p.dst.toList = false ∧ Wq p.dst (rdO all o) = false := by
 simp_all [M4, Bool.or_eq_false_iff]
def Apart (md : Bool) (F : Z4) (all : List Oper) (bj bi : Nat) (oj oi : Oper) : Prop :=
 M4 all oj oi = false ∧ (hkCl (hk oj.op) (hk oi.op) = false ∨ (md = true ∧ Wm (F bj) (F bi) = true))
theorem GP {d : Option Nat} {l : List Nat} (h : Wq d l = false) {k : Nat} (hk : k ∈ l) : d ≠ some k := by
 grind [Wq, hk]
theorem Dn {o : Oper} {d : Option Nat} (r : AV × Option (Nat × Box)) (hd : Wq d (rdO all o) = false) : (∀ x ∈ o.op.operands, (st.eff d r).ev gl x = st.ev gl x) ∧ gval all o (st.eff d r) = gval all o st := by
 refine ⟨fun x hx => ?_, ?_⟩
 ·cases x with
  | tmp t =>
   show (st.eff d r).get t = st.get t
   rw [KI, if_neg]
   refine GP hd ?_
   unfold rdO
   rw [List.mem_append]
   exact .inl (List.mem_filterMap.2 ⟨.tmp t, by simp_all, rfl⟩)
  | _ => rfl
 ·unfold gval
  split
  ·rfl
  ·rename_i j want hg
   split
   ·rename_i g hgs
    rw [KI, if_neg]
    grind [GP, rdO]
   ·rfl
theorem Fv {f : Hp} {i j : Nat} {x y : Option Box} (h : i ≠ j) : updF (updF f i x) j y = updF (updF f j y) i x := by
 grind [updF]
theorem swap (h : RelS m H B H0 gl rest st a.tmps w) {md : Bool} {F : Z4} {oj oi : Oper} {bj bi : Nat} (hne : bj ≠ bi) (hc : Apart md F all bj bi oj oi) {s1 s2 : St} (h1 : X4 P gl ch md F all bj oj st = some s1) (h2 : X4 P gl ch md F all bi oi s1 = some s2) :
  ∃ t1 t2, X4 P gl ch md F all bi oi st = some t1 ∧ X4 P gl ch md F all bj oj t1 = some t2 ∧ StEq t2 s2 := by
 obtain ⟨cD, c4⟩ := hc
 obtain ⟨c1, c2, c3⟩ := WP cD
 rw [Kq] at h1
 split at h1
 ·rename_i k1
  simp only [Bool.and_eq_true, Option.isNone_iff_eq_none] at k1
  obtain ⟨⟨hdj, hbj⟩, hnj⟩ := k1
  split at h1
  ·rename_i rj hrj
   cases h1
   rw [Kq] at h2
   split at h2
   ·rename_i k2
    simp only [Bool.and_eq_true, Option.isNone_iff_eq_none, CE, UV] at k2
    obtain ⟨⟨hdi, hbi⟩, hni⟩ := k2
    split at h2
    ·rename_i ri hri
     cases h2
     obtain ⟨e1, e2⟩ := Dn (st := st) (gl := gl) (all := all) (o := oi) rj c1
     have hbi0 : lkb st.hp bi = none := by
      rw [Vw] at hbi
      split at hbi
      ·grind [id, Qk, Qo]
      ·exact hbi
     have hpi : xoF P ch md F all bi oi (st.ev gl) (lkb (st.eff oj.dst rj).hp) = xoF P ch md F all bi oi (st.ev gl) (lkb st.hp) := by
      rw [Vw]
      split
      ·rename_i id b hb
       have hrj' : Jo P ch md F all bj oj (gval all oj st) (st.ev gl) (lkb st.hp) = some (rj.1, some (id, b)) := by grind
       rcases W3 (fun _ => rfl) hrj' with rfl | ⟨hk2, _, hcl⟩
       ·grind [Im, I0]
       ·rcases c4 with c4 | ⟨rfl, c4⟩
        ·refine In ?_
         simp_all [hkCl]
        ·obtain ⟨lj, li, n1, n2, hap⟩ := Mx c4
         refine Au n2 fun id' hid' => ?_
         rw [Qo _ _ fun e => ?_]
         simp_all
      ·rfl
     have hi' : Jo P ch md F all bi oi (gval all oi st) (st.ev gl) (lkb st.hp) = some ri := by
      grind [CJ]
     obtain ⟨f1, f2⟩ := Dn (st := st) (gl := gl) (all := all) (o := oj) ri c3
     have hidi : ∀ id b, ri.2 = some (id, b) → id = bi ∨ (hk oi.op = 2 ∧ (∃ b', lkb st.hp id = some b') ∧ (md = true → ∀ ids, F bi = some ids → id ∈ ids)) := fun id b hb => by
      refine W3 (fun _ => rfl) (v := ri.1) (b := b) ?_ (gv := gval all oi st) (ev := st.ev gl) (P := P) (ch := ch) (all := all)
      grind
     have hidj : ∀ id b, rj.2 = some (id, b) → id = bj ∨ (hk oj.op = 2 ∧ (∃ b', lkb st.hp id = some b') ∧ (md = true → ∀ ids, F bj = some ids → id ∈ ids)) := fun id b hb => by
      refine W3 (fun _ => rfl) (v := rj.1) (b := b) ?_ (gv := gval all oj st) (ev := st.ev gl) (P := P) (ch := ch) (all := all)
      grind
     have hbj1 : lkb (st.eff oi.dst ri).hp bj = none := by
      rw [Vw]
      split
      ·rename_i id b hb
       have : bj ≠ id := by
        grind
       simp_all [Qo]
      ·exact hbj
     have hpj : xoF P ch md F all bj oj (st.ev gl) (lkb (st.eff oi.dst ri).hp) = xoF P ch md F all bj oj (st.ev gl) (lkb st.hp) := by
      rw [Vw]
      split
      ·rename_i id b hb
       rcases hidi id b hb with rfl | ⟨hk2, _, hcl⟩
       ·grind [Im, I0]
       ·rcases c4 with c4 | ⟨rfl, c4⟩
        ·refine In ?_
         simp_all [hkCl]
        ·obtain ⟨lj, li, n1, n2, hap⟩ := Mx c4
         refine Au n1 fun id' hid' => ?_
         rw [Qo _ _ fun e => ?_]
         simp_all
      ·rfl
     have hj' : Jo P ch md F all bj oj (gval all oj (st.eff oi.dst ri)) ((st.eff oi.dst ri).ev gl) (lkb (st.eff oi.dst ri).hp) = some rj := by
      grind [CJ]
     refine ⟨st.eff oi.dst ri, (st.eff oi.dst ri).eff oj.dst rj, ?_, ?_, ?_⟩
     ·simp_all [Kq, if_pos]
     ·simp_all [Kq, if_pos, CE, UV]
     ·refine ⟨by simp only [CE], by simp only [UV], fun k => ?_, ?_⟩
      ·simp only [KI]
       by_cases k1 : oj.dst = some k <;> by_cases k2 : oi.dst = some k <;> simp only [k1, k2, if_true, if_false]
       grind [absurd, GP]
      ·rw [Vw, Vw, Vw, Vw]
       cases hrj2 : rj.2 with
       | none => rfl
       | some x =>
        obtain ⟨idj, bxj⟩ := x
        cases hri2 : ri.2 with
        | none => rfl
        | some y =>
         obtain ⟨idi, bxi⟩ := y
         simp only
         refine Fv ?_
         rcases hidi idi bxi hri2 with rfl | ⟨hk2, ⟨b', hb'⟩, hci⟩
         ·grind
         ·rcases hidj idj bxj hrj2 with rfl | ⟨hk3, _, hcj⟩
          ·grind
          ·rcases c4 with c4 | ⟨rfl, c4⟩
           ·simp_all [hkCl]
           ·obtain ⟨lj, li, n1, n2, hap⟩ := Mx c4
            grind
    ·cases h2
   ·cases h2
  ·cases h1
 ·cases h1
theorem LS {ro : Option Nat} {n : Nat} {o : Oper} {next : Act → World → Prop} (h : o.wpIn (FW ro) n P a w next fun _ _ _ => False) : ∃ a' w', next a' w' := by
 obtain ⟨_, h⟩ := h
 unfold Oper.uponIn at h
 split at h
 ·grind
 ·grind
 ·grind
 ·obtain ⟨_, _, hc⟩ := h
  obtain ⟨e, w', fr, hr, _⟩ := hc [] (fun d hd => by grind [FW])
  cases e with
  | returned v => grind
  | panicked c => simp_all
  | outgrown => obtain ⟨_, _, hr⟩ := hr; simp_all
 ·obtain ⟨_, hc⟩ := h
  obtain ⟨v, w', hr, _⟩ := hc default [] (fun d hd => by grind [FW])
  grind
 ·obtain ⟨_, _, hc⟩ := h
  obtain ⟨e, w', hr, _⟩ := hc default [] (fun d hd => by grind [FW])
  cases e with
  | returned v => grind
  | panicked c => simp_all
  | outgrown => obtain ⟨_, _, hr⟩ := hr; simp_all
 ·grind
 simp_all
theorem SK (hch : ch.Ok P gl) (h : RelS m H B H0 gl rest st a.tmps w) {md : Bool} {F : Z4} {o : Oper} {bid : Nat} {st' : St} (hk : X4 P gl ch md F all bid o st = some st') : ∃ (a' : Act) (w' : World) (m' : Nat → Lc) (H' : HV), RelS m' H' B H0 gl rest st' a'.tmps w' := by
 have := Dq hch h hk none 0 (fun a' w' => ∃ m' H', RelS m' H' B H0 gl rest st' a'.tmps w') (fun _ _ _ => False) (fun a' w' m' H' _ _ hr => ⟨m', H', hr⟩)
 grind [LS]
def runI (P : Program) (gl : Nat → AV) (ch : Y2) (md : Bool) (F : Z4) (all : List Oper) (base : Nat) : List Nat → St → Option St
 | [], st => some st
 | i :: l, st => match all[i]? with
  | some o => match X4 P gl ch md F all (base + i) o st with
   | some s => runI P gl ch md F all base l s
   | none => none
  | none => none
theorem Uq {md : Bool} {F : Z4} {base : Nat} : ∀ {l r : List Nat} {st : St}, runI P gl ch md F all base (l ++ r) st = match runI P gl ch md F all base l st with | some s => runI P gl ch md F all base r s | none => none
 | [], r, st => rfl
 | i :: l, r, st => by
  simp only [List.cons_append, runI]
  cases all[i]? with
  | none => rfl
  | some o =>
   simp only
   cases X4 P gl ch md F all (base + i) o st with
   | none => rfl
   | some s => exact Uq
theorem StEq.runI {md : Bool} {F : Z4} {base : Nat} : ∀ {l : List Nat} {x y s : St}, StEq x y → HY.runI P gl ch md F all base l x = some s → ∃ s', HY.runI P gl ch md F all base l y = some s' ∧ StEq s s'
 | [], x, y, s, h, hk => by simp only [HY.runI, Option.some.injEq] at hk; subst hk; exact ⟨y, rfl, h⟩
 | i :: l, x, y, s, h, hk => by
  simp only [HY.runI] at hk ⊢
  cases ho : all[i]? with
  | none => simp_all
  | some o =>
   rw [ho] at hk
   simp only at hk ⊢
   cases hs : X4 P gl ch md F all (base + i) o x with
   | none => simp_all
   | some s1 =>
    rw [hs] at hk
    obtain ⟨s2, h1, h2⟩ := h.stepO hs
    rw [h1]
    exact StEq.runI h2 hk
theorem move (hch : ch.Ok P gl) {md : Bool} {F : Z4} {base i : Nat} {oi : Oper} : ∀ (pre : List Nat) {st : St} {a : Act} {w : World} {m : Nat → Lc} {H : HV} {s1 s2 : St}, RelS m H B H0 gl rest st a.tmps w → runI P gl ch md F all base pre st = some s1 → X4 P gl ch md F all (base + i) oi s1 = some s2 →
  (∀ j ∈ pre, j ≠ i ∧ ∀ oj, all[j]? = some oj → Apart md F all (base + j) (base + i) oj oi) → ∃ t s', X4 P gl ch md F all (base + i) oi st = some t ∧ runI P gl ch md F all base pre t = some s' ∧ StEq s' s2
 | [], st, a, w, m, H, s1, s2, _, h1, h2, _ => by
  simp only [runI, Option.some.injEq] at h1
  subst h1
  exact ⟨s2, s2, h2, rfl, .refl _⟩
 | j :: pre, st, a, w, m, H, s1, s2, h, h1, h2, hc => by
  simp only [runI] at h1 ⊢
  cases hj : all[j]? with
  | none => simp_all
  | some oj =>
   rw [hj] at h1
   simp only at h1 ⊢
   cases hs : X4 P gl ch md F all (base + j) oj st with
   | none => simp_all
   | some s0 =>
    rw [hs] at h1
    obtain ⟨a', w', m', H', hr⟩ := SK hch h hs
    obtain ⟨t, s', k1, k2, k3⟩ := move hch pre hr h1 h2 fun j' hj' => hc j' (by simp [hj'])
    have hcj := hc j (by simp)
    obtain ⟨t1, t2, e1, e2, e3⟩ := swap h (bj := base + j) (bi := base + i) (by omega) (hcj.2 oj hj) hs k1
    obtain ⟨s3, g1, g2⟩ := StEq.runI e3.symm k2
    exact ⟨t1, s3, e1, by simp_all, g2.symm.trans k3⟩
end
def I9 (acc : List Nat) (es : List Edge) : Nat :=
 match es with
 | [] => 0
 | e :: r => if Region.binds .any e then (2 ^ e.on ||| acc.getD e.on 0) ||| I9 acc r else I9 acc r
def Zj : List Oper → List Nat → List Nat
 | [], acc => acc
 | o :: l, acc => Zj l (acc ++ [I9 acc o.after.toList])
def HN (md : Bool) (all : List Oper) (ms : List Nat) : List Oper → List Oper → Bool
 | _, [] => true
 | pre, p :: l => (List.range pre.length).all (fun i => match all[i]? with
   | some o => !DM md all o p || (ms.getD pre.length 0).testBit i
   | none => true)
  && p.after.toList.all (fun e => !Region.binds .any e || decide (e.on < pre.length))
  && HN md all ms (pre ++ [p]) l
def mdR (all : List Oper) : Bool := match all.any fun o => Nat.beq (hk o.op) 2 with
 | true => !HN false all (Zj all []) [] all
 | false => false
def KT (all : List Oper) : Bool := HN (mdR all) all (Zj all []) [] all
def No (F : Z4) (all : List Oper) (base nf : Nat) : Prop := ∀ i j o p, i < j → j < nf → all[i]? = some o → all[j]? = some p → hkCl (hk o.op) (hk p.op) = true → Wm (F (base + i)) (F (base + j)) = true ∨ ((Zj all []).getD j 0).testBit i = true
structure CkAt (md : Bool) (all : List Oper) (j : Nat) (p : Oper) : Prop where
 pair : ∀ i o, i < j → all[i]? = some o → DM md all o p = true → ((Zj all []).getD j 0).testBit i = true
 before : ∀ e ∈ p.after, Region.binds .any e = true → e.on < j
theorem HO {md : Bool} {all : List Oper} : ∀ (l pre : List Oper), all = pre ++ l → HN md all (Zj all []) pre l = true → ∀ j p, pre.length ≤ j → all[j]? = some p → CkAt md all j p
 | [], pre, he, _, j, p, hj, hp => by
  simp_all
 | q :: l, pre, he, h, j, p, hj, hp => by
  simp only [HN, Bool.and_eq_true, List.all_eq_true] at h
  obtain ⟨⟨h1, h2⟩, h4⟩ := h
  by_cases hjl : j = pre.length
  ·have hq : q = p := by
    simp_all
   subst hq
   subst hjl
   refine ⟨fun i o hi ho hc => ?_, fun e he' hb => ?_⟩
   ·grind
   grind
  ·exact HO l (pre ++ [q]) (by simp [he]) h4 j p (by simp; omega) hp
theorem XR {all : List Oper} (h : KT all = true) (j : Nat) (p : Oper) (hp : all[j]? = some p) : CkAt (mdR all) all j p :=
 HO all [] rfl h j p (Nat.zero_le _) hp
def Ja (all : List Oper) (L : Nat → Bool) : Prop := ∀ j o, all[j]? = some o → L j = true → ∀ e ∈ o.after, Region.binds .any e = true → L e.on = true
theorem HW {acc : List Nat} {L : Nat → Bool} (hacc : ∀ p i, (acc.getD p 0).testBit i = true → L p = true → L i = true) : ∀ (es : List Edge), (∀ e ∈ es, Region.binds .any e = true → L e.on = true) → ∀ i, (I9 acc es).testBit i = true → L i = true
 | [], _, i, h => by simp [I9] at h
 | e :: r, hes, i, h => by
  have ih := HW hacc r (fun e he => hes e (List.mem_cons_of_mem _ he)) i
  unfold I9 at h
  grind
theorem HX {all : List Oper} {L : Nat → Bool} (hL : Ja all L) : ∀ (l pre : List Oper) (acc : List Nat), all = pre ++ l → acc.length = pre.length → (∀ p i, (acc.getD p 0).testBit i = true → L p = true → L i = true) →
  ∀ p i, ((Zj l acc).getD p 0).testBit i = true → L p = true → L i = true
 | [], _, _, _, _, h => h
 | o :: l, pre, acc, he, hlen, h => by
  refine HX hL l (pre ++ [o]) _ (by simp [he]) (by simp [hlen]) fun p i hb hp => ?_
  rcases Nat.lt_trichotomy p acc.length with hlt | heq | hgt
  ·grind
  ·subst heq
   rw [List.getD_eq_getElem?_getD, List.getElem?_append_right (Nat.le_refl _), Nat.sub_self] at hb
   simp only [List.getElem?_cons_zero, Option.getD_some] at hb
   have ho : all[acc.length]? = some o := by simp_all
   exact HW h _ (fun e hm hbd => hL _ o ho hp e (Array.mem_toList_iff.1 hm) hbd) i hb
  grind
theorem Vj {all : List Oper} {L : Nat → Bool} (hL : Ja all L) (p i : Nat) (h : ((Zj all []).getD p 0).testBit i = true) (hp : L p = true) : L i = true :=
 HX hL all [] [] rfl rfl (fun p i h => by simp at h) p i h hp
end HY
end
section
namespace HY
open Go Go.RowKit
def pend (n : Nat) (L : Nat → Bool) : List Nat := (List.range n).filter fun i => !L i
theorem IR {n i : Nat} (h : i < n) : List.range n = List.range i ++ i :: List.range' (i + 1) (n - i - 1) := by
 have : n = i + (1 + (n - i - 1)) := by omega
 rw [this, List.range_add, List.range_add]
 simp only [List.range_one, List.map_append, List.map_cons, List.map_nil, Nat.add_zero, List.map_map, List.singleton_append]
 congr 2
 rw [show i + (1 + (n - i - 1)) - i - 1 = n - i - 1 by omega, List.range'_eq_map_range]
 grind [List.map_congr_left]
theorem MP {n i : Nat} {L : Nat → Bool} (h : i < n) (hL : L i = false) : pend n L = (List.range i).filter (fun j => !L j) ++ i :: (List.range' (i + 1) (n - i - 1)).filter fun j => !L j := by
 grind [pend, IR]
theorem Hj {n i : Nat} {L L' : Nat → Bool} (h : i < n) (hi : L' i = true) (ho : ∀ j, j ≠ i → L' j = L j) : pend n L' = (List.range i).filter (fun j => !L j) ++ (List.range' (i + 1) (n - i - 1)).filter fun j => !L j := by
 unfold pend
 rw [IR h, List.filter_append, List.filter_cons]
 simp only [hi, Bool.not_true, Bool.false_eq_true, if_false]
 grind [List.filter_congr]
theorem VU {listed : Array Bool} {j : Nat} (d : Bool) (h : j < listed.size) : listed.getD j d = listed.getD j false := by
 simp_all
section
variable {P : Program} {B : Nat → Prop} {H0 : HV} {gl : Nat → AV} {rest : List (AV × Value)} {ch : Y2} {all : List Oper}
def PairL (F : Z4) (all : List Oper) (base lo nf : Nat) : Prop := ∀ i j o p, i < j → lo ≤ j → j < nf → all[i]? = some o → all[j]? = some p → hkCl (hk o.op) (hk p.op) = true → Wm (F (base + i)) (F (base + j)) = true ∨ ((Zj all []).getD j 0).testBit i = true
theorem No.l {F : Z4} {all : List Oper} {base nf : Nat} (h : No F all base nf) : PairL F all base 0 nf := fun i j o p h1 _ h2 => h i j o p h1 h2
theorem Ch (hch : ch.Ok P gl) (hok : KT all = true) {F : Z4} {base lo nf c : Nat} {L0 : Nat → Bool} (hF : mdR all = true → PairL F all base lo nf) (hnf : nf ≤ all.length) (hbar : ∀ i, nf ≤ i → i < all.length → L0 i = false → ∀ j, j < nf → ((Zj all []).getD i 0).testBit j = true) {ro : Option Nat} {n : Nat} {d0 : List Deferred} {w0 : World} {sF : St} {Q : Exit → Act → World → Prop}
  (hEnd : ∀ (listed : Array Bool) (a : Act) (w : World) (m : Nat → Lc) (H : HV), listed.size = all.length → (∀ j, j < nf → listed.getD j false = true) → (∀ j, nf ≤ j → listed.getD j false = L0 j) → a.defers = d0 → Q8 B w0 w → RelS m H B H0 gl rest sF a.tmps w → wpAnyIn (FW ro) n P .any all.toArray Q c listed a w) :
  ∀ (q : Nat) (listed : Array Bool) (a : Act) (w : World) (m : Nat → Lc) (H : HV) (st s : St), listed.size = all.length → (∀ j, j < lo → listed.getD j false = true) → (pend nf fun j => listed.getD j false).length = q → (∀ j, nf ≤ j → listed.getD j false = L0 j) → Ja all (fun j => listed.getD j false) →
   a.defers = d0 → Q8 B w0 w → RelS m H B H0 gl rest st a.tmps w → runI P gl ch (mdR all) F all base (pend nf fun j => listed.getD j false) st = some s → StEq s sF → wpAnyIn (FW ro) n P .any all.toArray Q (q + c) listed a w := by
 intro q
 induction q with
 | zero =>
  intro listed a w m H st s hs hlo hl hhi hcl hd hb hr hrun heq
  have hnil : (pend nf fun j => listed.getD j false) = [] := List.eq_nil_of_length_eq_zero hl
  rw [hnil] at hrun
  simp only [runI, Option.some.injEq] at hrun
  subst hrun
  rw [Nat.zero_add]
  refine hEnd listed a w m H hs (fun j hj => ?_) hhi hd hb (heq.rel hr)
  simp_all [pend, List.mem_filter, List.mem_range]
 | succ q ih =>
  intro listed a w m H st s hs hlo hl hhi hcl hd hb hr hrun heq
  have hclI : ∀ i o, all[i]? = some o → (∀ e ∈ o.after, Region.binds .any e = true → listed.getD e.on false = true) → Ja all fun k => listed.getD k false || k == i := fun i o ho hpre k o' ho' hLk e he hbd => by
   by_cases hki : k = i
   ·simp_all
   ·have hk' : (k == i) = false := by grind
    simp only [hcl k o' ho' (by simpa [hk'] using hLk) e he hbd, Bool.true_or]
  rw [Nat.add_right_comm]
  refine ⟨fun hready => ?_, fun i hi => ?_⟩
  ·exfalso
   have hall : ∀ j, j < all.length → listed.getD j false = true := by
    intro j
    induction j using Nat.strongRecOn with
    | _ j ihj =>
     intro hj
     cases hL : listed.getD j false with
     | true => rfl
     | false =>
      exfalso
      have : j ∈ Region.ready .any all.toArray listed := by
       rw [mem_ready]
       refine ⟨by rw [VU true (by omega)]; exact hL, all[j], by simp [hj], fun e he hbd => ?_⟩
       have := (XR hok j all[j] (List.getElem?_eq_getElem hj)).before e he hbd
       exact ihj e.on this (by omega)
      rw [hready] at this
      cases this
   have : (pend nf fun j => listed.getD j false) = [] := by
    unfold pend
    rw [List.filter_eq_nil_iff]
    intro j hj
    simp [hall j (by have := List.mem_range.1 hj; omega)]
   rw [this] at hl; simp at hl
  ·rw [mem_ready] at hi
   obtain ⟨h0, o, ho, hpre⟩ := hi
   rw [List.getElem?_toArray] at ho
   have hil : i < all.length := (List.getElem?_eq_some_iff.1 ho).1
   rw [VU true (by omega)] at h0
   by_cases hin : nf ≤ i
   ·exfalso
    have hall : ∀ j, j < nf → listed.getD j false = true := fun j hj => by
     have := Vj (hclI i o ho hpre) i j (hbar i hin hil ((hhi i hin).symm.trans h0) j hj) (by simp)
     have hne : (j == i) = false := by simp; omega
     simpa only [hne, Bool.or_false] using this
    have : (pend nf fun j => listed.getD j false) = [] := by
     unfold pend
     rw [List.filter_eq_nil_iff]
     intro j hj
     simp [hall j (List.mem_range.1 hj)]
    rw [this] at hl; simp at hl
   have hin : i < nf := by omega
   have hL'i : (listed.setIfInBounds i true).getD i false = true := by simp [Array.getD_eq_getD_getElem?, show i < listed.size by omega]
   have hL'o : ∀ j, j ≠ i → (listed.setIfInBounds i true).getD j false = listed.getD j false := fun j hj => getD_set_ne false (Ne.symm hj)
   rw [MP hin h0] at hrun hl
   have hset := Hj (L := fun j => listed.getD j false) (L' := fun j => (listed.setIfInBounds i true).getD j false) hin hL'i hL'o
   rw [Uq] at hrun
   cases hr1 : runI P gl ch (mdR all) F all base ((List.range i).filter fun j => !listed.getD j false) st with
   | none => rw [hr1] at hrun; cases hrun
   | some s1 =>
    rw [hr1] at hrun
    simp only [runI, ho] at hrun
    cases hr2 : X4 P gl ch (mdR all) F all (base + i) o s1 with
    | none => rw [hr2] at hrun; cases hrun
    | some s2 =>
     rw [hr2] at hrun
     simp only at hrun
     obtain ⟨t, s', e1, e2, e3⟩ := move hch (oi := o) _ hr hr1 hr2 fun j hj => by
      rw [List.mem_filter] at hj
      have hji := List.mem_range.1 hj.1
      refine ⟨by omega, fun oj hoj => ?_⟩
      have hno : ((Zj all []).getD i 0).testBit j = true → False := fun hbit => by
       have := Vj (hclI i o ho hpre) i j hbit (by simp)
       have hne : (j == i) = false := by simp; omega
       simp only [hne, Bool.or_false] at this
       rw [this] at hj
       simp at hj
      have hcf : DM (mdR all) all oj o = false := by
       cases hcf : DM (mdR all) all oj o with
       | false => rfl
       | true => exact (hno ((XR hok i o ho).pair j oj hji hoj hcf)).elim
      simp only [DM, Bool.or_eq_false_iff] at hcf
      refine ⟨hcf.1, ?_⟩
      cases hkc : hkCl (hk oj.op) (hk o.op) with
      | false => exact .inl rfl
      | true =>
       have hmd : mdR all = true := by
        have := hcf.2
        rw [hkc] at this
        simpa using this
       have hli : lo ≤ i := by
        rcases Nat.lt_or_ge i lo with hx | hx
        ·rw [hlo i hx] at h0; cases h0
        ·exact hx
       rcases hF hmd j i oj o hji hli hin hoj ho hkc with hd | hbit
       ·exact .inr ⟨hmd, hd⟩
       ·exact (hno hbit).elim
     obtain ⟨s3, f1, f2⟩ := StEq.runI e3.symm hrun
     have hrun' : runI P gl ch (mdR all) F all base (pend nf fun j => (listed.setIfInBounds i true).getD j false) t = some s3 := by
      rw [hset, Uq, e2]; exact f1
     have hstep := Dq hch hr e1 ro n (wpAnyIn (FW ro) n P .any all.toArray Q (q + c) (listed.setIfInBounds i true)) Q (fun a' w' m' H' hd' hb' hr' =>
      ih _ a' w' m' H' t s3 (by simp [hs]) (fun j hj => by
       by_cases hji : j = i
       ·subst hji; exact hL'i
       ·rw [hL'o j hji]; exact hlo j hj) (by
       rw [hset]
       simp only [List.length_append, List.length_cons] at hl ⊢
       omega) (fun j hj => by rw [hL'o j (by omega)]; exact hhi j hj) (fun k o' ho' hLk e he hbd => by
        have : ∀ q, (listed.setIfInBounds i true).getD q false = (listed.getD q false || q == i) := fun q => by
         by_cases hq : q = i
         ·subst hq; rw [hL'i]; simp
         ·rw [hL'o q hq]; have : (q == i) = false := by simpa using hq
          simp [this]
        simp only [this] at hLk ⊢
        exact hclI i o ho hpre k o' ho' hLk e he hbd) (hd'.trans hd) (hb.trans hb') hr' hrun' (f2.symm.trans heq))
     unfold wpOpIn
     simp only [List.getElem?_toArray, ho]
     exact hstep
theorem CX {listed : Array Bool} (hs : listed.size = all.length) (h : ∀ j, j < all.length → listed.getD j false = true) : Region.ready .any all.toArray listed = [] := by
 refine List.eq_nil_iff_forall_not_mem.2 fun j hj => ?_
 rw [mem_ready] at hj
 grind
theorem pickI (hch : ch.Ok P gl) (hok : KT all = true) (hmd : mdR all = false) {F : Z4} {base i : Nat} {o : Oper} {l1 l2 : List Nat} {st s : St} {a : Act} {w : World} {m : Nat → Lc} {H : HV} {L : Nat → Bool} (hr : RelS m H B H0 gl rest st a.tmps w) (ho : all[i]? = some o) (hcl : Ja all fun k => L k || k == i)
  (hl : ∀ j ∈ l1, j < i ∧ L j = false) (hrun : runI P gl ch (mdR all) F all base (l1 ++ i :: l2) st = some s) : ∃ t s', X4 P gl ch (mdR all) F all (base + i) o st = some t ∧ runI P gl ch (mdR all) F all base (l1 ++ l2) t = some s' ∧ StEq s s' := by
 rw [Uq] at hrun
 cases hr1 : runI P gl ch (mdR all) F all base l1 st with
 | none => simp_all
 | some s1 =>
  rw [hr1] at hrun
  simp only [runI, ho] at hrun
  cases hr2 : X4 P gl ch (mdR all) F all (base + i) o s1 with
  | none => simp_all
  | some s2 =>
   rw [hr2] at hrun
   simp only at hrun
   obtain ⟨t, s', e1, e2, e3⟩ := move hch (oi := o) _ hr hr1 hr2 fun j hj => by
    obtain ⟨hji, hj⟩ := hl j hj
    refine ⟨by omega, fun oj hoj => ?_⟩
    have hno : ((Zj all []).getD i 0).testBit j = true → False := fun hbit => by
     have := Vj hcl i j hbit (by simp)
     grind
    have hcf : DM (mdR all) all oj o = false := by
     cases hcf : DM (mdR all) all oj o with
     | false => rfl
     | true => exact (hno ((XR hok i o ho).pair j oj hji hoj hcf)).elim
    simp only [DM, Bool.or_eq_false_iff] at hcf
    refine ⟨hcf.1, ?_⟩
    simp_all
   obtain ⟨s3, f1, f2⟩ := StEq.runI e3.symm hrun
   simp_all [Uq]
theorem Ed {listed : Array Bool} {i : Nat} (hi : i < listed.size) (h : Ja all fun k => listed.getD k false || k == i) : Ja all fun k => (listed.setIfInBounds i true).getD k false := fun k o' ho' hLk e he hbd => by
 have : ∀ q, (listed.setIfInBounds i true).getD q false = (listed.getD q false || q == i) := fun q => by
  by_cases hq : q = i
  ·simp_all
  simp_all [Ne.symm]
 simp only [this] at hLk ⊢
 exact h k o' ho' hLk e he hbd
theorem FY (hch : ch.Ok P gl) (hok : KT all = true) (hmd : mdR all = false) {F : Z4} {base b f c : Nat} (hbl : b ≤ all.length) (hbf : b < f) (hbar : ∀ i, b ≤ i → i < all.length → i ≠ f → ∀ j, j < b → ((Zj all []).getD i 0).testBit j = true) {ro : Option Nat} {n : Nat} {d0 : List Deferred} {w0 : World} {sA sB : St} {Q : Exit → Act → World → Prop}
  (hA : ∀ (listed : Array Bool) (a : Act) (w : World) (m : Nat → Lc) (H : HV), listed.size = all.length → (∀ j, j < b → listed.getD j false = true) → (∀ j, b ≤ j → listed.getD j false = (j == f)) → a.defers = d0 → Q8 B w0 w → RelS m H B H0 gl rest sA a.tmps w → wpAnyIn (FW ro) n P .any all.toArray Q c listed a w)
  (hB : ∀ (listed : Array Bool) (a : Act) (w : World) (m : Nat → Lc) (H : HV), listed.size = all.length → (∀ j, j < b → listed.getD j false = true) → (∀ j, b ≤ j → listed.getD j false = false) → a.defers = d0 → Q8 B w0 w → RelS m H B H0 gl rest sB a.tmps w →
   (Region.ready .any all.toArray listed ≠ []) ∧ ∀ i ∈ Region.ready .any all.toArray listed, i ≠ f → wpOpIn (FW ro) n P all.toArray Q i (wpAnyIn (FW ro) n P .any all.toArray Q c (listed.setIfInBounds i true)) a w) :
  ∀ (q : Nat) (listed : Array Bool) (a : Act) (w : World) (m : Nat → Lc) (H : HV) (st s s' : St), listed.size = all.length → (pend b fun j => listed.getD j false).length = q → (∀ j, b ≤ j → listed.getD j false = false) → Ja all (fun j => listed.getD j false) →
   a.defers = d0 → Q8 B w0 w → RelS m H B H0 gl rest st a.tmps w → runI P gl ch (mdR all) F all base (pend b fun j => listed.getD j false) st = some s → StEq s sB → runI P gl ch (mdR all) F all base ((pend b fun j => listed.getD j false) ++ [f]) st = some s' → StEq s' sA → wpAnyIn (FW ro) n P .any all.toArray Q (q + 1 + c) listed a w := by
 have hset : ∀ {listed : Array Bool} {i : Nat}, i < listed.size → (listed.setIfInBounds i true).getD i false = true := fun h => by simp_all
 have hset2 : ∀ {listed : Array Bool} {i : Nat} (j : Nat), j ≠ i → (listed.setIfInBounds i true).getD j false = listed.getD j false := fun j hj => getD_set_ne false (Ne.symm hj)
 have hcl2 : ∀ {listed : Array Bool} {i : Nat} {o : Oper}, Ja all (fun j => listed.getD j false) → all[i]? = some o → (∀ e ∈ o.after, Region.binds .any e = true → listed.getD e.on false = true) → Ja all fun k => listed.getD k false || k == i := fun {listed i o} hcl ho hpre k o' ho' hLk e he hbd => by
  by_cases hki : k = i
  ·simp_all
  ·have hk' : (k == i) = false := by grind
   simp only [hcl k o' ho' (by grind) e he hbd, Bool.true_or]
 intro q
 induction q with
 | zero =>
  intro listed a w m H st s s' hs hl hhi hcl hd hb hr hrB heB hrA heA
  have hnil : (pend b fun j => listed.getD j false) = [] := List.eq_nil_of_length_eq_zero hl
  rw [hnil] at hrB hrA
  simp only [runI, Option.some.injEq] at hrB
  subst hrB
  have hall : ∀ j, j < b → listed.getD j false = true := fun j hj => by
   cases hL : listed.getD j false with
   | true => rfl
   | false =>
    have : j ∈ pend b fun j => listed.getD j false := by
     unfold pend; rw [List.mem_filter]; exact ⟨List.mem_range.2 hj, by simp [hL]⟩
    rw [hnil] at this; cases this
  obtain ⟨e0, e1⟩ := hB listed a w m H hs hall hhi hd hb (heB.rel hr)
  rw [Nat.zero_add, Nat.add_comm]
  refine ⟨fun hready => (e0 hready).elim, fun i hi => ?_⟩
  by_cases hif : i = f
  ·subst hif
   rw [mem_ready] at hi
   obtain ⟨h0, o, ho, hpre⟩ := hi
   rw [List.getElem?_toArray] at ho
   have hil : i < all.length := (List.getElem?_eq_some_iff.1 ho).1
   simp only [List.nil_append, runI, ho] at hrA
   cases hr2 : X4 P gl ch (mdR all) F all (base + i) o st with
   | none => rw [hr2] at hrA; cases hrA
   | some s2 =>
    rw [hr2] at hrA
    simp only [Option.some.injEq] at hrA
    subst hrA
    have hstep := Dq hch hr hr2 ro n (wpAnyIn (FW ro) n P .any all.toArray Q c (listed.setIfInBounds i true)) Q (fun a' w' m' H' hd' hb' hr' =>
     hA _ a' w' m' H' (by simp [hs]) (fun j hj => by rw [hset2 j (by omega)]; exact hall j hj) (fun j hj => by
      by_cases hji : j = i
      ·subst hji; rw [hset (by omega)]; simp
      ·rw [hset2 j hji, hhi j hj]; have : (j == i) = false := by simpa using hji
       rw [this]) (hd'.trans hd) (hb.trans hb') (heA.rel hr'))
    unfold wpOpIn
    simp only [List.getElem?_toArray, ho]
    exact hstep
  ·exact e1 i hi hif
 | succ q ih =>
  intro listed a w m H st s s' hs hl hhi hcl hd hb hr hrB heB hrA heA
  rw [show q + 1 + 1 + c = (q + 1 + c) + 1 by omega]
  refine ⟨fun hready => ?_, fun i hi => ?_⟩
  ·exfalso
   have hall : ∀ j, j < all.length → listed.getD j false = true := by
    intro j
    induction j using Nat.strongRecOn with
    | _ j ihj =>
     intro hj
     cases hL : listed.getD j false with
     | true => rfl
     | false =>
      exfalso
      have : j ∈ Region.ready .any all.toArray listed := by
       rw [mem_ready]
       refine ⟨by rw [VU true (by omega)]; exact hL, all[j], by simp [hj], fun e he hbd => ?_⟩
       have := (XR hok j all[j] (List.getElem?_eq_getElem hj)).before e he hbd
       exact ihj e.on this (by omega)
      rw [hready] at this
      cases this
   have : (pend b fun j => listed.getD j false) = [] := by
    unfold pend
    rw [List.filter_eq_nil_iff]
    intro j hj
    simp [hall j (by have := List.mem_range.1 hj; omega)]
   rw [this] at hl; simp at hl
  ·rw [mem_ready] at hi
   obtain ⟨h0, o, ho, hpre⟩ := hi
   rw [List.getElem?_toArray] at ho
   have hil : i < all.length := (List.getElem?_eq_some_iff.1 ho).1
   rw [VU true (by omega)] at h0
   have hclI := hcl2 hcl ho hpre
   unfold wpOpIn
   simp only [List.getElem?_toArray, ho]
   by_cases hif : i = f
   ·subst hif
    obtain ⟨t, s2, e1, e2, e3⟩ := pickI hch hok hmd (L := fun j => listed.getD j false) (l2 := []) hr ho hclI (fun j hj => by
     unfold pend at hj
     rw [List.mem_filter] at hj
     exact ⟨by have := List.mem_range.1 hj.1; omega, by simpa using hj.2⟩) hrA
    rw [List.append_nil] at e2
    have hp : (pend b fun j => (listed.setIfInBounds i true).getD j false) = pend b fun j => listed.getD j false := by
     unfold pend
     refine List.filter_congr fun j hj => ?_
     have := List.mem_range.1 hj
     simp only [hset2 (listed := listed) (i := i) j (by omega)]
    exact Dq hch hr e1 ro n (wpAnyIn (FW ro) n P .any all.toArray Q (q + 1 + c) (listed.setIfInBounds i true)) Q (fun a' w' m' H' hd' hb' hr' =>
     Ch (L0 := fun j => j == i) (c := c) (lo := 0) (nf := b) (F := F) (base := base) hch hok (fun e => by simp_all) hbl (fun k h1 h2 h3 => hbar k h1 h2 (by simpa using h3)) hA (q + 1) (listed.setIfInBounds i true) a' w' m' H' t s2 (by simp [hs]) (fun j hj => absurd hj (Nat.not_lt_zero j)) (by rw [hp]; exact hl) (fun j hj => by
      by_cases hji : j = i
      ·subst hji; rw [hset (by omega)]; simp
      ·rw [hset2 j hji, hhi j hj]; have : (j == i) = false := by simpa using hji
       rw [this]) (Ed (by omega) hclI) (hd'.trans hd) (hb.trans hb') hr' (by rw [hp]; exact e2) (e3.symm.trans heA))
   ·by_cases hin : b ≤ i
    ·exfalso
     have hall : ∀ j, j < b → listed.getD j false = true := fun j hj => by
      have := Vj hclI i j (hbar i hin hil hif j hj) (by simp)
      have hne : (j == i) = false := by simp; omega
      simpa only [hne, Bool.or_false] using this
     have : (pend b fun j => listed.getD j false) = [] := by
      unfold pend
      rw [List.filter_eq_nil_iff]
      intro j hj
      simp [hall j (List.mem_range.1 hj)]
     rw [this] at hl; simp at hl
    ·have hin : i < b := by omega
     have hp := Hj (L := fun j => listed.getD j false) (L' := fun j => (listed.setIfInBounds i true).getD j false) hin (hset (by omega)) hset2
     rw [MP hin h0] at hrB hrA hl
     have hc : ∀ j ∈ (List.range i).filter (fun j => !listed.getD j false), j < i ∧ listed.getD j false = false := fun j hj => by
      rw [List.mem_filter] at hj
      exact ⟨List.mem_range.1 hj.1, by simpa using hj.2⟩
     obtain ⟨t, s2, e1, e2, e3⟩ := pickI hch hok hmd (L := fun j => listed.getD j false) hr ho hclI hc hrB
     rw [List.append_assoc, List.cons_append] at hrA
     obtain ⟨t', s3, g1, g2, g3⟩ := pickI hch hok hmd (L := fun j => listed.getD j false) hr ho hclI hc hrA
     rw [e1] at g1; cases g1
     exact Dq hch hr e1 ro n (wpAnyIn (FW ro) n P .any all.toArray Q (q + 1 + c) (listed.setIfInBounds i true)) Q (fun a' w' m' H' hd' hb' hr' =>
      ih _ a' w' m' H' t s2 s3 (by simp [hs]) (by
       rw [hp]
       simp only [List.length_append, List.length_cons] at hl ⊢
       omega) (fun j hj => by rw [hset2 j (by omega)]; exact hhi j hj) (Ed (by omega) hclI) (hd'.trans hd) (hb.trans hb') hr' (by rw [hp]; exact e2) (e3.symm.trans heB) (by rw [hp, List.append_assoc]; exact g2) (g3.symm.trans heA))
theorem Gg (nf : Nat) : (pend nf fun j => (Array.replicate all.toArray.size false).getD j false) = List.range nf := by
 unfold pend
 rw [List.filter_eq_self]
 intro j hj
 simp only [Array.getD_eq_getD_getElem?, Array.getElem?_replicate]
 grind
theorem GZ (j : Nat) : (Array.replicate all.toArray.size false).getD j false = false := by
 simp only [Array.getD_eq_getD_getElem?, Array.getElem?_replicate]
 grind
def okF (F : Z4) (all : List Oper) (base i : Nat) (k : Nat) (ft : Option (List Nat)) : Bool := (List.range i).all fun j => match all[j]? with
 | some oj => match hkCl (hk oj.op) k with
  | true => match Wm (F (base + j)) ft with
   | true => true
   | false => ((Zj all []).getD i 0).testBit j
  | false => true
 | none => true
def updT (F : Z4) (k : Nat) (x : Option (List Nat)) : Z4 := fun j => bif Nat.beq j k then x else F j
theorem Ij {F : Z4} {k : Nat} {x : Option (List Nat)} : updT F k x k = x := by simp [updT]
theorem Ah {F : Z4} {k j : Nat} {x : Option (List Nat)} (h : j ≠ k) : updT F k x j = F j := by
 simp_all [updT, HK]
theorem TD {F G : Z4} {base i : Nat} {p : Oper} {ft : Option (List Nat)} (h : okF F all base i (hk p.op) ft = true) (hFG : ∀ j, j < i → G (base + j) = F (base + j)) (hi : G (base + i) = ft) : ∀ j o, j < i → all[j]? = some o → hkCl (hk o.op) (hk p.op) = true → Wm (G (base + j)) (G (base + i)) = true ∨ ((Zj all []).getD i 0).testBit j = true := fun j o hj ho hc => by
 have := List.all_eq_true.1 h j (List.mem_range.2 hj)
 grind
def Ga (all : List Oper) (o : Oper) (gv : Option AV) (ev : Operand → AV) : Option (List Nat) := match o.guard with
 | none => foot o.op ev
 | some (_, want) => match gv with
  | some x => match Wo x want with
   | some true => foot o.op ev
   | _ => some []
  | none => none
def runF (P : Program) (gl : Nat → AV) (ch : Y2) (all : List Oper) (base : Nat) : List Nat → Z4 → St → Option St
 | [], _, st => some st
 | i :: l, F, st => match all[i]? with
  | some o => match okF F all base i (hk o.op) (Ga all o (gval all o st) (st.ev gl)) with
   | true => match X4 P gl ch true (updT F (base + i) (Ga all o (gval all o st) (st.ev gl))) all (base + i) o st with
    | some s => runF P gl ch all base l (updT F (base + i) (Ga all o (gval all o st) (st.ev gl))) s
    | none => none
   | false => none
  | none => none
theorem Sk {F G : Z4} {md : Bool} {bid : Nat} {o : Oper} {st : St} (h : F bid = G bid) : X4 P gl ch md F all bid o st = X4 P gl ch md G all bid o st := by
 simp only [Kq, Jo, xoF, GO, h]
theorem A6 {base : Nat} : ∀ (n k : Nat) (F : Z4) (st s : St), runF P gl ch all base (List.range' k n) F st = some s →
  ∃ G : Z4, (∀ j, j < k → G (base + j) = F (base + j)) ∧ runI P gl ch true G all base (List.range' k n) st = some s ∧ ∀ i j o p, i < j → k ≤ j → j < k + n → all[i]? = some o → all[j]? = some p → hkCl (hk o.op) (hk p.op) = true → Wm (G (base + i)) (G (base + j)) = true ∨ ((Zj all []).getD j 0).testBit i = true
 | 0, k, F, st, s, h => ⟨F, fun _ _ => rfl, by simp_all [runF, runI], fun i j o p h1 h2 h3 => by omega⟩
 | n + 1, k, F, st, s, h => by
  simp only [List.range'_succ, runF] at h
  split at h
  ·rename_i o ho
   split at h
   ·rename_i hok
    split at h
    ·rename_i s1 hs1
     obtain ⟨G, h1, h2, h3⟩ := A6 n (k + 1) _ s1 s h
     have hk : G (base + k) = Ga all o (gval all o st) (st.ev gl) := by simp_all [Ij]
     have hlo : ∀ j, j < k → G (base + j) = F (base + j) := fun j hj => by grind [Ah]
     refine ⟨G, hlo, ?_, fun i j o' p h4 h5 h6 ho' hp hc => ?_⟩
     ·grind [List.range'_succ, runI, Sk, updT, Ga, gval, hk, Ij]
     ·by_cases e : j = k
      ·subst e
       rw [ho] at hp; cases hp
       exact TD hok hlo hk i o' h4 ho' hc
      grind
    ·cases h
   ·cases h
  ·cases h
theorem Fs {base nf : Nat} {st s : St} (h : runF P gl ch all base (List.range nf) (fun _ => none) st = some s) : ∃ G : Z4, runI P gl ch true G all base (List.range nf) st = some s ∧ No G all base nf := by
 rw [List.range_eq_range'] at h ⊢
 obtain ⟨G, _, h2, h3⟩ := A6 nf 0 _ st s h
 exact ⟨G, h2, fun i j o p h4 h5 => h3 i j o p h4 (Nat.zero_le _) (by omega)⟩
def Mt (all : List Oper) : Bool :=
 let m := (Zj all []).getD (all.length - 1) 0
 (List.range (all.length - 1)).all fun j => m.testBit j
def LU (ms : List Nat) : Nat → Nat
 | 0 => 0
 | k + 1 => match Nat.beq (ms.getD k 0) (2 ^ k - 1) with
  | true => LU ms k
  | false => k + 1
def Qt (all : List Oper) : Nat := LU (Zj all []) all.length
theorem Us {ms : List Nat} : ∀ k, LU ms k ≤ k ∧ ∀ i, LU ms k ≤ i → i < k → ∀ j, j < i → (ms.getD i 0).testBit j = true
 | 0 => ⟨Nat.le_refl _, fun i h1 h2 => by omega⟩
 | k + 1 => by
  obtain ⟨h1, h2⟩ := Us (ms := ms) k
  unfold LU
  split
  ·grind [Nat.eq_of_beq_eq_true, Nat.testBit_two_pow_sub_one]
  grind
def RX (all : List Oper) (b : Nat) : Bool := match Zj all [] with
 | ms => (Nat.blt b (Qt all) && Nat.beq (ms.getD b 0) (2 ^ b - 1)) && (List.range' (b + 1) (all.length - (b + 1))).all fun i => (List.range (b + 1)).all fun j => (ms.getD i 0).testBit j
theorem AE {all : List Oper} {b : Nat} (h : RX all b = true) : b < Qt all ∧ Qt all ≤ all.length ∧ (∀ i, b ≤ i → i < all.length → ∀ j, j < b → ((Zj all []).getD i 0).testBit j = true) ∧ ∀ i, b < i → i < all.length → ∀ j, j < b + 1 → ((Zj all []).getD i 0).testBit j = true := by
 simp only [RX, Bool.and_eq_true, List.all_eq_true, List.mem_range'_1, List.mem_range] at h
 obtain ⟨⟨h1, h2⟩, h3⟩ := h
 have h1 : b < Qt all := by simp_all
 have h4 := (Us (ms := Zj all []) all.length).1
 grind [Qt, Zj, Nat.lt_or_ge, Nat.eq_of_beq_eq_true, Nat.testBit_two_pow_sub_one]
def midF (all : List Oper) (b f : Nat) : Bool := match Zj all [] with
 | ms => ((!mdR all && Nat.blt b f) && (Nat.blt f (Qt all) && Nat.beq (ms.getD b 0) (2 ^ b - 1))) && ((match all[f]? with
  | some o => o.after.toList.isEmpty
  | none => false) && (List.range' (b + 1) (all.length - (b + 1))).all fun i => Nat.beq i f || (List.range (b + 1)).all fun j => (ms.getD i 0).testBit j)
theorem Ff {all : List Oper} {b f : Nat} (h : midF all b f = true) : mdR all = false ∧ b < f ∧ f < Qt all ∧ Qt all ≤ all.length ∧ (∀ o, all[f]? = some o → ∀ e ∈ o.after, False) ∧ (∀ i, b ≤ i → i < all.length → i ≠ f → ∀ j, j < b → ((Zj all []).getD i 0).testBit j = true) ∧ ∀ i, b < i → i < all.length → i ≠ f → ((Zj all []).getD i 0).testBit b = true := by
 simp only [midF, Bool.and_eq_true, List.all_eq_true, List.mem_range'_1, List.mem_range, Bool.or_eq_true, Bool.not_eq_true'] at h
 obtain ⟨⟨⟨h1, h2⟩, h3, h4⟩, h5, h6⟩ := h
 have h2 : b < f := by simp_all
 have h3 : f < Qt all := by simp_all
 have h7 := (Us (ms := Zj all []) all.length).1
 grind [Qt, Zj, absurd, Nat.eq_of_beq_eq_true, List.isEmpty_iff, Array.mem_def, Nat.lt_or_ge, Nat.testBit_two_pow_sub_one]
theorem pendM {nf lo : Nat} (h : lo ≤ nf) {L : Nat → Bool} (h1 : ∀ j, j < lo → L j = true) (h2 : ∀ j, lo ≤ j → L j = false) : pend nf L = List.range' lo (nf - lo) := by
 unfold pend
 have e : List.range nf = List.range lo ++ List.range' lo (nf - lo) := by
  have := List.range'_append_1 (s := 0) (m := lo) (n := nf - lo)
  simp_all [Nat.zero_add, Nat.add_sub_cancel', List.range_eq_range']
 grind [List.filter_eq_nil_iff, List.filter_eq_self]
theorem N0 (hch : ch.Ok P gl) (hmix : P.follows .mixedOrders = true) (hok : KT all = true) {F : Z4} {ro : Option Nat} {n : Nat} {m : Nat → Lc} {H : HV} {st sF : St} {a : Act} {w : World} {id nf : Nat} (hnf : nf ≤ all.length)
  (hbit : ∀ i, nf ≤ i → i < all.length → ∀ j, j < nf → ((Zj all []).getD i 0).testBit j = true)
  (h : RelS m H B H0 gl rest st a.tmps w) (hrun : runI P gl ch (mdR all) F all st.nx (List.range nf) (st.bump all.length) = some sF) (hF : mdR all = true → No F all st.nx nf) {Q : Exit → Act → World → Prop}
  (hQ : ∀ (listed : Array Bool) (a' : Act) (w' : World) (m : Nat → Lc) (H : HV), listed.size = all.length → (∀ j, j < nf → listed.getD j false = true) → (∀ j, nf ≤ j → listed.getD j false = false) → a'.defers = a.defers → Q8 B w w' → RelS m H B H0 gl rest sF a'.tmps w' → wpAnyIn (FW ro) n P .any all.toArray Q (all.length - nf) listed a' w') : (Code.region id all.toArray true).wpIn (FW ro) n P Q a w := by
 refine wpIn_region_any hmix ?_
 have hb : Below w.heap.size w { w with drawn := w.drawn + 1 } := ⟨rfl, rfl, rfl, Nat.le_refl _, fun _ _ => rfl⟩
 have hr0 : RelS m H B H0 gl rest (st.bump all.length) a.tmps { w with drawn := w.drawn + 1 } := by
  have hh := h.heap.ext hb
  exact ⟨{ hh with fresh := fun id hid => hh.fresh id (Nat.le_trans (Nat.le_add_right _ _) hid) }, h.size, h.slot, h.rest⟩
 have := Ch (L0 := fun _ => false) (c := all.length - nf) (sF := sF) (base := st.nx) (lo := 0) (nf := nf) (ro := ro) (n := n) (d0 := a.defers) (w0 := w) (Q := Q) hch hok (fun e => (hF e).l) hnf (fun i h1 h2 _ => hbit i h1 h2) hQ _ (Array.replicate all.toArray.size false) a _ m H (st.bump all.length) sF (by simp) (fun j hj => absurd hj (Nat.not_lt_zero j)) rfl (fun j _ => GZ j) (fun j o ho hL => by grind [Array.replicate, GZ]) rfl (Q8.of hb h.heap.low) hr0 (by rw [Gg]; exact hrun) (.refl _)
 rw [Gg, List.length_range] at this
 simp_all
theorem SE (hch : ch.Ok P gl) (hmix : P.follows .mixedOrders = true) (hok : KT all = true) {F : Z4} {ro : Option Nat} {n : Nat} {m : Nat → Lc} {H : HV} {st sF : St} {a : Act} {w : World} {id : Nat}
  (h : RelS m H B H0 gl rest st a.tmps w) (hrun : runI P gl ch (mdR all) F all st.nx (List.range all.length) (st.bump all.length) = some sF) (hF : mdR all = true → No F all st.nx all.length) {Q : Exit → Act → World → Prop}
  (hQ : ∀ (a' : Act) (w' : World) (m : Nat → Lc) (H : HV), a'.defers = a.defers → Q8 B w w' → RelS m H B H0 gl rest sF a'.tmps w' → Q .normal a' w') : (Code.region id all.toArray true).wpIn (FW ro) n P Q a w := by
 refine wpIn_region_any hmix ?_
 have hb : Below w.heap.size w { w with drawn := w.drawn + 1 } := ⟨rfl, rfl, rfl, Nat.le_refl _, fun _ _ => rfl⟩
 have hr0 : RelS m H B H0 gl rest (st.bump all.length) a.tmps { w with drawn := w.drawn + 1 } := by
  have hh := h.heap.ext hb
  exact ⟨{ hh with fresh := fun id hid => hh.fresh id (Nat.le_trans (Nat.le_add_right _ _) hid) }, h.size, h.slot, h.rest⟩
 have := Ch (L0 := fun _ => false) (c := all.length - all.length) (sF := sF) (base := st.nx) (lo := 0) (nf := all.length) (ro := ro) (n := n) (d0 := a.defers) (w0 := w) (Q := Q) hch hok (fun e => (hF e).l) (Nat.le_refl _) (fun i h1 h2 _ => by omega) (fun listed a' w' m' H' hs h1 _ hd hb' hr => by
  rw [Nat.sub_self]
  exact ⟨CX hs h1, hQ a' w' m' H' hd hb' hr⟩) _ (Array.replicate all.toArray.size false) a _ m H (st.bump all.length) sF (by simp) (fun j hj => absurd hj (Nat.not_lt_zero j)) rfl (fun j _ => GZ j) (fun j o ho hL => by grind [Array.replicate, GZ]) rfl (Q8.of hb h.heap.low) hr0 (by rw [Gg]; exact hrun) (.refl _)
 rw [Gg, Nat.sub_self, Nat.add_zero, List.length_range] at this
 omega
theorem E7 (hch : ch.Ok P gl) (hmix : P.follows .mixedOrders = true) (hok : KT all = true) {F : Z4} (hbar : Mt all = true) {ol : Oper} (hol : all[all.length - 1]? = some ol) (hg : ol.guard = none) {ro : Option Nat} {n : Nat} {m : Nat → Lc} {H : HV} {st sF : St} {a : Act} {w : World} {id : Nat}
  (h : RelS m H B H0 gl rest st a.tmps w) (hrun : runI P gl ch (mdR all) F all st.nx (List.range (all.length - 1)) (st.bump all.length) = some sF) (hF : mdR all = true → No F all st.nx (all.length - 1)) {Q : Exit → Act → World → Prop}
  (hQ : ∀ (a' : Act) (w' : World) (m : Nat → Lc) (H : HV) (K : Act → World → Prop), a'.defers = a.defers → Q8 B w w' → RelS m H B H0 gl rest sF a'.tmps w' → (∀ a2 w2, Q .normal a2 w2 → K a2 w2) → ol.wpIn (FW ro) n P a' w' K Q) : (Code.region id all.toArray true).wpIn (FW ro) n P Q a w := by
 refine wpIn_region_any hmix ?_
 have hlen : 0 < all.length := by grind
 have hb : Below w.heap.size w { w with drawn := w.drawn + 1 } := ⟨rfl, rfl, rfl, Nat.le_refl _, fun _ _ => rfl⟩
 have hr0 : RelS m H B H0 gl rest (st.bump all.length) a.tmps { w with drawn := w.drawn + 1 } := by
  have hh := h.heap.ext hb
  exact ⟨{ hh with fresh := fun id hid => hh.fresh id (Nat.le_trans (Nat.le_add_right _ _) hid) }, h.size, h.slot, h.rest⟩
 have hbit : ∀ i, all.length - 1 ≤ i → i < all.length → ∀ j, j < all.length - 1 → ((Zj all []).getD i 0).testBit j = true := fun i h1 h2 j hj => by
  grind [Mt, List.all_eq_true]
 have := Ch (L0 := fun _ => false) (c := all.length - (all.length - 1)) (sF := sF) (base := st.nx) (lo := 0) (nf := all.length - 1) (ro := ro) (n := n) (d0 := a.defers) (w0 := w) (Q := Q) hch hok (fun e => (hF e).l) (by omega) (fun i h1 h2 _ => hbit i h1 h2) (fun listed a' w' m' H' hs h1 h2 hd hb' hr => by
  rw [show all.length - (all.length - 1) = 0 + 1 by omega]
  have hfin : Region.ready .any all.toArray (listed.setIfInBounds (all.length - 1) true) = [] := CX (by simp [hs]) fun j hj => by
   by_cases e : j = all.length - 1
   ·simp_all
   ·rw [getD_set_ne false (Ne.symm e)]; grind
  refine ⟨fun hready => ?_, fun i hi => ?_⟩
  ·exfalso
   have : all.length - 1 ∈ Region.ready .any all.toArray listed := by
    rw [mem_ready]
    refine ⟨by grind, ol, by simp_all, fun e he hbd => h1 e.on ?_⟩
    exact (XR hok _ ol hol).before e he hbd
   simp_all
  ·rw [mem_ready] at hi
   obtain ⟨h0, o, ho, hpre⟩ := hi
   rw [List.getElem?_toArray] at ho
   have hil : i < all.length := (List.getElem?_eq_some_iff.1 ho).1
   rw [VU true (by omega)] at h0
   have hie : i = all.length - 1 := by
    grind
   subst hie
   rw [hol] at ho; cases ho
   unfold wpOpIn
   simp only [List.getElem?_toArray, hol]
   rw [if_pos (by simp [Region.wanted, hg])]
   exact hQ a' w' m' H' _ hd hb' hr fun a2 w2 hq => ⟨hfin, hq⟩) _ (Array.replicate all.toArray.size false) a _ m H (st.bump all.length) sF (by simp) (fun j hj => absurd hj (Nat.not_lt_zero j)) rfl (fun j _ => GZ j) (fun j o ho hL => by grind [Array.replicate, GZ]) rfl (Q8.of hb h.heap.low) hr0 (by rw [Gg]; exact hrun) (.refl _)
 rw [Gg, List.length_range, show all.length - 1 + (all.length - (all.length - 1)) = all.length by omega] at this
 omega
end
end HY
end
section
namespace HY
open Go Go.RowKit
def runG (stp : Nat → Oper → St → Option St) (all : List Oper) : List Nat → St → Option St
 | [], st => some st
 | i :: l, st => match all[i]? with
  | some o => match stp i o st with
   | some s => runG stp all l s
   | none => none
  | none => none
structure Np (P : Program) (B : Nat → Prop) (H0 : HV) (gl : Nat → AV) (rest : List (AV × Value)) (all : List Oper) (stp : Nat → Oper → St → Option St) : Prop where
 sound : ∀ {i : Nat} {o : Oper} {st s : St} {a : Act} {w : World} {m : Nat → Lc} {H : HV}, RelS m H B H0 gl rest st a.tmps w → stp i o st = some s → ∀ (ro : Option Nat) (n : Nat) (next : Act → World → Prop) (Q : Exit → Act → World → Prop),
  (∀ a' w' m' H', a'.defers = a.defers → Q8 B w w' → RelS m' H' B H0 gl rest s a'.tmps w' → next a' w') →
  if Region.wanted o (yielded all.toArray a.tmps) then o.wpIn (FW ro) n P a w next Q else (∀ f, o.about P w a.eval = some f → (FW ro).fn f) ∧ next (a.put o.dst Go.undef) w
 eq : ∀ {i : Nat} {o : Oper} {x y s : St}, StEq x y → stp i o x = some s → ∃ s', stp i o y = some s' ∧ StEq s s'
 swap : ∀ {j i : Nat} {oj oi : Oper} {st s1 s2 : St} {a : Act} {w : World} {m : Nat → Lc} {H : HV}, j < i → all[j]? = some oj → all[i]? = some oi → ((Zj all []).getD i 0).testBit j = false → RelS m H B H0 gl rest st a.tmps w →
  stp j oj st = some s1 → stp i oi s1 = some s2 → ∃ t1 t2, stp i oi st = some t1 ∧ stp j oj t1 = some t2 ∧ StEq t2 s2
section
variable {P : Program} {B : Nat → Prop} {H0 : HV} {gl : Nat → AV} {rest : List (AV × Value)} {all : List Oper} {stp : Nat → Oper → St → Option St}
theorem NQ : ∀ {l r : List Nat} {st : St}, runG stp all (l ++ r) st = match runG stp all l st with | some s => runG stp all r s | none => none
 | [], r, st => rfl
 | i :: l, r, st => by
  simp only [List.cons_append, runG]
  cases all[i]? with
  | none => rfl
  | some o =>
   simp only
   cases stp i o st with
   | none => rfl
   | some s => exact NQ
theorem StEq.runG (hS : Np P B H0 gl rest all stp) : ∀ {l : List Nat} {x y s : St}, StEq x y → HY.runG stp all l x = some s → ∃ s', HY.runG stp all l y = some s' ∧ StEq s s'
 | [], x, y, s, h, hk => by simp only [HY.runG, Option.some.injEq] at hk; subst hk; exact ⟨y, rfl, h⟩
 | i :: l, x, y, s, h, hk => by
  simp only [HY.runG] at hk ⊢
  cases ho : all[i]? with
  | none => rw [ho] at hk; cases hk
  | some o =>
   rw [ho] at hk
   simp only at hk ⊢
   cases hs : stp i o x with
   | none => rw [hs] at hk; cases hk
   | some s1 =>
    rw [hs] at hk
    obtain ⟨s2, h1, h2⟩ := hS.eq h hs
    rw [h1]
    exact StEq.runG hS h2 hk
theorem Np.real (hS : Np P B H0 gl rest all stp) {st : St} {a : Act} {w : World} {m : Nat → Lc} {H : HV} (h : RelS m H B H0 gl rest st a.tmps w) {i : Nat} {o : Oper} {st' : St} (hk : stp i o st = some st') : ∃ (a' : Act) (w' : World) (m' : Nat → Lc) (H' : HV), RelS m' H' B H0 gl rest st' a'.tmps w' := by
 have := hS.sound h hk none 0 (fun a' w' => ∃ m' H', RelS m' H' B H0 gl rest st' a'.tmps w') (fun _ _ _ => False) (fun a' w' m' H' _ _ hr => ⟨m', H', hr⟩)
 split at this
 ·obtain ⟨a', w', m', H', hr⟩ := LS this; exact ⟨a', w', m', H', hr⟩
 ·obtain ⟨_, m', H', hr⟩ := this; exact ⟨_, _, m', H', hr⟩
theorem moveG (hS : Np P B H0 gl rest all stp) {i : Nat} {oi : Oper} (hoi : all[i]? = some oi) : ∀ (pre : List Nat) {st : St} {a : Act} {w : World} {m : Nat → Lc} {H : HV} {s1 s2 : St}, RelS m H B H0 gl rest st a.tmps w → runG stp all pre st = some s1 → stp i oi s1 = some s2 →
  (∀ j ∈ pre, j < i ∧ ((Zj all []).getD i 0).testBit j = false) → ∃ t s', stp i oi st = some t ∧ runG stp all pre t = some s' ∧ StEq s' s2
 | [], st, a, w, m, H, s1, s2, _, h1, h2, _ => by
  simp only [runG, Option.some.injEq] at h1
  subst h1
  exact ⟨s2, s2, h2, rfl, .refl _⟩
 | j :: pre, st, a, w, m, H, s1, s2, h, h1, h2, hc => by
  simp only [runG] at h1 ⊢
  cases hj : all[j]? with
  | none => rw [hj] at h1; cases h1
  | some oj =>
   rw [hj] at h1
   simp only at h1 ⊢
   cases hs : stp j oj st with
   | none => rw [hs] at h1; cases h1
   | some s0 =>
    rw [hs] at h1
    obtain ⟨a', w', m', H', hr⟩ := hS.real h hs
    obtain ⟨t, s', k1, k2, k3⟩ := moveG hS hoi pre hr h1 h2 fun j' hj' => hc j' (by simp [hj'])
    have hcj := hc j (by simp)
    obtain ⟨t1, t2, e1, e2, e3⟩ := hS.swap hcj.1 hj hoi hcj.2 h hs k1
    obtain ⟨s3, g1, g2⟩ := StEq.runG hS e3.symm k2
    exact ⟨t1, s3, e1, by rw [e2]; exact g1, g2.symm.trans k3⟩
theorem R7 (hS : Np P B H0 gl rest all stp) (hok : KT all = true) {nf : Nat} (hnf : nf ≤ all.length) (hbar : ∀ i, nf ≤ i → i < all.length → ∀ j, j < nf → ((Zj all []).getD i 0).testBit j = true) {ro : Option Nat} {n : Nat} {d0 : List Deferred} {w0 : World} {sF : St} {Q : Exit → Act → World → Prop}
  (hEnd : ∀ (listed : Array Bool) (a : Act) (w : World) (m : Nat → Lc) (H : HV), listed.size = all.length → (∀ j, j < nf → listed.getD j false = true) → (∀ j, nf ≤ j → listed.getD j false = false) → a.defers = d0 → Q8 B w0 w → RelS m H B H0 gl rest sF a.tmps w → wpAnyIn (FW ro) n P .any all.toArray Q (all.length - nf) listed a w) :
  ∀ (q : Nat) (listed : Array Bool) (a : Act) (w : World) (m : Nat → Lc) (H : HV) (st s : St), listed.size = all.length → (pend nf fun j => listed.getD j false).length = q → (∀ j, nf ≤ j → listed.getD j false = false) → Ja all (fun j => listed.getD j false) →
   a.defers = d0 → Q8 B w0 w → RelS m H B H0 gl rest st a.tmps w → runG stp all (pend nf fun j => listed.getD j false) st = some s → StEq s sF → wpAnyIn (FW ro) n P .any all.toArray Q (q + (all.length - nf)) listed a w := by
 intro q
 induction q with
 | zero =>
  intro listed a w m H st s hs hl hhi hcl hd hb hr hrun heq
  have hnil : (pend nf fun j => listed.getD j false) = [] := List.eq_nil_of_length_eq_zero hl
  rw [hnil] at hrun
  simp only [runG, Option.some.injEq] at hrun
  subst hrun
  rw [Nat.zero_add]
  refine hEnd listed a w m H hs (fun j hj => ?_) hhi hd hb (heq.rel hr)
  cases hL : listed.getD j false with
  | true => rfl
  | false =>
   have : j ∈ pend nf fun j => listed.getD j false := by
    unfold pend; rw [List.mem_filter]; exact ⟨List.mem_range.2 hj, by simp [hL]⟩
   rw [hnil] at this; cases this
 | succ q ih =>
  intro listed a w m H st s hs hl hhi hcl hd hb hr hrun heq
  have hclI : ∀ i o, all[i]? = some o → (∀ e ∈ o.after, Region.binds .any e = true → listed.getD e.on false = true) → Ja all fun k => listed.getD k false || k == i := fun i o ho hpre k o' ho' hLk e he hbd => by
   by_cases hki : k = i
   ·subst hki
    rw [ho] at ho'; cases ho'
    simp only [hpre e he hbd, Bool.true_or]
   ·have hk' : (k == i) = false := by simpa using hki
    simp only [hcl k o' ho' (by simpa [hk'] using hLk) e he hbd, Bool.true_or]
  rw [Nat.add_right_comm]
  refine ⟨fun hready => ?_, fun i hi => ?_⟩
  ·exfalso
   have hall : ∀ j, j < all.length → listed.getD j false = true := by
    intro j
    induction j using Nat.strongRecOn with
    | _ j ihj =>
     intro hj
     cases hL : listed.getD j false with
     | true => rfl
     | false =>
      exfalso
      have : j ∈ Region.ready .any all.toArray listed := by
       rw [mem_ready]
       refine ⟨by rw [VU true (by omega)]; exact hL, all[j], by simp [hj], fun e he hbd => ?_⟩
       have := (XR hok j all[j] (List.getElem?_eq_getElem hj)).before e he hbd
       exact ihj e.on this (by omega)
      rw [hready] at this
      cases this
   have : (pend nf fun j => listed.getD j false) = [] := by
    unfold pend
    rw [List.filter_eq_nil_iff]
    intro j hj
    simp [hall j (by have := List.mem_range.1 hj; omega)]
   rw [this] at hl; simp at hl
  ·rw [mem_ready] at hi
   obtain ⟨h0, o, ho, hpre⟩ := hi
   rw [List.getElem?_toArray] at ho
   have hil : i < all.length := (List.getElem?_eq_some_iff.1 ho).1
   rw [VU true (by omega)] at h0
   by_cases hin : nf ≤ i
   ·exfalso
    have hall : ∀ j, j < nf → listed.getD j false = true := fun j hj => by
     have := Vj (hclI i o ho hpre) i j (hbar i hin hil j hj) (by simp)
     have hne : (j == i) = false := by simp; omega
     simpa only [hne, Bool.or_false] using this
    have : (pend nf fun j => listed.getD j false) = [] := by
     unfold pend
     rw [List.filter_eq_nil_iff]
     intro j hj
     simp [hall j (List.mem_range.1 hj)]
    rw [this] at hl; simp at hl
   have hin : i < nf := by omega
   have hL'i : (listed.setIfInBounds i true).getD i false = true := by simp [Array.getD_eq_getD_getElem?, show i < listed.size by omega]
   have hL'o : ∀ j, j ≠ i → (listed.setIfInBounds i true).getD j false = listed.getD j false := fun j hj => getD_set_ne false (Ne.symm hj)
   rw [MP hin h0] at hrun hl
   have hset := Hj (L := fun j => listed.getD j false) (L' := fun j => (listed.setIfInBounds i true).getD j false) hin hL'i hL'o
   rw [NQ] at hrun
   cases hr1 : runG stp all ((List.range i).filter fun j => !listed.getD j false) st with
   | none => rw [hr1] at hrun; cases hrun
   | some s1 =>
    rw [hr1] at hrun
    simp only [runG, ho] at hrun
    cases hr2 : stp i o s1 with
    | none => rw [hr2] at hrun; cases hrun
    | some s2 =>
     rw [hr2] at hrun
     simp only at hrun
     obtain ⟨t, s', e1, e2, e3⟩ := moveG hS ho _ hr hr1 hr2 fun j hj => by
      rw [List.mem_filter] at hj
      have hji := List.mem_range.1 hj.1
      refine ⟨hji, ?_⟩
      cases hbit : ((Zj all []).getD i 0).testBit j with
      | false => rfl
      | true =>
       have := Vj (hclI i o ho hpre) i j hbit (by simp)
       have hne : (j == i) = false := by simp; omega
       simp only [hne, Bool.or_false] at this
       rw [this] at hj
       simp at hj
     obtain ⟨s3, f1, f2⟩ := StEq.runG hS e3.symm hrun
     have hrun' : runG stp all (pend nf fun j => (listed.setIfInBounds i true).getD j false) t = some s3 := by
      rw [hset, NQ, e2]; exact f1
     have hstep := hS.sound hr e1 ro n (wpAnyIn (FW ro) n P .any all.toArray Q (q + (all.length - nf)) (listed.setIfInBounds i true)) Q (fun a' w' m' H' hd' hb' hr' =>
      ih _ a' w' m' H' t s3 (by simp [hs]) (by
       rw [hset]
       simp only [List.length_append, List.length_cons] at hl ⊢
       omega) (fun j hj => by rw [hL'o j (by omega)]; exact hhi j hj) (fun k o' ho' hLk e he hbd => by
        have : ∀ q, (listed.setIfInBounds i true).getD q false = (listed.getD q false || q == i) := fun q => by
         by_cases hq : q = i
         ·subst hq; rw [hL'i]; simp
         ·rw [hL'o q hq]; have : (q == i) = false := by simpa using hq
          simp [this]
        simp only [this] at hLk ⊢
        exact hclI i o ho hpre k o' ho' hLk e he hbd) (hd'.trans hd) (hb.trans hb') hr' hrun' (f2.symm.trans heq))
     unfold wpOpIn
     simp only [List.getElem?_toArray, ho]
     exact hstep
theorem TQ (hS : Np P B H0 gl rest all stp) (hmix : P.follows .mixedOrders = true) (hok : KT all = true) {ro : Option Nat} {n : Nat} {m : Nat → Lc} {H : HV} {st sF : St} {a : Act} {w : World} {id : Nat}
  (h : RelS m H B H0 gl rest st a.tmps w) (hrun : runG stp all (List.range all.length) (st.bump all.length) = some sF) {Q : Exit → Act → World → Prop}
  (hQ : ∀ (a' : Act) (w' : World) (m : Nat → Lc) (H : HV), a'.defers = a.defers → Q8 B w w' → RelS m H B H0 gl rest sF a'.tmps w' → Q .normal a' w') : (Code.region id all.toArray true).wpIn (FW ro) n P Q a w := by
 refine wpIn_region_any hmix ?_
 have hb : Below w.heap.size w { w with drawn := w.drawn + 1 } := ⟨rfl, rfl, rfl, Nat.le_refl _, fun _ _ => rfl⟩
 have hr0 : RelS m H B H0 gl rest (st.bump all.length) a.tmps { w with drawn := w.drawn + 1 } := by
  have hh := h.heap.ext hb
  exact ⟨{ hh with fresh := fun id hid => hh.fresh id (Nat.le_trans (Nat.le_add_right _ _) hid) }, h.size, h.slot, h.rest⟩
 have := R7 (sF := sF) (nf := all.length) (ro := ro) (n := n) (d0 := a.defers) (w0 := w) (Q := Q) hS hok (Nat.le_refl _) (fun i h1 h2 => by omega) (fun listed a' w' m' H' hs h1 _ hd hb' hr => by
  rw [Nat.sub_self]
  exact ⟨CX hs h1, hQ a' w' m' H' hd hb' hr⟩) _ (Array.replicate all.toArray.size false) a _ m H (st.bump all.length) sF (by simp) rfl (fun j _ => GZ j) (fun j o ho hL => by have hL : (Array.replicate all.toArray.size false).getD j false = true := hL; rw [GZ] at hL; cases hL) rfl (Q8.of hb h.heap.low) hr0 (by rw [Gg]; exact hrun) (.refl _)
 rw [Gg, Nat.sub_self, Nat.add_zero, List.length_range] at this
 simpa using this
theorem Hn (hS : Np P B H0 gl rest all stp) (hmix : P.follows .mixedOrders = true) (hok : KT all = true) (hbar : Mt all = true) {ol : Oper} (hol : all[all.length - 1]? = some ol) (hg : ol.guard = none) {ro : Option Nat} {n : Nat} {m : Nat → Lc} {H : HV} {st sF : St} {a : Act} {w : World} {id : Nat}
  (h : RelS m H B H0 gl rest st a.tmps w) (hrun : runG stp all (List.range (all.length - 1)) (st.bump all.length) = some sF) {Q : Exit → Act → World → Prop}
  (hQ : ∀ (a' : Act) (w' : World) (m : Nat → Lc) (H : HV) (K : Act → World → Prop), a'.defers = a.defers → Q8 B w w' → RelS m H B H0 gl rest sF a'.tmps w' → (∀ a2 w2, Q .normal a2 w2 → K a2 w2) → ol.wpIn (FW ro) n P a' w' K Q) : (Code.region id all.toArray true).wpIn (FW ro) n P Q a w := by
 refine wpIn_region_any hmix ?_
 have hlen : 0 < all.length := by have := (List.getElem?_eq_some_iff.1 hol).1; omega
 have hb : Below w.heap.size w { w with drawn := w.drawn + 1 } := ⟨rfl, rfl, rfl, Nat.le_refl _, fun _ _ => rfl⟩
 have hr0 : RelS m H B H0 gl rest (st.bump all.length) a.tmps { w with drawn := w.drawn + 1 } := by
  have hh := h.heap.ext hb
  exact ⟨{ hh with fresh := fun id hid => hh.fresh id (Nat.le_trans (Nat.le_add_right _ _) hid) }, h.size, h.slot, h.rest⟩
 have hbit : ∀ i, all.length - 1 ≤ i → i < all.length → ∀ j, j < all.length - 1 → ((Zj all []).getD i 0).testBit j = true := fun i h1 h2 j hj => by
  have : i = all.length - 1 := by omega
  subst this
  simp only [Mt, List.all_eq_true] at hbar
  exact hbar j (List.mem_range.2 hj)
 have := R7 (sF := sF) (nf := all.length - 1) (ro := ro) (n := n) (d0 := a.defers) (w0 := w) (Q := Q) hS hok (by omega) hbit (fun listed a' w' m' H' hs h1 h2 hd hb' hr => by
  rw [show all.length - (all.length - 1) = 0 + 1 by omega]
  have hfin : Region.ready .any all.toArray (listed.setIfInBounds (all.length - 1) true) = [] := CX (by simp [hs]) fun j hj => by
   by_cases e : j = all.length - 1
   ·subst e; simp [Array.getD_eq_getD_getElem?, show all.length - 1 < listed.size by omega]
   ·rw [getD_set_ne false (Ne.symm e)]; exact h1 j (by omega)
  refine ⟨fun hready => ?_, fun i hi => ?_⟩
  ·exfalso
   have : all.length - 1 ∈ Region.ready .any all.toArray listed := by
    rw [mem_ready]
    refine ⟨by rw [VU true (by omega)]; exact h2 _ (Nat.le_refl _), ol, by rw [List.getElem?_toArray]; exact hol, fun e he hbd => h1 e.on ?_⟩
    exact (XR hok _ ol hol).before e he hbd
   rw [hready] at this; cases this
  ·rw [mem_ready] at hi
   obtain ⟨h0, o, ho, hpre⟩ := hi
   rw [List.getElem?_toArray] at ho
   have hil : i < all.length := (List.getElem?_eq_some_iff.1 ho).1
   rw [VU true (by omega)] at h0
   have hie : i = all.length - 1 := by
    rcases Nat.lt_or_ge i (all.length - 1) with hlt | hge
    ·rw [h1 i hlt] at h0; cases h0
    ·omega
   subst hie
   rw [hol] at ho; cases ho
   unfold wpOpIn
   simp only [List.getElem?_toArray, hol]
   rw [if_pos (by simp [Region.wanted, hg])]
   exact hQ a' w' m' H' _ hd hb' hr fun a2 w2 hq => ⟨hfin, hq⟩) _ (Array.replicate all.toArray.size false) a _ m H (st.bump all.length) sF (by simp) rfl (fun j _ => GZ j) (fun j o ho hL => by have hL : (Array.replicate all.toArray.size false).getD j false = true := hL; rw [GZ] at hL; cases hL) rfl (Q8.of hb h.heap.low) hr0 (by rw [Gg]; exact hrun) (.refl _)
 rw [Gg, List.length_range, show all.length - 1 + (all.length - (all.length - 1)) = all.length by omega] at this
 simpa using this
end
end HY
end
