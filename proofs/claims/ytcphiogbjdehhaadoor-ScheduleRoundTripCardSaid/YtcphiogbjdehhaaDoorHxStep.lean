/- One operation but calls of functions. -/
import Derived.Test.YtcphiogbjdehhaaDoorHxX
namespace HX
open Go Go.RowKit

def xv (o : Option AV) : Option (AV × Option (Nat × Box)) := match o with | some v => some (v, none) | none => none
def xbuiltin (P : Program) (bid : Nat) (b : Builtin) (ts : List TypeId) (xs : List AV) (hp : Hp) : Option (AV × Option (Nat × Box)) :=
  match b with
  | .len => match ts, xs with
    | [t], [x] => xv (xlen P t x)
    | _, _ => none
  | .max => xv (xmax true xs)
  | .min => xv (xmax false xs)
  | .append => match ts, xs with
    | [t, t'], [s, x] => xappend P bid t t' s x hp
    | _, _ => none
  | _ => none
def xop0 (P : Program) (bid : Nat) (dst : Option Nat) (op : Op) (ev : Operand → AV) (hp : Hp) : Option (AV × Option (Nat × Box)) :=
  match op with
  | .move x => some (ev x, none)
  | .assign x => some (ev x, none)
  | .pick c x y => match ev c with
    | .bool b => some (if b = true then ev x else ev y, none)
    | _ => none
  | .alloc t => match zeroI P t with
    | some z => if z.okc = true then some (xnewT (tagT P t) bid z.cells) else none
    | none => none
  | .box _ x => if (ev x).okc = true then some (xnew bid (ev x).cells) else none
  | .build t parts => xv (xbuild P t (parts.toList.map fun p => (p.1, ev p.2)))
  | .buildSlice t len parts => xbuildSlice P bid t len (parts.toList.map fun p => (p.1, ev p.2))
  | .load t x => xv (xload P t (ev x) hp)
  | .store t x y => if dst.isNone then xstore P t (ev x) (ev y) hp else none
  | .binOp op t x y _ => xv (xbin P op t (ev x) (ev y))
  | .unOp op _ x => xv (xun op (ev x))
  | .convert src to x => xv (xconv P src to (ev x))
  | .makeFunc (.func f) first caps => if first.size = 0 then some (.fn f (caps.toList.map ev), none) else none
  | .makeSlice t l c => xmakeSlice P bid t (ev l) (ev c)
  | .slice t x lo hi mx => xv (xslice P t (ev x) (lo.map ev) (hi.map ev) (mx.map ev))
  | .fieldAddr s x f => xv (xfieldAddr P s (ev x) f)
  | .field s x f => xv (xfield P s (ev x) f)
  | .indexAddr t x i => xv (xindexAddr P t (ev x) (ev i))
  | .index t x i => xv (xindex P t (ev x) (ev i))
  | .extract x j => xv (xextract (ev x) j)
  | .nilCheck x => match ev x with
    | .ptr id ver off => some (.ptr id ver off, none)
    | .ip sz xs i off => some (.ip sz xs i off, none)
    | .fn f cs => some (.fn f cs, none)
    | .yld id => some (.yld id, none)
    | _ => none
  | .call c => match c.callee with
    | .builtin b => xbuiltin P bid b c.argTypes.toList (c.args.toList.map ev) hp
    | _ => none
  | _ => none

section
variable {P : Program} {m : Nat → Lc} {H : HV} {B : Nat} {H0 : HV} {gl : Nat → AV} {rest : List (AV × Value)} {st : St} {a : Act} {w : World}

theorem xv_inv {o : Option AV} {r : AV × Option (Nat × Box)} (h : xv o = some r) : ∃ v, o = some v ∧ r = (v, none) := by
  cases o with
  | none => cases h
  | some v => cases h; exact ⟨v, rfl, rfl⟩

theorem parts_rel (h : RelS m H B H0 gl rest st a.tmps w) (ps : List (Nat × Operand)) :
    (ps.map fun p => (p.1, st.ev gl p.2)).length = (ps.map fun p => (p.1, a.eval p.2)).length ∧
      ∀ (k : Nat) (x : Nat × AV) (y : Nat × Value), (ps.map fun p => (p.1, st.ev gl p.2))[k]? = some x → (ps.map fun p => (p.1, a.eval p.2))[k]? = some y → x.1 = y.1 ∧ RV H (st.env m) x.2 y.2 := by
  refine ⟨by simp, fun k x y hx hy => ?_⟩
  simp only [List.getElem?_map, Option.map_eq_some_iff] at hx hy
  obtain ⟨p, hp, rfl⟩ := hx
  obtain ⟨q, hq, rfl⟩ := hy
  rw [hp] at hq; cases hq
  exact ⟨rfl, h.ev p.2⟩

theorem list_rel (h : RelS m H B H0 gl rest st a.tmps w) (xs : List Operand) :
    (xs.map (st.ev gl)).length = (xs.map a.eval).length ∧ ∀ (j : Nat) (c : AV) (v : Value), (xs.map (st.ev gl))[j]? = some c → (xs.map a.eval)[j]? = some v → RV H (st.env m) c v := by
  refine ⟨by simp, fun k x y hx hy => ?_⟩
  simp only [List.getElem?_map, Option.map_eq_some_iff] at hx hy
  obtain ⟨p, hp, rfl⟩ := hx
  obtain ⟨q, hq, rfl⟩ := hy
  rw [hp] at hq; cases hq
  exact h.ev p

theorem opt_rel (h : RelS m H B H0 gl rest st a.tmps w) (o : Option Operand) : (o.map (st.ev gl) = none ∧ o.map a.eval = none) ∨ ∃ x u, o.map (st.ev gl) = some x ∧ o.map a.eval = some u ∧ RV H (st.env m) x u := by
  cases o with
  | none => exact .inl ⟨rfl, rfl⟩
  | some x => exact .inr ⟨_, _, rfl, rfl, h.ev x⟩

set_option maxHeartbeats 1000000 in
theorem xop0_ok (h : RelS m H B H0 gl rest st a.tmps w) {o : Oper} (hd : dstOk o.dst st.n = true) {bid : Nat} (hb : lkb st.hp bid = none) (hn : bid < st.nx) {r : AV × Option (Nat × Box)} (hk : xop0 P bid o.dst o.op (st.ev gl) (lkb st.hp) = some r) :
    OpOk P B H0 gl rest a w o.dst (st.eff o.dst r) (execOp a.eval o) := by
  unfold xop0 at hk
  unfold execOp
  split at hk
  · rename_i x ho; simp only [ho]; cases hk; exact OpOk.val h hd rfl (h.ev x)
  · rename_i x ho; simp only [ho]; cases hk; exact OpOk.val h hd rfl (h.ev x)
  · rename_i c x y ho
    simp only [ho]
    split at hk
    · rename_i b hc
      have hc' := h.ev c
      rw [hc] at hc'
      have hc' := hc'.bool_inv
      cases hk
      cases b
      · exact OpOk.val h hd (by simp [hc', asBool]) (h.ev y)
      · exact OpOk.val h hd (by simp [hc', asBool]) (h.ev x)
    · cases hk
  · rename_i t ho
    simp only [ho]
    split at hk
    · rename_i z hz
      split at hk
      · rename_i hok
        cases hk
        obtain ⟨i, v, hi, hv, rfl⟩ := zeroI_inv hz
        exact new_okT h hd hb hn (.imm _ _ (ofV_rel H v)) hok (tagT_spec P t) (by simp [Instr.alloc, zeroValue, typeInfo, hi, hv, newVar, newRow])
      · cases hk
    · cases hk
  · rename_i t x ho
    simp only [ho]
    split at hk
    · rename_i hok
      cases hk
      exact new_ok h hd hb hn (h.ev x) hok (by simp [Instr.box, newVar, newRow]; rfl)
    · cases hk
  · rename_i t ps ho
    simp only [ho]
    obtain ⟨v, h1, rfl⟩ := xv_inv hk
    have hp := parts_rel h ps.toList
    obtain ⟨u, h2, h3⟩ := xbuild_ok (P := P) (w := w) (parts := ps.map fun p => (p.1, a.eval p.2)) (by rw [Array.toList_map]; exact hp) h1
    exact OpOk.val h hd (by rw [Sem.run_bind, h2]; rfl) h3
  · rename_i t len ps ho
    simp only [ho]
    have hp := parts_rel h ps.toList
    have hp' : (ps.toList.map fun p => (p.1, st.ev gl p.2)).length = (ps.map fun p => (p.1, a.eval p.2)).toList.length ∧ ∀ (k : Nat) (x : Nat × AV) (y : Nat × Value), (ps.toList.map fun p => (p.1, st.ev gl p.2))[k]? = some x → (ps.map fun p => (p.1, a.eval p.2)).toList[k]? = some y → x.1 = y.1 ∧ RV H (st.env m) x.2 y.2 := by rw [Array.toList_map]; exact hp
    have := xbuildSlice_ok (P := P) h hd hb hn hp' hk
    exact this
  · rename_i t x ho
    simp only [ho]
    obtain ⟨v, h1, rfl⟩ := xv_inv hk
    obtain ⟨u, h2, h3⟩ := xload_ok (P := P) h.heap (h.ev x) h1
    exact OpOk.val h hd (by rw [Sem.run_bind, h2]; rfl) h3
  · rename_i t x y ho
    simp only [ho]
    split at hk
    · rename_i hdn
      exact xstore_ok h (by simpa using hdn) (h.ev x) (h.ev y) hk
    · cases hk
  · rename_i op t x y ty ho
    simp only [ho]
    obtain ⟨v, h1, rfl⟩ := xv_inv hk
    obtain ⟨u, h2, hg, h3⟩ := xbin_ok (P := P) (w := w) (ox := x) (oy := y) (h.ev x) (h.ev y) h1
    exact OpOk.val h hd (v := u) (by simp [hg, h2]) (.imm _ _ (h3 _))
  · rename_i op t x ho
    simp only [ho]
    obtain ⟨v, h1, rfl⟩ := xv_inv hk
    obtain ⟨u, h2, h3⟩ := xun_ok (P := P) (w := w) (h.ev x) h1
    exact OpOk.val h hd (v := u) (by simp [h2]) (.imm _ _ (h3 _))
  · rename_i src to x ho
    simp only [ho]
    obtain ⟨v, h1, rfl⟩ := xv_inv hk
    obtain ⟨u, h2, h3⟩ := xconv_ok (P := P) (w := w) (h.ev x) h1
    exact OpOk.val h hd (v := u) (by simp [h2]) (.imm _ _ (h3 _))
  · rename_i f first caps ho
    simp only [ho]
    split at hk
    · rename_i h0
      cases hk
      have : first = #[] := Array.eq_empty_of_size_eq_zero h0
      subst this
      have hl := list_rel h caps.toList
      refine OpOk.val h hd (v := .func (.func f) #[] (caps.map a.eval)) (by simp [Instr.makeFunc]) ?_
      refine .fn f _ _ (by simp) fun j c v hj hv => ?_
      exact hl.2 j c v hj (by rw [← hv]; simp)
    · cases hk
  · rename_i t l c ho
    simp only [ho]
    exact xmakeSlice_ok h hd hb hn (h.ev l) (h.ev c) hk
  · rename_i t x lo hi mx ho
    simp only [ho]
    obtain ⟨v, h1, rfl⟩ := xv_inv hk
    obtain ⟨u, h2, h3⟩ := xslice_ok (P := P) (w := w) (h.ev x) (opt_rel h lo) (opt_rel h hi) (opt_rel h mx) h1
    exact OpOk.val h hd (v := u) (by simp [h2]) h3
  · rename_i s x f ho
    simp only [ho]
    obtain ⟨v, h1, rfl⟩ := xv_inv hk
    obtain ⟨u, h2, h3⟩ := xfieldAddr_ok (P := P) (w := w) (h.ev x) h1
    exact OpOk.val h hd (v := u) (by simp [h2]) h3
  · rename_i s x f ho
    simp only [ho]
    obtain ⟨v, h1, rfl⟩ := xv_inv hk
    obtain ⟨u, h2, h3⟩ := xfield_ok (P := P) (w := w) (h.ev x) h1
    exact OpOk.val h hd (v := u) (by simp [h2]) h3
  · rename_i t x i ho
    simp only [ho]
    obtain ⟨v, h1, rfl⟩ := xv_inv hk
    obtain ⟨u, h2, h3⟩ := xindexAddr_ok (P := P) (w := w) (h.ev x) (h.ev i) h1
    exact OpOk.val h hd (v := u) (by simp [h2]) h3
  · rename_i t x i ho
    simp only [ho]
    obtain ⟨v, h1, rfl⟩ := xv_inv hk
    obtain ⟨u, h2, h3⟩ := xindex_ok (P := P) (w := w) (h.ev x) (h.ev i) h1
    exact OpOk.val h hd (v := u) (by simp [h2]) h3
  · rename_i x j ho
    simp only [ho]
    obtain ⟨v, h1, rfl⟩ := xv_inv hk
    obtain ⟨u, h2, h3⟩ := xextract_ok (P := P) (w := w) (h.ev x) h1
    exact OpOk.val h hd (v := u) (by simp [h2]) h3
  · rename_i x ho
    simp only [ho]
    have hx := h.ev x
    split at hk
    · rename_i id ver off he
      cases hk
      rw [he] at hx
      have hx' := hx
      obtain ⟨ad, hp, _⟩ := hx.ptr_inv
      exact OpOk.val h hd (v := a.eval x) (by rw [hp]; rfl) hx'
    · rename_i sz xs i off he
      cases hk
      rw [he] at hx
      have hx' := hx
      have : ∃ ad, a.eval x = .pointer (some ad) := by
        have := hx.ip_inv
        generalize a.eval x = u at this
        cases this; exact ⟨_, rfl⟩
      obtain ⟨ad, hp⟩ := this
      exact OpOk.val h hd (v := a.eval x) (by rw [hp]; rfl) hx'
    · rename_i f cs he
      cases hk
      rw [he] at hx
      have hx' := hx
      obtain ⟨vs, hp, _⟩ := hx.fn_inv
      exact OpOk.val h hd (v := a.eval x) (by rw [hp]; rfl) hx'
    · rename_i id he
      cases hk
      rw [he] at hx
      have hx' := hx
      obtain ⟨l, hp, _⟩ := hx.yld_inv
      exact OpOk.val h hd (v := a.eval x) (by rw [hp]; rfl) hx'
    · cases hk
  · rename_i c ho
    simp only [ho]
    split at hk
    · rename_i b hb'
      obtain ⟨callee, args, argTypes⟩ := c
      dsimp only at hb'
      subst hb'
      simp only [resolve]
      have hargs : args.map a.eval = (args.toList.map a.eval).toArray := by apply Array.ext'; rw [Array.toList_map]
      have hl := list_rel h args.toList
      unfold xbuiltin at hk
      split at hk
      · split at hk
        · rename_i t x ht hx
          obtain ⟨v, h1, rfl⟩ := xv_inv hk
          obtain ⟨y, hy, rfl⟩ : ∃ y, args.toList = [y] ∧ st.ev gl y = x := by
            match hh : args.toList with
            | [] => rw [hh] at hx; cases hx
            | [y] => rw [hh] at hx; simp only [List.map_cons, List.map_nil, List.cons.injEq, and_true] at hx; exact ⟨y, rfl, hx⟩
            | _ :: _ :: _ => rw [hh] at hx; simp at hx
          have e1 : argTypes = #[t] := by cases argTypes; simpa using ht
          have e2 : args = #[y] := by cases args; simpa using hy
          subst e1; subst e2
          obtain ⟨u, h2, h3⟩ := xlen_ok (P := P) (w := w) (ty := o.type) (h.ev y) h1
          refine OpOk.val h hd (v := u) ?_ (.imm _ _ (h3 _))
          simp only [Sem.run_bind, Sem.run_pure, Result.andThen_ok, invoke, builtin, List.map_toArray, List.map_cons, List.map_nil, h2]
        · cases hk
      · obtain ⟨v, h1, rfl⟩ := xv_inv hk
        obtain ⟨u, h2, h3⟩ := xmax_ok (P := P) (w := w) true hl h1 argTypes o.type
        refine OpOk.val h hd (v := u) ?_ (.imm _ _ (h3 _))
        rw [if_pos rfl] at h2
        simp only [Sem.run_bind, Sem.run_pure, Result.andThen_ok, invoke, builtin]
        rw [hargs, h2]; rfl
      · obtain ⟨v, h1, rfl⟩ := xv_inv hk
        obtain ⟨u, h2, h3⟩ := xmax_ok (P := P) (w := w) false hl h1 argTypes o.type
        refine OpOk.val h hd (v := u) ?_ (.imm _ _ (h3 _))
        rw [if_neg (by simp)] at h2
        simp only [Sem.run_bind, Sem.run_pure, Result.andThen_ok, invoke, builtin]
        rw [hargs, h2]; rfl
      · split at hk
        · rename_i t t' s x ht hx
          obtain ⟨y, z, hy, rfl, rfl⟩ : ∃ y z, args.toList = [y, z] ∧ st.ev gl y = s ∧ st.ev gl z = x := by
            match hh : args.toList with
            | [] => rw [hh] at hx; cases hx
            | [y] => rw [hh] at hx; simp at hx
            | [y, z] => rw [hh] at hx; simp only [List.map_cons, List.map_nil, List.cons.injEq, and_true] at hx; exact ⟨y, z, rfl, hx⟩
            | _ :: _ :: _ :: _ => rw [hh] at hx; simp at hx
          have e1 : argTypes = #[t, t'] := by cases argTypes; simpa using ht
          have e2 : args = #[y, z] := by cases args; simpa using hy
          subst e1; subst e2
          have := xappend_ok (ty := o.type) h hd hb hn (h.ev y) (h.ev z) hk
          simpa only [List.map_toArray, List.map_cons, List.map_nil, invoke, builtin, pure_bind] using this
        · cases hk
      · cases hk
    · cases hk
  · cases hk

/-- Operations that look into boxes beside loads and stores. -/
def xopX (P : Program) (bid : Nat) (op : Op) (ev : Operand → AV) (hp : Hp) : Option (AV × Option (Nat × Box)) :=
  match op with
  | .binOp o t x y _ => xv (xptrEq P o t (ev x) (ev y) hp)
  | .convert src to x => xv (xconvP P src to (ev x) hp)
  | .call c => match c.callee with
    | .builtin b => match b with
      | .append => match c.argTypes.toList, c.args.toList.map ev with
        | [t, t'], [s, x] => xappS P bid t t' s x hp
        | _, _ => none
      | .unsafeSliceData => match c.args.toList.map ev with
        | [x] => xv (xsdata x)
        | _ => none
      | .unsafeString => match c.argTypes.toList, c.args.toList.map ev with
        | [pt, _], [p, n] => xustr P pt p n hp
        | _, _ => none
      | _ => none
    | _ => none
  | _ => none
def xop (P : Program) (bid : Nat) (dst : Option Nat) (op : Op) (ev : Operand → AV) (hp : Hp) : Option (AV × Option (Nat × Box)) :=
  match xop0 P bid dst op ev hp with
  | some r => some r
  | none => xopX P bid op ev hp
theorem xop_of0 {bid : Nat} {dst : Option Nat} {op : Op} {ev : Operand → AV} {hp : Hp} {r : AV × Option (Nat × Box)} (h : xop0 P bid dst op ev hp = some r) : xop P bid dst op ev hp = some r := by unfold xop; rw [h]

theorem two_args {args : Array Operand} {f : Operand → AV} {s x : AV} (h : args.toList.map f = [s, x]) : ∃ y z, args = #[y, z] ∧ f y = s ∧ f z = x := by
  match hh : args.toList with
  | [] => rw [hh] at h; cases h
  | [y] => rw [hh] at h; simp at h
  | [y, z] => rw [hh] at h; simp only [List.map_cons, List.map_nil, List.cons.injEq, and_true] at h; exact ⟨y, z, by cases args; simpa using hh, h.1, h.2⟩
  | _ :: _ :: _ :: _ => rw [hh] at h; simp at h
theorem one_arg {args : Array Operand} {f : Operand → AV} {s : AV} (h : args.toList.map f = [s]) : ∃ y, args = #[y] ∧ f y = s := by
  match hh : args.toList with
  | [] => rw [hh] at h; cases h
  | [y] => rw [hh] at h; simp only [List.map_cons, List.map_nil, List.cons.injEq, and_true] at h; exact ⟨y, by cases args; simpa using hh, h⟩
  | _ :: _ :: _ => rw [hh] at h; simp at h
theorem two_types {ts : Array TypeId} {t t' : TypeId} (h : ts.toList = [t, t']) : ts = #[t, t'] := by cases ts; simpa using h

theorem xopX_ok (h : RelS m H B H0 gl rest st a.tmps w) {o : Oper} (hd : dstOk o.dst st.n = true) {bid : Nat} (hb : lkb st.hp bid = none) (hn : bid < st.nx) {r : AV × Option (Nat × Box)} (hk : xopX P bid o.op (st.ev gl) (lkb st.hp) = some r) :
    OpOk P B H0 gl rest a w o.dst (st.eff o.dst r) (execOp a.eval o) := by
  unfold xopX at hk
  unfold execOp
  split at hk
  · rename_i op t x y ty ho
    simp only [ho]
    obtain ⟨v, h1, rfl⟩ := xv_inv hk
    obtain ⟨u, h2, hg, h3⟩ := xptrEq_ok (P := P) (ox := x) (oy := y) h.heap (h.ev x) (h.ev y) h1
    exact OpOk.val h hd (v := u) (by simp [hg, h2]) (.imm _ _ (h3 _))
  · rename_i src to x ho
    simp only [ho]
    obtain ⟨v, h1, rfl⟩ := xv_inv hk
    obtain ⟨u, h2, h3⟩ := xconvP_ok (P := P) h.heap (h.ev x) h1
    exact OpOk.val h hd (v := u) (by simp [h2]) h3
  · rename_i c ho
    simp only [ho]
    split at hk
    · rename_i b hb'
      obtain ⟨callee, args, argTypes⟩ := c
      dsimp only at hb'
      subst hb'
      simp only [resolve]
      split at hk
      · split at hk
        · rename_i t t' s x ht hx
          obtain ⟨y, z, rfl, rfl, rfl⟩ := two_args hx
          obtain rfl := two_types ht
          have := xappS_ok (ty := o.type) h hd hb hn (h.ev y) (h.ev z) hk
          simpa only [List.map_toArray, List.map_cons, List.map_nil, invoke, builtin, pure_bind] using this
        · cases hk
      · split at hk
        · rename_i x hx
          obtain ⟨v, h1, rfl⟩ := xv_inv hk
          obtain ⟨y, rfl, rfl⟩ := one_arg hx
          obtain ⟨u, h2, h3⟩ := xsdata_ok (P := P) (w := w) (ts := argTypes) (ty := o.type) (h.ev y) h1
          refine OpOk.val h hd (v := u) ?_ h3
          simp only [Sem.run_bind, Sem.run_pure, Result.andThen_ok, invoke, builtin, List.map_toArray, List.map_cons, List.map_nil, h2]
        · cases hk
      · split at hk
        · rename_i pt it p n ht hx
          obtain ⟨y, z, rfl, rfl, rfl⟩ := two_args hx
          obtain rfl := two_types ht
          have := xustr_ok (it := it) (ty := o.type) h hd (h.ev y) (h.ev z) hk
          simpa only [List.map_toArray, List.map_cons, List.map_nil, invoke, builtin, pure_bind] using this
        · cases hk
      · cases hk
    · cases hk
  · cases hk
theorem xop_ok (h : RelS m H B H0 gl rest st a.tmps w) {o : Oper} (hd : dstOk o.dst st.n = true) {bid : Nat} (hb : lkb st.hp bid = none) (hn : bid < st.nx) {r : AV × Option (Nat × Box)} (hk : xop P bid o.dst o.op (st.ev gl) (lkb st.hp) = some r) :
    OpOk P B H0 gl rest a w o.dst (st.eff o.dst r) (execOp a.eval o) := by
  unfold xop at hk
  split at hk
  · rename_i r' hr; cases hk; exact xop0_ok h hd hb hn hr
  · exact xopX_ok h hd hb hn hk
end
end HX
