/- A part of the proof of the statement that the last of these texts proves. -/
import Derived.Test.YtfpegbpngbchfaaGreatDoorP1
import Derived.Laws.Cover4
import Derived.MapKept
import Derived.OrdersIn
import Derived.RangeFuncLeaves
import Derived.RangeFuncOwn
set_option linter.unusedVariables false
set_option linter.unusedSimpArgs false
section
namespace HY
open Go Go.RowKit Go.MapKept
def strMap (P : Program) (t : TypeId) : Option TypeId :=
  match P.underlying t with
  | some (.map k e) => bif isStrT P k then some e else none
  | _ => none
theorem strMap_ok {P : Program} {t e : TypeId} (h : strMap P t = some e) : ∃ k, P.underlying t = some (.map k e) ∧ P.underlying k = some .string := by
  unfold strMap at h
  split at h
  · rename_i k e' hu
    cases hs : isStrT P k with
    | true => rw [hs] at h; cases h; exact ⟨k, hu, isStrT_ok hs⟩
    | false => rw [hs] at h; cases h
  · cases h
def mfind (k : List UInt8) : List (List UInt8 × AV) → Nat → Option (Nat × AV)
  | [], _ => none
  | p :: r, i => bif p.1 == k then some (i, p.2) else mfind k r (i + 1)
def xlookup (P : Program) (t : TypeId) (x i : AV) (ok : Bool) (hp : Hp) : Option AV :=
  match x with
  | .mp id => match hp id with
    | some (.map es) => match i with
      | .str k => match strMap P t with
        | some e => match mfind k es 0 with
          | some (_, v) => some (bif ok then .tup [v, .bool true] else v)
          | none => match zeroI P e with
            | some z => some (bif ok then .tup [z, .bool false] else z)
            | none => none
        | none => none
      | _ => none
    | _ => none
  | _ => none
section
variable {H : HV} {E : Env}
def MapAt (H : HV) (E : Env) (es : List (List UInt8 × AV)) (A : Array MapEntry) : Prop :=
  A.size = es.length ∧ ∀ (j : Nat) (k : List UInt8) (x : AV) (e : MapEntry), es[j]? = some (k, x) → A[j]? = some e → e.key = .string ⟨k.toArray⟩ ∧ RV H E x e.val
theorem bytes_inj {a b : List UInt8} : ((⟨a.toArray⟩ : ByteArray) == ⟨b.toArray⟩) = (b == a) := by
  by_cases h : b = a
  · subst h; rw [(bytes_beq _ _).2 rfl]; simp
  · have h1 : ((⟨a.toArray⟩ : ByteArray) == ⟨b.toArray⟩) = false := by
      cases hq : ((⟨a.toArray⟩ : ByteArray) == ⟨b.toArray⟩) with
      | false => rfl
      | true =>
        have := (bytes_beq _ _).1 hq
        simp only [ByteArray.mk.injEq] at this
        exact absurd (by simpa using this.symm) h
    rw [h1]; simp [h]
theorem findNow_mfind (s : List UInt8) : ∀ (es : List (List UInt8 × AV)) (L : List MapEntry) (i : Nat), L.length = es.length → (∀ (j : Nat) (k : List UInt8) (x : AV) (e : MapEntry), es[j]? = some (k, x) → L[j]? = some e → e.key = .string ⟨k.toArray⟩ ∧ RV H E x e.val) →
    match mfind s es i with
    | none => Instr.findNow .string (.string ⟨s.toArray⟩) L i = some none
    | some (j, x) => ∃ q e, j = i + q ∧ Instr.findNow .string (.string ⟨s.toArray⟩) L i = some (some (j, e.val)) ∧ L[q]? = some e ∧ es[q]? = some (s, x)
  | [], [], i, _, _ => rfl
  | [], _ :: _, _, h, _ => by simp at h
  | _ :: _, [], _, h, _ => by simp at h
  | p :: es, e :: L, i, hl, h => by
    obtain ⟨hk, hv⟩ := h 0 p.1 p.2 e rfl rfl
    simp only [mfind, Instr.findNow, hk, Instr.sameNow, bytes_inj]
    cases hp : (p.1 == s) with
    | true =>
      simp only [cond_true]
      have : p.1 = s := by simpa using hp
      exact ⟨0, e, rfl, rfl, rfl, by subst this; rfl⟩
    | false =>
      simp only [cond_false]
      have ih := findNow_mfind s es L (i + 1) (by simpa using hl) fun j k x e h1 h2 => h (j + 1) k x e (by simpa using h1) (by simpa using h2)
      split
      · rename_i hm; rw [hm] at ih; exact ih
      · rename_i j x hm
        rw [hm] at ih
        obtain ⟨q, e', h1, h2, h3, h4⟩ := ih
        exact ⟨q + 1, e', by omega, h2, by simpa using h3, by simpa using h4⟩
theorem mapAt_find {es : List (List UInt8 × AV)} {A : Array MapEntry} (h : MapAt H E es A) (s : List UInt8) :
    match mfind s es 0 with
    | none => Instr.findNow .string (.string ⟨s.toArray⟩) A.toList 0 = some none
    | some (j, x) => ∃ e, Instr.findNow .string (.string ⟨s.toArray⟩) A.toList 0 = some (some (j, e.val)) ∧ A[j]? = some e ∧ es[j]? = some (s, x) := by
  have := findNow_mfind (H := H) (E := E) s es A.toList 0 (by simpa using h.1) fun j k x e h1 h2 => h.2 j k x e h1 (by simpa using h2)
  split
  · rename_i hm; rw [hm] at this; exact this
  · rename_i j x hm
    rw [hm] at this
    obtain ⟨q, e, h1, h2, h3, h4⟩ := this
    have : j = q := by omega
    subst this
    exact ⟨e, h2, by simpa using h3, h4⟩
end
section
variable {P : Program} {m : Nat → Lc} {H : HV} {B : Nat → Prop} {H0 : HV} {gl : Nat → AV} {rest : List (AV × Value)} {st : St} {a : Act} {w : World}
theorem mp_at {nx : Nat} {hp : Hp} (h : RelH m H B H0 gl hp nx w) {id : Nat} {es : List (List UInt8 × AV)} (hid : hp id = some (.map es)) : ∃ A c, w.heap[(m id).g]? = some (.map A c) ∧ MapAt H (envOf hp m) es A ∧ (envOf hp m).lp id = some (m id).g := by
  obtain ⟨A, c, h1, h2, h3⟩ := h.box id _ hid
  exact ⟨A, c, h1, ⟨h2, h3⟩, by simp [envOf, hid]⟩
theorem isK (s : List UInt8) : IsKey .string (.string ⟨s.toArray⟩) := by simp [IsKey]
theorem xlookup_ok {nx : Nat} {hp : Hp} (h : RelH m H B H0 gl hp nx w) {t : TypeId} {x i r : AV} {u v : Value} {ok : Bool} (hx : RV H (envOf hp m) x u) (hi : RV H (envOf hp m) i v) (hk : xlookup P t x i ok hp = some r) :
    ∃ y, (Instr.lookup t u v ok).run P w = .ok y w ∧ RV H (envOf hp m) r y := by
  unfold xlookup at hk
  split at hk <;> first | cases hk | skip
  split at hk <;> first | cases hk | skip
  rename_i id _ es hid
  split at hk <;> first | cases hk | skip
  rename_i _ s
  split at hk <;> first | cases hk | skip
  rename_i e he
  obtain ⟨kt, hm, hkt⟩ := strMap_ok he
  obtain ⟨A, c, hA, hat, hlp⟩ := mp_at h hid
  obtain ⟨l, rfl, hl⟩ := hx.mp_inv
  rw [hlp] at hl; cases hl
  rw [hi.str_inv]
  have hf := mapAt_find hat s
  split at hk
  · rename_i j x hmf
    rw [hmf] at hf
    cases hk
    obtain ⟨en, f1, f2, f3⟩ := hf
    obtain ⟨_, hv⟩ := hat.2 j s x en f3 f2
    have hrun : (Instr.lookup t (.map (some (m id).g)) (.string ⟨s.toArray⟩) ok).run P w = .ok (if ok then .tuple #[en.val, .bool true] else en.val) w := by
      simp [Instr.lookup, run_underlying hm, run_getObj_map hA, run_checkKey hkt (isK s), run_findKey hkt f1, Result.andThen]
    refine ⟨_, hrun, ?_⟩
    cases ok with
    | false => exact hv
    | true =>
      refine .tup _ _ rfl fun q c y hq hy => ?_
      match q with
      | 0 => simp at hq hy; subst hq; subst hy; exact hv
      | 1 => simp at hq hy; subst hq; subst hy; exact .imm _ _ (.bool _)
      | q + 2 => simp at hq
  · rename_i hmf
    rw [hmf] at hf
    simp only at hf
    split at hk <;> first | cases hk | skip
    rename_i z hz
    obtain ⟨ii, zv, hii, hiz, rfl⟩ := zeroI_inv hz
    have hzr : (zeroValue e).run P w = .ok zv w := by simp [zeroValue, typeInfo, hii, hiz, Result.andThen]
    have hzv : ∀ H, RelI H (ofV zv) zv := fun H => ofV_rel H zv
    have hrun : (Instr.lookup t (.map (some (m id).g)) (.string ⟨s.toArray⟩) ok).run P w = .ok (if ok then .tuple #[zv, .bool false] else zv) w := by
      simp [Instr.lookup, run_underlying hm, run_getObj_map hA, run_checkKey hkt (isK s), run_findKey hkt hf, Result.andThen, hzr]
    refine ⟨_, hrun, ?_⟩
    cases ok with
    | false => exact .imm _ _ (hzv H)
    | true =>
      refine .tup _ _ rfl fun q c y hq hy => ?_
      match q with
      | 0 => simp at hq hy; subst hq; subst hy; exact .imm _ _ (hzv H)
      | 1 => simp at hq hy; subst hq; subst hy; exact .imm _ _ (.bool _)
      | q + 2 => simp at hq
end
end HY
end
section
namespace HY
open Go Go.RowKit
def xv (o : Option AV) : Option (AV × Option (Nat × Box)) := match o with | some v => some (v, none) | none => none
def xbuiltin (P : Program) (bid : Nat) (b : Builtin) (ts : List TypeId) (xs : List AV) (hp : Hp) : Option (AV × Option (Nat × Box)) :=
  match b with
  | .len => match ts, xs with
    | [t], [x] => xv (xlen P t x)
    | _, _ => none
  | .max => xv (xmax true xs)
  | .min => xv (xmax false xs)
  | .append => match ts, xs with
    | [t, t'], [s, x] => xappend P bid t t' s x hp
    | _, _ => none
  | _ => none
def xop0 (P : Program) (bid : Nat) (dst : Option Nat) (op : Op) (ev : Operand → AV) (hp : Hp) : Option (AV × Option (Nat × Box)) :=
  match op with
  | .move x => some (ev x, none)
  | .assign x => some (ev x, none)
  | .pick c x y => match ev c with
    | .bool b => some (if b = true then ev x else ev y, none)
    | _ => none
  | .alloc t => match zeroI P t with
    | some z => if z.okc = true then some (xnewT (tagT P t) bid z.cells) else none
    | none => none
  | .box _ x => if (ev x).okc = true then some (xnew bid (ev x).cells) else none
  | .build t parts => xv (xbuild P t (parts.toList.map fun p => (p.1, ev p.2)))
  | .buildSlice t len parts => xbuildSlice P bid t len (parts.toList.map fun p => (p.1, ev p.2))
  | .load t x => xv (xload P t (ev x) hp)
  | .store t x y => if dst.isNone then xstore P t (ev x) (ev y) hp else none
  | .binOp op t x y _ => xv (xbin P op t (ev x) (ev y))
  | .unOp op _ x => xv (xun op (ev x))
  | .convert src to x => xv (xconv P src to (ev x))
  | .makeFunc (.func f) first caps => if first.size = 0 then some (.fn f (caps.toList.map ev), none) else none
  | .makeSlice t l c => xmakeSlice P bid t (ev l) (ev c)
  | .slice t x lo hi mx => xv (xslice P t (ev x) (lo.map ev) (hi.map ev) (mx.map ev))
  | .fieldAddr s x f => xv (xfieldAddr P s (ev x) f)
  | .field s x f => xv (xfield P s (ev x) f)
  | .indexAddr t x i => xv (xindexAddr P t (ev x) (ev i))
  | .index t x i => xv (xindex P t (ev x) (ev i))
  | .extract x j => xv (xextract (ev x) j)
  | .nilCheck x => match ev x with
    | .ptr id ver off => some (.ptr id ver off, none)
    | .ip sz xs i off => some (.ip sz xs i off, none)
    | .fn f cs => some (.fn f cs, none)
    | .yld id => some (.yld id, none)
    | _ => none
  | .call c => match c.callee with
    | .builtin b => xbuiltin P bid b c.argTypes.toList (c.args.toList.map ev) hp
    | _ => none
  | _ => none
section
variable {P : Program} {m : Nat → Lc} {H : HV} {B : Nat → Prop} {H0 : HV} {gl : Nat → AV} {rest : List (AV × Value)} {st : St} {a : Act} {w : World}
theorem xv_inv {o : Option AV} {r : AV × Option (Nat × Box)} (h : xv o = some r) : ∃ v, o = some v ∧ r = (v, none) := by
  cases o with
  | none => cases h
  | some v => cases h; exact ⟨v, rfl, rfl⟩
theorem parts_rel (h : RelS m H B H0 gl rest st a.tmps w) (ps : List (Nat × Operand)) :
    (ps.map fun p => (p.1, st.ev gl p.2)).length = (ps.map fun p => (p.1, a.eval p.2)).length ∧
      ∀ (k : Nat) (x : Nat × AV) (y : Nat × Value), (ps.map fun p => (p.1, st.ev gl p.2))[k]? = some x → (ps.map fun p => (p.1, a.eval p.2))[k]? = some y → x.1 = y.1 ∧ RV H (st.env m) x.2 y.2 := by
  refine ⟨by simp, fun k x y hx hy => ?_⟩
  simp only [List.getElem?_map, Option.map_eq_some_iff] at hx hy
  obtain ⟨p, hp, rfl⟩ := hx
  obtain ⟨q, hq, rfl⟩ := hy
  rw [hp] at hq; cases hq
  exact ⟨rfl, h.ev p.2⟩
theorem list_rel (h : RelS m H B H0 gl rest st a.tmps w) (xs : List Operand) :
    (xs.map (st.ev gl)).length = (xs.map a.eval).length ∧ ∀ (j : Nat) (c : AV) (v : Value), (xs.map (st.ev gl))[j]? = some c → (xs.map a.eval)[j]? = some v → RV H (st.env m) c v := by
  refine ⟨by simp, fun k x y hx hy => ?_⟩
  simp only [List.getElem?_map, Option.map_eq_some_iff] at hx hy
  obtain ⟨p, hp, rfl⟩ := hx
  obtain ⟨q, hq, rfl⟩ := hy
  rw [hp] at hq; cases hq
  exact h.ev p
theorem opt_rel (h : RelS m H B H0 gl rest st a.tmps w) (o : Option Operand) : (o.map (st.ev gl) = none ∧ o.map a.eval = none) ∨ ∃ x u, o.map (st.ev gl) = some x ∧ o.map a.eval = some u ∧ RV H (st.env m) x u := by
  cases o with
  | none => exact .inl ⟨rfl, rfl⟩
  | some x => exact .inr ⟨_, _, rfl, rfl, h.ev x⟩
set_option maxHeartbeats 1000000 in
theorem xop0_ok (h : RelS m H B H0 gl rest st a.tmps w) {o : Oper} (hd : dstOk o.dst st.n = true) {bid : Nat} (hb : lkb st.hp bid = none) (hn : bid < st.nx) {r : AV × Option (Nat × Box)} (hk : xop0 P bid o.dst o.op (st.ev gl) (lkb st.hp) = some r) :
    OpOk P B H0 gl rest a w o.dst (st.eff o.dst r) (execOp a.eval o) := by
  unfold xop0 at hk
  unfold execOp
  split at hk
  · rename_i x ho; simp only [ho]; cases hk; exact OpOk.val h hd rfl (h.ev x)
  · rename_i x ho; simp only [ho]; cases hk; exact OpOk.val h hd rfl (h.ev x)
  · rename_i c x y ho
    simp only [ho]
    split at hk
    · rename_i b hc
      have hc' := h.ev c
      rw [hc] at hc'
      have hc' := hc'.bool_inv
      cases hk
      cases b
      · exact OpOk.val h hd (by simp [hc', asBool]) (h.ev y)
      · exact OpOk.val h hd (by simp [hc', asBool]) (h.ev x)
    · cases hk
  · rename_i t ho
    simp only [ho]
    split at hk
    · rename_i z hz
      split at hk
      · rename_i hok
        cases hk
        obtain ⟨i, v, hi, hv, rfl⟩ := zeroI_inv hz
        exact new_okT h hd hb hn (.imm _ _ (ofV_rel H v)) hok (tagT_spec P t) (by simp [Instr.alloc, zeroValue, typeInfo, hi, hv, newVar, newRow])
      · cases hk
    · cases hk
  · rename_i t x ho
    simp only [ho]
    split at hk
    · rename_i hok
      cases hk
      exact new_ok h hd hb hn (h.ev x) hok (by simp [Instr.box, newVar, newRow]; rfl)
    · cases hk
  · rename_i t ps ho
    simp only [ho]
    obtain ⟨v, h1, rfl⟩ := xv_inv hk
    have hp := parts_rel h ps.toList
    obtain ⟨u, h2, h3⟩ := xbuild_ok (P := P) (w := w) (parts := ps.map fun p => (p.1, a.eval p.2)) (by rw [Array.toList_map]; exact hp) h1
    exact OpOk.val h hd (by rw [Sem.run_bind, h2]; rfl) h3
  · rename_i t len ps ho
    simp only [ho]
    have hp := parts_rel h ps.toList
    have hp' : (ps.toList.map fun p => (p.1, st.ev gl p.2)).length = (ps.map fun p => (p.1, a.eval p.2)).toList.length ∧ ∀ (k : Nat) (x : Nat × AV) (y : Nat × Value), (ps.toList.map fun p => (p.1, st.ev gl p.2))[k]? = some x → (ps.map fun p => (p.1, a.eval p.2)).toList[k]? = some y → x.1 = y.1 ∧ RV H (st.env m) x.2 y.2 := by rw [Array.toList_map]; exact hp
    have := xbuildSlice_ok (P := P) h hd hb hn hp' hk
    exact this
  · rename_i t x ho
    simp only [ho]
    obtain ⟨v, h1, rfl⟩ := xv_inv hk
    obtain ⟨u, h2, h3⟩ := xload_ok (P := P) h.heap (h.ev x) h1
    exact OpOk.val h hd (by rw [Sem.run_bind, h2]; rfl) h3
  · rename_i t x y ho
    simp only [ho]
    split at hk
    · rename_i hdn
      exact xstore_ok h (by simpa using hdn) (h.ev x) (h.ev y) hk
    · cases hk
  · rename_i op t x y ty ho
    simp only [ho]
    obtain ⟨v, h1, rfl⟩ := xv_inv hk
    obtain ⟨u, h2, hg, h3⟩ := xbin_ok (P := P) (w := w) (ox := x) (oy := y) (h.ev x) (h.ev y) h1
    exact OpOk.val h hd (v := u) (by simp [hg, h2]) (.imm _ _ (h3 _))
  · rename_i op t x ho
    simp only [ho]
    obtain ⟨v, h1, rfl⟩ := xv_inv hk
    obtain ⟨u, h2, h3⟩ := xun_ok (P := P) (w := w) (h.ev x) h1
    exact OpOk.val h hd (v := u) (by simp [h2]) (.imm _ _ (h3 _))
  · rename_i src to x ho
    simp only [ho]
    obtain ⟨v, h1, rfl⟩ := xv_inv hk
    obtain ⟨u, h2, h3⟩ := xconv_ok (P := P) (w := w) (h.ev x) h1
    exact OpOk.val h hd (v := u) (by simp [h2]) (.imm _ _ (h3 _))
  · rename_i f first caps ho
    simp only [ho]
    split at hk
    · rename_i h0
      cases hk
      have : first = #[] := Array.eq_empty_of_size_eq_zero h0
      subst this
      have hl := list_rel h caps.toList
      refine OpOk.val h hd (v := .func (.func f) #[] (caps.map a.eval)) (by simp [Instr.makeFunc]) ?_
      refine .fn f _ _ (by simp) fun j c v hj hv => ?_
      exact hl.2 j c v hj (by rw [← hv]; simp)
    · cases hk
  · rename_i t l c ho
    simp only [ho]
    exact xmakeSlice_ok h hd hb hn (h.ev l) (h.ev c) hk
  · rename_i t x lo hi mx ho
    simp only [ho]
    obtain ⟨v, h1, rfl⟩ := xv_inv hk
    obtain ⟨u, h2, h3⟩ := xslice_ok (P := P) (w := w) (h.ev x) (opt_rel h lo) (opt_rel h hi) (opt_rel h mx) h1
    exact OpOk.val h hd (v := u) (by simp [h2]) h3
  · rename_i s x f ho
    simp only [ho]
    obtain ⟨v, h1, rfl⟩ := xv_inv hk
    obtain ⟨u, h2, h3⟩ := xfieldAddr_ok (P := P) (w := w) (h.ev x) h1
    exact OpOk.val h hd (v := u) (by simp [h2]) h3
  · rename_i s x f ho
    simp only [ho]
    obtain ⟨v, h1, rfl⟩ := xv_inv hk
    obtain ⟨u, h2, h3⟩ := xfield_ok (P := P) (w := w) (h.ev x) h1
    exact OpOk.val h hd (v := u) (by simp [h2]) h3
  · rename_i t x i ho
    simp only [ho]
    obtain ⟨v, h1, rfl⟩ := xv_inv hk
    obtain ⟨u, h2, h3⟩ := xindexAddr_ok (P := P) (w := w) (h.ev x) (h.ev i) h1
    exact OpOk.val h hd (v := u) (by simp [h2]) h3
  · rename_i t x i ho
    simp only [ho]
    obtain ⟨v, h1, rfl⟩ := xv_inv hk
    obtain ⟨u, h2, h3⟩ := xindex_ok (P := P) (w := w) (h.ev x) (h.ev i) h1
    exact OpOk.val h hd (v := u) (by simp [h2]) h3
  · rename_i x j ho
    simp only [ho]
    obtain ⟨v, h1, rfl⟩ := xv_inv hk
    obtain ⟨u, h2, h3⟩ := xextract_ok (P := P) (w := w) (h.ev x) h1
    exact OpOk.val h hd (v := u) (by simp [h2]) h3
  · rename_i x ho
    simp only [ho]
    have hx := h.ev x
    split at hk
    · rename_i id ver off he
      cases hk
      rw [he] at hx
      have hx' := hx
      obtain ⟨ad, hp, _⟩ := hx.ptr_inv
      exact OpOk.val h hd (v := a.eval x) (by rw [hp]; rfl) hx'
    · rename_i sz xs i off he
      cases hk
      rw [he] at hx
      have hx' := hx
      have : ∃ ad, a.eval x = .pointer (some ad) := by
        have := hx.ip_inv
        generalize a.eval x = u at this
        cases this; exact ⟨_, rfl⟩
      obtain ⟨ad, hp⟩ := this
      exact OpOk.val h hd (v := a.eval x) (by rw [hp]; rfl) hx'
    · rename_i f cs he
      cases hk
      rw [he] at hx
      have hx' := hx
      obtain ⟨vs, hp, _⟩ := hx.fn_inv
      exact OpOk.val h hd (v := a.eval x) (by rw [hp]; rfl) hx'
    · rename_i id he
      cases hk
      rw [he] at hx
      have hx' := hx
      obtain ⟨l, hp, _⟩ := hx.yld_inv
      exact OpOk.val h hd (v := a.eval x) (by rw [hp]; rfl) hx'
    · cases hk
  · rename_i c ho
    simp only [ho]
    split at hk
    · rename_i b hb'
      obtain ⟨callee, args, argTypes⟩ := c
      dsimp only at hb'
      subst hb'
      simp only [resolve]
      have hargs : args.map a.eval = (args.toList.map a.eval).toArray := by apply Array.ext'; rw [Array.toList_map]
      have hl := list_rel h args.toList
      unfold xbuiltin at hk
      split at hk
      · split at hk
        · rename_i t x ht hx
          obtain ⟨v, h1, rfl⟩ := xv_inv hk
          obtain ⟨y, hy, rfl⟩ : ∃ y, args.toList = [y] ∧ st.ev gl y = x := by
            match hh : args.toList with
            | [] => rw [hh] at hx; cases hx
            | [y] => rw [hh] at hx; simp only [List.map_cons, List.map_nil, List.cons.injEq, and_true] at hx; exact ⟨y, rfl, hx⟩
            | _ :: _ :: _ => rw [hh] at hx; simp at hx
          have e1 : argTypes = #[t] := by cases argTypes; simpa using ht
          have e2 : args = #[y] := by cases args; simpa using hy
          subst e1; subst e2
          obtain ⟨u, h2, h3⟩ := xlen_ok (P := P) (w := w) (ty := o.type) (h.ev y) h1
          refine OpOk.val h hd (v := u) ?_ (.imm _ _ (h3 _))
          simp only [Sem.run_bind, Sem.run_pure, Result.andThen_ok, invoke, builtin, List.map_toArray, List.map_cons, List.map_nil, h2]
        · cases hk
      · obtain ⟨v, h1, rfl⟩ := xv_inv hk
        obtain ⟨u, h2, h3⟩ := xmax_ok (P := P) (w := w) true hl h1 argTypes o.type
        refine OpOk.val h hd (v := u) ?_ (.imm _ _ (h3 _))
        rw [if_pos rfl] at h2
        simp only [Sem.run_bind, Sem.run_pure, Result.andThen_ok, invoke, builtin]
        rw [hargs, h2]; rfl
      · obtain ⟨v, h1, rfl⟩ := xv_inv hk
        obtain ⟨u, h2, h3⟩ := xmax_ok (P := P) (w := w) false hl h1 argTypes o.type
        refine OpOk.val h hd (v := u) ?_ (.imm _ _ (h3 _))
        rw [if_neg (by simp)] at h2
        simp only [Sem.run_bind, Sem.run_pure, Result.andThen_ok, invoke, builtin]
        rw [hargs, h2]; rfl
      · split at hk
        · rename_i t t' s x ht hx
          obtain ⟨y, z, hy, rfl, rfl⟩ : ∃ y z, args.toList = [y, z] ∧ st.ev gl y = s ∧ st.ev gl z = x := by
            match hh : args.toList with
            | [] => rw [hh] at hx; cases hx
            | [y] => rw [hh] at hx; simp at hx
            | [y, z] => rw [hh] at hx; simp only [List.map_cons, List.map_nil, List.cons.injEq, and_true] at hx; exact ⟨y, z, rfl, hx⟩
            | _ :: _ :: _ :: _ => rw [hh] at hx; simp at hx
          have e1 : argTypes = #[t, t'] := by cases argTypes; simpa using ht
          have e2 : args = #[y, z] := by cases args; simpa using hy
          subst e1; subst e2
          have := xappend_ok (ty := o.type) h hd hb hn (h.ev y) (h.ev z) hk
          simpa only [List.map_toArray, List.map_cons, List.map_nil, invoke, builtin, pure_bind] using this
        · cases hk
      · cases hk
    · cases hk
  · cases hk
def xopX (P : Program) (bid : Nat) (op : Op) (ev : Operand → AV) (hp : Hp) : Option (AV × Option (Nat × Box)) :=
  match op with
  | .binOp o t x y _ => xv (xptrEq P o t (ev x) (ev y) hp)
  | .convert src to x => xv (xconvP P src to (ev x) hp)
  | .call c => match c.callee with
    | .builtin b => match b with
      | .append => match c.argTypes.toList, c.args.toList.map ev with
        | [t, t'], [s, x] => xappS P bid t t' s x hp
        | _, _ => none
      | .unsafeSliceData => match c.args.toList.map ev with
        | [x] => xv (xsdata x)
        | _ => none
      | .unsafeString => match c.argTypes.toList, c.args.toList.map ev with
        | [pt, _], [p, n] => xustr P pt p n hp
        | _, _ => none
      | _ => none
    | _ => none
  | _ => none
def xopO (P : Program) (op : Op) (ev : Operand → AV) (hp : Hp) : Option (AV × Option (Nat × Box)) :=
  match op with
  | .lookup t x i ok => xv (xlookup P t (ev x) (ev i) ok hp)
  | .call c => match c.callee with
    | .builtin .append => match c.argTypes.toList, c.args.toList.map ev with
      | [t, t'], [s, x] => xappO P t t' s x hp
      | _, _ => none
    | _ => none
  | _ => none
def xop (P : Program) (bid : Nat) (dst : Option Nat) (op : Op) (ev : Operand → AV) (hp : Hp) : Option (AV × Option (Nat × Box)) :=
  match xop0 P bid dst op ev hp with
  | some r => some r
  | none => match xopX P bid op ev hp with
    | some r => some r
    | none => xopO P op ev hp
theorem xop_of0 {bid : Nat} {dst : Option Nat} {op : Op} {ev : Operand → AV} {hp : Hp} {r : AV × Option (Nat × Box)} (h : xop0 P bid dst op ev hp = some r) : xop P bid dst op ev hp = some r := by unfold xop; rw [h]
theorem xop_ofX {bid : Nat} {dst : Option Nat} {op : Op} {ev : Operand → AV} {hp : Hp} {r : AV × Option (Nat × Box)} (h0 : xop0 P bid dst op ev hp = none) (h : xopX P bid op ev hp = some r) : xop P bid dst op ev hp = some r := by unfold xop; rw [h0]; simp only [h]
theorem xop_ofO {bid : Nat} {dst : Option Nat} {op : Op} {ev : Operand → AV} {hp : Hp} {r : AV × Option (Nat × Box)} (h0 : xop0 P bid dst op ev hp = none) (h1 : xopX P bid op ev hp = none) (h : xopO P op ev hp = some r) : xop P bid dst op ev hp = some r := by unfold xop; rw [h0]; simp only [h1, h]
theorem two_args {args : Array Operand} {f : Operand → AV} {s x : AV} (h : args.toList.map f = [s, x]) : ∃ y z, args = #[y, z] ∧ f y = s ∧ f z = x := by
  match hh : args.toList with
  | [] => rw [hh] at h; cases h
  | [y] => rw [hh] at h; simp at h
  | [y, z] => rw [hh] at h; simp only [List.map_cons, List.map_nil, List.cons.injEq, and_true] at h; exact ⟨y, z, by cases args; simpa using hh, h.1, h.2⟩
  | _ :: _ :: _ :: _ => rw [hh] at h; simp at h
theorem one_arg {args : Array Operand} {f : Operand → AV} {s : AV} (h : args.toList.map f = [s]) : ∃ y, args = #[y] ∧ f y = s := by
  match hh : args.toList with
  | [] => rw [hh] at h; cases h
  | [y] => rw [hh] at h; simp only [List.map_cons, List.map_nil, List.cons.injEq, and_true] at h; exact ⟨y, by cases args; simpa using hh, h⟩
  | _ :: _ :: _ => rw [hh] at h; simp at h
theorem two_types {ts : Array TypeId} {t t' : TypeId} (h : ts.toList = [t, t']) : ts = #[t, t'] := by cases ts; simpa using h
theorem xopX_ok (h : RelS m H B H0 gl rest st a.tmps w) {o : Oper} (hd : dstOk o.dst st.n = true) {bid : Nat} (hb : lkb st.hp bid = none) (hn : bid < st.nx) {r : AV × Option (Nat × Box)} (hk : xopX P bid o.op (st.ev gl) (lkb st.hp) = some r) :
    OpOk P B H0 gl rest a w o.dst (st.eff o.dst r) (execOp a.eval o) := by
  unfold xopX at hk
  unfold execOp
  split at hk
  · rename_i op t x y ty ho
    simp only [ho]
    obtain ⟨v, h1, rfl⟩ := xv_inv hk
    obtain ⟨u, h2, hg, h3⟩ := xptrEq_ok (P := P) (ox := x) (oy := y) h.heap (h.ev x) (h.ev y) h1
    exact OpOk.val h hd (v := u) (by simp [hg, h2]) (.imm _ _ (h3 _))
  · rename_i src to x ho
    simp only [ho]
    obtain ⟨v, h1, rfl⟩ := xv_inv hk
    obtain ⟨u, h2, h3⟩ := xconvP_ok (P := P) h.heap (h.ev x) h1
    exact OpOk.val h hd (v := u) (by simp [h2]) h3
  · rename_i c ho
    simp only [ho]
    split at hk
    · rename_i b hb'
      obtain ⟨callee, args, argTypes⟩ := c
      dsimp only at hb'
      subst hb'
      simp only [resolve]
      split at hk
      · split at hk
        · rename_i t t' s x ht hx
          obtain ⟨y, z, rfl, rfl, rfl⟩ := two_args hx
          obtain rfl := two_types ht
          have := xappS_ok (ty := o.type) h hd hb hn (h.ev y) (h.ev z) hk
          simpa only [List.map_toArray, List.map_cons, List.map_nil, invoke, builtin, pure_bind] using this
        · cases hk
      · split at hk
        · rename_i x hx
          obtain ⟨v, h1, rfl⟩ := xv_inv hk
          obtain ⟨y, rfl, rfl⟩ := one_arg hx
          obtain ⟨u, h2, h3⟩ := xsdata_ok (P := P) (w := w) (ts := argTypes) (ty := o.type) (h.ev y) h1
          refine OpOk.val h hd (v := u) ?_ h3
          simp only [Sem.run_bind, Sem.run_pure, Result.andThen_ok, invoke, builtin, List.map_toArray, List.map_cons, List.map_nil, h2]
        · cases hk
      · split at hk
        · rename_i pt it p n ht hx
          obtain ⟨y, z, rfl, rfl, rfl⟩ := two_args hx
          obtain rfl := two_types ht
          have := xustr_ok (it := it) (ty := o.type) h hd (h.ev y) (h.ev z) hk
          simpa only [List.map_toArray, List.map_cons, List.map_nil, invoke, builtin, pure_bind] using this
        · cases hk
      · cases hk
    · cases hk
  · cases hk
theorem xopO_ok (h : RelS m H B H0 gl rest st a.tmps w) {o : Oper} (hd : dstOk o.dst st.n = true) {r : AV × Option (Nat × Box)} (hk : xopO P o.op (st.ev gl) (lkb st.hp) = some r) :
    OpOk P B H0 gl rest a w o.dst (st.eff o.dst r) (execOp a.eval o) := by
  unfold xopO at hk
  unfold execOp
  split at hk
  · rename_i t x i ok ho
    simp only [ho]
    obtain ⟨v, h1, rfl⟩ := xv_inv hk
    obtain ⟨y, h2, h3⟩ := xlookup_ok (P := P) h.heap (h.ev x) (h.ev i) h1
    exact OpOk.val h hd (v := y) (by simp [h2]) h3
  · rename_i c ho
    simp only [ho]
    split at hk
    · rename_i hb'
      obtain ⟨callee, args, argTypes⟩ := c
      dsimp only at hb'
      subst hb'
      simp only [resolve]
      split at hk
      · rename_i t t' s x ht hx
        obtain ⟨y, z, rfl, rfl, rfl⟩ := two_args hx
        obtain rfl := two_types ht
        have := xappO_ok (ty := o.type) h hd (h.ev y) (h.ev z) hk
        simpa only [List.map_toArray, List.map_cons, List.map_nil, invoke, builtin, pure_bind] using this
      · cases hk
    · cases hk
  · cases hk
theorem xop_ok (h : RelS m H B H0 gl rest st a.tmps w) {o : Oper} (hd : dstOk o.dst st.n = true) {bid : Nat} (hb : lkb st.hp bid = none) (hn : bid < st.nx) {r : AV × Option (Nat × Box)} (hk : xop P bid o.dst o.op (st.ev gl) (lkb st.hp) = some r) :
    OpOk P B H0 gl rest a w o.dst (st.eff o.dst r) (execOp a.eval o) := by
  unfold xop at hk
  split at hk
  · rename_i r' hr; cases hk; exact xop0_ok h hd hb hn hr
  · split at hk
    · rename_i r' hr; cases hk; exact xopX_ok h hd hb hn hr
    · exact xopO_ok h hd hk
end
end HY
end
section
namespace HY
open Go Go.RowKit Go.MapKept
def mput (k : List UInt8) (v : AV) (es : List (List UInt8 × AV)) : List (List UInt8 × AV) :=
  match mfind k es 0 with
  | some (i, _) => es.set i (k, v)
  | none => es ++ [(k, v)]
def isRunesT (P : Program) (t : TypeId) : Bool := match P.underlying t with
  | some (.slice e) => match P.underlying e with
    | some (.int .i32) => true
    | _ => false
  | _ => false
theorem isRunesT_ok {P : Program} {t : TypeId} (h : isRunesT P t = true) : ∃ e, P.underlying t = some (.slice e) ∧ P.underlying e = some (.int .i32) := by
  unfold isRunesT at h
  split at h
  · rename_i e he
    split at h
    · rename_i hi; exact ⟨e, he, hi⟩
    · cases h
  · cases h
def runesL : List AV → Option (List Int)
  | [] => some []
  | .int .i32 n :: r => match runesL r with
    | some l => some (n :: l)
    | none => none
  | _ :: _ => none
def asciiL : List Int → Option (List UInt8)
  | [] => some []
  | n :: r => bif decide (0 ≤ n) && decide (n < 128) then (match asciiL r with
    | some l => some (UInt8.ofNat n.toNat :: l)
    | none => none) else none
def xrunes (P : Program) (src to : TypeId) (x : AV) (hp : Hp) : Option AV :=
  bif isRunesT P src && isStrT P to then (match x with
    | .bs id ver sz off len => match hp id with
      | some (.cells v cs) => match Nat.beq v ver && (Nat.beq sz 1 && Nat.ble (off + len) cs.length) with
        | true => match runesL ((cs.drop off).take len) with
          | some ns => match asciiL ns with
            | some s => some (.str s)
            | none => none
          | none => none
        | false => none
      | _ => none
    | .nil => some (.str [])
    | _ => none) else none
theorem ascii_bytes : ∀ (ns : List Int) (s : List UInt8) (b : ByteArray), asciiL ns = some s → ns.foldl (fun r n => r ++ Utf8.encode n) b = b ++ ⟨s.toArray⟩
  | [], s, b, h => by
    cases h
    rw [show (⟨([] : List UInt8).toArray⟩ : ByteArray) = ByteArray.empty from rfl]
    simp
  | n :: r, s, b, h => by
    simp only [asciiL] at h
    cases hc : (decide (0 ≤ n) && decide (n < 128)) with
    | false => rw [hc] at h; cases h
    | true =>
      rw [hc] at h
      simp only [cond_true] at h
      rw [Bool.and_eq_true, decide_eq_true_eq, decide_eq_true_eq] at hc
      split at h
      · rename_i l hl
        cases h
        rw [List.foldl_cons, ascii_bytes r l _ hl]
        have he : Utf8.encode n = ⟨#[UInt8.ofNat n.toNat]⟩ := by
          unfold Utf8.encode
          have hv : Utf8.valid n = true := by unfold Utf8.valid; simp; omega
          simp only [hv, if_true]
          rw [if_pos (by omega)]
        rw [he]
        apply ByteArray.ext
        simp
      · cases h
theorem runesL_spec : ∀ (cs : List AV) (ns : List Int), runesL cs = some ns → cs = ns.map (AV.int .i32)
  | [], ns, h => by cases h; rfl
  | c :: r, ns, h => by
    unfold runesL at h
    split at h
    · rename_i h1; cases h1
    · rename_i n r' h1
      cases h1
      split at h
      · rename_i l hl
        cases h
        rw [runesL_spec _ _ hl]; rfl
      · cases h
    · cases h
def xmput (P : Program) (t : TypeId) (x i v : AV) (hp : Hp) : Option (AV × Option (Nat × Box)) :=
  match x with
  | .mp id => match hp id with
    | some (.map es) => match i with
      | .str k => match strMap P t with
        | some _ => some (.undef, some (id, .map (mput k v es)))
        | none => none
      | _ => none
    | _ => none
  | _ => none
def xcopy (P : Program) (t : TypeId) (x y : AV) (hp : Hp) : Option (AV × Option (Nat × Box)) :=
  match elG P t with
  | some (sz, _, _) => match xsrc sz y hp with
    | some (n, ds) => match x with
      | .bs id ver z off len => match hp id with
        | some (.cells v cs) => match Nat.beq v ver && (Nat.beq z sz && Nat.ble (off + len * sz) cs.length) with
          | true => match Nat.beq (Nat.min n len) 0 with
            | true => some (.int .i64 0, none)
            | false => some (.int .i64 (Nat.min n len), some (id, .cells v (cs.take off ++ (ds.take (Nat.min n len * sz) ++ cs.drop (off + Nat.min n len * sz)))))
          | false => none
        | _ => none
      | _ => none
    | none => none
  | none => none
def xopM (P : Program) (bid : Nat) (dst : Option Nat) (op : Op) (ev : Operand → AV) (hp : Hp) : Option (AV × Option (Nat × Box)) :=
  match op with
  | .makeMap _ none => some (.mp bid, some (bid, .map []))
  | .convert src to x => xv (xrunes P src to (ev x) hp)
  | .mapUpdate t x i v => if dst.isNone then xmput P t (ev x) (ev i) (ev v) hp else none
  | .call c => match c.callee with
    | .builtin .copy => match c.argTypes.toList, c.args.toList.map ev with
      | [t, _], [x, y] => xcopy P t x y hp
      | _, _ => none
    | _ => none
  | _ => none
section
variable {P : Program} {m : Nat → Lc} {H : HV} {B : Nat → Prop} {H0 : HV} {gl : Nat → AV} {rest : List (AV × Value)} {st : St} {a : Act} {w : World}
theorem RelH.newObj {hp : Hp} {nx : Nat} (h : RelH m H B H0 gl hp nx w) {id : Nat} (hn : hp id = none) {nx' : Nat} (hid : id < nx') (hnx : nx ≤ nx') (o : Obj) (b : Box) (hbc : b.ver? = none) (hb : BoxOk H (envOf (updF hp id (some b)) (updF m id ⟨w.heap.size, 0, 0⟩)) b ⟨w.heap.size, 0, 0⟩ (w.alloc o)) :
    RelH (updF m id ⟨w.heap.size, 0, 0⟩) H B H0 gl (updF hp id (some b)) nx' (w.alloc o) ∧ Env.le (envOf hp m) (envOf (updF hp id (some b)) (updF m id ⟨w.heap.size, 0, 0⟩)) := by
  have hE := env_new (m := m) (hp := hp) (b := b) (l := ⟨w.heap.size, 0, 0⟩) hn
  have hnew : ∀ o, H w.heap.size o = none := fun o => by
    cases hh : H w.heap.size o with
    | none => rfl
    | some v => have := sat_lt h.sat hh; omega
  exact ⟨h.one (l := ⟨w.heap.size, 0, 0⟩) (fun k hk _ => heap_alloc_old w _ k hk) (by rw [heap_alloc_size]; omega) hE ⟨h.notB, by rw [heap_alloc_size]; show w.heap.size < _; omega, hnew⟩ (fun id' b' _ hid' hr => by
    have := (h.sepR id' b' hid' hr).2.1; show (m id').g ≠ w.heap.size; omega) hid hnx hb (fun ver cs e => by subst e; cases hbc) (Box.elder_real (Box.nover hbc) _), hE⟩
theorem RelH.putObj {hp : Hp} {nx : Nat} (h : RelH m H B H0 gl hp nx w) {id : Nat} {b b' : Box} (hid : hp id = some b) (h1 : b.ver? = none) (h2 : b'.ver? = none) (o : Obj) (h3 : ∀ (C : Array Value) (e : TypeId) (fr : Nat × Nat), w.heap[(m id).g]? ≠ some (Obj.cells C e fr))
    (hb : ∀ E', Env.le (envOf hp m) E' → BoxOk H E' b' (m id) (w.putObj (m id).g o)) : RelH m H B H0 gl (updF hp id (some b')) nx (w.putObj (m id).g o) ∧ Env.le (envOf hp m) (envOf (updF hp id (some b')) m) ∧ BelowS B w (w.putObj (m id).g o) := by
  have hm : updF m id (m id) = m := by funext k; simp only [updF]; split <;> simp [*]
  have hE := env_obj (m := m) (hp := hp) (l := m id) hid h1 h2 rfl
  have hr1 := Box.elder_real (Box.nover h1) (m id)
  obtain ⟨s1, s2, s3⟩ := h.sepR id b hid hr1
  have hidn : id < nx := by
    rcases Nat.lt_or_ge id nx with hlt | hge
    · exact hlt
    · have := h.fresh id hge; rw [this] at hid; cases hid
  have := h.one (id := id) (b := b') (l := m id) (w' := w.putObj (m id).g o) (fun k _ hk => World.putObj_heap_other hk) (by simp) hE ⟨s1, by simpa using s2, s3⟩ (fun id' b2 hne hb2 hr e => hne (h.injR id' id b2 b hb2 hid hr hr1 e)) hidn (Nat.le_refl _) (hb _ hE) (fun ver cs e => by subst e; cases h2) (Box.elder_real (Box.nover h2) _)
  rw [hm] at this hE
  exact ⟨this, hE, rfl, rfl, rfl, by simp, fun k hk => World.putObj_heap_other (fun e => by subst e; exact s1 hk), fun k C e fr hk => by
    by_cases hkg : k = (m id).g
    · subst hkg; exact absurd hk (h3 C e fr)
    · exact ⟨C, fr, by rw [World.putObj_heap_other hkg]; exact hk, rfl⟩⟩
theorem mput_at {E' : Env} {es : List (List UInt8 × AV)} {A : Array MapEntry} (h : MapAt H E' es A) (s : List UInt8) {v : AV} {u : Value} (hv : RV H E' v u) (c : Nat) :
    match mfind s es 0 with
    | none => MapAt H E' (mput s v es) (A.push { key := .string ⟨s.toArray⟩, val := u, born := c })
    | some (j, _) => MapAt H E' (mput s v es) (A.modify j fun e => { e with key := .string ⟨s.toArray⟩, val := u }) := by
  unfold mput
  split
  · rename_i hm
    rw [hm]
    refine ⟨by simp [h.1], fun j k x e hj he => ?_⟩
    rw [Array.getElem?_push] at he
    by_cases hl : j < es.length
    · rw [List.getElem?_append_left hl] at hj
      rw [if_neg (by rw [h.1]; omega)] at he
      exact h.2 j k x e hj he
    · rw [List.getElem?_append_right (by omega)] at hj
      have hj0 : j - es.length = 0 := by
        have := (List.getElem?_eq_some_iff.1 hj).1; simpa using this
      rw [hj0] at hj
      simp only [List.getElem?_cons_zero, Option.some.injEq, Prod.mk.injEq] at hj
      obtain ⟨rfl, rfl⟩ := hj
      rw [if_pos (by rw [h.1]; omega)] at he
      cases he
      exact ⟨rfl, hv⟩
  · rename_i i x hm
    rw [hm]
    refine ⟨by simp [h.1], fun j k x e hj he => ?_⟩
    rw [Array.getElem?_modify] at he
    rw [List.getElem?_set] at hj
    by_cases hij : i = j
    · subst hij
      rw [if_pos rfl] at he hj
      split at hj
      · simp only [Option.some.injEq, Prod.mk.injEq] at hj
        obtain ⟨rfl, rfl⟩ := hj
        simp only [Option.map_eq_some_iff] at he
        obtain ⟨e0, _, rfl⟩ := he
        exact ⟨rfl, hv⟩
      · cases hj
    · rw [if_neg hij] at he hj
      exact h.2 j k x e hj he
theorem xmput_ok (h : RelS m H B H0 gl rest st a.tmps w) {t : TypeId} {x i y : AV} {u v z : Value} {r : AV × Option (Nat × Box)} (hx : RV H (st.env m) x u) (hi : RV H (st.env m) i v) (hy : RV H (st.env m) y z) (hk : xmput P t x i y (lkb st.hp) = some r) {dst : Option Nat} (hd : dstOk dst st.n = true) {s : Sem Next}
    (hs : ∀ w', (Instr.mapUpdate t u v z).run P w = .ok () w' → s.run P w = .ok .skip w') : OpOk P B H0 gl rest a w dst (st.eff dst r) s := by
  unfold xmput at hk
  split at hk <;> first | cases hk | skip
  split at hk <;> first | cases hk | skip
  rename_i id _ es hid
  split at hk <;> first | cases hk | skip
  rename_i _ k
  split at hk <;> first | cases hk | skip
  rename_i e he
  obtain ⟨kt, hm, hkt⟩ := strMap_ok he
  obtain ⟨A, c, hA, hat, hlp⟩ := mp_at h.heap hid
  obtain ⟨l, rfl, hl⟩ := hx.mp_inv
  have hl' : l = (m id).g := by have : (st.env m).lp id = some (m id).g := hlp; rw [this] at hl; exact (Option.some.inj hl).symm
  subst hl'
  rw [hi.str_inv] at hs
  have hlt : (m id).g < w.heap.size := (h.heap.sep id _ hid).2.1
  have key : ∃ A' c', (Instr.mapUpdate t (.map (some (m id).g)) (.string ⟨k.toArray⟩) z).run P w = .ok () (w.putObj (m id).g (.map A' c')) ∧ ∀ E', Env.le (st.env m) E' → MapAt H E' (mput k y es) A' := by
    have hf := mapAt_find hat k
    split at hf
    · rename_i hmf
      refine ⟨A.push { key := .string ⟨k.toArray⟩, val := z, born := c }, c + 1, ?_, fun E' hE => ?_⟩
      · simp [Instr.mapUpdate, run_underlying hm, run_getObj_map hA, run_checkKey hkt (isK k), run_findKey hkt hf, run_setObj_map _ hA, Result.andThen]
        rfl
      · have := mput_at (E' := E') (es := es) (A := A) ⟨hat.1, fun j k x e h1 h2 => let ⟨a, b⟩ := hat.2 j k x e h1 h2; ⟨a, b.mono (.refl _) hE⟩⟩ k (hy.mono (.refl _) hE) c
        rw [hmf] at this; exact this
    · rename_i j x hmf
      obtain ⟨en, f1, f2, f3⟩ := hf
      obtain ⟨hkey, _⟩ := hat.2 j k x en f3 f2
      refine ⟨A.modify j fun e => { e with key := .string ⟨k.toArray⟩, val := z }, c, ?_, fun E' hE => ?_⟩
      · simp [Instr.mapUpdate, run_underlying hm, run_getObj_map hA, run_checkKey hkt (isK k), run_findKey hkt f1, f2, hkey, run_keyThatStays (isK k), run_setObj_map _ hA, Result.andThen]
        rfl
      · have := mput_at (E' := E') (es := es) (A := A) ⟨hat.1, fun j k x e h1 h2 => let ⟨a, b⟩ := hat.2 j k x e h1 h2; ⟨a, b.mono (.refl _) hE⟩⟩ k (hy.mono (.refl _) hE) c
        rw [hmf] at this; exact this
  obtain ⟨A', c', hrun, hat'⟩ := key
  obtain ⟨hh, hE, hb⟩ := h.heap.putObj hid rfl (b' := .map (mput k y es)) rfl (.map A' c') (fun C e fr q => by rw [hA] at q; cases q) (fun E' hE' => ⟨A', c', World.putObj_heap_same hlt, (hat' E' hE').1, (hat' E' hE').2⟩)
  exact OpOk.heap h hd (hs _ hrun) (.inr ⟨rfl, rfl⟩) hb hh hE (.imm _ _ (.undef _))
theorem xrunes_ok {nx : Nat} {hp : Hp} (h : RelH m H B H0 gl hp nx w) {src to : TypeId} {x r : AV} {u : Value} (hx : RV H (envOf hp m) x u) (hk : xrunes P src to x hp = some r) :
    ∃ y, (convert src to u).run P w = .ok y w ∧ RV H (envOf hp m) r y := by
  unfold xrunes at hk
  cases hc : (isRunesT P src && isStrT P to) with
  | false => rw [hc] at hk; cases hk
  | true =>
    rw [hc] at hk
    simp only [cond_true] at hk
    rw [Bool.and_eq_true] at hc
    obtain ⟨e, hs, he⟩ := isRunesT_ok hc.1
    have hd := isStrT_ok hc.2
    split at hk <;> first | cases hk | skip
    · rename_i id ver sz off len
      split at hk <;> first | cases hk | skip
      rename_i v cs hid
      split at hk <;> first | cases hk | skip
      rename_i hcc
      split at hk <;> first | cases hk | skip
      rename_i ns hns
      split at hk <;> first | cases hk | skip
      rename_i s hss
      simp only [Bool.and_eq_true] at hcc
      obtain rfl := Nat.eq_of_beq_eq_true hcc.1
      obtain rfl := Nat.eq_of_beq_eq_true hcc.2.1
      have hle := Nat.le_of_ble_eq_true hcc.2.2
      obtain ⟨a, cap, rfl, _, _, _, hloc⟩ := hx.bs_inv
      obtain ⟨rfl, _⟩ := hloc (m id) (live_loc hid)
      obtain ⟨C, e', hC, hsz, hbl, hcs⟩ := h.box id _ hid
      have hcl := runesL_spec _ _ hns
      have hnl : ns.length = len := by have := congrArg List.length hcl; simp at this; omega
      refine ⟨.string (runesBytes (ns.take len)), run_convert_runes w src to e _ len cap ns (by omega) hs he hd fun j hj => ?_, ?_⟩
      · have h1 : cs[off + j]? = some (.int .i32 (ns.getD j 0)) := by
          have h2 : ((cs.drop off).take len)[j]? = (ns.map (AV.int .i32))[j]? := by rw [hcl]
          rw [List.getElem?_take, if_pos (by omega), List.getElem?_drop, List.getElem?_map, List.getElem?_eq_getElem hj] at h2
          rw [h2, List.getD_eq_getElem?_getD, List.getElem?_eq_getElem hj]; rfl
        obtain ⟨v, f1, f2, f3⟩ := hcs _ _ h1
        cases f3 with
        | imm _ _ f3 =>
          cases f3
          rw [add_none]
          simp only [World.cell?, hC]
          rw [← f1, Nat.add_assoc]; rfl
      · rw [List.take_of_length_le (by omega)]
        have := ascii_bytes ns s ByteArray.empty hss
        unfold runesBytes
        rw [this, ByteArray.empty_append]
        exact .imm _ _ (.str s)
    · rw [hx.nil_inv]
      exact ⟨_, run_convert_runes_nil w src to e 0 0 hs he hd, .imm _ _ (.str [])⟩
theorem run_copy_at (t t' ty e : TypeId) (i : TypeInfo) (ht : P.underlying t = some (.slice e)) (hi : P.info? e = some i)
    (g o dLen dCap : Nat) (a0 : Addr) (sLen sCap : Nat) (cur : Array Value) (e' : TypeId) (vs : List Value) (hg : w.heap[g]? = some (.cells cur e' (0, 0))) (hl : vs.length = Nat.min sLen dLen * i.size)
    (hsrc : ∀ (j : Nat) (v : Value), vs[j]? = some v → w.cell? (a0.add j) = some v) (hfit : o + vs.length ≤ cur.size) (h1 : ∀ v ∈ vs, v.oneCell' = true) :
    (Builtin.copy_ #[t, t'] ty #[.slice (some ⟨g, o, none⟩) dLen dCap, .slice (some a0) sLen sCap]).run P w =
      .ok (goInt (Nat.min sLen dLen)) (w.setRow g (cur.toList.take o ++ vs ++ cur.toList.drop (o + vs.length)).toArray) := by
  have hf := run_firstCells_some (P := P) (w := w) i.size (Nat.min sLen dLen) a0 sLen sCap vs hl hsrc
  have hst := run_storeCells_at P g o e' vs 0 cur w hg (by simpa using hfit) h1
  simp only [Nat.add_zero] at hst
  simp [Builtin.copy_, run_underlying ht, Go.sizeOf, typeInfo, hi, Builtin.lenOf, hf, hst]
theorem run_copy_zero (t t' ty e : TypeId) (i : TypeInfo) (ht : P.underlying t = some (.slice e)) (hi : P.info? e = some i) (b a0 : Option Addr) (n c m c' : Nat) (h0 : Nat.min m n = 0) :
    (Builtin.copy_ #[t, t'] ty #[.slice b n c, .slice a0 m c']).run P w = .ok (goInt 0) w := by
  cases a0 with
  | none => cases b <;> simp [Builtin.copy_, run_underlying ht, Go.sizeOf, typeInfo, hi, Builtin.lenOf, Builtin.firstCells, h0, storeCells]
  | some a => cases b <;> simp [Builtin.copy_, run_underlying ht, Go.sizeOf, typeInfo, hi, Builtin.lenOf, Builtin.firstCells, h0, storeCells, loadCells, loadCellsFrom]
theorem xcopy_ok (h : RelS m H B H0 gl rest st a.tmps w) {dst : Option Nat} (hd : dstOk dst st.n = true) {t t' ty : TypeId} {x y : AV} {u v : Value} {r : AV × Option (Nat × Box)} (hx : RV H (st.env m) x u) (hy : RV H (st.env m) y v) (hk : xcopy P t x y (lkb st.hp) = some r) :
    OpOk P B H0 gl rest a w dst (st.eff dst r) (do pure (.value (← Builtin.copy_ #[t, t'] ty #[u, v]))) := by
  unfold xcopy at hk
  split at hk <;> first | cases hk | skip
  rename_i sz by_ zs ht
  obtain ⟨e, i, z0, hte, hi, hz, hzs, hpos, hsize, hby, hok, rfl⟩ := elG_inv ht
  split at hk <;> first | cases hk | skip
  rename_i n ds hsrc
  obtain ⟨ad, c, vs, rfl, hr, hdl, hcell⟩ := xsrc_ok h.heap hy hsrc hpos
  split at hk <;> first | cases hk | skip
  rename_i id ver z off len
  split at hk <;> first | cases hk | skip
  rename_i v' cs hid
  split at hk <;> first | cases hk | skip
  rename_i hc
  simp only [Bool.and_eq_true] at hc
  obtain rfl := Nat.eq_of_beq_eq_true hc.1
  obtain rfl := Nat.eq_of_beq_eq_true hc.2.1
  have hle0 := Nat.le_of_ble_eq_true hc.2.2
  obtain ⟨b, cap, rfl, hlc, hcm, _, hloc⟩ := hx.bs_inv
  obtain ⟨rfl, hfit0⟩ := hloc (m id) (live_loc hid)
  split at hk
  · rename_i h0
    cases hk
    have h0 := Nat.eq_of_beq_eq_true h0
    exact OpOk.val h hd (by rw [Sem.run_bind, run_copy_zero t t' ty e i hte hi _ ad len cap n c h0]; rfl) (.imm _ _ (.int _ _))
  · rename_i h0
    cases hk
    have h0 : Nat.min n len ≠ 0 := fun e => by rw [e] at h0; cases h0
    generalize hkk : Nat.min n len = k at *
    have hk1 : k ≤ n := by rw [← hkk]; exact Nat.min_le_left _ _
    have hk2 : k ≤ len := by rw [← hkk]; exact Nat.min_le_right _ _
    obtain ⟨a0, rfl, hcells⟩ := hcell (by omega)
    obtain ⟨C, e2, hC, hs, hle, hcs⟩ := h.heap.box id _ hid
    have hkz : k * z ≤ n * z := Nat.mul_le_mul_right _ hk1
    have hkl : k * z ≤ len * z := Nat.mul_le_mul_right _ hk2
    have hdv : ds.length = vs.length := hr.1
    have hyc : CellsRel (RV H (st.env m)) (ds.take (k * z)) (vs.take (k * z)) := ⟨by simp [hdv], fun j c hj => by
      rw [List.getElem?_take] at hj ⊢
      split at hj
      · rename_i hlt
        rw [if_pos hlt]; exact hr.2 j c hj
      · cases hj⟩
    have hvl : (vs.take (k * z)).length = k * z := by simp; omega
    have hdl' : (ds.take (k * z)).length = k * z := by simp; omega
    have hE := env_same (m := m) (hp := lkb st.hp) (cs' := cs.take off ++ (ds.take (k * z) ++ cs.drop (off + k * z))) (l := m id) hid rfl
    have hsep := h.heap.sep id _ hid
    have hrow := row_put (base := (m id).base) (off := off) hle hcs hyc (by omega) (by omega)
    have hh := h.heap.one (id := id) (b := .cells v' (cs.take off ++ (ds.take (k * z) ++ cs.drop (off + k * z)))) (l := m id) (w' := w.setRow (m id).g (C.toList.take ((m id).base + off) ++ vs.take (k * z) ++ C.toList.drop ((m id).base + off + (vs.take (k * z)).length)).toArray)
      (fun k _ hk => setRow_other w _ k _ hk) (by simp [World.setRow]) hE ⟨hsep.1, by simp [World.setRow]; exact hsep.2.1, hsep.2.2⟩ (fun id' b' hne hb' hr e => hne (h.heap.injR id' id b' _ hb' hid hr trivial e)) (by
        rcases Nat.lt_or_ge id st.nx with hlt | hge
        · exact hlt
        · have := h.heap.fresh id hge; rw [this] at hid; cases hid) (Nat.le_refl _) (by
        refine ⟨_, e2, setRow_heap w _ C _ e2 _ hC, ?_, ?_, fun j c hj => ?_⟩
        · simp; omega
        · simp; omega
        · rw [← hdl'] at hj
          simp only [hdl'] at hj
          obtain ⟨v2, a1, a2, a3⟩ := hrow j c (by rw [hdl']; exact hj)
          exact ⟨v2, a1, a2, a3.mono (.refl _) hE⟩) (fun ver cs2 e3 => by
        cases e3
        rcases h.heap.ty id _ _ hid with h0 | ⟨h1, C2, fr, h2⟩
        · exact .inl h0
        · rw [hC] at h2; cases h2
          exact .inr ⟨h1, _, _, setRow_heap w _ C _ _ _ hC⟩)
    have hm : updF m id (m id) = m := by funext k; simp only [updF]; split <;> simp [*]
    refine OpOk.heap (v := goInt k) h hd ?_ (.inl rfl) (below_setRow h.heap hid _ (fun C0 e0 fr0 h0 => by rw [hC] at h0; cases h0; simp; omega)) hh hE (.imm _ _ (.int _ _))
    have hrun := run_copy_at (P := P) (w := w) t t' ty e i hte hi (m id).g ((m id).base + off) len cap a0 n c C e2 (vs.take (k * z)) hC (by rw [hvl, hkk, hsize]) (fun j v hj => by
      rw [List.getElem?_take] at hj
      split at hj
      · exact hcells j v hj
      · cases hj) (by rw [hvl]; omega) hyc.mem
    rw [hkk] at hrun
    rw [Sem.run_bind, hrun]; rfl
theorem xopM_ok (h : RelS m H B H0 gl rest st a.tmps w) {o : Oper} (hd : dstOk o.dst st.n = true) {bid : Nat} (hb : lkb st.hp bid = none) (hn : bid < st.nx) {r : AV × Option (Nat × Box)} (hk : xopM P bid o.dst o.op (st.ev gl) (lkb st.hp) = some r) :
    OpOk P B H0 gl rest a w o.dst (st.eff o.dst r) (execOp a.eval o) := by
  unfold xopM at hk
  unfold execOp
  split at hk
  · rename_i t ho
    simp only [ho]
    cases hk
    obtain ⟨hh, hE⟩ := h.heap.newObj hb hn (Nat.le_refl _) (.map #[] 0) (.map []) rfl ⟨#[], 0, heap_alloc_new w _, rfl, fun j k x e hj => by simp at hj⟩
    refine OpOk.heap h hd (nx := .value (.map (some w.heap.size))) ?_ (.inl rfl) (below_alloc h _) hh hE (.mp _ _ (by simp [envOf, updF_same]))
    simp [Instr.makeMap]
  · rename_i src to x ho
    simp only [ho]
    obtain ⟨v, h1, rfl⟩ := xv_inv hk
    obtain ⟨y, h2, h3⟩ := xrunes_ok (P := P) h.heap (h.ev x) h1
    exact OpOk.val h hd (v := y) (by simp [h2]) h3
  · rename_i t x i v ho
    simp only [ho]
    split at hk
    · exact xmput_ok h (h.ev x) (h.ev i) (h.ev v) hk hd (fun w' hw' => by simp [hw'])
    · cases hk
  · rename_i c ho
    simp only [ho]
    split at hk
    · rename_i hcal
      split at hk
      · rename_i t t' x y hts hxs
        obtain ⟨cee, cargs, cts⟩ := c
        dsimp only at hcal hts hxs hk
        subst hcal
        obtain ⟨l1⟩ := cts
        obtain ⟨l2⟩ := cargs
        dsimp only at hts hxs
        subst hts
        match l2, hxs with
        | [o1, o2], hxs =>
          cases hxs
          have := xcopy_ok (t' := t') (ty := o.type) h hd (h.ev o1) (h.ev o2) hk
          simp only [resolve]
          simpa only [List.map_toArray, List.map_cons, List.map_nil, invoke, builtin, pure_bind] using this
      · cases hk
    · cases hk
  · cases hk
theorem xopM_nodefer {bid : Nat} {dst : Option Nat} {op : Op} {ev : Operand → AV} {hp : Hp} {r : AV × Option (Nat × Box)} (h : xopM P bid dst op ev hp = some r) : ∀ c, op ≠ .defer c := by
  intro c e; subst e; simp [xopM] at h
end
end HY
end
section
namespace HY
open Go Go.RowKit
def FW (r : Option Nat) : Fence := { fn := fun _ => True, depth := none, alive := false, round := r }
theorem callsIn_FW {r : Option Nat} {n : Nat} {P : Program} {f : FuncId} {args : Array Value} {w : World} {R : Ending → World → Prop} (h : Calls P f args w R) : CallsIn (FW r) n P f args w R :=
  show CallsIn Fence.wide n P f args w R from callsIn_wide.2 h
def Enters (P : Program) (f : FuncId) : Prop := ∀ args w, (callFunc f args).run P w = .ok (.enter f args) w
theorem enters_of {P : Program} {f : FuncId} {fn : Func} (hf : P.funcs[f]? = some fn) (hn : (fn.name == "runtime.NumGoroutine") = false) (hb : fn.body.isSome = true) : Enters P f := by
  intro args w
  have hb' : fn.body.isNone = false := by rw [Option.isNone_eq_false_iff]; exact hb
  simp only [callFunc, Sem.run_bind, run_program, Result.andThen_ok, hf, hn, hb', Bool.false_eq_true, if_false, Sem.run_pure]
def Ans (P : Program) (f : FuncId) (vs : Array Value) (w : World) (Q : Ending → World → Prop) : Prop :=
  (Enters P f ∧ Calls P f vs w Q) ∨ ∃ v w', (callFunc f vs).run P w = .ok (.value v) w' ∧ Q (.returned v) w'
theorem Ans.mono {P : Program} {f : FuncId} {vs : Array Value} {w : World} {Q Q' : Ending → World → Prop} (h : Ans P f vs w Q) (hq : ∀ e w', Q e w' → Q' e w') : Ans P f vs w Q' := by
  rcases h with ⟨h1, h2⟩ | ⟨v, w', h1, h2⟩
  · exact .inl ⟨h1, h2.mono hq⟩
  · exact .inr ⟨v, w', h1, hq _ _ h2⟩
theorem Ans.calls {P : Program} {f : FuncId} {vs : Array Value} {w : World} {Q : Ending → World → Prop} (h : Ans P f vs w Q) (he : Enters P f) : Calls P f vs w Q := by
  rcases h with ⟨_, h2⟩ | ⟨v, w', h1, _⟩
  · exact h2
  · rw [he vs w] at h1; cases h1
def CallOk (P : Program) (gl : Nat → AV) (f : FuncId) (args : List AV) (hp : Tr Box) (nx : Nat) (r : AV) (hp' : Tr Box) (nx' : Nat) : Prop :=
  ∀ (m : Nat → Lc) (H : HV) (B : Nat → Prop) (H0 : HV) (rest : List (AV × Value)) (w : World) (vs : Array Value), RelH m H B H0 gl (lkb hp) nx w → args.length = vs.size →
    (∀ (j : Nat) (x : AV) (v : Value), args[j]? = some x → vs[j]? = some v → RV H (envOf (lkb hp) m) x v) → (∀ p ∈ rest, RV H (envOf (lkb hp) m) p.1 p.2) →
    Ans P f vs w fun e w' => ∃ v m' H', e = .returned v ∧ BelowS B w w' ∧ RelH m' H' B H0 gl (lkb hp') nx' w' ∧ RV H' (envOf (lkb hp') m') r v ∧ ∀ p ∈ rest, RV H' (envOf (lkb hp') m') p.1 p.2
def CallOk0 (P : Program) (gl : Nat → AV) (f : FuncId) (args : List AV) (r : AV) (hp' : Tr Box) (nx' : Nat) : Prop :=
  ∀ (m : Nat → Lc) (H : HV) (B : Nat → Prop) (H0 : HV) (w : World) (vs : Array Value), RelH m H B H0 gl (lkb .nil) 0 w → args.length = vs.size →
    (∀ (j : Nat) (x : AV) (v : Value), args[j]? = some x → vs[j]? = some v → RV H (envOf (lkb .nil) m) x v) →
    Ans P f vs w fun e w' => ∃ v m' H', e = .returned v ∧ BelowS B w w' ∧ RelH m' H' B H0 gl (lkb hp') nx' w' ∧ RV H' (envOf (lkb hp') m') r v
abbrev CallH := Nat → List AV → Tr Box → Nat → Option (AV × Tr Box × Nat)
def CallH.Ok (P : Program) (gl : Nat → AV) (ch : CallH) : Prop := ∀ f args hp nx r hp' nx', ch f args hp nx = some (r, hp', nx') → CallOk P gl f args hp nx r hp' nx'
def optL (f : AV → Option AV) : List AV → Option (List AV)
  | [] => some []
  | x :: xs => match f x with
    | some y => match optL f xs with
      | some ys => some (y :: ys)
      | none => none
    | none => none
def chunk (sz len : Nat) (ds : List AV) : List AV := (List.range len).map fun i => .agg ((ds.drop (i * sz)).take sz)
def tree (hp : Hp) (strict : Bool) : Nat → AV → Option AV
  | 0, _ => none
  | k + 1, x => match x with
    | .bs id ver sz off len => match hp id with
      | some (.cells v cs) => if v = ver ∧ off + len * sz ≤ cs.length ∧ 0 < sz then (match optL (tree hp strict k) ((cs.drop off).take (len * sz)) with
        | some ds => some (.sl sz (chunk sz len ds))
        | none => none) else none
      | _ => none
    | .agg cs => match optL (tree hp strict k) cs with
      | some ds => some (.agg ds)
      | none => none
    | .tup cs => match optL (tree hp strict k) cs with
      | some ds => some (.tup ds)
      | none => none
    | .sl sz xs => if strict && !xs.isEmpty then none else some (.sl sz xs)
    | .ip sz xs i off => if strict then none else some (.ip sz xs i off)
    | .fn f cs => match optL (tree hp strict k) cs with
      | some ds => some (.fn f ds)
      | none => none
    | .ptr .. => none
    | .ow .. => none
    | .oe .. => none
    | .yld _ => none
    | .mp _ => none
    | x => some x
theorem optL_spec {f : AV → Option AV} : ∀ {xs ys : List AV}, optL f xs = some ys → ys.length = xs.length ∧ ∀ (j : Nat) (y : AV), ys[j]? = some y → ∃ x, xs[j]? = some x ∧ f x = some y
  | [], ys, h => by simp only [optL, Option.some.injEq] at h; subst h; exact ⟨rfl, fun j y hj => by simp at hj⟩
  | x :: xs, ys, h => by
    simp only [optL] at h
    split at h
    · rename_i y hy
      split at h
      · rename_i zs hz
        cases h
        obtain ⟨h1, h2⟩ := optL_spec hz
        refine ⟨by simp [h1], fun j y' hj => ?_⟩
        cases j with
        | zero => simp only [List.getElem?_cons_zero, Option.some.injEq] at hj; subst hj; exact ⟨x, rfl, hy⟩
        | succ j => exact h2 j y' (by simpa using hj)
      · cases h
    · cases h
noncomputable def snap (H : HV) (hp : Hp) (m : Nat → Lc) (w : World) : HV := fun b o =>
  open Classical in if ∃ id bx ver, hp id = some bx ∧ bx.ver? = some ver ∧ Real bx (m id) ∧ (m id).g = b then w.cell? ⟨b, o, none⟩ else H b o
theorem snap_sat {H : HV} {hp : Hp} {m : Nat → Lc} {w : World} (h : HV.sat H w) : HV.sat (snap H hp m w) w := by
  intro b o v hv
  unfold snap at hv
  split at hv
  · exact hv
  · exact h b o v hv
theorem snap_le {H : HV} {hp : Hp} {m : Nat → Lc} {w : World} (hd : ∀ id bx, hp id = some bx → Real bx (m id) → ∀ o, H (m id).g o = none) : HV.le H (snap H hp m w) := fun b o u hu => by
  unfold snap
  split
  · rename_i hh
    obtain ⟨id, bx, ver, h1, _, h3, rfl⟩ := hh
    rw [hd id bx h1 h3 o] at hu; cases hu
  · exact hu
theorem tree_ok {H : HV} {hp : Hp} {m : Nat → Lc} {w : World} {E : Env} (strict : Bool) {H1 : HV} (hE : ∀ id ver cs, hp id = some (.cells ver cs) → E.loc id ver = some (m id)) (hbox : ∀ id ver cs, hp id = some (.cells ver cs) → BoxOk H E (.cells ver cs) (m id) w)
    (hd : ∀ id bx, hp id = some bx → Real bx (m id) → ∀ o, H (m id).g o = none) (hH1 : strict = false → H1 = H) : ∀ (k : Nat) (x t : AV) (v : Value), RV H E x v → tree hp strict k x = some t → RelI (snap H1 hp m w) t v
  | 0, x, t, v, _, h => by cases h
  | k + 1, x, t, v, hx, h => by
    have ih := tree_ok strict hE hbox hd hH1 k
    have hle : strict = false → HV.le H (snap H1 hp m w) := fun hs => by rw [hH1 hs]; exact snap_le hd
    unfold tree at h
    split at h
    · rename_i id ver sz off len
      split at h
      · rename_i v' cs hid
        split at h
        · rename_i hc
          obtain ⟨rfl, hle', hpos⟩ := hc
          split at h
          · rename_i ds hds
            cases h
            obtain ⟨hl, hget⟩ := optL_spec hds
            obtain ⟨a, cap, rfl, _, hlc, hcm, hloc⟩ := hx.bs_inv
            obtain ⟨rfl, hfit⟩ := hloc _ (hE _ _ _ hid)
            obtain ⟨C, e, hC, hsC, hle2, hcs⟩ := hbox _ _ _ hid
            have hdl : ds.length = len * sz := by rw [hl]; simp; omega
            have hcl : (chunk sz len ds).length = len := by simp [chunk]
            have hel : ∀ (i : Nat) (x : AV), (chunk sz len ds)[i]? = some x → i < len ∧ x = .agg ((ds.drop (i * sz)).take sz) := fun i x hx => by
              have hi : i < len := by rw [← hcl]; exact (List.getElem?_eq_some_iff.1 hx).1
              simp [chunk, hi] at hx
              exact ⟨hi, hx.symm⟩
            have hmul : ∀ i, i < len → i * sz + sz ≤ len * sz := fun i hi => by
              have : (i + 1) * sz ≤ len * sz := Nat.mul_le_mul_right _ hi
              rw [Nat.add_mul] at this; omega
            have hcell : ∀ (i : Nat) (x : AV) (j : Nat) (c : AV), (chunk sz len ds)[i]? = some x → x.cells[j]? = some c → i < len ∧ j < sz ∧ ds[i * sz + j]? = some c := fun i x j c hx hj => by
              obtain ⟨hi, rfl⟩ := hel i x hx
              simp only [AV.cells] at hj
              have hjl : j < sz := by have := (List.getElem?_eq_some_iff.1 hj).1; simp at this; omega
              rw [List.getElem?_take, if_pos hjl, List.getElem?_drop] at hj
              exact ⟨hi, hjl, hj⟩
            have hreal : ∀ (n : Nat) (c : AV), ds[n]? = some c → ∃ u, C[(m id).base + off + n]? = some u ∧ u.oneCell' = true ∧ RelI (snap H1 hp m w) c u := fun n c hn => by
              obtain ⟨x, h1, h2⟩ := hget n c hn
              have hnl : n < len * sz := by rw [← hdl]; exact (List.getElem?_eq_some_iff.1 hn).1
              rw [List.getElem?_take, if_pos hnl, List.getElem?_drop] at h1
              obtain ⟨u, a1, a2, a3⟩ := hcs _ _ h1
              exact ⟨u, by rw [Nat.add_assoc]; exact a1, a2, ih x c u a3 h2⟩
            have := RelI.sl (H := snap H1 hp m w) sz (chunk sz len ds) (m id).g ((m id).base + off) cap (fun i j => (C[(m id).base + off + (i * sz + j)]?).getD Go.undef) hpos (by rw [hcl]; exact hlc) hcm
              (fun i x hx => by
                obtain ⟨hi, rfl⟩ := hel i x hx
                have := hmul i hi
                simp [AV.cells]; omega)
              (fun i x j c hx hj => by
                obtain ⟨hi, hjl, hn⟩ := hcell i x j c hx hj
                obtain ⟨u, a1, a2, a3⟩ := hreal _ c hn
                rw [a1]
                refine ⟨?_, a2⟩
                have hex : ∃ id' bx ver, hp id' = some bx ∧ bx.ver? = some ver ∧ Real bx (m id') ∧ (m id').g = (m id).g := ⟨id, _, _, hid, rfl, trivial, rfl⟩
                unfold snap
                rw [if_pos hex, cell_of_row _ _ _ _ _ _ hC, Nat.add_assoc, a1]
                rfl)
              (fun i x j c hx hj => by
                obtain ⟨hi, hjl, hn⟩ := hcell i x j c hx hj
                obtain ⟨u, a1, a2, a3⟩ := hreal _ c hn
                rw [a1]; exact a3)
            rw [hcl] at this
            exact this
          · cases h
        · cases h
      · cases h
    · rename_i cs
      split at h
      · rename_i ds hds
        cases h
        obtain ⟨hl, hget⟩ := optL_spec hds
        obtain ⟨vs, rfl, h1, h2, h3⟩ := hx.agg_inv
        refine .agg ds vs (by rw [hl]; exact h1) h2 fun j c u hj hu => ?_
        obtain ⟨x, a1, a2⟩ := hget j c hj
        exact ih x c u (h3 j x u a1 hu) a2
      · cases h
    · rename_i cs
      split at h
      · rename_i ds hds
        cases h
        obtain ⟨hl, hget⟩ := optL_spec hds
        obtain ⟨vs, rfl, h1, h3⟩ := hx.tup_inv
        refine .tup ds vs (by rw [hl]; exact h1) fun j c u hj hu => ?_
        obtain ⟨x, a1, a2⟩ := hget j c hj
        exact ih x c u (h3 j x u a1 hu) a2
      · cases h
    · rename_i sz xs
      split at h
      · cases h
      · rename_i hc
        cases h
        cases strict with
        | false => exact hx.sl_inv.mono (hle rfl)
        | true =>
          simp at hc
          subst hc
          obtain ⟨a, cap, rfl, h1, h2⟩ := hx.sl_inv.len_inv
          exact .sl0 _ _ _ h2
    · rename_i sz xs i off
      split at h
      · cases h
      · rename_i hc
        cases h
        exact hx.ip_inv.mono (hle (by simpa using hc))
    · rename_i f cs
      split at h
      · rename_i ds hds
        cases h
        obtain ⟨hl, hget⟩ := optL_spec hds
        obtain ⟨vs, rfl, h1, h3⟩ := hx.fn_inv
        refine .fn f ds vs (by rw [hl]; exact h1) fun j c u hj hu => ?_
        obtain ⟨x, a1, a2⟩ := hget j c hj
        exact ih x c u (h3 j x u a1 hu) a2
      · cases h
    · cases h
    · cases h
    · cases h
    · cases h
    · cases h
    · rename_i x n1 n2 n3 n4 n5 n6 n7 n9 n10 n8 n11
      cases h
      cases hx with
      | imm _ _ hx =>
        cases hx with
        | undef => exact .undef _
        | bool => exact .bool _
        | int => exact .int _ _
        | str => exact .str _
        | nil => exact .nil
        | emp => exact .emp _
        | nilp => exact .nilp
        | nilfn => exact .nilfn
        | val => exact .val _
        | sl0 => exact absurd rfl (n4 _ _)
        | sl => exact absurd rfl (n4 _ _)
        | ip => exact absurd rfl (n5 _ _ _ _)
        | fn => exact absurd rfl (n6 _ _)
        | agg => exact absurd rfl (n2 _)
        | tup => exact absurd rfl (n3 _)
      | ptr => exact absurd rfl (n7 _ _ _)
      | bs => exact absurd rfl (n1 _ _ _ _ _)
      | ow => exact absurd rfl (n9 _ _ _ _)
      | oe => exact absurd rfl (n10 _ _ _ _ _)
      | yld => exact absurd rfl (n8 _)
      | mp => exact absurd rfl (n11 _)
      | fn => exact absurd rfl (n6 _ _)
      | agg => exact absurd rfl (n2 _)
      | tup => exact absurd rfl (n3 _)
def immN : AV → Bool
  | .bool _ | .int _ _ | .str _ => true
  | _ => false
def immE (x : AV) : Bool := x.cells.all immN
theorem immN_any {H H' : HV} {c : AV} {v : Value} (h : RelI H c v) (hc : immN c = true) : RelI H' c v := by
  cases h with
  | bool b => exact .bool b
  | int k n => exact .int k n
  | str s => exact .str s
  | _ => cases hc
theorem CellsI.imm {H H' : HV} {xs : List AV} {l : Lc} {w : World} (h : CellsI H (xs.flatMap AV.cells) l w) (hi : xs.all immE = true) : CellsI H' (xs.flatMap AV.cells) l w := by
  obtain ⟨C, e, h1, h2, h3, h4⟩ := h
  refine ⟨C, e, h1, h2, h3, fun j c hj => ?_⟩
  obtain ⟨v, a, b, d⟩ := h4 j c hj
  obtain ⟨x, hx, hc⟩ := List.mem_flatMap.1 (List.mem_of_getElem? hj)
  exact ⟨v, a, b, immN_any d (List.all_eq_true.1 (List.all_eq_true.1 hi x hx) c hc)⟩
def xpureR (strict : Bool) (bid : Nat) (o : Option (AV × Tr Box × Nat)) : Option (AV × Option (Nat × Box)) :=
  match o with
  | some (r, hp', _) => match r with
    | .bs id ver sz off len => match lkb hp' id with
      | some (.cells v cs) => if v = ver ∧ off + len * sz ≤ cs.length ∧ 0 < sz then (match optL (tree (updF (lkb hp') id none) strict 12) ((cs.drop off).take (len * sz)) with
          | some ds => some (.bs bid 0 sz 0 len, some (bid, .cells 0 ds))
          | none => none) else none
      | _ => none
    | .ow id ver sz len => match lkb hp' id with
      | some (.own v z xs) => match Nat.beq v ver && (Nat.beq z sz && (!strict || xs.all immE)) with
        | true => some (.ow bid 0 sz len, some (bid, .own 0 sz xs))
        | false => none
      | _ => none
    | r => xv (tree (lkb hp') strict 12 r)
  | none => none
def xpure (ch : CallH) (hp : Hp) (bid f : Nat) (args : List AV) : Option (AV × Option (Nat × Box)) :=
  match optL (tree (fun _ => none) false 12) args with
  | some ts => xpureR false bid (ch f ts .nil 0)
  | none => match optL (tree hp false 12) args with
    | some ts => xpureR true bid (ch f ts .nil 0)
    | none => none
section
variable {P : Program} {m : Nat → Lc} {H : HV} {B : Nat → Prop} {H0 : HV} {gl : Nat → AV} {rest : List (AV × Value)} {st : St} {a : Act} {w : World} {dst : Option Nat}
theorem live_all {hp : Hp} {m : Nat → Lc} (id ver : Nat) (cs : List AV) (h : hp id = some (.cells ver cs)) : (envOf hp m).loc id ver = some (m id) := live_loc h
theorem RelS.after (h : RelS m H B H0 gl rest st a.tmps w) {w' : World} (hb : Below w.heap.size w w') (K : HV) (hK : ∀ b o v, K b o = some v → w'.cell? ⟨b, o, none⟩ = some v) :
    RelS m (fun b o => if b < w.heap.size then H b o else K b o) B H0 gl rest st a.tmps w' ∧ HV.le H (fun b o => if b < w.heap.size then H b o else K b o) := by
  have hle : HV.le H (fun b o => if b < w.heap.size then H b o else K b o) := fun b o v hv => by
    have := sat_lt h.heap.sat hv
    simp only [if_pos this]; exact hv
  refine ⟨⟨?_, h.size, fun k => (h.slot k).mono hle (.refl _), fun p hp => (h.rest p hp).mono hle (.refl _)⟩, hle⟩
  exact { sat := fun b o v hv => by
            simp only at hv
            split at hv
            · rename_i hlt
              rw [← h.heap.sat b o v hv]; exact hb.cell (p := ⟨b, o, none⟩) hlt
            · exact hK b o v hv
          old := fun b o hlt => by
            simp only [if_pos (h.heap.low b hlt)]; exact h.heap.old b o hlt
          low := fun b hB => Nat.lt_of_lt_of_le (h.heap.low b hB) hb.size
          fresh := h.heap.fresh
          box := fun id b hid => (h.heap.box id b hid).mono' hle (.refl _) fun hr => hb.block _ (h.heap.sepR id b hid hr).2.1
          sepR := fun id b hid hr => by
            obtain ⟨x, y, z⟩ := h.heap.sepR id b hid hr
            exact ⟨x, Nat.lt_of_lt_of_le y hb.size, fun o => by simp only [if_pos y]; exact z o⟩
          injR := h.heap.injR
          gl := fun g => (h.heap.gl g).mono hle
          ty := fun id ver cs hid => (h.heap.ty id ver cs hid).mono (hb.block _ (h.heap.sep id _ hid).2.1)
          gv := h.heap.gv.mono fun k hk => hb.block k (h.heap.low k hk) }
theorem optL_rel {f : AV → Option AV} {xs ts : List AV} {vs : Array Value} {R R' : AV → Value → Prop} (hl : xs.length = vs.size) (hr : ∀ (j : Nat) (x : AV) (v : Value), xs[j]? = some x → vs[j]? = some v → R x v) (h : optL f xs = some ts)
    (hf : ∀ x t v, R x v → f x = some t → R' t v) : ts.length = vs.size ∧ ∀ (j : Nat) (x : AV) (v : Value), ts[j]? = some x → vs[j]? = some v → R' x v := by
  obtain ⟨h1, h2⟩ := optL_spec h
  refine ⟨by rw [h1]; exact hl, fun j x v hx hv => ?_⟩
  obtain ⟨y, hy, hfy⟩ := h2 j x hx
  exact hf y x v (hr j y v hy hv) hfy
theorem xpure_main {ch : CallH} (hch : ∀ f ts r0 hp' nx', ch f ts .nil 0 = some (r0, hp', nx') → CallOk0 P gl f ts r0 hp' nx') (h : RelS m H B H0 gl rest st a.tmps w) (hd : dstOk dst st.n = true) {bid : Nat} (hb : lkb st.hp bid = none) (hn : bid < st.nx) {f : Nat} {vs : Array Value} {r : AV × Option (Nat × Box)}
    (strict : Bool) (hpx : Hp) (ts : List AV) (hsub : ∀ id bx, hpx id = some bx → lkb st.hp id = some bx) (hstr : strict = false → hpx = fun _ => none) (hl' : ts.length = vs.size) (hr' : ∀ (j : Nat) (x : AV) (v : Value), ts[j]? = some x → vs[j]? = some v → RelI (snap H hpx m w) x v)
    (hk : xpureR strict bid (ch f ts .nil 0) = some r) : Ans P f vs w fun e w' => ∃ v m' H', e = .returned v ∧ BelowS B w w' ∧ RelS m' H' B H0 gl rest (st.eff dst r) (a.put dst v).tmps w' := by
  have hbox : ∀ id ver cs, hpx id = some (.cells ver cs) → BoxOk H (st.env m) (.cells ver cs) (m id) w := fun id ver cs hh => h.heap.box id _ (hsub _ _ hh)
  have hdis : ∀ id bx, hpx id = some bx → Real bx (m id) → ∀ o, H (m id).g o = none := fun id bx hh hr => (h.heap.sepR id _ (hsub _ _ hh) hr).2.2
  unfold xpureR at hk
  split at hk
  · rename_i r0 hp' nx' hcall
    have hc := hch _ _ _ _ _ hcall
    have h0 : RelH m (snap H hpx m w) (fun k => k < w.heap.size) (snap H hpx m w) gl (lkb .nil) 0 w :=
      { sat := snap_sat h.heap.sat, old := fun _ _ _ => rfl, low := fun _ hk => hk, fresh := fun _ _ => lkb_nil _, box := (fun _ _ hh => by rw [lkb_nil] at hh; cases hh), sepR := (fun _ _ hh => by rw [lkb_nil] at hh; cases hh), injR := (fun _ _ _ _ hh => by rw [lkb_nil] at hh; cases hh), gl := fun g => (h.heap.gl g).mono (snap_le hdis), ty := (fun _ _ _ hh => by rw [lkb_nil] at hh; cases hh), gv := fun g sz cs hg => let ⟨h1, h2⟩ := h.heap.gv g sz cs hg; ⟨h.heap.low _ h1, h2⟩ }
    refine (hc m (snap H hpx m w) _ (snap H hpx m w) w vs h0 hl' (fun j x v hx hv => .imm _ _ (hr' j x v hx hv))).mono fun e w' hpost => ?_
    obtain ⟨v, m', H', rfl, hbl, hH, hrv⟩ := hpost
    have key : ∀ (hpy : Hp), (∀ id bx, hpy id = some bx → lkb hp' id = some bx) →
        HV.le (snap (if strict then fun _ _ => none else H') hpy m' w') (fun b o => if b < w.heap.size then H b o else snap H' hpy m' w' b o) := by
      intro hpy hsy b o u hu
      unfold snap at hu
      split at hu
      · rename_i hh
        obtain ⟨id, bx, ver, h1, h1', h1'', h2⟩ := hh
        have hge := (hH.sepR id _ (hsy _ _ h1) h1'').1
        rw [h2] at hge
        simp only [if_neg (show ¬ b < w.heap.size from hge)]
        unfold snap
        rw [if_pos ⟨id, bx, ver, h1, h1', h1'', h2⟩]; exact hu
      · rename_i hh
        cases strict with
        | true => simp at hu
        | false =>
          simp only [Bool.false_eq_true, if_false] at hu
          by_cases hlt : b < w.heap.size
          · simp only [if_pos hlt]
            rw [hH.old b o hlt] at hu
            unfold snap at hu
            rw [if_neg (by rw [hstr rfl]; rintro ⟨_, _, _, e, _⟩; cases e)] at hu
            exact hu
          · simp only [if_neg hlt]
            unfold snap
            rw [if_neg hh]; exact hu
    have hval : ∀ (hpy : Hp), (∀ id bx, hpy id = some bx → lkb hp' id = some bx) → ∀ (x t : AV) (u : Value), RV H' (envOf (lkb hp') m') x u → tree hpy strict 12 x = some t → RelI (fun b o => if b < w.heap.size then H b o else snap H' hpy m' w' b o) t u := by
      intro hpy hsy x t u hx ht
      refine (tree_ok (H1 := if strict then fun _ _ => none else H') strict (fun id ver cs hh => live_loc (hsy _ _ hh)) (fun id ver cs hh => hH.box id _ (hsy _ _ hh)) (fun id bx hh hr => (hH.sepR id _ (hsy _ _ hh) hr).2.2) (fun e => by simp [e]) 12 x t u hx ht).mono (key hpy hsy)
    have hsat : ∀ (hpy : Hp), ∀ b o v, snap H' hpy m' w' b o = some v → w'.cell? ⟨b, o, none⟩ = some v := fun hpy => snap_sat hH.sat
    have hBl : BelowS B w w' := hbl.mono h.heap.low
    have hbl := hbl.toB
    split at hk
    · rename_i id ver sz off len
      split at hk
      · rename_i v' cs hid
        split at hk
        · rename_i hcond
          obtain ⟨rfl, hle, hpos⟩ := hcond
          split at hk
          · rename_i ds hds
            cases hk
            have hsy : ∀ id2 bx, updF (lkb hp') id none id2 = some bx → lkb hp' id2 = some bx := fun id2 bx hh => by
              by_cases e : id2 = id
              · subst e; rw [updF_same] at hh; cases hh
              · rwa [updF_ne _ _ e] at hh
            obtain ⟨hA, hleA⟩ := h.after hbl (snap H' (updF (lkb hp') id none) m' w') (hsat _)
            obtain ⟨ad, cap, rfl, _, hlc, hcm, hloc⟩ := hrv.bs_inv
            obtain ⟨rfl, hfit⟩ := hloc _ (live_loc hid)
            obtain ⟨C, e, hC, hsC, hle2, hcs⟩ := hH.box id _ hid
            obtain ⟨s1, s2, s3⟩ := hH.sep id _ hid
            obtain ⟨hdl, hget⟩ := optL_spec hds
            have hE := env_new (m := m) (hp := lkb st.hp) (b := .cells 0 ds) (l := ⟨(m' id).g, (m' id).base + off, (m' id).size⟩) hb
            have hnone : ∀ o, snap H' (updF (lkb hp') id none) m' w' (m' id).g o = none := fun o => by
              unfold snap
              rw [if_neg ?_]
              · exact s3 o
              · rintro ⟨id2, bx, ver, h1, _, hr, h2⟩
                have h1' := hsy _ _ h1
                have := hH.injR id2 id _ _ h1' hid hr trivial h2
                subst this
                rw [updF_same] at h1; cases h1
            have hh := hA.heap.one (id := bid) (b := .cells 0 ds) (l := ⟨(m' id).g, (m' id).base + off, (m' id).size⟩) (w' := w') (fun _ _ _ => rfl) (Nat.le_refl _) hE
              ⟨fun hb => s1 (h.heap.low _ hb), s2, fun o => by simp only [if_neg (show ¬ (m' id).g < w.heap.size from s1)]; exact hnone o⟩
              (fun id2 b2 _ hid2 hr => by have := (h.heap.sepR id2 b2 hid2 hr).2.1; have s1' : ¬ (m' id).g < w.heap.size := s1; show (m id2).g ≠ (m' id).g; omega) hn (Nat.le_refl _) (by
                refine ⟨C, e, hC, hsC, ?_, fun j c hj => ?_⟩
                · rw [hdl]; show (m' id).base + off + _ ≤ _; simp; omega
                · obtain ⟨x, hx, ht⟩ := hget j c hj
                  have hjl : j < len * sz := by
                    have := (List.getElem?_eq_some_iff.1 hx).1
                    simp at this; omega
                  rw [List.getElem?_take, if_pos hjl, List.getElem?_drop] at hx
                  obtain ⟨u, a1, a2, a3⟩ := hcs _ _ hx
                  exact ⟨u, by show C[(m' id).base + off + j]? = some u; rw [Nat.add_assoc]; exact a1, a2, .imm _ _ (hval _ hsy x c u a3 ht)⟩) (fun ver cs e => by cases e; exact .inl rfl)
            have h1 := hA.heapTo (hp' := pt st.hp bid (.cells 0 ds)) (nx' := st.nx) (by rw [lkb_pt]; exact hh) (.refl _) (by rw [lkb_pt]; exact hE)
            have hv : RV (fun b o => if b < w.heap.size then H b o else snap H' (updF (lkb hp') id none) m' w' b o) (envOf (lkb (pt st.hp bid (.cells 0 ds))) (updF m bid ⟨(m' id).g, (m' id).base + off, (m' id).size⟩)) (.bs bid 0 sz 0 len) (.slice (some ⟨(m' id).g, (m' id).base + off, none⟩) len cap) := by
              rw [lkb_pt]
              refine .bs bid 0 sz 0 len _ cap (al_new _ _ _ _ _) hlc hcm fun l hl => ?_
              rw [loc_new] at hl
              cases hl
              exact ⟨rfl, by simpa using hfit⟩
            have h2 := h1.putO (dst := dst) hd hv
            have : ({ st with hp := pt st.hp bid (.cells 0 ds), nx := st.nx } : St).putO dst (.bs bid 0 sz 0 len) = st.eff dst (.bs bid 0 sz 0 len, some (bid, .cells 0 ds)) := by cases dst <;> rfl
            rw [this] at h2
            exact ⟨_, _, _, rfl, hBl, h2⟩
          · cases hk
        · cases hk
      · cases hk
    · rename_i id ver sz len
      split at hk
      · rename_i v' z xs hid
        split at hk
        · rename_i hcond
          rw [Bool.and_eq_true, Bool.and_eq_true] at hcond
          obtain ⟨hv1, hz1, hst⟩ := hcond
          obtain rfl := Nat.eq_of_beq_eq_true hv1
          obtain rfl := Nat.eq_of_beq_eq_true hz1
          cases hk
          have hsy : ∀ id2 bx, updF (lkb hp') id none id2 = some bx → lkb hp' id2 = some bx := fun id2 bx hh => by
            by_cases e : id2 = id
            · subst e; rw [updF_same] at hh; cases hh
            · rwa [updF_ne _ _ e] at hh
          obtain ⟨hA, hleA⟩ := h.after hbl (snap H' (updF (lkb hp') id none) m' w') (hsat _)
          obtain ⟨ad, cap, rfl, _, hlc, hcm, hnl, hloc⟩ := hrv.ow_inv
          have hloc := hloc _ (live_own hid)
          have hle' : strict = false → HV.le H' (fun b o => if b < w.heap.size then H b o else snap H' (updF (lkb hp') id none) m' w' b o) := fun hst b o u hu => by
            by_cases hlt : b < w.heap.size
            · simp only [if_pos hlt]
              rw [hH.old b o hlt] at hu
              unfold snap at hu
              rw [if_neg (by rw [hstr hst]; rintro ⟨_, _, _, e, _⟩; cases e)] at hu
              exact hu
            · simp only [if_neg hlt]
              exact snap_le (fun id bx hh hr => (hH.sepR id _ (hsy _ _ hh) hr).2.2) b o u hu
          have hE := env_new (m := m) (hp := lkb st.hp) (b := .own 0 z xs) (l := m' id) hb
          have hnone : Real (.own v' z xs) (m' id) → ∀ o, snap H' (updF (lkb hp') id none) m' w' (m' id).g o = none := fun hre o => by
            unfold snap
            rw [if_neg ?_]
            · exact (hH.sepR id _ hid hre).2.2 o
            · rintro ⟨id2, bx, ver, h1, _, hr, h2⟩
              have h1' := hsy _ _ h1
              have := hH.injR id2 id _ _ h1' hid hr hre h2
              subst this
              rw [updF_same] at h1; cases h1
          have hh := hA.heap.oneR (id := bid) (b := .own 0 z xs) (l := m' id) (w' := w') (fun _ _ _ => rfl) (Nat.le_refl _) hE
            (fun hre => by
              have hre : Real (.own v' z xs) (m' id) := hre
              obtain ⟨s1, s2, s3⟩ := hH.sepR id _ hid hre
              exact ⟨fun hb => s1 (h.heap.low _ hb), s2, fun o => by simp only [if_neg (show ¬ (m' id).g < w.heap.size from s1)]; exact hnone hre o⟩)
            (fun id2 b2 _ hid2 hr hre => by
              have hre : Real (.own v' z xs) (m' id) := hre
              have := (h.heap.sepR id2 b2 hid2 hr).2.1
              have s1' : ¬ (m' id).g < w.heap.size := (hH.sepR id _ hid hre).1
              show (m id2).g ≠ (m' id).g; omega) hn (Nat.le_refl _) (by
              obtain ⟨q0, q1, q2⟩ := hH.box id _ hid
              refine ⟨q0, q1, ?_⟩
              rcases q2 with q2 | ⟨q2, q3⟩
              · exact .inl q2
              · refine .inr ⟨q2, ?_⟩
                cases hs : strict with
                | false => exact q3.mono (hle' hs) rfl
                | true => rw [hs] at hst; exact q3.imm (by simpa using hst)) (fun ver cs e => by cases e)
          have h1 := hA.heapTo (hp' := pt st.hp bid (.own 0 z xs)) (nx' := st.nx) (by rw [lkb_pt]; exact hh) (.refl _) (by rw [lkb_pt]; exact hE)
          have hv : RV (fun b o => if b < w.heap.size then H b o else snap H' (updF (lkb hp') id none) m' w' b o) (envOf (lkb (pt st.hp bid (.own 0 z xs))) (updF m bid (m' id))) (.ow bid 0 z len) (.slice ad len cap) := by
            rw [lkb_pt]
            refine .ow bid 0 z len ad cap ⟨_, updF_same _ _ _, fun v2 h => by cases h; exact Nat.le_refl _⟩ hlc hcm hnl fun l hl => ?_
            rw [live_own (updF_same _ _ _), updF_same] at hl
            cases hl
            exact hloc
          have h2 := h1.putO (dst := dst) hd hv
          have : ({ st with hp := pt st.hp bid (.own 0 z xs), nx := st.nx } : St).putO dst (.ow bid 0 z len) = st.eff dst (.ow bid 0 z len, some (bid, .own 0 z xs)) := by cases dst <;> rfl
          rw [this] at h2
          exact ⟨_, _, _, rfl, hBl, h2⟩
        · cases hk
      · cases hk
    · obtain ⟨t, ht, rfl⟩ := xv_inv hk
      obtain ⟨hA, hleA⟩ := h.after hbl (snap H' (lkb hp') m' w') (hsat _)
      exact ⟨v, m, _, rfl, hBl, hA.putO hd (.imm _ _ (hval _ (fun _ _ hh => hh) r0 t v hrv ht))⟩
  · cases hk
theorem xpure_ok0 {ch : CallH} (hch : ∀ f ts r0 hp' nx', ch f ts .nil 0 = some (r0, hp', nx') → CallOk0 P gl f ts r0 hp' nx') (h : RelS m H B H0 gl rest st a.tmps w) (hd : dstOk dst st.n = true) {bid : Nat} (hb : lkb st.hp bid = none) (hn : bid < st.nx) {f : Nat} {args : List AV} {vs : Array Value} {r : AV × Option (Nat × Box)} (hl : args.length = vs.size)
    (hr : ∀ (j : Nat) (x : AV) (v : Value), args[j]? = some x → vs[j]? = some v → RV H (st.env m) x v) (hk : xpure ch (lkb st.hp) bid f args = some r) :
    Ans P f vs w fun e w' => ∃ v m' H', e = .returned v ∧ BelowS B w w' ∧ RelS m' H' B H0 gl rest (st.eff dst r) (a.put dst v).tmps w' := by
  have main : ∀ (strict : Bool) (hpx : Hp) (ts : List AV), (∀ id bx, hpx id = some bx → lkb st.hp id = some bx) → (strict = false → hpx = fun _ => none) → optL (tree hpx false 12) args = some ts → xpureR strict bid (ch f ts .nil 0) = some r →
      Ans P f vs w fun e w' => ∃ v m' H', e = .returned v ∧ BelowS B w w' ∧ RelS m' H' B H0 gl rest (st.eff dst r) (a.put dst v).tmps w' := by
    intro strict hpx ts hsub hstr hts hk
    have hbox : ∀ id ver cs, hpx id = some (.cells ver cs) → BoxOk H (st.env m) (.cells ver cs) (m id) w := fun id ver cs hh => h.heap.box id _ (hsub _ _ hh)
    have hdis : ∀ id bx, hpx id = some bx → Real bx (m id) → ∀ o, H (m id).g o = none := fun id bx hh hr => (h.heap.sepR id _ (hsub _ _ hh) hr).2.2
    obtain ⟨hl', hr'⟩ := optL_rel (R' := RelI (snap H hpx m w)) hl hr hts fun x t v hx ht => tree_ok (H1 := H) false (fun id ver cs hh => live_loc (hsub _ _ hh)) hbox hdis (fun _ => rfl) 12 x t v hx ht
    exact xpure_main hch h hd hb hn strict hpx ts hsub hstr hl' hr' hk
  unfold xpure at hk
  split at hk
  · rename_i ts hts
    exact main false (fun _ => none) ts (fun _ _ hh => by cases hh) (fun _ => rfl) hts hk
  · split at hk
    · rename_i ts hts
      exact main true (lkb st.hp) ts (fun _ _ hh => hh) (fun e => by cases e) hts hk
    · cases hk
theorem CallOk.zero {f : Nat} {args : List AV} {r : AV} {hp' : Tr Box} {nx' : Nat} (h : CallOk P gl f args .nil 0 r hp' nx') : CallOk0 P gl f args r hp' nx' :=
  fun m H B H0 w vs hh hl hv => (h m H B H0 [] w vs hh hl hv (fun p hp => by simp at hp)).mono fun _ _ ⟨v, m', H', a, b, c, d, _⟩ => ⟨v, m', H', a, b, c, d⟩
theorem xpure_ok {ch : CallH} (hch : ch.Ok P gl) (h : RelS m H B H0 gl rest st a.tmps w) (hd : dstOk dst st.n = true) {bid : Nat} (hb : lkb st.hp bid = none) (hn : bid < st.nx) {f : Nat} {args : List AV} {vs : Array Value} {r : AV × Option (Nat × Box)} (hl : args.length = vs.size)
    (hr : ∀ (j : Nat) (x : AV) (v : Value), args[j]? = some x → vs[j]? = some v → RV H (st.env m) x v) (hk : xpure ch (lkb st.hp) bid f args = some r) :
    Ans P f vs w fun e w' => ∃ v m' H', e = .returned v ∧ BelowS B w w' ∧ RelS m' H' B H0 gl rest (st.eff dst r) (a.put dst v).tmps w' :=
  xpure_ok0 (fun _ _ _ _ _ hk => (hch _ _ _ _ _ _ _ hk).zero) h hd hb hn hl hr hk
end
end HY
end
section
namespace HY
open Go Go.RowKit
def Conv (gl : Nat → AV) (st st' : St) : Prop := st'.n = st.n ∧ ∀ (m : Nat → Lc) (H : HV) (B : Nat → Prop) (H0 : HV) (rest : List (AV × Value)) (tmps : Array Value) (w : World), RelS m H B H0 gl rest st tmps w → ∃ m' H', RelS m' H' B H0 gl rest st' tmps w
theorem Conv.refl {gl : Nat → AV} {st : St} : Conv gl st st := ⟨rfl, fun m H _ _ _ _ _ h => ⟨m, H, h⟩⟩
theorem Conv.trans {gl : Nat → AV} {a b c : St} (h : Conv gl a b) (k : Conv gl b c) : Conv gl a c := ⟨k.1.trans h.1, fun m H B H0 rest tmps w hr => by
  obtain ⟨m', H', h'⟩ := h.2 m H B H0 rest tmps w hr
  exact k.2 m' H' B H0 rest tmps w h'⟩
theorem envAll {hp : Hp} {m : Nat → Lc} {id ver : Nat} {b : Box} (h : hp id = some b) (hv : b.ver? = some ver) : (envOf hp m).loc id ver = some (m id) := by simp [envOf, h, hv]
theorem alAll {hp : Hp} {m : Nat → Lc} {id ver : Nat} {b : Box} (h : hp id = some b) (hv : b.ver? = some ver) : (envOf hp m).al id ver := ⟨b, h, fun v e => by rw [hv] at e; cases e; exact Nat.le_refl _⟩
def inVal : List Nat → AV → Option AV
  | [], v => some v
  | i :: p, v => match v with
    | .agg cs => match cs[i]? with
      | some c => inVal p c
      | none => none
    | .tup cs => match cs[i]? with
      | some c => inVal p c
      | none => none
    | _ => none
def putAt : List Nat → AV → AV → AV
  | [], _, y => y
  | i :: p, v, y => match v with
    | .agg cs => match cs[i]? with
      | some c => .agg (cs.set i (putAt p c y))
      | none => v
    | .tup cs => match cs[i]? with
      | some c => .tup (cs.set i (putAt p c y))
      | none => v
    | v => v
theorem putAt_ok {H H' : HV} {E E' : Env} (hle : HV.le H H') (hE : Env.le E E') {x y : AV} (hx : ∀ u, RV H E x u → RV H' E' y u) : ∀ (p : List Nat) (v : AV) (u : Value), RV H E v u → inVal p v = some x → RV H' E' (putAt p v y) u
  | [], v, u, h, hi => by cases hi; exact hx u h
  | i :: p, v, u, h, hi => by
    simp only [inVal] at hi
    split at hi
    · rename_i cs
      split at hi
      · rename_i c hc
        simp only [putAt, hc]
        obtain ⟨vs, rfl, hl, h1, hcs⟩ := h.agg_inv
        refine .agg _ vs (by simpa using hl) h1 fun j c' v' hj hv => ?_
        rw [List.getElem?_set] at hj
        split at hj
        · rename_i hij
          subst hij
          split at hj
          · cases hj; exact putAt_ok hle hE hx p c v' (hcs _ c v' hc hv) hi
          · cases hj
        · exact (hcs j c' v' hj hv).mono hle hE
      · cases hi
    · rename_i cs
      split at hi
      · rename_i c hc
        simp only [putAt, hc]
        obtain ⟨vs, rfl, hl, hcs⟩ := h.tup_inv
        refine .tup _ vs (by simpa using hl) fun j c' v' hj hv => ?_
        rw [List.getElem?_set] at hj
        split at hj
        · rename_i hij
          subst hij
          split at hj
          · cases hj; exact putAt_ok hle hE hx p c v' (hcs _ c v' hc hv) hi
          · cases hj
        · exact (hcs j c' v' hj hv).mono hle hE
      · cases hi
    · cases hi
theorem slot_put {gl : Nat → AV} {m m' : Nat → Lc} {H H' : HV} {B : Nat → Prop} {H0 : HV} {rest : List (AV × Value)} {st : St} {tmps : Array Value} {w : World} {hp' : Tr Box} {nx' : Nat} (h : RelS m H B H0 gl rest st tmps w) (hh : RelH m' H' B H0 gl (lkb hp') nx' w) (hle : HV.le H H') (hE : Env.le (st.env m) (envOf (lkb hp') m')) (k : Nat) (p : List Nat) {x y : AV} (hi : inVal p (st.get k) = some x) (hx : ∀ u, RV H (st.env m) x u → RV H' (envOf (lkb hp') m') y u) :
    RelS m' H' B H0 gl rest ⟨st.n, pt st.sl k (putAt p (st.get k) y), hp', nx'⟩ tmps w := by
  refine ⟨hh, h.size, fun j => ?_, fun p hp => (h.rest p hp).mono hle hE⟩
  show RV H' _ (lk .undef (pt st.sl k _) j) _
  rw [lk_pt]
  by_cases e : k = j
  · subst e
    rw [if_pos rfl]
    exact putAt_ok hle hE hx p _ _ (h.slot k) hi
  · rw [if_neg e]; exact (h.slot j).mono hle hE
section
variable {m : Nat → Lc} {H : HV} {B : Nat → Prop} {H0 : HV} {gl : Nat → AV} {rest : List (AV × Value)} {st : St} {tmps : Array Value} {w : World}
theorem RelS.newOwn (h : RelS m H B H0 gl rest st tmps w) (sz : Nat) (hpos : 0 < sz) : RelS (updF m st.nx ⟨0, 0, 0⟩) H B H0 gl rest ⟨st.n, st.sl, pt st.hp st.nx (.own 0 sz []), st.nx + 1⟩ tmps w ∧ Env.le (st.env m) (envOf (lkb (pt st.hp st.nx (.own 0 sz []))) (updF m st.nx ⟨0, 0, 0⟩)) := by
  have hn := h.heap.fresh st.nx (Nat.le_refl _)
  have hE := env_new (m := m) (hp := lkb st.hp) (b := .own 0 sz []) (l := ⟨0, 0, 0⟩) hn
  have hh := h.heap.oneR (id := st.nx) (nx' := st.nx + 1) (b := .own 0 sz []) (l := ⟨0, 0, 0⟩) (w' := w) (fun _ _ _ => rfl) (Nat.le_refl _) hE (fun hr => absurd hr (Nat.lt_irrefl 0)) (fun _ _ _ _ _ hr => absurd hr (Nat.lt_irrefl 0)) (Nat.lt_succ_self _) (Nat.le_succ _) ⟨hpos, fun x hx => by simp at hx, .inl ⟨rfl, rfl⟩⟩ (fun _ _ e => by cases e)
  rw [← lkb_pt] at hh hE
  exact ⟨⟨hh, h.size, fun k => (h.slot k).mono (.refl _) hE, fun p hp => (h.rest p hp).mono (.refl _) hE⟩, hE⟩
theorem ow_new {hp : Tr Box} {id sz : Nat} {a : Option Addr} : RV H (envOf (lkb (pt hp id (.own 0 sz []))) (updF m id ⟨0, 0, 0⟩)) (.ow id 0 sz 0) (.slice a 0 0) := by
  rw [lkb_pt]
  refine .ow id 0 sz 0 a 0 (alAll (updF_same _ _ _) rfl) (Nat.le_refl _) (Nat.zero_le _) (fun _ => rfl) fun l hl => ?_
  rw [envAll (updF_same _ _ _) rfl, updF_same] at hl
  cases hl
  exact .inl ⟨rfl, rfl⟩
def isNil : AV → Bool
  | .nil => true
  | .emp => true
  | _ => false
theorem isNil_inv {E : Env} {x : AV} {v : Value} (hx : RV H E x v) (h : isNil x = true) : ∃ a, v = .slice a 0 0 := by
  cases x <;> first | (cases h; done) | skip
  · exact ⟨_, hx.nil_inv⟩
  · exact hx.emp_inv
theorem conv_slot (k : Nat) (p : List Nat) (sz : Nat) (x : AV) (hpos : 0 < sz) (hi : inVal p (st.get k) = some x) (hk : isNil x = true) : Conv gl st ⟨st.n, pt st.sl k (putAt p (st.get k) (.ow st.nx 0 sz 0)), pt st.hp st.nx (.own 0 sz []), st.nx + 1⟩ := ⟨rfl, fun m H B H0 rest tmps w h => by
  obtain ⟨h1, hE⟩ := h.newOwn sz hpos
  exact ⟨_, H, slot_put h h1.heap (.refl _) hE k p hi fun u hu => by
    obtain ⟨a, rfl⟩ := isNil_inv hu hk
    exact ow_new⟩⟩
theorem CellsAt.set {E : Env} {cs : List AV} {l : Lc} (h : CellsAt H E cs l w) (i : Nat) (x : AV) (hx : ∀ c v, cs[i]? = some c → RV H E c v → v.oneCell' = true → RV H E x v) : CellsAt H E (cs.set i x) l w := by
  obtain ⟨C, e, h1, h2, h3, h4⟩ := h
  refine ⟨C, e, h1, h2, by simpa using h3, fun j c hj => ?_⟩
  rw [List.getElem?_set] at hj
  split at hj
  · rename_i hij
    subst hij
    split at hj
    · rename_i hlt
      cases hj
      obtain ⟨v, a1, a2, a3⟩ := h4 i _ (List.getElem?_eq_getElem hlt)
      exact ⟨v, a1, a2, hx _ v (List.getElem?_eq_getElem hlt) a3 a2⟩
    · cases hj
  · exact h4 j c hj
theorem RelS.reBox (h : RelS m H B H0 gl rest st tmps w) {id ver : Nat} {b b' : Box} (hid : lkb st.hp id = some b) (hv : b.ver? = some ver) (hv' : b'.ver? = some ver) (hr : Real b' (m id) → Real b (m id)) (hb : BoxOk H (envOf (lkb (pt st.hp id b')) m) b' (m id) w) (hty : ∀ v cs, b' = .cells v cs → TyOk w (m id) v) :
    RelS m H B H0 gl rest ⟨st.n, st.sl, pt st.hp id b', st.nx⟩ tmps w ∧ Env.le (st.env m) (envOf (lkb (pt st.hp id b')) m) := by
  have hE := env_sameV (m := m) (hp := lkb st.hp) (b' := b') (l := m id) hid hv hv' rfl
  rw [updF_self] at hE
  have hidn : id < st.nx := by
    rcases Nat.lt_or_ge id st.nx with hlt | hge
    · exact hlt
    · have := h.heap.fresh id hge; rw [this] at hid; cases hid
  have hh := h.heap.oneR (id := id) (nx' := st.nx) (b := b') (l := m id) (w' := w) (fun _ _ _ => rfl) (Nat.le_refl _) (by rw [updF_self]; exact hE) (fun r => h.heap.sepR id b hid (hr r)) (fun id' b2 hne hb2 r2 r e => hne (h.heap.injR id' id b2 b hb2 hid r2 (hr r) e)) hidn (Nat.le_refl _) (by rw [updF_self, ← lkb_pt]; exact hb) hty
  rw [updF_self, ← lkb_pt] at hh
  rw [← lkb_pt] at hE
  exact ⟨⟨hh, h.size, fun k => (h.slot k).mono (.refl _) hE, fun p hp => (h.rest p hp).mono (.refl _) hE⟩, hE⟩
theorem conv_cell (id i sz ver : Nat) (cs : List AV) (c : AV) (hpos : 0 < sz) (hid : lkb st.hp id = some (.cells ver cs)) (hc : cs[i]? = some c) (hk : isNil c = true) : Conv gl st ⟨st.n, st.sl, pt (pt st.hp st.nx (.own 0 sz [])) id (.cells ver (cs.set i (.ow st.nx 0 sz 0))), st.nx + 1⟩ := ⟨rfl, fun m H B H0 rest tmps w h => by
  have hne : id ≠ st.nx := fun e => by have := h.heap.fresh st.nx (Nat.le_refl _); rw [← e, hid] at this; cases this
  obtain ⟨h1, hE⟩ := h.newOwn sz hpos
  have hid1 : lkb (pt st.hp st.nx (.own 0 sz [])) id = some (.cells ver cs) := by rw [lkb_pt, updF_ne _ _ hne]; exact hid
  obtain ⟨h2, _⟩ := h1.reBox (b' := .cells ver (cs.set i (.ow st.nx 0 sz 0))) hid1 rfl rfl (fun _ => trivial) (by
    have hE2 := env_sameV (m := updF m st.nx ⟨0, 0, 0⟩) (hp := lkb (pt st.hp st.nx (.own 0 sz []))) (b' := .cells ver (cs.set i (.ow st.nx 0 sz 0))) (l := (updF m st.nx ⟨0, 0, 0⟩) id) hid1 rfl rfl rfl
    rw [updF_self] at hE2
    have hb : CellsAt H _ cs _ w := h1.heap.box id _ hid1
    have := hb.set i (.ow st.nx 0 sz 0) fun c' v hc' hv h1c => by
      rw [hc] at hc'; cases hc'
      obtain ⟨a, ha⟩ := isNil_inv hv hk
      rw [ha]; exact ow_new
    show CellsAt H (envOf (lkb (pt (pt st.hp st.nx (.own 0 sz [])) id _)) _) _ _ w
    rw [lkb_pt]
    exact this.mono (.refl _) hE2 rfl) (fun v cs2 e => by cases e; exact h1.heap.ty id _ _ hid1)
  exact ⟨_, H, h2⟩⟩
theorem own_of_cells {E : Env} {ver sz len : Nat} {cs : List AV} {l : Lc} (h : CellsAt H E cs l w) (hpos : 0 < sz) (hle : len * sz ≤ cs.length) (himm : (cs.take (len * sz)).all immA = true) : BoxOk H E (.own ver sz (chunkE sz len (cs.take (len * sz)))) l w := by
  have hl : (cs.take (len * sz)).length = len * sz := by simp; omega
  obtain ⟨C, e, h1, h2, h3, h4⟩ := h
  refine ⟨hpos, chunkE_size _ _ hl, ?_⟩
  by_cases hs : l.size = 0
  · have : len = 0 := by
      rcases Nat.eq_zero_or_pos len with h0 | h0
      · exact h0
      · have : 1 * sz ≤ len * sz := Nat.mul_le_mul_right _ h0
        omega
    subst this
    exact .inl ⟨hs, rfl⟩
  · refine .inr ⟨by omega, C, e, h1, h2, by rw [chunkE_flat _ _ hl, hl]; omega, fun j c hj => ?_⟩
    rw [chunkE_flat _ _ hl] at hj
    have hi := List.all_eq_true.1 himm c (List.mem_of_getElem? hj)
    rw [List.getElem?_take] at hj
    split at hj
    · obtain ⟨v, a1, a2, a3⟩ := h4 j c hj
      exact ⟨v, a1, a2, immA_ok a3 hi⟩
    · cases hj
theorem ow_of_bs {E : Env} {id ver sz len : Nat} {v : Value} (hpos : 0 < sz) (h : RV H E (.bs id ver sz 0 len) v) : RV H E (.ow id ver sz len) v := by
  obtain ⟨a, cap, rfl, h1, h2, h3, h4⟩ := h.bs_inv
  refine .ow id ver sz len _ cap h1 h2 h3 (fun e => by cases e) fun l hl => ?_
  obtain ⟨rfl, h5⟩ := h4 l hl
  rw [Nat.add_zero] at h5 ⊢
  by_cases hs : l.size = 0
  · by_cases hc : cap = 0
    · exact .inl ⟨hs, hc⟩
    · have : 1 * 1 ≤ cap * sz := Nat.mul_le_mul (by omega) (by omega)
      omega
  · exact .inr ⟨by omega, rfl, h5⟩
theorem conv_bs_slot (k : Nat) (p : List Nat) (id ver sz len : Nat) (cs : List AV) (hpos : 0 < sz) (hk : inVal p (st.get k) = some (.bs id ver sz 0 len)) (hid : lkb st.hp id = some (.cells ver cs)) (hle : len * sz ≤ cs.length) (himm : (cs.take (len * sz)).all immA = true) :
    Conv gl st ⟨st.n, pt st.sl k (putAt p (st.get k) (.ow id ver sz len)), pt st.hp id (.own ver sz (chunkE sz len (cs.take (len * sz)))), st.nx⟩ := ⟨rfl, fun m H B H0 rest tmps w h => by
  have hE := env_sameV (m := m) (hp := lkb st.hp) (b' := .own ver sz (chunkE sz len (cs.take (len * sz)))) (l := m id) hid rfl rfl rfl
  rw [updF_self, ← lkb_pt] at hE
  obtain ⟨h1, _⟩ := h.reBox (b' := .own ver sz (chunkE sz len (cs.take (len * sz)))) hid rfl rfl (fun _ => trivial) (own_of_cells (CellsAt.mono (h.heap.box id _ hid) (.refl _) hE rfl) hpos hle himm) (fun _ _ e => by cases e)
  exact ⟨m, H, slot_put h h1.heap (.refl _) hE k p hk fun u hu => ow_of_bs hpos (hu.mono (.refl _) hE)⟩⟩
theorem conv_bs_cell (bx i id ver vb sz len : Nat) (cb cs : List AV) (hpos : 0 < sz) (hne : bx ≠ id) (hbx : lkb st.hp bx = some (.cells vb cb)) (hk : cb[i]? = some (.bs id ver sz 0 len)) (hid : lkb st.hp id = some (.cells ver cs)) (hle : len * sz ≤ cs.length) (himm : (cs.take (len * sz)).all immA = true) :
    Conv gl st ⟨st.n, st.sl, pt (pt st.hp id (.own ver sz (chunkE sz len (cs.take (len * sz))))) bx (.cells vb (cb.set i (.ow id ver sz len))), st.nx⟩ := ⟨rfl, fun m H B H0 rest tmps w h => by
  have hE := env_sameV (m := m) (hp := lkb st.hp) (b' := .own ver sz (chunkE sz len (cs.take (len * sz)))) (l := m id) hid rfl rfl rfl
  rw [updF_self, ← lkb_pt] at hE
  obtain ⟨h1, _⟩ := h.reBox (b' := .own ver sz (chunkE sz len (cs.take (len * sz)))) hid rfl rfl (fun _ => trivial) (own_of_cells (CellsAt.mono (h.heap.box id _ hid) (.refl _) hE rfl) hpos hle himm) (fun _ _ e => by cases e)
  have hbx1 : lkb (pt st.hp id (.own ver sz (chunkE sz len (cs.take (len * sz))))) bx = some (.cells vb cb) := by rw [lkb_pt, updF_ne _ _ hne]; exact hbx
  have hE2 := env_sameV (m := m) (hp := lkb (pt st.hp id (.own ver sz (chunkE sz len (cs.take (len * sz)))))) (b' := .cells vb (cb.set i (.ow id ver sz len))) (l := m bx) hbx1 rfl rfl rfl
  rw [updF_self, ← lkb_pt] at hE2
  have hc : CellsAt H _ cb (m bx) w := h1.heap.box bx _ hbx1
  obtain ⟨h2, _⟩ := h1.reBox (b' := .cells vb (cb.set i (.ow id ver sz len))) hbx1 rfl rfl (fun _ => trivial) (CellsAt.mono (hc.set i (.ow id ver sz len) fun c v hc' hv _ => by
    rw [hk] at hc'; cases hc'
    exact ow_of_bs hpos hv) (.refl _) hE2 rfl) (fun v cs2 e => by cases e; exact h1.heap.ty bx _ _ hbx1)
  exact ⟨m, H, h2⟩⟩
theorem conv_cut (id ver sz n : Nat) (xs : List AV) (hid : lkb st.hp id = some (.own ver sz xs)) : Conv gl st ⟨st.n, st.sl, pt st.hp id (.own ver sz (xs.take n)), st.nx⟩ := ⟨rfl, fun m H B H0 rest tmps w h => by
  have hE := env_sameV (m := m) (hp := lkb st.hp) (b' := .own ver sz (xs.take n)) (l := m id) hid rfl rfl rfl
  rw [updF_self, ← lkb_pt] at hE
  obtain ⟨hpos, hel, hb⟩ := h.heap.box id _ hid
  obtain ⟨h1, _⟩ := h.reBox (b' := .own ver sz (xs.take n)) hid rfl rfl (fun r => r) (by
    refine ⟨hpos, fun y hy => hel y (List.mem_of_mem_take hy), ?_⟩
    rcases hb with ⟨h0, rfl⟩ | ⟨h0, C, e, c1, c2, c3, c4⟩
    · exact .inl ⟨h0, by simp⟩
    · refine .inr ⟨h0, C, e, c1, c2, by rw [flat_take n hel]; simp only [List.length_take]; omega, fun j c hj => ?_⟩
      rw [flat_take n hel, List.getElem?_take] at hj
      split at hj
      · obtain ⟨v, a1, a2, a3⟩ := c4 j c hj
        exact ⟨v, a1, a2, a3⟩
      · cases hj) (fun _ _ e => by cases e)
  exact ⟨m, H, h1⟩⟩
theorem own_tree {E : Env} {ver sz id len : Nat} {xs : List AV} {l : Lc} {v : Value} (hx : RV H E (.ow id ver sz len) v) (hl : E.loc id ver = some l) (hb : BoxOk H E (.own ver sz xs) l w) (hlen : len = xs.length) {K : HV} (hle : HV.le H K) (hK : 0 < l.size → ∀ o, K l.g o = w.cell? ⟨l.g, o, none⟩) : RelI K (.sl sz xs) v := by
  obtain ⟨a, cap, rfl, _, hlc, hcm, hno, hloc⟩ := hx.ow_inv
  subst hlen
  rcases hloc l hl with ⟨h0, h1⟩ | ⟨h0, rfl, hfit⟩
  · have : xs = [] := List.eq_nil_of_length_eq_zero (by omega)
    subst this
    exact .sl0 _ _ _ hcm
  · have hpos := hb.1
    have hel := hb.2.1
    obtain ⟨C, e, hC, hsC, hle2, hcs⟩ := own_cells (w := w) hb h0
    have hcell : ∀ (i : Nat) (x : AV) (j : Nat) (c : AV), xs[i]? = some x → x.cells[j]? = some c → ∃ u, C[l.base + (i * sz + j)]? = some u ∧ u.oneCell' = true ∧ RelI K c u := fun i x j c hx hj => by
      obtain ⟨u, a1, a2, a3⟩ := hcs _ _ (flat_get hel i x j c hx hj)
      exact ⟨u, a1, a2, a3.mono hle⟩
    refine RelI.sl (H := K) sz xs l.g l.base cap (fun i j => (C[l.base + (i * sz + j)]?).getD Go.undef) hpos hlc hcm (fun i x hx => hel x (List.mem_of_getElem? hx)) (fun i x j c hx hj => ?_) (fun i x j c hx hj => ?_)
    · obtain ⟨u, a1, a2, a3⟩ := hcell i x j c hx hj
      rw [a1, hK h0, cell_of_row _ _ _ _ _ _ hC, Nat.add_assoc]
      exact ⟨a1, a2⟩
    · obtain ⟨u, a1, a2, a3⟩ := hcell i x j c hx hj
      rw [a1]; exact a3
theorem conv_freeze (k : Nat) (p : List Nat) (id ver sz len : Nat) (xs : List AV) (hk : inVal p (st.get k) = some (.ow id ver sz len)) (hid : lkb st.hp id = some (.own ver sz xs)) (hlen : len = xs.length) :
    Conv gl st ⟨st.n, pt st.sl k (putAt p (st.get k) (.sl sz xs)), pt st.hp id (.own (ver + 4096) sz []), st.nx⟩ := ⟨rfl, fun m H B H0 rest tmps w h => by
  classical
  have hE := env_nextV (m := m) (hp := lkb st.hp) (b' := .own (ver + 4096) sz []) (l := ⟨0, 0, 0⟩) (show ver < ver + 4096 by omega) hid rfl rfl
  obtain ⟨hpos, hel, hb⟩ := h.heap.box id _ hid
  have hK : HV.le H (fun b o => if 0 < (m id).size ∧ b = (m id).g then w.cell? ⟨b, o, none⟩ else H b o) := fun b o v hv => by
    show (if _ then _ else _) = _
    split
    · rename_i hc
      obtain ⟨h0, rfl⟩ := hc
      have := (h.heap.sepR id _ hid h0).2.2 o
      rw [this] at hv; cases hv
    · exact hv
  have hKs : ∀ id' b', id' ≠ id → lkb st.hp id' = some b' → Real b' (m id') → ∀ o, (if 0 < (m id).size ∧ (m id').g = (m id).g then w.cell? ⟨(m id').g, o, none⟩ else H (m id').g o) = none := fun id' b' hne hb' hr o => by
    rw [if_neg]
    · exact (h.heap.sepR id' b' hb' hr).2.2 o
    · rintro ⟨h0, he⟩
      exact hne (h.heap.injR id' id b' _ hb' hid hr h0 he)
  have hidn : id < st.nx := by
    rcases Nat.lt_or_ge id st.nx with hlt | hge
    · exact hlt
    · have := h.heap.fresh id hge; rw [this] at hid; cases hid
  have hh : RelH (updF m id ⟨0, 0, 0⟩) (fun b o => if 0 < (m id).size ∧ b = (m id).g then w.cell? ⟨b, o, none⟩ else H b o) B H0 gl (updF (lkb st.hp) id (some (.own (ver + 4096) sz []))) st.nx w := by
    refine { sat := fun b o v hv => ?_, old := fun b o hB => ?_, low := h.heap.low, fresh := fun j hj => ?_, box := fun j b hj => ?_, sepR := fun j b hj hr => ?_, injR := fun i j b1 b2 h1 h2 r1 r2 heq => ?_, gv := h.heap.gv, gl := fun g => (h.heap.gl g).mono hK, ty := fun j v cs hj => ?_ }
    · dsimp only at hv
      split at hv
      · exact hv
      · exact h.heap.sat b o v hv
    · rw [if_neg]
      · exact h.heap.old b o hB
      · rintro ⟨h0, rfl⟩
        exact (h.heap.sepR id _ hid h0).1 hB
    · rw [updF_ne _ _ (by omega)]; exact h.heap.fresh j hj
    · by_cases e : j = id
      · subst e; rw [updF_same] at hj; cases hj
        rw [updF_same]
        exact ⟨hpos, fun x hx => by simp at hx, .inl ⟨rfl, rfl⟩⟩
      · rw [updF_ne _ _ e] at hj ⊢
        exact (h.heap.box j b hj).mono hK hE rfl
    · by_cases e : j = id
      · subst e; rw [updF_same] at hj hr; cases hj; exact absurd hr (Nat.lt_irrefl 0)
      · rw [updF_ne _ _ e] at hj hr ⊢
        obtain ⟨x, y, z⟩ := h.heap.sepR j b hj hr
        exact ⟨x, y, hKs j b e hj hr⟩
    · by_cases e1 : i = id
      · subst e1; rw [updF_same] at h1 r1; cases h1; exact absurd r1 (Nat.lt_irrefl 0)
      · by_cases e2 : j = id
        · subst e2; rw [updF_same] at h2 r2; cases h2; exact absurd r2 (Nat.lt_irrefl 0)
        · rw [updF_ne _ _ e1] at heq h1 r1; rw [updF_ne _ _ e2] at heq h2 r2
          exact h.heap.injR i j b1 b2 h1 h2 r1 r2 heq
    · by_cases e : j = id
      · subst e; rw [updF_same] at hj; cases hj
      · rw [updF_ne _ _ e] at hj ⊢
        exact h.heap.ty j v cs hj
  rw [← lkb_pt] at hh hE
  refine ⟨_, _, slot_put h hh hK hE k p hk fun u hs => ?_⟩
  refine .imm _ _ (own_tree (w := w) hs (envAll hid rfl) (h.heap.box id _ hid) hlen hK fun h0 o => ?_)
  rw [if_pos ⟨h0, rfl⟩]⟩
theorem conv_freezeP (k : Nat) (p : List Nat) (id ver off : Nat) (cs : List AV) (hk : inVal p (st.get k) = some (.ptr id ver off)) (hid : lkb st.hp id = some (.cells ver cs)) (hne : 0 < cs.length) (himm : cs.all immA = true) :
    Conv gl st ⟨st.n, pt st.sl k (putAt p (st.get k) (.ip cs.length [.agg cs] 0 off)), pt st.hp id (.own (ver + 4096) 1 []), st.nx⟩ := ⟨rfl, fun m H B H0 rest tmps w h => by
  classical
  have hE := env_nextV (m := m) (hp := lkb st.hp) (b' := .own (ver + 4096) 1 []) (l := ⟨0, 0, 0⟩) (show ver < ver + 4096 by omega) hid rfl rfl
  have hbx := h.heap.box id _ hid
  have hK : HV.le H (fun b o => if b = (m id).g then w.cell? ⟨b, o, none⟩ else H b o) := fun b o v hv => by
    show (if _ then _ else _) = _
    split
    · rename_i hc
      subst hc
      have := (h.heap.sepR id _ hid trivial).2.2 o
      rw [this] at hv; cases hv
    · exact hv
  have hKs : ∀ id' b', id' ≠ id → lkb st.hp id' = some b' → Real b' (m id') → ∀ o, (if (m id').g = (m id).g then w.cell? ⟨(m id').g, o, none⟩ else H (m id').g o) = none := fun id' b' hne' hb' hr o => by
    rw [if_neg]
    · exact (h.heap.sepR id' b' hb' hr).2.2 o
    · intro he
      exact hne' (h.heap.injR id' id b' _ hb' hid hr trivial he)
  have hidn : id < st.nx := by
    rcases Nat.lt_or_ge id st.nx with hlt | hge
    · exact hlt
    · have := h.heap.fresh id hge; rw [this] at hid; cases hid
  have hh : RelH (updF m id ⟨0, 0, 0⟩) (fun b o => if b = (m id).g then w.cell? ⟨b, o, none⟩ else H b o) B H0 gl (updF (lkb st.hp) id (some (.own (ver + 4096) 1 []))) st.nx w := by
    refine { sat := fun b o v hv => ?_, old := fun b o hB => ?_, low := h.heap.low, fresh := fun j hj => ?_, box := fun j b hj => ?_, sepR := fun j b hj hr => ?_, injR := fun i j b1 b2 h1 h2 r1 r2 heq => ?_, gv := h.heap.gv, gl := fun g => (h.heap.gl g).mono hK, ty := fun j v cs hj => ?_ }
    · dsimp only at hv
      split at hv
      · exact hv
      · exact h.heap.sat b o v hv
    · rw [if_neg]
      · exact h.heap.old b o hB
      · intro he
        subst he
        exact (h.heap.sepR id _ hid trivial).1 hB
    · rw [updF_ne _ _ (by omega)]; exact h.heap.fresh j hj
    · by_cases e : j = id
      · subst e; rw [updF_same] at hj; cases hj
        rw [updF_same]
        exact ⟨Nat.one_pos, fun x hx => by simp at hx, .inl ⟨rfl, rfl⟩⟩
      · rw [updF_ne _ _ e] at hj ⊢
        exact (h.heap.box j b hj).mono hK hE rfl
    · by_cases e : j = id
      · subst e; rw [updF_same] at hj hr; cases hj; exact absurd hr (Nat.lt_irrefl 0)
      · rw [updF_ne _ _ e] at hj hr ⊢
        obtain ⟨x, y, z⟩ := h.heap.sepR j b hj hr
        exact ⟨x, y, hKs j b e hj hr⟩
    · by_cases e1 : i = id
      · subst e1; rw [updF_same] at h1 r1; cases h1; exact absurd r1 (Nat.lt_irrefl 0)
      · by_cases e2 : j = id
        · subst e2; rw [updF_same] at h2 r2; cases h2; exact absurd r2 (Nat.lt_irrefl 0)
        · rw [updF_ne _ _ e1] at heq h1 r1; rw [updF_ne _ _ e2] at heq h2 r2
          exact h.heap.injR i j b1 b2 h1 h2 r1 r2 heq
    · by_cases e : j = id
      · subst e; rw [updF_same] at hj; cases hj
      · rw [updF_ne _ _ e] at hj ⊢
        exact h.heap.ty j v cs hj
  rw [← lkb_pt] at hh hE
  refine ⟨_, _, slot_put h hh hK hE k p hk fun u hs => ?_⟩
  obtain ⟨a, rfl, _, hloc⟩ := hs.ptr_inv
  obtain rfl := hloc _ (envAll hid rfl)
  obtain ⟨C, e, hC, hsC, hle2, hcs⟩ := hbx
  have hcell : ∀ (i : Nat) (x : AV) (j : Nat) (c : AV), [AV.agg cs][i]? = some x → x.cells[j]? = some c → i = 0 ∧ ∃ u, C[(m id).base + j]? = some u ∧ u.oneCell' = true ∧ RelI _ c u := fun i x j c hx hj => by
    cases i with
    | succ i => simp at hx
    | zero =>
      simp only [List.getElem?_cons_zero, Option.some.injEq] at hx
      subst hx
      obtain ⟨u, a1, a2, a3⟩ := hcs j c hj
      exact ⟨rfl, u, a1, a2, (immA_ok a3 (List.all_eq_true.1 himm c (List.mem_of_getElem? hj))).mono hK⟩
  have := RelI.ip (H := fun b o => if b = (m id).g then w.cell? ⟨b, o, none⟩ else H b o) cs.length [.agg cs] (m id).g (m id).base 0 off (fun i j => (C[(m id).base + j]?).getD Go.undef) hne (by simp) (fun i x hx => by
    cases i with
    | succ i => simp at hx
    | zero => simp only [List.getElem?_cons_zero, Option.some.injEq] at hx; subst hx; rfl) (fun i x j c hx hj => by
    obtain ⟨rfl, u, a1, a2, a3⟩ := hcell i x j c hx hj
    rw [a1]
    refine ⟨?_, a2⟩
    rw [if_pos rfl, Nat.zero_mul, Nat.add_zero, cell_of_row _ _ _ _ _ _ hC, a1]; rfl) (fun i x j c hx hj => by
    obtain ⟨rfl, u, a1, a2, a3⟩ := hcell i x j c hx hj
    rw [a1]; exact a3)
  rw [Nat.zero_mul, Nat.add_zero] at this
  exact .imm _ _ this⟩
theorem own_freeze {m : Nat → Lc} {H : HV} {B : Nat → Prop} {H0 : HV} {gl : Nat → AV} {rest : List (AV × Value)} {st : St} {tmps : Array Value} {w : World} (h : RelS m H B H0 gl rest st tmps w) {id ver sz : Nat} {xs : List AV} (hid : lkb st.hp id = some (.own ver sz xs)) : ∃ K : HV, HV.le H K ∧ RelH (updF m id ⟨0, 0, 0⟩) K B H0 gl (lkb (pt st.hp id (.own (ver + 4096) sz []))) st.nx w ∧ Env.le (st.env m) (envOf (lkb (pt st.hp id (.own (ver + 4096) sz []))) (updF m id ⟨0, 0, 0⟩)) ∧ (0 < (m id).size → ∀ o, K (m id).g o = w.cell? ⟨(m id).g, o, none⟩) := by
  classical
  have hE := env_nextV (m := m) (hp := lkb st.hp) (b' := .own (ver + 4096) sz []) (l := ⟨0, 0, 0⟩) (show ver < ver + 4096 by omega) hid rfl rfl
  obtain ⟨hpos, hel, hb⟩ := h.heap.box id _ hid
  have hK : HV.le H (fun b o => if 0 < (m id).size ∧ b = (m id).g then w.cell? ⟨b, o, none⟩ else H b o) := fun b o v hv => by
    show (if _ then _ else _) = _
    split
    · rename_i hc
      obtain ⟨h0, rfl⟩ := hc
      have := (h.heap.sepR id _ hid h0).2.2 o
      rw [this] at hv; cases hv
    · exact hv
  have hKs : ∀ id' b', id' ≠ id → lkb st.hp id' = some b' → Real b' (m id') → ∀ o, (if 0 < (m id).size ∧ (m id').g = (m id).g then w.cell? ⟨(m id').g, o, none⟩ else H (m id').g o) = none := fun id' b' hne hb' hr o => by
    rw [if_neg]
    · exact (h.heap.sepR id' b' hb' hr).2.2 o
    · rintro ⟨h0, he⟩
      exact hne (h.heap.injR id' id b' _ hb' hid hr h0 he)
  have hidn : id < st.nx := by
    rcases Nat.lt_or_ge id st.nx with hlt | hge
    · exact hlt
    · have := h.heap.fresh id hge; rw [this] at hid; cases hid
  have hh : RelH (updF m id ⟨0, 0, 0⟩) (fun b o => if 0 < (m id).size ∧ b = (m id).g then w.cell? ⟨b, o, none⟩ else H b o) B H0 gl (updF (lkb st.hp) id (some (.own (ver + 4096) sz []))) st.nx w := by
    refine { sat := fun b o v hv => ?_, old := fun b o hB => ?_, low := h.heap.low, fresh := fun j hj => ?_, box := fun j b hj => ?_, sepR := fun j b hj hr => ?_, injR := fun i j b1 b2 h1 h2 r1 r2 heq => ?_, gv := h.heap.gv, gl := fun g => (h.heap.gl g).mono hK, ty := fun j v cs hj => ?_ }
    · dsimp only at hv
      split at hv
      · exact hv
      · exact h.heap.sat b o v hv
    · rw [if_neg]
      · exact h.heap.old b o hB
      · rintro ⟨h0, rfl⟩
        exact (h.heap.sepR id _ hid h0).1 hB
    · rw [updF_ne _ _ (by omega)]; exact h.heap.fresh j hj
    · by_cases e : j = id
      · subst e; rw [updF_same] at hj; cases hj
        rw [updF_same]
        exact ⟨hpos, fun x hx => by simp at hx, .inl ⟨rfl, rfl⟩⟩
      · rw [updF_ne _ _ e] at hj ⊢
        exact (h.heap.box j b hj).mono hK hE rfl
    · by_cases e : j = id
      · subst e; rw [updF_same] at hj hr; cases hj; exact absurd hr (Nat.lt_irrefl 0)
      · rw [updF_ne _ _ e] at hj hr ⊢
        obtain ⟨x, y, z⟩ := h.heap.sepR j b hj hr
        exact ⟨x, y, hKs j b e hj hr⟩
    · by_cases e1 : i = id
      · subst e1; rw [updF_same] at h1 r1; cases h1; exact absurd r1 (Nat.lt_irrefl 0)
      · by_cases e2 : j = id
        · subst e2; rw [updF_same] at h2 r2; cases h2; exact absurd r2 (Nat.lt_irrefl 0)
        · rw [updF_ne _ _ e1] at heq h1 r1; rw [updF_ne _ _ e2] at heq h2 r2
          exact h.heap.injR i j b1 b2 h1 h2 r1 r2 heq
    · by_cases e : j = id
      · subst e; rw [updF_same] at hj; cases hj
      · rw [updF_ne _ _ e] at hj ⊢
        exact h.heap.ty j v cs hj
  rw [← lkb_pt] at hh hE
  exact ⟨_, hK, hh, hE, fun h0 o => by rw [if_pos ⟨h0, rfl⟩]⟩
theorem flat_put {z i off n : Nat} {xs : List AV} {x y : AV} (hel : ∀ x ∈ xs, x.cells.length = z) (hxi : xs[i]? = some x) (hl : off + n ≤ z) (hn : y.cells.length = n) : (∀ u ∈ xs.set i (putE off n z x y), u.cells.length = z) ∧ (xs.set i (putE off n z x y)).flatMap AV.cells = (xs.flatMap AV.cells).take (i * z + off) ++ (y.cells ++ (xs.flatMap AV.cells).drop (i * z + off + n)) := by
  have hi := (List.getElem?_eq_some_iff.1 hxi).1
  have hxl : x.cells.length = z := hel _ (List.mem_of_getElem? hxi)
  generalize hY : putE off n z x y = Y
  have hYc : Y.cells = x.cells.take off ++ (y.cells ++ x.cells.drop (off + n)) := by rw [← hY]; exact putE_cells hxl
  have hYl : Y.cells.length = z := by rw [hYc]; simp; omega
  have hfl := flat_len hel
  have hmul : i * z + z ≤ xs.length * z := by
    have : (i + 1) * z ≤ xs.length * z := Nat.mul_le_mul_right _ hi
    rw [Nat.add_mul] at this; omega
  refine ⟨fun u hx => by
    rcases List.mem_or_eq_of_mem_set hx with h | h
    · exact hel u h
    · rw [h]; exact hYl, ?_⟩
  rw [flat_set i x Y hel hxi hYl, hYc]
  have hx2 : ∀ j, j < z → (xs.flatMap AV.cells)[i * z + j]? = x.cells[j]? := fun j hj => by
    rw [flat_get hel i x j _ hxi (List.getElem?_eq_getElem (by omega))]; exact (List.getElem?_eq_getElem (by omega)).symm
  apply List.ext_getElem?
  intro j
  simp only [List.getElem?_append, List.length_append, List.length_take, List.getElem?_take, List.getElem?_drop, List.length_drop, hfl, hxl]
  have m1 : min (i * z) (xs.length * z) = i * z := by omega
  have m2 : min (i * z + off) (xs.length * z) = i * z + off := by omega
  have m3 : min off z = off := by omega
  rw [m1, m2, m3]
  by_cases c1 : j < i * z
  · rw [if_pos c1, if_pos c1, if_pos (by omega), if_pos (by omega)]
  · rw [if_neg c1]
    by_cases c2 : j < i * z + off
    · rw [if_pos (by omega), if_pos (by omega), if_pos (by omega), if_pos c2, if_pos c2]
      have := hx2 (j - i * z) (by omega)
      rw [show i * z + (j - i * z) = j by omega] at this
      exact this.symm
    · rw [if_neg c2]
      by_cases c3 : j - (i * z + off) < y.cells.length
      · rw [if_pos (by omega), if_neg (by omega), if_pos (by omega), if_pos c3]
        congr 1; omega
      · rw [if_neg c3]
        by_cases c4 : j < i * z + z
        · rw [if_pos (by omega), if_neg (by omega), if_neg (by omega)]
          have := hx2 (j - i * z) (by omega)
          rw [show i * z + (j - i * z) = j by omega] at this
          rw [show i * z + off + n + (j - (i * z + off) - y.cells.length) = j by omega, this]
          congr 1; omega
        · rw [if_neg (by omega)]
          congr 1; omega
theorem conv_fill (id ver z i c id2 v2 z2 len : Nat) (xs ys : List AV) (x : AV) (hid : lkb st.hp id = some (.hol ver z xs i c (.ow id2 v2 z2 len))) (hid2 : lkb st.hp id2 = some (.own v2 z2 ys)) (hlen : len = ys.length) (hxi : xs[i]? = some x) :
    Conv gl st ⟨st.n, st.sl, pt (pt st.hp id2 (.own (v2 + 4096) z2 [])) id (.own ver z (xs.set i (putE c 1 z x (.sl z2 ys)))), st.nx⟩ := ⟨rfl, fun m H B H0 rest tmps w h => by
  have hne : id ≠ id2 := fun e => by subst e; rw [hid] at hid2; cases hid2
  obtain ⟨K, hK, hh, hE, hKc⟩ := own_freeze h hid2
  have h1 : RelS (updF m id2 ⟨0, 0, 0⟩) K B H0 gl rest ⟨st.n, st.sl, pt st.hp id2 (.own (v2 + 4096) z2 []), st.nx⟩ tmps w := ⟨hh, h.size, fun k => (h.slot k).mono hK hE, fun p hp => (h.rest p hp).mono hK hE⟩
  have hid1 : lkb (pt st.hp id2 (.own (v2 + 4096) z2 [])) id = some (.hol ver z xs i c (.ow id2 v2 z2 len)) := by rw [lkb_pt, updF_ne _ _ hne]; exact hid
  obtain ⟨hpos, hel, hil, hcl, hsz, C, e, hC, hs, hle, hcs, u, a1, a2, a3⟩ := h.heap.box id _ hid
  have ht : RelI K (.sl z2 ys) u := own_tree (w := w) a3 (envAll hid2 rfl) (h.heap.box id2 _ hid2) hlen hK hKc
  obtain ⟨f1, f2⟩ := flat_put (y := .sl z2 ys) (n := 1) (off := c) hel hxi (by omega) rfl
  have hmm : (updF m id2 ⟨0, 0, 0⟩) id = m id := updF_ne _ _ hne
  refine ⟨_, _, (h1.reBox (b' := .own ver z (xs.set i (putE c 1 z x (.sl z2 ys)))) hid1 rfl rfl (fun _ => trivial) ?_ (fun _ _ e => by cases e)).1⟩
  rw [hmm]
  refine ⟨hpos, f1, .inr ⟨hsz, C, e, hC, hs, ?_, fun j d hj => ?_⟩⟩
  · rw [flat_len f1, List.length_set, ← flat_len hel]; exact hle
  · rw [f2] at hj
    have hfl := flat_len hel
    have hmul : i * z + z ≤ xs.length * z := by
      have : (i + 1) * z ≤ xs.length * z := Nat.mul_le_mul_right _ hil
      rw [Nat.add_mul] at this; omega
    simp only [List.getElem?_append, List.length_take, List.getElem?_take, List.getElem?_drop, hfl, AV.cells, List.length_singleton] at hj
    rw [show min (i * z + c) (xs.length * z) = i * z + c by omega] at hj
    by_cases c1 : j < i * z + c
    · rw [if_pos c1, if_pos c1] at hj
      obtain ⟨v, b1, b2, b3⟩ := hcs j d hj (by omega)
      exact ⟨v, b1, b2, b3.mono hK⟩
    · rw [if_neg c1] at hj
      by_cases c2 : j - (i * z + c) < 1
      · rw [if_pos c2] at hj
        obtain rfl : j = i * z + c := by omega
        simp at hj; subst hj
        exact ⟨u, a1, a2, ht⟩
      · rw [if_neg c2] at hj
        rw [show i * z + c + 1 + (j - (i * z + c) - 1) = j by omega] at hj
        obtain ⟨v, b1, b2, b3⟩ := hcs j d hj (by omega)
        exact ⟨v, b1, b2, b3.mono hK⟩⟩
end
end HY
end
section
namespace HY
open Go Go.RowKit
def callee? (ev : Operand → AV) (op : Op) : Option (Nat × List AV) :=
  match op with
  | .call c => match c.callee with
    | .value x => match ev x with
      | .fn f caps => some (f, c.args.toList.map ev ++ caps)
      | _ => none
    | _ => none
  | _ => none
def isCall (op : Op) : Bool :=
  match op with
  | .call c => match c.callee with
    | .builtin _ => false
    | _ => true
  | _ => false
abbrev CallB := Nat → CallH
def CallB.Ok (P : Program) (gl : Nat → AV) (cb : CallB) : Prop := ∀ b f ts r hp' nx', cb b f ts .nil 0 = some (r, hp', nx') → CallOk0 P gl f ts r hp' nx'
theorem constB_ok {P : Program} {gl : Nat → AV} {ch : CallH} (h : ch.Ok P gl) : CallB.Ok P gl (fun _ => ch) := fun _ _ _ _ _ _ hk => (h _ _ _ _ _ _ _ hk).zero
def xo (P : Program) (ch : CallB) (bid : Nat) (dst : Option Nat) (op : Op) (ev : Operand → AV) (hp : Hp) : Option (AV × Option (Nat × Box)) :=
  if isCall op then (match callee? ev op with
    | some (f, args) => xpure (ch bid) hp bid f args
    | none => none) else xop P bid dst op ev hp
def appTo (x : Operand) (o : Oper) : Bool := match o.op with
  | .call c => match c.callee with
    | .builtin .append => match c.args.toList, x with
      | .tmp s :: _, .tmp t => Nat.beq s t
      | _, _ => false
    | _ => false
  | _ => false
def seed (all : List Oper) (o : Oper) : Bool := match o.op with
  | .buildSlice _ len _ => match o.dst with
    | some d => Nat.beq len 0 && all.any (appTo (.tmp d))
    | none => false
  | _ => false
def xseed (P : Program) (bid : Nat) (op : Op) : Option (AV × Option (Nat × Box)) := match op with
  | .buildSlice t len parts => match Nat.beq len 0 && parts.toList.isEmpty with
    | true => match elG P t with
      | some (sz, _, _) => some (.ow bid 0 sz 0, some (bid, .own 0 sz []))
      | none => none
    | false => none
  | _ => none
def idOf : AV → List Nat
  | .ptr id _ _ => [id]
  | .bs id _ _ _ _ => [id]
  | .ow id _ _ _ => [id]
  | .oe id _ _ _ _ => [id]
  | _ => []
def foot (op : Op) (ev : Operand → AV) : Option (List Nat) := match op with
  | .load _ x => some (idOf (ev x))
  | .store _ x _ => some (idOf (ev x))
  | .binOp _ _ x _ _ => some (idOf (ev x))
  | .convert _ _ x => some (idOf (ev x))
  | .call c => match c.callee with
    | .builtin .append => match c.args.toList with
      | [x, y] => some (idOf (ev x) ++ idOf (ev y))
      | _ => none
    | .builtin _ => none
    | _ => match callee? ev op with
      | some (_, args) => match optL (tree (fun _ => none) false 12) args with
        | some _ => some []
        | none => none
      | none => none
  | _ => none
abbrev FootT := Nat → Option (List Nat)
def footOk (md : Bool) (F : FootT) (bid : Nat) (o : Oper) (ev : Operand → AV) : Bool := match md with
  | false => true
  | true => match F bid with
    | none => true
    | some ids => match foot o.op ev with
      | some l => l.all (fun i => ids.any (Nat.beq i))
      | none => false
def xoF (P : Program) (ch : CallB) (md : Bool) (F : FootT) (all : List Oper) (bid : Nat) (o : Oper) (ev : Operand → AV) (hp : Hp) : Option (AV × Option (Nat × Box)) :=
  match footOk md F bid o ev with
  | true => match md && seed all o with
    | true => xseed P bid o.op
    | false => xo P ch bid o.dst o.op ev hp
  | false => none
def gslot (all : List Oper) (j : Nat) : Option Nat :=
  match all[j]? with
  | some o => o.dst
  | none => none
def gwant (x : AV) (want : Bool) : Option Bool :=
  match x with
  | .bool t => some (bif t then want else !want)
  | .tup [] => some false
  | _ => none
def xstepO (P : Program) (gl : Nat → AV) (ch : CallB) (md : Bool) (F : FootT) (all : List Oper) (bid : Nat) (o : Oper) (st : St) : Option St :=
  if dstOk o.dst st.n && (lkb st.hp bid).isNone && Nat.blt bid st.nx then match o.guard with
    | none => match xoF P ch md F all bid o (st.ev gl) (lkb st.hp) with
      | some r => some (st.eff o.dst r)
      | none => none
    | some (j, want) => match gslot all j with
      | some g => match gwant (st.get g) want with
        | some true => match xoF P ch md F all bid o (st.ev gl) (lkb st.hp) with
          | some r => some (st.eff o.dst r)
          | none => none
        | some false => some (st.eff o.dst (.tup [], none))
        | none => none
      | none => none
  else none
def StepOk (P : Program) (r : Option Nat) (n : Nat) (B : Nat → Prop) (H0 : HV) (gl : Nat → AV) (rest : List (AV × Value)) (a : Act) (w : World) (o : Oper) (st' : St) : Prop :=
  ∀ (next : Act → World → Prop) (Q : Exit → Act → World → Prop),
    (∀ a' w' m' H', a'.defers = a.defers → BelowS B w w' → RelS m' H' B H0 gl rest st' a'.tmps w' → next a' w') → o.wpIn (FW r) n P a w next Q
theorem put_defers' (a : Act) (d : Option Tmp) (v : Value) : (a.put d v).defers = a.defers := by cases d <;> rfl
def isDefer (op : Op) : Bool := match op with | .defer _ => true | _ => false
theorem xop_nodefer {P : Program} {bid : Nat} {dst : Option Nat} {op : Op} {ev : Operand → AV} {hp : Hp} {r : AV × Option (Nat × Box)} (h : xop P bid dst op ev hp = some r) : ∀ c, op ≠ .defer c := by
  intro c e; subst e; simp [xop, xop0, xopX, xopO] at h
section
variable {P : Program} {m : Nat → Lc} {H : HV} {B : Nat → Prop} {H0 : HV} {gl : Nat → AV} {rest : List (AV × Value)} {st : St} {a : Act} {w : World}
theorem OpOk.step {ro : Option Nat} {n : Nat} {o : Oper} {st' : St} (h : OpOk P B H0 gl rest a w o.dst st' (execOp a.eval o)) (hnd : ∀ c, o.op ≠ .defer c) : StepOk P ro n B H0 gl rest a w o st' := by
  intro next Q hn
  obtain ⟨nx, v, w', m', H', hr, hx, hb, hrel⟩ := h
  refine ⟨fun _ _ => trivial, ?_⟩
  rw [Oper.semAt_eq _ _ _ hnd, hr]
  rcases hx with rfl | ⟨rfl, rfl⟩
  · exact hn _ _ _ _ (put_defers' _ _ _) hb hrel
  · exact hn _ _ _ _ (put_defers' _ _ _) hb hrel
theorem callee_inv {ev : Operand → AV} {op : Op} {f : Nat} {args : List AV} (h : callee? ev op = some (f, args)) : ∃ c x caps, op = .call c ∧ c.callee = .value x ∧ ev x = .fn f caps ∧ args = c.args.toList.map ev ++ caps := by
  unfold callee? at h
  split at h
  · rename_i c
    split at h
    · rename_i x hx
      split at h
      · rename_i f' caps hf
        cases h
        exact ⟨c, x, caps, rfl, hx, hf, rfl⟩
      · cases h
    · cases h
  · cases h
theorem call_run (h : RelS m H B H0 gl rest st a.tmps w) {o : Oper} {f : Nat} {args : List AV} (hc : callee? (st.ev gl) o.op = some (f, args)) :
    ∃ vs : Array Value, (execOp a.eval o).run P w = (callFunc f vs).run P w ∧ args.length = vs.size ∧ ∀ (j : Nat) (x : AV) (v : Value), args[j]? = some x → vs[j]? = some v → RV H (st.env m) x v := by
  obtain ⟨c, x, caps, ho, hx, hf, rfl⟩ := callee_inv hc
  have hfx := h.ev x
  rw [hf] at hfx
  obtain ⟨us, hu, hul, hur⟩ := hfx.fn_inv
  have hl := list_rel h c.args.toList
  refine ⟨c.args.map a.eval ++ us, ?_, by simp [hul], fun j y v hy hv => ?_⟩
  · unfold execOp
    simp only [ho, resolve, hx, Sem.run_bind, hu, Deferred.ofValue, Sem.run_pure, Result.andThen_ok, invoke, Array.empty_append]
  · rw [List.getElem?_append] at hy
    rw [Array.getElem?_append] at hv
    simp only [List.length_map, Array.length_toList, Array.size_map] at hy hv
    split at hy
    · rename_i hj
      rw [if_pos hj] at hv
      exact hl.2 j y v hy (by simpa using hv)
    · rename_i hj
      rw [if_neg hj] at hv
      exact hur _ y v hy hv
theorem step_of_calls (h : RelS m H B H0 gl rest st a.tmps w) {o : Oper} {f : Nat} {args : List AV} (hc : callee? (st.ev gl) o.op = some (f, args)) {st' : St} (ro : Option Nat) (n : Nat)
    (hcalls : ∀ vs : Array Value, args.length = vs.size → (∀ (j : Nat) (x : AV) (v : Value), args[j]? = some x → vs[j]? = some v → RV H (st.env m) x v) →
      Ans P f vs w fun e w' => ∃ v m' H', e = .returned v ∧ BelowS B w w' ∧ RelS m' H' B H0 gl rest st' (a.put o.dst v).tmps w') : StepOk P ro n B H0 gl rest a w o st' := by
  intro next Q hn
  obtain ⟨vs, hrun, hl, hr⟩ := call_run h hc
  obtain ⟨c, x, caps, ho, _⟩ := callee_inv hc
  refine ⟨fun _ _ => trivial, ?_⟩
  rw [Oper.semAt_eq _ _ _ (fun c e => by rw [ho] at e; cases e), hrun]
  rcases hcalls vs hl hr with ⟨hent, hcs⟩ | ⟨v, w', hv, hq⟩
  · rw [hent vs w]
    refine ⟨(fun hh => by simp [FW] at hh), callsIn_FW (hcs.mono fun e w' hp => ?_)⟩
    obtain ⟨v, m', H', rfl, hb, hrel⟩ := hp
    exact hn _ _ _ _ (put_defers' _ _ _) hb hrel
  · rw [hv]
    obtain ⟨v', m', H', he, hb, hrel⟩ := hq
    cases he
    exact hn _ _ _ _ (put_defers' _ _ _) hb hrel
theorem xo_ok {ch : CallB} (hch : ch.Ok P gl) (h : RelS m H B H0 gl rest st a.tmps w) {o : Oper} (hd : dstOk o.dst st.n = true) {bid : Nat} (hb : lkb st.hp bid = none) (hn : bid < st.nx) {r : AV × Option (Nat × Box)} (hk : xo P ch bid o.dst o.op (st.ev gl) (lkb st.hp) = some r) (ro : Option Nat) (n : Nat) :
    StepOk P ro n B H0 gl rest a w o (st.eff o.dst r) := by
  unfold xo at hk
  split at hk
  · split at hk
    · rename_i f args hc
      exact step_of_calls h hc ro n fun vs hl hr => xpure_ok0 (fun _ _ _ _ _ hk => hch _ _ _ _ _ _ hk) h hd hb hn hl hr hk
    · cases hk
  · exact (xop_ok h hd hb hn hk).step (xop_nodefer hk)
theorem conv_seed {k bid sz : Nat} (hpos : 0 < sz) (hk : st.get k = .bs bid 0 sz 0 0) (hid : lkb st.hp bid = some (.cells 0 [])) :
    Conv gl st ⟨st.n, pt st.sl k (.ow bid 0 sz 0), pt st.hp bid (.own 0 sz []), st.nx⟩ := by
  have := conv_bs_slot (gl := gl) (st := st) k [] bid 0 sz 0 [] hpos (by rw [hk]; rfl) hid (by simp) (by simp)
  simpa [putAt, chunkE] using this
theorem seed_hp {d bid : Nat} {v v' : AV} {b b' : Box} : lkb (pt (st.eff (some d) (v, some (bid, b))).hp bid b') = lkb (st.eff (some d) (v', some (bid, b'))).hp := by
  show lkb (pt (pt st.hp bid b) bid b') = lkb (pt st.hp bid b')
  funext k
  rw [lkb_pt, lkb_pt, lkb_pt]
  unfold updF
  split <;> rfl
theorem seed_get {d bid : Nat} {v v' : AV} {b b' : Box} {hp : Tr Box} {n nx k : Nat} : St.get ⟨n, pt (st.eff (some d) (v, some (bid, b))).sl d v', hp, nx⟩ k = (st.eff (some d) (v', some (bid, b'))).get k := by
  show lk .undef (pt (pt st.sl d v) d v') k = lk .undef (pt st.sl d v') k
  rw [lk_pt, lk_pt, lk_pt]
  split <;> rfl
theorem xseed_ok {ch : CallB} (hch : ch.Ok P gl) (h : RelS m H B H0 gl rest st a.tmps w) {o : Oper} (hd : dstOk o.dst st.n = true) {bid : Nat} (hb : lkb st.hp bid = none) (hn : bid < st.nx) {d : Nat} (hdst : o.dst = some d) {r : AV × Option (Nat × Box)} (hk : xseed P bid o.op = some r) (ro : Option Nat) (n : Nat) :
    StepOk P ro n B H0 gl rest a w o (st.eff o.dst r) := by
  unfold xseed at hk
  split at hk
  · rename_i t len parts ho
    split at hk
    · rename_i hc
      rw [Bool.and_eq_true] at hc
      obtain rfl := Nat.eq_of_beq_eq_true hc.1
      have hp : parts.toList = [] := by simpa using hc.2
      split at hk
      · rename_i sz by_ zs hel
        cases hk
        have hpos : 0 < sz := by obtain ⟨_, _, _, _, _, _, _, hpos, _⟩ := elG_inv hel; exact hpos
        have h0 : xo P ch bid o.dst o.op (st.ev gl) (lkb st.hp) = some (.bs bid 0 sz 0 0, some (bid, .cells 0 [])) := by
          unfold xo
          rw [if_neg (by rw [ho]; simp [isCall]), ho]
          refine xop_of0 ?_
          simp [xop0, xbuildSlice, hel, hp, zcells, afill]
        have hop := xo_ok hch h hd hb hn h0 ro n
        intro next Q hnx
        refine hop next Q fun a' w' m' H' hd' hb' hr' => ?_
        rw [hdst] at hr'
        obtain ⟨m2, H2, hr2⟩ := (conv_seed (gl := gl) (st := st.eff (some d) (.bs bid 0 sz 0 0, some (bid, .cells 0 []))) (k := d) (bid := bid) (sz := sz) hpos (by
          show lk .undef (pt st.sl d _) d = _
          rw [lk_pt, if_pos rfl]) (by
          show lkb (pt st.hp bid _) bid = _
          rw [lkb_pt, updF_same])).2 _ _ _ _ _ _ _ hr'
        refine hnx a' w' m2 H2 hd' hb' ?_
        rw [hdst]
        refine ⟨?_, hr2.size, fun k => ?_, fun p hp => ?_⟩
        · have := hr2.heap
          rwa [seed_hp] at this
        · have := hr2.slot k
          rw [seed_get] at this
          unfold St.env at this ⊢
          rwa [seed_hp] at this
        · have := hr2.rest p hp
          unfold St.env at this ⊢
          rwa [seed_hp] at this
      · cases hk
    · cases hk
  · cases hk
theorem xoF_ok {ch : CallB} (hch : ch.Ok P gl) (h : RelS m H B H0 gl rest st a.tmps w) {md : Bool} {F : FootT} {all : List Oper} {o : Oper} (hd : dstOk o.dst st.n = true) {bid : Nat} (hb : lkb st.hp bid = none) (hn : bid < st.nx) {r : AV × Option (Nat × Box)} (hk : xoF P ch md F all bid o (st.ev gl) (lkb st.hp) = some r) (ro : Option Nat) (n : Nat) :
    StepOk P ro n B H0 gl rest a w o (st.eff o.dst r) := by
  unfold xoF at hk
  split at hk
  · split at hk
    · rename_i hs
      rw [Bool.and_eq_true] at hs
      have : ∃ d, o.dst = some d := by
        have hs := hs.2
        unfold seed at hs
        split at hs
        · split at hs
          · exact ⟨_, by assumption⟩
          · cases hs
        · cases hs
      obtain ⟨d, hdst⟩ := this
      exact xseed_ok hch h hd hb hn hdst hk ro n
    · exact xo_ok hch h hd hb hn hk ro n
  · cases hk
theorem yielded_bool {l : List Oper} {j g : Nat} {t : Bool} (hg : gslot l j = some g) (ht : a.tmps.getD g Go.undef = .bool t) : yielded l.toArray a.tmps j = some t := by
  have hlt : g < a.tmps.size := by
    rcases Nat.lt_or_ge g a.tmps.size with h | h
    · exact h
    · rw [Array.getD_eq_getD_getElem?, Array.getElem?_eq_none h] at ht; cases ht
  have hgo : ((l.toArray[j]?).bind (·.dst)) = some g := by
    unfold gslot at hg
    simp only [List.getElem?_toArray]
    split at hg
    · rename_i o ho; rw [ho]; exact hg
    · cases hg
  rw [Array.getD_eq_getD_getElem?, Array.getElem?_eq_getElem hlt, Option.getD_some] at ht
  simp only [yielded, hgo, Option.bind_some, Array.getElem?_eq_getElem hlt, ht]
theorem yielded_tup {l : List Oper} {j g : Nat} (hg : gslot l j = some g) (ht : a.tmps.getD g Go.undef = .tuple #[]) : yielded l.toArray a.tmps j = none := by
  have hgo : ((l.toArray[j]?).bind (·.dst)) = some g := by
    unfold gslot at hg
    simp only [List.getElem?_toArray]
    split at hg
    · rename_i o ho; rw [ho]; exact hg
    · cases hg
  rcases Nat.lt_or_ge g a.tmps.size with hlt | hge
  · rw [Array.getD_eq_getD_getElem?, Array.getElem?_eq_getElem hlt, Option.getD_some] at ht
    simp only [yielded, hgo, Option.bind_some, Array.getElem?_eq_getElem hlt, ht]
  · simp only [yielded, hgo, Option.bind_some, Array.getElem?_eq_none hge]
theorem wanted_of {H : HV} {E : Env} {l : List Oper} {o : Oper} {j g : Nat} {want b : Bool} {x : AV} (ho : o.guard = some (j, want)) (hg : gslot l j = some g) (hw : gwant x want = some b) (hv : RV H E x (a.tmps.getD g Go.undef)) : Region.wanted o (yielded l.toArray a.tmps) = b := by
  unfold gwant at hw
  split at hw
  · rename_i t
    have hy := yielded_bool hg hv.bool_inv
    cases hw
    simp only [Region.wanted, ho, hy]
    cases t <;> cases want <;> rfl
  · cases hw
    obtain ⟨vs, h1, h2, _⟩ := hv.tup_inv
    have : vs = #[] := Array.eq_empty_of_size_eq_zero (by simpa using h2.symm)
    subst this
    simp only [Region.wanted, ho, yielded_tup hg h1]
    rfl
  · cases hw
theorem xstepO_ok {ch : CallB} (hch : ch.Ok P gl) (h : RelS m H B H0 gl rest st a.tmps w) {md : Bool} {F : FootT} {all : List Oper} {o : Oper} {bid : Nat} {st' : St} (hk : xstepO P gl ch md F all bid o st = some st') (ro : Option Nat) (n : Nat)
    (next : Act → World → Prop) (Q : Exit → Act → World → Prop) (hn : ∀ a' w' m' H', a'.defers = a.defers → BelowS B w w' → RelS m' H' B H0 gl rest st' a'.tmps w' → next a' w') :
    if Region.wanted o (yielded all.toArray a.tmps) then o.wpIn (FW ro) n P a w next Q else (∀ f, o.about P w a.eval = some f → (FW ro).fn f) ∧ next (a.put o.dst Go.undef) w := by
  unfold xstepO at hk
  split at hk
  · rename_i hc
    simp only [Bool.and_eq_true, Option.isNone_iff_eq_none] at hc
    obtain ⟨⟨hd, hb⟩, hbn⟩ := hc
    have hbn : bid < st.nx := Nat.le_of_ble_eq_true hbn
    have go : ∀ r, xoF P ch md F all bid o (st.ev gl) (lkb st.hp) = some r → some (st.eff o.dst r) = some st' → o.wpIn (FW ro) n P a w next Q := fun r hr he => by
      cases he
      exact xoF_ok hch h hd hb hbn hr ro n next Q hn
    split at hk
    · rename_i hg
      rw [if_pos (by simp [Region.wanted, hg])]
      split at hk
      · rename_i r hr; exact go r hr hk
      · cases hk
    · rename_i j want hg
      split at hk
      · rename_i g hgs
        split at hk
        · rename_i ht
          rw [if_pos (wanted_of hg hgs ht (h.slot g))]
          split at hk
          · rename_i r hr; exact go r hr hk
          · cases hk
        · rename_i ht
          rw [if_neg (by rw [wanted_of hg hgs ht (h.slot g)]; simp)]
          cases hk
          exact ⟨fun _ _ => trivial, hn _ _ _ _ (put_defers' _ _ _) (BelowS.refl _ _) (h.putO hd (.tup [] #[] rfl (fun j c v hj => by simp at hj)))⟩
        · cases hk
      · cases hk
  · cases hk
end
end HY
end
section
namespace HY
open Go Go.RowKit
structure StEq (a b : St) : Prop where
  n : a.n = b.n
  nx : a.nx = b.nx
  get : ∀ k, a.get k = b.get k
  hp : lkb a.hp = lkb b.hp
theorem StEq.refl (a : St) : StEq a a := ⟨rfl, rfl, fun _ => rfl, rfl⟩
theorem StEq.symm {a b : St} (h : StEq a b) : StEq b a := ⟨h.n.symm, h.nx.symm, fun k => (h.get k).symm, h.hp.symm⟩
theorem StEq.trans {a b c : St} (h : StEq a b) (k : StEq b c) : StEq a c := ⟨h.n.trans k.n, h.nx.trans k.nx, fun i => (h.get i).trans (k.get i), h.hp.trans k.hp⟩
theorem StEq.ev {a b : St} (h : StEq a b) (gl : Nat → AV) : a.ev gl = b.ev gl := by
  funext x; cases x <;> first | rfl | exact h.get _
theorem StEq.rel {m : Nat → Lc} {H : HV} {B : Nat → Prop} {H0 : HV} {gl : Nat → AV} {rest : List (AV × Value)} {a b : St} {tmps : Array Value} {w : World} (h : StEq a b) (hr : RelS m H B H0 gl rest a tmps w) : RelS m H B H0 gl rest b tmps w := by
  refine ⟨by rw [← h.hp, ← h.nx]; exact hr.heap, by rw [← h.n]; exact hr.size, fun k => ?_, fun p hp => ?_⟩
  · show RV H (envOf (lkb b.hp) m) _ _
    rw [← h.hp, ← h.get]; exact hr.slot k
  · show RV H (envOf (lkb b.hp) m) _ _
    rw [← h.hp]; exact hr.rest p hp
theorem get_eff (st : St) (d : Option Nat) (r : AV × Option (Nat × Box)) (k : Nat) : (st.eff d r).get k = if d = some k then r.1 else st.get k := by
  have : ∀ st : St, (st.putO d r.1).get k = if d = some k then r.1 else st.get k := fun st => by
    cases d with
    | none => simp [St.putO]
    | some d =>
      show lk .undef (pt st.sl d r.1) k = _
      rw [lk_pt]
      simp only [Option.some.injEq]
      rfl
  obtain ⟨v, b⟩ := r
  cases b with
  | none => exact this st
  | some b =>
    have := this st
    cases d <;> exact this
theorem hp_eff (st : St) (d : Option Nat) (r : AV × Option (Nat × Box)) : lkb (st.eff d r).hp = match r.2 with | some (id, b) => updF (lkb st.hp) id (some b) | none => lkb st.hp := by
  obtain ⟨v, b⟩ := r
  cases b with
  | none => show lkb (st.putO d v).hp = _; rw [putO_hp]
  | some b => cases d <;> exact lkb_pt _ _ _
theorem StEq.eff {a b : St} (h : StEq a b) (d : Option Nat) (r : AV × Option (Nat × Box)) : StEq (a.eff d r) (b.eff d r) :=
  ⟨by rw [eff_n, eff_n]; exact h.n, by rw [eff_nx, eff_nx]; exact h.nx, fun k => by rw [get_eff, get_eff, h.get], by rw [hp_eff, hp_eff, h.hp]⟩
def xcore (P : Program) (ch : CallB) (md : Bool) (F : FootT) (all : List Oper) (bid : Nat) (o : Oper) (gv : Option AV) (ev : Operand → AV) (hp : Hp) : Option (AV × Option (Nat × Box)) :=
  match o.guard with
  | none => xoF P ch md F all bid o ev hp
  | some (_, want) => match gv with
    | some x => match gwant x want with
      | some true => xoF P ch md F all bid o ev hp
      | some false => some (.tup [], none)
      | none => none
    | none => none
def gval (all : List Oper) (o : Oper) (st : St) : Option AV :=
  match o.guard with
  | none => none
  | some (j, _) => match gslot all j with
    | some g => some (st.get g)
    | none => none
theorem xstepO_eq {P : Program} {gl : Nat → AV} {ch : CallB} {md : Bool} {F : FootT} {all : List Oper} {bid : Nat} {o : Oper} {st : St} :
    xstepO P gl ch md F all bid o st = if dstOk o.dst st.n && (lkb st.hp bid).isNone && Nat.blt bid st.nx then (match xcore P ch md F all bid o (gval all o st) (st.ev gl) (lkb st.hp) with | some r => some (st.eff o.dst r) | none => none) else none := by
  unfold xstepO xcore gval
  split
  · cases hg : o.guard with
    | none => rfl
    | some x =>
      obtain ⟨j, want⟩ := x
      simp only
      cases hgs : gslot all j with
      | none => rfl
      | some g =>
        simp only
        cases hv : gwant (st.get g) want with
        | none => rfl
        | some b => cases b <;> rfl
  · rfl
theorem StEq.stepO {P : Program} {gl : Nat → AV} {ch : CallB} {md : Bool} {F : FootT} {all : List Oper} {bid : Nat} {o : Oper} {a b s : St} (h : StEq a b) (hk : xstepO P gl ch md F all bid o a = some s) : ∃ s', xstepO P gl ch md F all bid o b = some s' ∧ StEq s s' := by
  rw [xstepO_eq] at hk ⊢
  have hg : gval all o a = gval all o b := by
    unfold gval
    split
    · rfl
    · split
      · rw [h.get]
      · rfl
  rw [h.n, h.nx, h.hp, hg, h.ev] at hk
  split at hk
  · rename_i hc
    rw [if_pos hc]
    split at hk
    · rename_i r hr
      cases hk
      exact ⟨_, rfl, h.eff _ _⟩
    · cases hk
  · cases hk
def tmp? : Operand → Option Nat
  | .tmp t => some t
  | _ => none
def rdO (all : List Oper) (o : Oper) : List Nat :=
  o.op.operands.toList.filterMap tmp? ++ match o.guard with
    | some (j, _) => (gslot all j).toList
    | none => []
def nilArg (c : Call) : Bool := match c.args.toList with | .const _ :: _ => true | _ => false
def hk (op : Op) : Nat :=
  match op with
  | .load .. => 1
  | .lookup .. => 1
  | .store .. => 2
  | .binOp o .. => match o with
    | .eql | .neq => 1
    | _ => 0
  | .convert .. => 1
  | .call c => match c.callee with
    | .builtin .append => match nilArg c with | true => 1 | false => 2
    | .builtin .unsafeString => 2
    | .builtin _ => 0
    | _ => 1
  | _ => 0
def hkCl (a b : Nat) : Bool := (Nat.beq a 2 && !Nat.beq b 0) || (Nat.beq b 2 && !Nat.beq a 0)
def meetD (d : Option Nat) (l : List Nat) : Bool := match d with | some d => l.contains d | none => false
def disjF (a b : Option (List Nat)) : Bool := match a, b with
  | some l, some k => l.all fun i => k.all fun j => !Nat.beq i j
  | _, _ => false
def conflD (all : List Oper) (o p : Oper) : Bool := meetD o.dst (rdO all p) || meetD o.dst p.dst.toList || meetD p.dst (rdO all o)
def confl (md : Bool) (all : List Oper) (o p : Oper) : Bool := conflD all o p || (!md && hkCl (hk o.op) (hk p.op))
section
variable {P : Program} {m : Nat → Lc} {H : HV} {B : Nat → Prop} {H0 : HV} {gl : Nat → AV} {rest : List (AV × Value)} {st : St} {a : Act} {w : World} {ch : CallB}
theorem map_ev_congr {ev ev' : Operand → AV} {l : List Operand} (h : ∀ x ∈ l, ev x = ev' x) : l.map ev = l.map ev' := List.map_congr_left h
theorem xop0_congr {bid : Nat} {dst : Option Nat} {op : Op} {ev ev' : Operand → AV} {hp : Hp} (h : ∀ x ∈ op.operands, ev x = ev' x) : xop0 P bid dst op ev hp = xop0 P bid dst op ev' hp := by
  have hopt : ∀ (o : Option Operand), (∀ x ∈ o.toList, ev x = ev' x) → o.map ev = o.map ev' := fun o ho => by
    cases o with
    | none => rfl
    | some x => simp [ho x (by simp)]
  cases op <;> simp only [Op.operands, List.mem_toArray, List.mem_cons, List.not_mem_nil, or_false, forall_eq_or_imp, forall_eq, List.mem_map, Array.mem_toList_iff] at h <;> (try rfl) <;> simp only [xop0]
  case move => rw [h]
  case assign => rw [h]
  case pick => rw [h.1, h.2.1, h.2.2]
  case box => rw [h]
  case build t ps => congr 2; refine List.map_congr_left fun p hp => ?_; rw [h _ ⟨p, by simpa using hp, rfl⟩]
  case buildSlice t l ps => congr 1; refine List.map_congr_left fun p hp => ?_; rw [h _ ⟨p, by simpa using hp, rfl⟩]
  case load => rw [h]
  case store => rw [h.1, h.2]
  case nilCheck => rw [h]
  case binOp => rw [h.1, h.2]
  case unOp => rw [h]
  case convert => rw [h]
  case makeFunc fn first caps =>
    cases fn <;> try rfl
    simp only
    split
    · congr 3
      refine List.map_congr_left fun x hx => h x ?_
      simp at hx ⊢
      exact .inr hx
    · rfl
  case makeSlice => rw [h.1, h.2]
  case slice t x lo hi mx =>
    have h' : ∀ y, y = x ∨ y ∈ lo.toList ∨ y ∈ hi.toList ∨ y ∈ mx.toList → ev y = ev' y := fun y hy => h y (by
      simp only [Array.mem_append, List.mem_toArray, List.mem_singleton, Option.mem_toArray] at *
      rcases hy with h1 | h1 | h1 | h1
      · exact .inl (.inl (.inl (by simp [h1])))
      · exact .inl (.inl (.inr (by simpa using h1)))
      · exact .inl (.inr (by simpa using h1))
      · exact .inr (by simpa using h1))
    rw [h' x (.inl rfl), hopt lo (fun y hy => h' y (.inr (.inl hy))), hopt hi (fun y hy => h' y (.inr (.inr (.inl hy)))), hopt mx (fun y hy => h' y (.inr (.inr (.inr hy))))]
  case fieldAddr => rw [h]
  case field => rw [h]
  case indexAddr => rw [h.1, h.2]
  case index => rw [h.1, h.2]
  case extract => rw [h]
  case call c =>
    cases hc : c.callee <;> simp only
    rename_i b
    congr 1
    refine List.map_congr_left fun x hx => h x ?_
    simp [Call.operands, hc]
    simpa using hx
theorem xopX_congr {bid : Nat} {op : Op} {ev ev' : Operand → AV} {hp : Hp} (h : ∀ x ∈ op.operands, ev x = ev' x) : xopX P bid op ev hp = xopX P bid op ev' hp := by
  cases op <;> (try rfl)
  case binOp => simp only [Op.operands, List.mem_toArray, List.mem_cons, List.not_mem_nil, or_false, forall_eq_or_imp, forall_eq] at h; simp only [xopX]; rw [h.1, h.2]
  case convert => simp only [Op.operands, List.mem_toArray, List.mem_cons, List.not_mem_nil, or_false, forall_eq] at h; simp only [xopX]; rw [h]
  case call c =>
    simp only [xopX]
    cases hc : c.callee with
    | builtin b =>
      have hl : c.args.toList.map ev = c.args.toList.map ev' := List.map_congr_left fun x hx => h x (by simp [Op.operands, Call.operands, hc]; simpa using hx)
      simp only [hl]
    | value x => rfl
    | invoke x y => rfl
theorem xopO_congr {op : Op} {ev ev' : Operand → AV} {hp : Hp} (h : ∀ x ∈ op.operands, ev x = ev' x) : xopO P op ev hp = xopO P op ev' hp := by
  cases op <;> (try rfl)
  case lookup => simp only [Op.operands, List.mem_toArray, List.mem_cons, List.not_mem_nil, or_false, forall_eq_or_imp, forall_eq] at h; simp only [xopO]; rw [h.1, h.2]
  case call c =>
    simp only [xopO]
    cases hc : c.callee with
    | builtin b =>
      have hl : c.args.toList.map ev = c.args.toList.map ev' := List.map_congr_left fun x hx => h x (by simp [Op.operands, Call.operands, hc]; simpa using hx)
      simp only [hl]
    | value x => rfl
    | invoke x y => rfl
theorem xop_congr {bid : Nat} {dst : Option Nat} {op : Op} {ev ev' : Operand → AV} {hp : Hp} (h : ∀ x ∈ op.operands, ev x = ev' x) : xop P bid dst op ev hp = xop P bid dst op ev' hp := by
  unfold xop; rw [xop0_congr h, xopX_congr h, xopO_congr h]
end
end HY
end
section
namespace HY
open Go Go.RowKit
section
variable {P : Program} {m : Nat → Lc} {H : HV} {B : Nat → Prop} {H0 : HV} {gl : Nat → AV} {rest : List (AV × Value)} {st : St} {a : Act} {w : World} {ch : CallB}
theorem callee_congr {op : Op} {ev ev' : Operand → AV} (h : ∀ x ∈ op.operands, ev x = ev' x) : callee? ev op = callee? ev' op := by
  unfold callee?
  split
  · rename_i c
    split
    · rename_i x hx
      have hx' : ev x = ev' x := h x (by simp [Op.operands, Call.operands, hx])
      have hl : c.args.toList.map ev = c.args.toList.map ev' := List.map_congr_left fun y hy => h y (by simp [Op.operands, Call.operands, hx]; right; simpa using hy)
      rw [hx', hl]
    · rfl
  · rfl
theorem xo_congr {bid : Nat} {dst : Option Nat} {op : Op} {ev ev' : Operand → AV} {hp : Hp} (h : ∀ x ∈ op.operands, ev x = ev' x) : xo P ch bid dst op ev hp = xo P ch bid dst op ev' hp := by
  unfold xo; rw [callee_congr h, xop_congr h]
theorem xo_hk0 {bid : Nat} {dst : Option Nat} {op : Op} {ev : Operand → AV} {hp hp' : Hp} (h : hk op = 0) : xo P ch bid dst op ev hp = xo P ch bid dst op ev hp' := by
  unfold xo
  split
  · rename_i hc
    unfold isCall at hc
    split at hc
    · rename_i c
      split at hc
      · cases hc
      · rename_i hnb
        exfalso
        cases hcc : c.callee with
        | builtin b => exact hnb _ hcc
        | value x => simp [hk, hcc] at h
        | invoke x y => simp [hk, hcc] at h
    · cases hc
  · rename_i hnc
    clear hnc
    unfold xop
    have e0 : xop0 P bid dst op ev hp = xop0 P bid dst op ev hp' := by
      cases op <;> first | rfl | (cases h; done) | skip
      case makeFunc fn first caps => cases fn <;> rfl
      case call c =>
        simp only [xop0]
        cases hcc : c.callee with
        | builtin b =>
          simp only
          cases b <;> first | rfl | (simp only [hk, hcc] at h; split at h <;> cases h; done) | (simp [hk, hcc] at h; done)
        | value x => rfl
        | invoke x y => rfl
    have e1 : xopX P bid op ev hp = xopX P bid op ev hp' := by
      cases op <;> first | rfl | (cases h; done) | skip
      case binOp o t x y ty =>
        have hno : ∀ hp, xptrEq P o t (ev x) (ev y) hp = none := fun hp => by
          have ho : ∀ b, xeqOp o b = none := fun b => by cases o <;> first | rfl | (cases h; done)
          unfold xptrEq
          split
          · split
            · split
              · split
                · exact ho _
                · rfl
              · rfl
            · rfl
          · rfl
        simp only [xopX, hno]
      case call c =>
        simp only [xopX]
        cases hcc : c.callee with
        | builtin b =>
          simp only
          cases b <;> first | rfl | (simp only [hk, hcc] at h; split at h <;> cases h; done) | (simp [hk, hcc] at h; done)
        | value x => rfl
        | invoke x y => rfl
    have e2 : xopO P op ev hp = xopO P op ev hp' := by
      cases op <;> first | rfl | (cases h; done) | skip
      case call c =>
        simp only [xopO]
        cases hcc : c.callee with
        | builtin b =>
          cases b <;> first | rfl | (simp only [hk, hcc] at h; split at h <;> cases h; done) | (simp [hk, hcc] at h; done)
        | value x => rfl
        | invoke x y => rfl
    rw [e0, e1, e2]
def Ext (hp hp' : Hp) : Prop := ∀ id b, hp id = some b → hp' id = some b
theorem ext_upd {hp : Hp} {id : Nat} {b : Box} (h : hp id = none) : Ext hp (updF hp id (some b)) := fun id' b' h' => by
  have : id' ≠ id := fun e => by rw [e, h] at h'; cases h'
  rw [updF_ne _ _ this]; exact h'
theorem ptr_al {E : Env} {id ver off : Nat} {v : Value} (h : RV H E (.ptr id ver off) v) : E.al id ver := let ⟨_, _, h, _⟩ := h.ptr_inv; h
theorem bs_al {E : Env} {id ver sz off len : Nat} {v : Value} (h : RV H E (.bs id ver sz off len) v) : E.al id ver := let ⟨_, _, _, h, _⟩ := h.bs_inv; h
theorem ow_al {E : Env} {id ver sz len : Nat} {v : Value} (h : RV H E (.ow id ver sz len) v) : E.al id ver := let ⟨_, _, _, h, _⟩ := h.ow_inv; h
theorem oe_al {E : Env} {id ver sz i off : Nat} {v : Value} (h : RV H E (.oe id ver sz i off) v) : E.al id ver := let ⟨_, _, h, _⟩ := h.oe_inv; h
theorem al_some {hp : Hp} {m : Nat → Lc} {id ver : Nat} (h : (envOf hp m).al id ver) : ∃ b, hp id = some b := let ⟨b, h, _⟩ := h; ⟨b, h⟩
theorem optL_congr {f g : AV → Option AV} : ∀ {l : List AV}, (∀ x ∈ l, f x = g x) → optL f l = optL g l
  | [], _ => rfl
  | x :: l, h => by
    simp only [optL]
    rw [h x (by simp), optL_congr (l := l) fun y hy => h y (by simp [hy])]
theorem tree_ext {hp hp' : Hp} (hb : ∀ id b, hp id = some b → BoxOk H (envOf hp m) b (m id) w) (he : Ext hp hp') (s : Bool) : ∀ (k : Nat) (x : AV) (v : Value), RV H (envOf hp m) x v → tree hp' s k x = tree hp s k x
  | 0, _, _, _ => rfl
  | k + 1, x, v, hx => by
    have ih := tree_ext hb he s k
    cases x with
    | bs id ver sz off len =>
      obtain ⟨b, hid⟩ := al_some (bs_al hx)
      simp only [tree, he _ _ hid, hid]
      cases b with
      | cells v' cs =>
        obtain ⟨C, e, hC, _, _, hcs⟩ := hb _ _ hid
        have : optL (tree hp' s k) ((cs.drop off).take (len * sz)) = optL (tree hp s k) ((cs.drop off).take (len * sz)) := optL_congr fun y hy => by
          obtain ⟨j, hj⟩ := List.getElem?_of_mem (List.mem_of_mem_drop (List.mem_of_mem_take hy))
          obtain ⟨u, _, _, hr⟩ := hcs j y hj
          exact ih y u hr
        simp only [this]
      | own => rfl
      | hol => rfl
      | loop => rfl
      | defb => rfl
      | map => rfl
      | dead => rfl
    | agg cs =>
      obtain ⟨vs, rfl, hl, _, hc⟩ := hx.agg_inv
      simp only [tree]
      rw [optL_congr fun y hy => ?_]
      obtain ⟨j, hj⟩ := List.getElem?_of_mem hy
      exact ih y _ (hc j y _ hj (Array.getElem?_eq_getElem (by rw [← hl]; exact (List.getElem?_eq_some_iff.1 hj).1)))
    | tup cs =>
      obtain ⟨vs, rfl, hl, hc⟩ := hx.tup_inv
      simp only [tree]
      rw [optL_congr fun y hy => ?_]
      obtain ⟨j, hj⟩ := List.getElem?_of_mem hy
      exact ih y _ (hc j y _ hj (Array.getElem?_eq_getElem (by rw [← hl]; exact (List.getElem?_eq_some_iff.1 hj).1)))
    | fn f cs =>
      obtain ⟨vs, rfl, hl, hc⟩ := hx.fn_inv
      simp only [tree]
      rw [optL_congr fun y hy => ?_]
      obtain ⟨j, hj⟩ := List.getElem?_of_mem hy
      exact ih y _ (hc j y _ hj (Array.getElem?_eq_getElem (by rw [← hl]; exact (List.getElem?_eq_some_iff.1 hj).1)))
    | _ => rfl
theorem xsrc_ext {hp hp' : Hp} (he : Ext hp hp') {sz : Nat} {x : AV} {v : Value} (hx : RV H (envOf hp m) x v) : xsrc sz x hp' = xsrc sz x hp := by
  cases x with
  | bs id ver z off len =>
    obtain ⟨b, hid⟩ := al_some (bs_al hx)
    simp only [xsrc, he _ _ hid, hid]
  | _ => rfl
theorem xappend_ext {hp hp' : Hp} (he : Ext hp hp') {bid : Nat} {t t' : TypeId} {s x : AV} {u v : Value} (hs : RV H (envOf hp m) s u) (hx : RV H (envOf hp m) x v) : xappend P bid t t' s x hp' = xappend P bid t t' s x hp := by
  unfold xappend
  split
  · split
    · rw [xsrc_ext he hx]
      split
      · split
        · rfl
        · cases s with
          | bs id ver z off len =>
            obtain ⟨b, hid⟩ := al_some (bs_al hs)
            simp only [xappT, he _ _ hid, hid]
          | _ => rfl
      · rfl
    · rfl
  · rfl
theorem xop0_ext (h : RelS m H B H0 gl rest st a.tmps w) {hp' : Hp} (he : Ext (lkb st.hp) hp') {bid : Nat} {dst : Option Nat} {op : Op} : xop0 P bid dst op (st.ev gl) hp' = xop0 P bid dst op (st.ev gl) (lkb st.hp) := by
      cases op <;> first | rfl | skip
      case makeFunc fn first caps => cases fn <;> rfl
      case load t x =>
        simp only [xop0, xload]
        have hx := h.ev x
        generalize st.ev gl x = y at hx ⊢
        cases y <;> first | rfl | skip
        · obtain ⟨b, hid⟩ := al_some (ptr_al hx)
          simp only [he _ _ hid, hid]
        · obtain ⟨b, hid⟩ := al_some (oe_al hx)
          simp only [he _ _ hid, hid]
      case store t x y =>
        simp only [xop0, xstore]
        have hx := h.ev x
        generalize st.ev gl x = z at hx ⊢
        cases z <;> first | rfl | skip
        · obtain ⟨b, hid⟩ := al_some (ptr_al hx)
          simp only [he _ _ hid, hid]
        · obtain ⟨b, hid⟩ := al_some (oe_al hx)
          simp only [he _ _ hid, hid]
      case call c =>
        simp only [xop0]
        cases hcc : c.callee <;> first | rfl | skip
        rename_i b
        cases b <;> first | rfl | skip
        simp only [xbuiltin]
        split
        · rename_i t t' s x ht hx
          match hh : c.args.toList with
          | [] => rw [hh] at hx; cases hx
          | [y] => rw [hh] at hx; simp at hx
          | [y, z] =>
            rw [hh] at hx; simp only [List.map_cons, List.map_nil, List.cons.injEq, and_true] at hx
            obtain ⟨rfl, rfl⟩ := hx
            exact xappend_ext he (h.ev y) (h.ev z)
          | _ :: _ :: _ :: _ => rw [hh] at hx; simp at hx
        · rfl
theorem xustr_congr {pt : TypeId} {p n : AV} {hp hp' : Hp} (h : ∀ id ver off, p = .ptr id ver off → hp id = hp' id) : xustr P pt p n hp = xustr P pt p n hp' := by
  unfold xustr
  split
  · rfl
  · rw [h _ _ _ rfl]
  · rfl
theorem xopX_ext (h : RelS m H B H0 gl rest st a.tmps w) {hp' : Hp} (he : Ext (lkb st.hp) hp') {bid : Nat} {op : Op} : xopX P bid op (st.ev gl) hp' = xopX P bid op (st.ev gl) (lkb st.hp) := by
  cases op <;> first | rfl | skip
  case binOp o t x y ty =>
    simp only [xopX]
    congr 1
    have hx := h.ev x
    generalize st.ev gl x = z at hx ⊢
    cases z <;> first | rfl | skip
    obtain ⟨b, hid⟩ := al_some (ptr_al hx)
    generalize st.ev gl y = y'
    cases y' <;> first | rfl | simp only [xptrEq, he _ _ hid, hid]
  case convert src to x =>
    simp only [xopX]
    congr 1
    have hx := h.ev x
    generalize st.ev gl x = z at hx ⊢
    cases z <;> first | rfl | skip
    · obtain ⟨b, hid⟩ := al_some (ptr_al hx)
      simp only [xconvP, he _ _ hid, hid]
    · obtain ⟨b, hid⟩ := al_some (bs_al hx)
      simp only [xconvP, he _ _ hid, hid]
  case call c =>
    simp only [xopX]
    cases hcc : c.callee <;> first | rfl | skip
    rename_i b
    cases b <;> first | rfl | skip
    · simp only
      split
      · rename_i t t' s x ht hx
        obtain ⟨y, z, _, rfl, rfl⟩ := two_args hx
        unfold xappS
        split
        · split
          · split
            · split
              · rfl
              · have hs := h.ev y
                generalize st.ev gl y = y' at hs ⊢
                cases y' <;> first | rfl | skip
                obtain ⟨b, hid⟩ := al_some (bs_al hs)
                simp only [xappT, he _ _ hid, hid]
            · rfl
          · rfl
        · rfl
      · rfl
    · simp only
      split
      · rename_i pt it p n ht hx
        obtain ⟨y, z, _, rfl, rfl⟩ := two_args hx
        refine xustr_congr fun id ver off e => ?_
        have hs := h.ev y
        rw [e] at hs
        obtain ⟨b, hid⟩ := al_some (ptr_al hs)
        rw [he _ _ hid, hid]
      · rfl
theorem xels_ext {hp hp' : Hp} (he : Ext hp hp') {sz : Nat} {x : AV} {v : Value} (hx : RV H (envOf hp m) x v) : xels sz x hp' = xels sz x hp := by
  cases x with
  | bs id ver z off len =>
    obtain ⟨b, hid⟩ := al_some (bs_al hx)
    simp only [xels, he _ _ hid, hid]
  | ow id ver z len =>
    obtain ⟨b, hid⟩ := al_some (ow_al hx)
    simp only [xels, he _ _ hid, hid]
  | _ => rfl
theorem xappO_ext {hp hp' : Hp} (he : Ext hp hp') {t t' : TypeId} {s x : AV} {u v : Value} (hs : RV H (envOf hp m) s u) (hx : RV H (envOf hp m) x v) : xappO P t t' s x hp' = xappO P t t' s x hp := by
  cases s with
  | ow id ver z len =>
    obtain ⟨b, hid⟩ := al_some (ow_al hs)
    simp only [xappO, he _ _ hid, hid, xels_ext he hx]
  | _ => rfl
theorem xopO_ext (h : RelS m H B H0 gl rest st a.tmps w) {hp' : Hp} (he : Ext (lkb st.hp) hp') {op : Op} : xopO P op (st.ev gl) hp' = xopO P op (st.ev gl) (lkb st.hp) := by
  cases op <;> first | rfl | skip
  case lookup t x i ok =>
    simp only [xopO]
    have hx := h.ev x
    generalize st.ev gl x = y at hx
    cases y with
    | mp id =>
      obtain ⟨l, _, hl⟩ := hx.mp_inv
      have : ∃ b, lkb st.hp id = some b := by
        cases hid : lkb st.hp id with
        | some b => exact ⟨b, rfl⟩
        | none => simp [St.env, envOf, hid] at hl
      obtain ⟨b, hid⟩ := this
      simp only [xlookup, he _ _ hid, hid]
    | _ => rfl
  case call c =>
    simp only [xopO]
    cases hcc : c.callee <;> first | rfl | skip
    rename_i b
    cases b <;> first | rfl | skip
    simp only
    split
    · rename_i t t' s x ht hx
      obtain ⟨y, z, _, rfl, rfl⟩ := two_args hx
      exact xappO_ext he (h.ev y) (h.ev z)
    · rfl
theorem xo_ext (h : RelS m H B H0 gl rest st a.tmps w) {hp' : Hp} (he : Ext (lkb st.hp) hp') {bid : Nat} {dst : Option Nat} {op : Op} : xo P ch bid dst op (st.ev gl) hp' = xo P ch bid dst op (st.ev gl) (lkb st.hp) := by
  by_cases h0 : hk op = 0
  · exact xo_hk0 h0
  · unfold xo
    split
    · split
      · rename_i f args hc
        obtain ⟨c, x, caps, ho, hx, hf, rfl⟩ := callee_inv hc
        unfold xpure
        have : optL (tree hp' false 12) (c.args.toList.map (st.ev gl) ++ caps) = optL (tree (lkb st.hp) false 12) (c.args.toList.map (st.ev gl) ++ caps) := optL_congr fun y hy => by
          rw [List.mem_append, List.mem_map] at hy
          rcases hy with ⟨z, _, rfl⟩ | hy
          · exact tree_ext (fun id b hid => h.heap.box id b hid) he false 12 _ _ (h.ev z)
          · have hfx := h.ev x
            rw [hf] at hfx
            obtain ⟨us, _, hul, hur⟩ := hfx.fn_inv
            obtain ⟨j, hj⟩ := List.getElem?_of_mem hy
            exact tree_ext (fun id b hid => h.heap.box id b hid) he false 12 _ _ (hur j y _ hj (Array.getElem?_eq_getElem (by rw [← hul]; exact (List.getElem?_eq_some_iff.1 hj).1)))
        rw [this]
      · rfl
    · rename_i hnc
      clear hnc
      unfold xop
      rw [xop0_ext h he, xopX_ext h he, xopO_ext h he]
theorem ofV0_noref (v : Value) : (∀ a b c d e, ofV0 v ≠ .bs a b c d e) ∧ ∀ a b c d, ofV0 v ≠ .ow a b c d := by
  unfold ofV0
  split <;> exact ⟨(fun a b c d e h => nomatch h), (fun a b c d h => nomatch h)⟩
theorem ofV_noref (v : Value) : (∀ a b c d e, ofV v ≠ .bs a b c d e) ∧ ∀ a b c d, ofV v ≠ .ow a b c d := by
  unfold ofV
  split
  · split <;> exact ⟨(fun a b c d e h => nomatch h), (fun a b c d h => nomatch h)⟩
  · exact ⟨(fun a b c d e h => nomatch h), (fun a b c d h => nomatch h)⟩
  · exact ofV0_noref _
theorem nilArg_arg {c : Call} {ev : Operand → AV} (hev : ∀ v, ev (.const v) = ofV v) (hn : nilArg c = true) {s x : AV} (h : c.args.toList.map ev = [s, x]) : ∃ v, s = ofV v := by
  unfold nilArg at hn
  split at hn
  · rename_i v r hr
    rw [hr, List.map_cons] at h
    injection h with h1 h2
    exact ⟨v, h1.symm.trans (hev v)⟩
  · cases hn
theorem hk_app {c : Call} (hc : c.callee = .builtin .append) (hn : nilArg c = false) : hk (.call c) = 2 := by simp [hk, hc, hn]
theorem xappT_box {bid e tg sz by_ n : Nat} {ds : List AV} {s : AV} {hp : Hp} {v : AV} {id : Nat} {b : Box} (h : xappT bid e tg sz by_ n ds s hp = some (v, some (id, b))) : id = bid ∨ ((∃ a b c d e, s = .bs a b c d e) ∧ ∃ b', hp id = some b') := by
  unfold xappT at h
  split at h
  · split at h
    · cases h; exact .inl rfl
    · cases h
  · split at h
    · cases h; exact .inl rfl
    · cases h
  · split at h
    · rename_i hid
      split at h
      · cases h; exact .inr ⟨⟨_, _, _, _, _, rfl⟩, _, hid⟩
      · cases h
    · cases h
  · cases h
theorem app_box {bid : Nat} {c : Call} {ev : Operand → AV} {s x : AV} {hp : Hp} {id : Nat} (hc : c.callee = .builtin .append) (hev : ∀ v, ev (.const v) = ofV v) (ha : c.args.toList.map ev = [s, x]) (h : id = bid ∨ ((∃ a b c d e, s = .bs a b c d e) ∧ ∃ b', hp id = some b')) : id = bid ∨ (hk (.call c) = 2 ∧ ∃ b', hp id = some b') := by
  refine h.imp (fun e => e) fun ⟨⟨a, b, d, e, f, hs⟩, hb⟩ => ⟨hk_app hc ?_, hb⟩
  cases hn : nilArg c with
  | false => rfl
  | true =>
    obtain ⟨v, hv⟩ := nilArg_arg hev hn ha
    exact absurd (hv.symm.trans hs) ((ofV_noref v).1 _ _ _ _ _)
theorem xopX_box {bid : Nat} {op : Op} {ev : Operand → AV} (hev : ∀ v, ev (.const v) = ofV v) {hp : Hp} {v : AV} {id : Nat} {b : Box} (h : xopX P bid op ev hp = some (v, some (id, b))) : id = bid ∨ (hk op = 2 ∧ ∃ b', hp id = some b') := by
  have xvno : ∀ o : Option AV, xv o ≠ some (v, some (id, b)) := fun o e => by cases o <;> simp [xv] at e
  unfold xopX at h
  split at h
  · exact absurd h (xvno _)
  · exact absurd h (xvno _)
  · rename_i c
    split at h
    · rename_i bb hbb
      split at h
      · split at h
        · rename_i ha
          unfold xappS at h
          split at h
          · split at h
            · split at h
              · split at h
                · cases h
                · exact app_box hbb hev ha (xappT_box h)
              · cases h
            · cases h
          · cases h
        · cases h
      · split at h
        · exact absurd h (xvno _)
        · cases h
      · split at h
        · unfold xustr at h
          split at h
          · cases h
          · split at h
            · rename_i hid
              split at h
              · split at h
                · split at h
                  · cases h; exact .inr ⟨by simp [hk, hbb], _, hid⟩
                  · cases h
                · cases h
              · cases h
            · cases h
          · cases h
        · cases h
      · cases h
    · cases h
  · cases h
theorem xopO_box {op : Op} {ev : Operand → AV} (hev : ∀ v, ev (.const v) = ofV v) {hp : Hp} {v : AV} {id : Nat} {b : Box} (h : xopO P op ev hp = some (v, some (id, b))) : hk op = 2 ∧ ∃ b', hp id = some b' := by
  unfold xopO at h
  split at h
  · obtain ⟨v', _, h2⟩ := xv_inv h; cases h2
  · rename_i c
    split at h
    · rename_i hbb
      split at h
      · rename_i ha
        unfold xappO at h
        split at h
        · split at h
          · split at h
            · split at h
              · rename_i hid
                split at h
                · split at h
                  · split at h
                    · cases h
                      refine ⟨hk_app hbb ?_, _, hid⟩
                      cases hn : nilArg c with
                      | false => rfl
                      | true =>
                        obtain ⟨v, hv⟩ := nilArg_arg hev hn ha
                        exact absurd hv.symm ((ofV_noref v).2 _ _ _ _)
                    · cases h
                  · cases h
                · cases h
              · cases h
            · cases h
          · cases h
        · cases h
      · cases h
    · cases h
  · cases h
theorem xo_box {bid : Nat} {dst : Option Nat} {op : Op} {ev : Operand → AV} (hev : ∀ v, ev (.const v) = ofV v) {hp : Hp} {v : AV} {id : Nat} {b : Box} (h : xo P ch bid dst op ev hp = some (v, some (id, b))) : id = bid ∨ (hk op = 2 ∧ ∃ b', hp id = some b') := by
  have xvno : ∀ o : Option AV, xv o ≠ some (v, some (id, b)) := fun o e => by cases o <;> simp [xv] at e
  unfold xo at h
  split at h
  · split at h
    · rename_i f args hc
      left
      have key : ∀ s o, xpureR s bid o = some (v, some (id, b)) → id = bid := fun s o hh => by
        unfold xpureR at hh
        split at hh
        · split at hh
          · split at hh
            · split at hh
              · split at hh
                · cases hh; rfl
                · cases hh
              · cases hh
            · cases hh
          · split at hh
            · split at hh
              · cases hh; rfl
              · cases hh
            · cases hh
          · exact absurd hh (xvno _)
        · cases hh
      unfold xpure at h
      split at h
      · exact key _ _ h
      · split at h
        · exact key _ _ h
        · cases h
    · cases h
  · unfold xop at h
    split at h
    rotate_left
    · split at h
      · rename_i r0 h0; cases h; exact xopX_box hev h0
      · exact .inr (xopO_box hev h)
    rename_i r0 h0
    cases h
    have h := h0
    unfold xop0 at h
    split at h <;> first
      | (cases h; done)
      | exact absurd h (xvno _)
      | skip
    · split at h <;> cases h
    · split at h
      · split at h
        · cases h; exact .inl rfl
        · cases h
      · cases h
    · split at h
      · cases h; exact .inl rfl
      · cases h
    · unfold xbuildSlice at h
      split at h
      · split at h
        · split at h
          · cases h; exact .inl rfl
          · cases h
        · cases h
      · cases h
    · rename_i t x y
      split at h
      · right
        unfold xstore at h
        split at h
        · split at h
          · split at h
            · rename_i hid
              split at h
              · cases h; exact ⟨rfl, _, hid⟩
              · cases h
            · cases h
          · split at h
            · rename_i hid
              split at h
              · cases h; exact ⟨rfl, _, hid⟩
              · split at h
                · cases h; exact ⟨rfl, _, hid⟩
                · cases h
            · cases h
          · cases h
        · cases h
      · cases h
    · split at h <;> cases h
    · unfold xmakeSlice at h
      split at h
      · split at h
        · split at h
          · cases h; exact .inl rfl
          · cases h
        · cases h
      · cases h
    · split at h <;> cases h
    · rename_i c
      split at h
      · rename_i bb hbb
        unfold xbuiltin at h
        split at h
        · split at h
          · exact absurd h (xvno _)
          · cases h
        · exact absurd h (xvno _)
        · exact absurd h (xvno _)
        · split at h
          · rename_i ha
            unfold xappend at h
            split at h
            · split at h
              · split at h
                · split at h
                  · split at h <;> cases h
                  · exact app_box hbb hev ha (xappT_box h)
                · cases h
              · cases h
            · cases h
          · cases h
        · cases h
      · cases h
theorem xload_ids {t : TypeId} {x : AV} {hp hp' : Hp} (hh : ∀ id ∈ idOf x, hp id = hp' id) : xload P t x hp = xload P t x hp' := by
  unfold xload
  split
  · cases x <;> first | rfl | simp only [hh _ (List.mem_singleton.2 rfl)]
  · rfl
theorem xstore_ids {t : TypeId} {x y : AV} {hp hp' : Hp} (hh : ∀ id ∈ idOf x, hp id = hp' id) : xstore P t x y hp = xstore P t x y hp' := by
  unfold xstore
  split
  · cases x <;> first | rfl | simp only [hh _ (List.mem_singleton.2 rfl)]
  · rfl
theorem xptrEq_ids {o : BinOp} {t : TypeId} {x y : AV} {hp hp' : Hp} (hh : ∀ id ∈ idOf x, hp id = hp' id) : xptrEq P o t x y hp = xptrEq P o t x y hp' := by
  cases x <;> first | rfl | skip
  cases y <;> first | rfl | simp only [xptrEq, hh _ (List.mem_singleton.2 rfl)]
theorem xconvP_ids {t t' : TypeId} {x : AV} {hp hp' : Hp} (hh : ∀ id ∈ idOf x, hp id = hp' id) : xconvP P t t' x hp = xconvP P t t' x hp' := by
  cases x <;> first | rfl | simp only [xconvP, hh _ (List.mem_singleton.2 rfl)]
theorem xappT_ids {bid e tg sz by_ n : Nat} {ds : List AV} {s : AV} {hp hp' : Hp} (hh : ∀ id ∈ idOf s, hp id = hp' id) : xappT bid e tg sz by_ n ds s hp = xappT bid e tg sz by_ n ds s hp' := by
  cases s <;> first | rfl | simp only [xappT, hh _ (List.mem_singleton.2 rfl)]
theorem xsrc_ids {sz : Nat} {x : AV} {hp hp' : Hp} (hh : ∀ id ∈ idOf x, hp id = hp' id) : xsrc sz x hp = xsrc sz x hp' := by
  cases x <;> first | rfl | simp only [xsrc, hh _ (List.mem_singleton.2 rfl)]
theorem xels_ids {sz : Nat} {x : AV} {hp hp' : Hp} (hh : ∀ id ∈ idOf x, hp id = hp' id) : xels sz x hp = xels sz x hp' := by
  cases x <;> first | rfl | simp only [xels, hh _ (List.mem_singleton.2 rfl)]
theorem xapp_ids {bid : Nat} {dst : Option Nat} {c : Call} (hc : c.callee = .builtin .append) {x y : Operand} (ha : c.args.toList = [x, y]) {ev : Operand → AV} {hp hp' : Hp} (hx : ∀ id ∈ idOf (ev x), hp id = hp' id) (hy : ∀ id ∈ idOf (ev y), hp id = hp' id) : xop P bid dst (.call c) ev hp = xop P bid dst (.call c) ev hp' := by
  unfold xop
  have e0 : xop0 P bid dst (.call c) ev hp = xop0 P bid dst (.call c) ev hp' := by
    simp only [xop0, hc, ha, List.map_cons, List.map_nil, xbuiltin]
    split
    · rename_i h
      cases h
      unfold xappend
      simp only [xsrc_ids hy]
      split <;> (try rfl)
      split <;> (try rfl)
      split <;> (try rfl)
      split <;> (try rfl)
      exact xappT_ids hx
    · rfl
  have e1 : xopX P bid (.call c) ev hp = xopX P bid (.call c) ev hp' := by
    simp only [xopX, hc, ha, List.map_cons, List.map_nil]
    split
    · rename_i h
      cases h
      unfold xappS
      split <;> (try rfl)
      split <;> (try rfl)
      split <;> (try rfl)
      split <;> (try rfl)
      exact xappT_ids hx
    · rfl
  have e2 : xopO P (.call c) ev hp = xopO P (.call c) ev hp' := by
    simp only [xopO, hc, ha, List.map_cons, List.map_nil]
    split
    · rename_i h
      cases h
      unfold xappO
      split
      · rename_i heq
        rw [heq] at hx
        simp only [xels_ids hy, hx _ (List.mem_singleton.2 rfl)]
      · rfl
    · rfl
  rw [e0, e1, e2]
theorem foot_app {c : Call} {ev : Operand → AV} {ids : List Nat} (hc : c.callee = .builtin .append) (hf : foot (.call c) ev = some ids) : ∃ x y, c.args.toList = [x, y] ∧ ids = idOf (ev x) ++ idOf (ev y) := by
  simp only [foot, hc] at hf
  split at hf
  · rename_i x y ha; cases hf; exact ⟨x, y, ha, rfl⟩
  · cases hf
theorem xo_foot {bid : Nat} {dst : Option Nat} {op : Op} {ev : Operand → AV} {hp hp' : Hp} {ids : List Nat} (hf : foot op ev = some ids) (hh : ∀ id ∈ ids, hp id = hp' id) : xo P ch bid dst op ev hp = xo P ch bid dst op ev hp' := by
  cases op <;> first | (cases hf; done) | skip
  case load t x =>
    cases hf
    unfold xo xop
    simp only [isCall, Bool.false_eq_true, if_false, xop0, xopX, xopO, xload_ids hh]
  case store t x y =>
    cases hf
    unfold xo xop
    simp only [isCall, Bool.false_eq_true, if_false, xop0, xopX, xopO, xstore_ids hh]
  case binOp o t x y ty =>
    cases hf
    unfold xo xop
    simp only [isCall, Bool.false_eq_true, if_false, xop0, xopX, xopO, xptrEq_ids hh]
  case convert t t' x =>
    cases hf
    unfold xo xop
    simp only [isCall, Bool.false_eq_true, if_false, xop0, xopX, xopO, xconvP_ids hh]
  case call c =>
    cases hc : c.callee with
    | builtin b =>
      cases b <;> first | (simp only [foot, hc] at hf; cases hf; done) | skip
      obtain ⟨x, y, ha, rfl⟩ := foot_app hc hf
      unfold xo
      rw [if_neg (by simp [isCall, hc]), if_neg (by simp [isCall, hc])]
      exact xapp_ids hc ha (fun id h => hh id (List.mem_append_left _ h)) (fun id h => hh id (List.mem_append_right _ h))
    | value x =>
      unfold xo
      rw [if_pos (by simp [isCall, hc]), if_pos (by simp [isCall, hc])]
      simp only [foot, hc] at hf
      split at hf
      · rename_i f args hcl
        split at hf
        · rename_i ts hts
          simp only [xpure, hts]
        · cases hf
      · cases hf
    | invoke x y =>
      simp only [foot, hc, callee?] at hf
      cases hf
theorem xappT_id {bid e tg sz by_ n : Nat} {ds : List AV} {s : AV} {hp : Hp} {v : AV} {id : Nat} {b : Box} (h : xappT bid e tg sz by_ n ds s hp = some (v, some (id, b))) : id = bid ∨ id ∈ idOf s := by
  unfold xappT at h
  split at h
  · split at h
    · cases h; exact .inl rfl
    · cases h
  · split at h
    · cases h; exact .inl rfl
    · cases h
  · split at h
    · split at h
      · cases h; exact .inr (List.mem_singleton.2 rfl)
      · cases h
    · cases h
  · cases h
theorem xo_id {bid : Nat} {dst : Option Nat} {op : Op} {ev : Operand → AV} (hev : ∀ v, ev (.const v) = ofV v) {hp : Hp} {ids : List Nat} (hf : foot op ev = some ids) {v : AV} {id : Nat} {b : Box} (h : xo P ch bid dst op ev hp = some (v, some (id, b))) : id = bid ∨ (hk op = 2 ∧ (∃ b', hp id = some b') ∧ id ∈ ids) := by
  rcases xo_box hev h with h0 | ⟨h2, hb⟩
  · exact .inl h0
  · cases op <;> first | (cases h2; done) | skip
    case store t x y =>
      cases hf
      refine .inr ⟨h2, hb, ?_⟩
      unfold xo xop at h
      simp only [isCall, Bool.false_eq_true, if_false, xop0, xopX, xopO] at h
      split at h
      · rename_i r hr
        cases h
        split at hr
        · unfold xstore at hr
          split at hr
          · split at hr
            · rename_i e
              split at hr
              · split at hr
                · cases hr; rw [e]; exact List.mem_singleton.2 rfl
                · cases hr
              · cases hr
            · rename_i e
              split at hr
              · split at hr
                · cases hr; rw [e]; exact List.mem_singleton.2 rfl
                · split at hr
                  · cases hr; rw [e]; exact List.mem_singleton.2 rfl
                  · cases hr
              · cases hr
            · cases hr
          · cases hr
        · cases hr
      · cases h
    case binOp o t x y ty => exfalso; simp only [hk] at h2; split at h2 <;> cases h2
    case call c =>
      cases hc : c.callee with
      | value x => simp [hk, hc] at h2
      | invoke x y => simp [hk, hc] at h2
      | builtin bb =>
        cases bb <;> first | (simp only [foot, hc] at hf; cases hf; done) | skip
        obtain ⟨x, y, ha, rfl⟩ := foot_app hc hf
        unfold xo at h
        rw [if_neg (by simp [isCall, hc])] at h
        have done : id = bid ∨ id ∈ idOf (ev x) → id = bid ∨ hk (Op.call c) = 2 ∧ (∃ b', hp id = some b') ∧ id ∈ idOf (ev x) ++ idOf (ev y) := fun hx => hx.imp (fun e => e) fun hx => ⟨h2, hb, List.mem_append_left _ hx⟩
        refine done ?_
        unfold xop at h
        split at h
        · rename_i r hr
          cases h
          simp only [xop0, hc, ha, List.map_cons, List.map_nil, xbuiltin] at hr
          split at hr
          · rename_i he
            cases he
            unfold xappend at hr
            split at hr
            · split at hr
              · split at hr
                · split at hr
                  · split at hr <;> cases hr
                  · exact xappT_id hr
                · cases hr
              · cases hr
            · cases hr
          · cases hr
        · split at h
          · rename_i r hr
            cases h
            simp only [xopX, hc, ha, List.map_cons, List.map_nil] at hr
            split at hr
            · rename_i he
              cases he
              unfold xappS at hr
              split at hr
              · split at hr
                · split at hr
                  · split at hr
                    · cases hr
                    · exact xappT_id hr
                  · cases hr
                · cases hr
              · cases hr
            · cases hr
          · simp only [xopO, hc, ha, List.map_cons, List.map_nil] at h
            split at h
            · rename_i he
              cases he
              unfold xappO at h
              split at h
              · rename_i e
                split at h
                · split at h
                  · split at h
                    · split at h
                      · split at h
                        · split at h
                          · cases h; right; rw [e]; exact List.mem_singleton.2 rfl
                          · cases h
                        · cases h
                      · cases h
                    · cases h
                  · cases h
                · cases h
              · cases h
            · cases h
theorem footOk_congr {md : Bool} {F : FootT} {bid : Nat} {o : Oper} {ev ev' : Operand → AV} (h : ∀ x ∈ o.op.operands, ev x = ev' x) : footOk md F bid o ev = footOk md F bid o ev' := by
  have : foot o.op ev = foot o.op ev' := by
    have hcal := callee_congr h
    cases hop : o.op <;> rw [hop] at h hcal <;> (try rfl) <;> simp only [Op.operands, List.mem_toArray, List.mem_cons, List.not_mem_nil, or_false, forall_eq_or_imp, forall_eq, List.mem_map, Array.mem_toList_iff] at h <;> simp only [foot]
    case load => rw [h]
    case store => rw [h.1]
    case binOp => rw [h.1]
    case convert => rw [h]
    case call c =>
      cases hc : c.callee with
      | value x => simp only [hcal]
      | invoke x y => simp only [hcal]
      | builtin b =>
        cases b <;> (try rfl)
        simp only
        have h' : ∀ x ∈ c.args.toList, ev x = ev' x := fun x hx => h x (by simp [Call.operands, hc]; simpa using hx)
        split
        · rename_i x y ha
          rw [ha] at h'
          rw [h' x (by simp), h' y (by simp)]
        · rfl
  unfold footOk
  rw [this]
theorem xoF_congr {md : Bool} {F : FootT} {all : List Oper} {bid : Nat} {o : Oper} {ev ev' : Operand → AV} {hp : Hp} (h : ∀ x ∈ o.op.operands, ev x = ev' x) : xoF P ch md F all bid o ev hp = xoF P ch md F all bid o ev' hp := by
  unfold xoF; rw [footOk_congr h, xo_congr h]
theorem xoF_hk0 {md : Bool} {F : FootT} {all : List Oper} {bid : Nat} {o : Oper} {ev : Operand → AV} {hp hp' : Hp} (h : hk o.op = 0) : xoF P ch md F all bid o ev hp = xoF P ch md F all bid o ev hp' := by
  unfold xoF; rw [xo_hk0 h]
theorem xoF_ext (h : RelS m H B H0 gl rest st a.tmps w) {hp' : Hp} (he : Ext (lkb st.hp) hp') {md : Bool} {F : FootT} {all : List Oper} {bid : Nat} {o : Oper} : xoF P ch md F all bid o (st.ev gl) hp' = xoF P ch md F all bid o (st.ev gl) (lkb st.hp) := by
  unfold xoF; rw [xo_ext h he]
theorem footOk_inv {F : FootT} {bid : Nat} {o : Oper} {ev : Operand → AV} {ids : List Nat} (h : footOk true F bid o ev = true) (hc : F bid = some ids) : ∃ l, foot o.op ev = some l ∧ ∀ i ∈ l, i ∈ ids := by
  unfold footOk at h
  cases hids : foot o.op ev with
  | none => simp [hc, hids] at h
  | some l =>
    refine ⟨l, rfl, fun i hi => ?_⟩
    simp only [hc, hids] at h
    obtain ⟨j, hj, e⟩ := List.any_eq_true.1 (List.all_eq_true.1 h i hi)
    rwa [Nat.eq_of_beq_eq_true e]
theorem xoF_cls {F : FootT} {all : List Oper} {bid : Nat} {o : Oper} {ev : Operand → AV} {hp hp' : Hp} {ids : List Nat} (hc : F bid = some ids) (hh : ∀ id, id ∈ ids → hp id = hp' id) : xoF P ch true F all bid o ev hp = xoF P ch true F all bid o ev hp' := by
  unfold xoF
  split
  · rename_i hf
    split
    · rfl
    · obtain ⟨l, hl, hal⟩ := footOk_inv hf hc
      exact xo_foot hl fun id hid => hh id (hal id hid)
  · rfl
theorem xseed_box {bid : Nat} {op : Op} {v : AV} {id : Nat} {b : Box} (h : xseed P bid op = some (v, some (id, b))) : id = bid := by
  unfold xseed at h
  split at h
  · split at h
    · split at h
      · cases h; rfl
      · cases h
    · cases h
  · cases h
theorem xoF_box {md : Bool} {F : FootT} {all : List Oper} {bid : Nat} {o : Oper} {ev : Operand → AV} (hev : ∀ v, ev (.const v) = ofV v) {hp : Hp} {v : AV} {id : Nat} {b : Box} (h : xoF P ch md F all bid o ev hp = some (v, some (id, b))) : id = bid ∨ (hk o.op = 2 ∧ (∃ b', hp id = some b') ∧ (md = true → ∀ ids, F bid = some ids → id ∈ ids)) := by
  unfold xoF at h
  split at h
  · rename_i hf
    split at h
    · exact .inl (xseed_box h)
    · rcases xo_box hev h with h0 | ⟨h2, hb⟩
      · exact .inl h0
      · by_cases hm : md = true ∧ ∃ ids, F bid = some ids
        · obtain ⟨rfl, ids, hc⟩ := hm
          obtain ⟨l, hl, hal⟩ := footOk_inv hf hc
          rcases xo_id hev hl h with h0 | ⟨_, _, hid⟩
          · exact .inl h0
          · exact .inr ⟨h2, hb, fun _ ids' hi => by rw [hc] at hi; cases hi; exact hal id hid⟩
        · exact .inr ⟨h2, hb, fun h1 ids h3 => absurd ⟨h1, ids, h3⟩ hm⟩
  · cases h
theorem disjF_spec {a b : Option (List Nat)} (h : disjF a b = true) : ∃ l k, a = some l ∧ b = some k ∧ ∀ i, i ∈ l → i ∈ k → False := by
  unfold disjF at h
  split at h
  · rename_i l k
    refine ⟨l, k, rfl, rfl, fun i hi hj => ?_⟩
    have := List.all_eq_true.1 (List.all_eq_true.1 h i hi) i hj
    simp at this
  · cases h
end
end HY
end
section
namespace HY
open Go Go.RowKit
section
variable {P : Program} {m : Nat → Lc} {H : HV} {B : Nat → Prop} {H0 : HV} {gl : Nat → AV} {rest : List (AV × Value)} {st : St} {a : Act} {w : World} {ch : CallB} {all : List Oper}
theorem xcore_congr {md : Bool} {F : FootT} {bid : Nat} {o : Oper} {gv gv' : Option AV} {ev ev' : Operand → AV} {hp hp' : Hp} (hg : gv = gv') (hx : ∀ x ∈ o.op.operands, ev x = ev' x) (hh : xoF P ch md F all bid o ev' hp = xoF P ch md F all bid o ev' hp') : xcore P ch md F all bid o gv ev hp = xcore P ch md F all bid o gv' ev' hp' := by
  subst hg
  unfold xcore
  rw [xoF_congr hx, hh]
theorem xcore_box {md : Bool} {F : FootT} {bid : Nat} {o : Oper} {gv : Option AV} {ev : Operand → AV} (hev : ∀ v, ev (.const v) = ofV v) {hp : Hp} {v : AV} {id : Nat} {b : Box} (h : xcore P ch md F all bid o gv ev hp = some (v, some (id, b))) : id = bid ∨ (hk o.op = 2 ∧ (∃ b', hp id = some b') ∧ (md = true → ∀ ids, F bid = some ids → id ∈ ids)) := by
  unfold xcore at h
  split at h
  · exact xoF_box hev h
  · split at h
    · split at h
      · exact xoF_box hev h
      · cases h
      · cases h
    · cases h
theorem conflD_false {o p : Oper} (h : conflD all o p = false) : meetD o.dst (rdO all p) = false ∧ meetD o.dst p.dst.toList = false ∧ meetD p.dst (rdO all o) = false := by
  simp only [conflD, Bool.or_eq_false_iff] at h
  obtain ⟨⟨c1, c2⟩, c3⟩ := h
  exact ⟨c1, c2, c3⟩
def Apart (md : Bool) (F : FootT) (all : List Oper) (bj bi : Nat) (oj oi : Oper) : Prop :=
  conflD all oj oi = false ∧ (hkCl (hk oj.op) (hk oi.op) = false ∨ (md = true ∧ disjF (F bj) (F bi) = true))
theorem meetD_false {d : Option Nat} {l : List Nat} (h : meetD d l = false) {k : Nat} (hk : k ∈ l) : d ≠ some k := by
  intro e; subst e
  simp only [meetD] at h
  have : l.contains k = true := by simpa using hk
  rw [this] at h; cases h
theorem eff_reads {o : Oper} {d : Option Nat} (r : AV × Option (Nat × Box)) (hd : meetD d (rdO all o) = false) : (∀ x ∈ o.op.operands, (st.eff d r).ev gl x = st.ev gl x) ∧ gval all o (st.eff d r) = gval all o st := by
  refine ⟨fun x hx => ?_, ?_⟩
  · cases x with
    | tmp t =>
      show (st.eff d r).get t = st.get t
      rw [get_eff, if_neg]
      refine meetD_false hd ?_
      unfold rdO
      rw [List.mem_append]
      exact .inl (List.mem_filterMap.2 ⟨.tmp t, by simpa using hx, rfl⟩)
    | _ => rfl
  · unfold gval
    split
    · rfl
    · rename_i j want hg
      split
      · rename_i g hgs
        rw [get_eff, if_neg]
        refine meetD_false hd ?_
        unfold rdO
        rw [List.mem_append]
        refine .inr ?_
        simp [hg, hgs]
      · rfl
theorem updF_comm {f : Hp} {i j : Nat} {x y : Option Box} (h : i ≠ j) : updF (updF f i x) j y = updF (updF f j y) i x := by
  funext k
  unfold updF
  by_cases h1 : k = i <;> by_cases h2 : k = j <;> simp_all
theorem swap (h : RelS m H B H0 gl rest st a.tmps w) {md : Bool} {F : FootT} {oj oi : Oper} {bj bi : Nat} (hne : bj ≠ bi) (hc : Apart md F all bj bi oj oi) {s1 s2 : St} (h1 : xstepO P gl ch md F all bj oj st = some s1) (h2 : xstepO P gl ch md F all bi oi s1 = some s2) :
    ∃ t1 t2, xstepO P gl ch md F all bi oi st = some t1 ∧ xstepO P gl ch md F all bj oj t1 = some t2 ∧ StEq t2 s2 := by
  obtain ⟨cD, c4⟩ := hc
  obtain ⟨c1, c2, c3⟩ := conflD_false cD
  rw [xstepO_eq] at h1
  split at h1
  · rename_i k1
    simp only [Bool.and_eq_true, Option.isNone_iff_eq_none] at k1
    obtain ⟨⟨hdj, hbj⟩, hnj⟩ := k1
    split at h1
    · rename_i rj hrj
      cases h1
      rw [xstepO_eq] at h2
      split at h2
      · rename_i k2
        simp only [Bool.and_eq_true, Option.isNone_iff_eq_none, eff_n, eff_nx] at k2
        obtain ⟨⟨hdi, hbi⟩, hni⟩ := k2
        split at h2
        · rename_i ri hri
          cases h2
          obtain ⟨e1, e2⟩ := eff_reads (st := st) (gl := gl) (all := all) (o := oi) rj c1
          have hbi0 : lkb st.hp bi = none := by
            rw [hp_eff] at hbi
            split at hbi
            · rename_i id b hb
              by_cases e : bi = id
              · subst e; rw [updF_same] at hbi; cases hbi
              · rwa [updF_ne _ _ e] at hbi
            · exact hbi
          have hpi : xoF P ch md F all bi oi (st.ev gl) (lkb (st.eff oj.dst rj).hp) = xoF P ch md F all bi oi (st.ev gl) (lkb st.hp) := by
            rw [hp_eff]
            split
            · rename_i id b hb
              have hrj' : xcore P ch md F all bj oj (gval all oj st) (st.ev gl) (lkb st.hp) = some (rj.1, some (id, b)) := by rw [hrj, ← hb]
              rcases xcore_box (fun _ => rfl) hrj' with rfl | ⟨hk2, _, hcl⟩
              · exact xoF_ext h (ext_upd hbj)
              · rcases c4 with c4 | ⟨rfl, c4⟩
                · refine xoF_hk0 ?_
                  simp only [hkCl, hk2] at c4
                  simp at c4
                  exact c4.1
                · obtain ⟨lj, li, n1, n2, hap⟩ := disjF_spec c4
                  refine xoF_cls n2 fun id' hid' => ?_
                  rw [updF_ne _ _ fun e => ?_]
                  subst e
                  exact hap _ (hcl rfl _ n1) hid'
            · rfl
          have hi' : xcore P ch md F all bi oi (gval all oi st) (st.ev gl) (lkb st.hp) = some ri := by
            rw [← hri]; exact (xcore_congr e2 e1 hpi).symm
          obtain ⟨f1, f2⟩ := eff_reads (st := st) (gl := gl) (all := all) (o := oj) ri c3
          have hidi : ∀ id b, ri.2 = some (id, b) → id = bi ∨ (hk oi.op = 2 ∧ (∃ b', lkb st.hp id = some b') ∧ (md = true → ∀ ids, F bi = some ids → id ∈ ids)) := fun id b hb => by
            refine xcore_box (fun _ => rfl) (v := ri.1) (b := b) ?_ (gv := gval all oi st) (ev := st.ev gl) (P := P) (ch := ch) (all := all)
            rw [hi', ← hb]
          have hidj : ∀ id b, rj.2 = some (id, b) → id = bj ∨ (hk oj.op = 2 ∧ (∃ b', lkb st.hp id = some b') ∧ (md = true → ∀ ids, F bj = some ids → id ∈ ids)) := fun id b hb => by
            refine xcore_box (fun _ => rfl) (v := rj.1) (b := b) ?_ (gv := gval all oj st) (ev := st.ev gl) (P := P) (ch := ch) (all := all)
            rw [hrj, ← hb]
          have hbj1 : lkb (st.eff oi.dst ri).hp bj = none := by
            rw [hp_eff]
            split
            · rename_i id b hb
              have : bj ≠ id := by
                rcases hidi id b hb with rfl | ⟨_, ⟨b', hb'⟩, _⟩
                · exact hne
                · intro e; subst e; rw [hbj] at hb'; cases hb'
              rw [updF_ne _ _ this]; exact hbj
            · exact hbj
          have hpj : xoF P ch md F all bj oj (st.ev gl) (lkb (st.eff oi.dst ri).hp) = xoF P ch md F all bj oj (st.ev gl) (lkb st.hp) := by
            rw [hp_eff]
            split
            · rename_i id b hb
              rcases hidi id b hb with rfl | ⟨hk2, _, hcl⟩
              · exact xoF_ext h (ext_upd hbi0)
              · rcases c4 with c4 | ⟨rfl, c4⟩
                · refine xoF_hk0 ?_
                  simp only [hkCl, hk2] at c4
                  simp at c4
                  exact c4.2
                · obtain ⟨lj, li, n1, n2, hap⟩ := disjF_spec c4
                  refine xoF_cls n1 fun id' hid' => ?_
                  rw [updF_ne _ _ fun e => ?_]
                  subst e
                  exact hap _ hid' (hcl rfl _ n2)
            · rfl
          have hj' : xcore P ch md F all bj oj (gval all oj (st.eff oi.dst ri)) ((st.eff oi.dst ri).ev gl) (lkb (st.eff oi.dst ri).hp) = some rj := by
            rw [← hrj]; exact xcore_congr f2 f1 hpj
          refine ⟨st.eff oi.dst ri, (st.eff oi.dst ri).eff oj.dst rj, ?_, ?_, ?_⟩
          · rw [xstepO_eq, if_pos (by simp [hdi, hbi0, hni]), hi']
          · rw [xstepO_eq, if_pos (by simp [eff_n, eff_nx, hdj, hbj1, hnj]), hj']
          · refine ⟨by simp only [eff_n], by simp only [eff_nx], fun k => ?_, ?_⟩
            · simp only [get_eff]
              by_cases k1 : oj.dst = some k <;> by_cases k2 : oi.dst = some k <;> simp only [k1, k2, if_true, if_false]
              exact absurd k1 (meetD_false c2 (by simp [k2]))
              all_goals rfl
            · rw [hp_eff, hp_eff, hp_eff, hp_eff]
              cases hrj2 : rj.2 with
              | none => rfl
              | some x =>
                obtain ⟨idj, bxj⟩ := x
                cases hri2 : ri.2 with
                | none => rfl
                | some y =>
                  obtain ⟨idi, bxi⟩ := y
                  simp only
                  refine updF_comm ?_
                  rcases hidi idi bxi hri2 with rfl | ⟨hk2, ⟨b', hb'⟩, hci⟩
                  · rcases hidj idj bxj hrj2 with rfl | ⟨_, ⟨b'', hb''⟩, _⟩
                    · exact Ne.symm hne
                    · intro e; subst e; rw [hbi0] at hb''; cases hb''
                  · rcases hidj idj bxj hrj2 with rfl | ⟨hk3, _, hcj⟩
                    · intro e; subst e; rw [hbj] at hb'; cases hb'
                    · rcases c4 with c4 | ⟨rfl, c4⟩
                      · exfalso; simp [hkCl, hk2, hk3] at c4
                      · obtain ⟨lj, li, n1, n2, hap⟩ := disjF_spec c4
                        intro e; subst e
                        exact hap _ (hcj rfl _ n1) (hci rfl _ n2)
        · cases h2
      · cases h2
    · cases h1
  · cases h1
theorem real_of_wpIn {ro : Option Nat} {n : Nat} {o : Oper} {next : Act → World → Prop} (h : o.wpIn (FW ro) n P a w next fun _ _ _ => False) : ∃ a' w', next a' w' := by
  obtain ⟨_, h⟩ := h
  unfold Oper.uponIn at h
  split at h
  · exact ⟨_, _, h⟩
  · exact ⟨_, _, h⟩
  · exact ⟨_, _, h⟩
  · obtain ⟨_, _, hc⟩ := h
    obtain ⟨e, w', fr, hr, _⟩ := hc [] (fun d hd => by simp [FW] at hd)
    cases e with
    | returned v => exact ⟨_, _, hr⟩
    | panicked c => exact hr.elim
    | outgrown => obtain ⟨_, _, hr⟩ := hr; exact hr.elim
  · obtain ⟨_, hc⟩ := h
    obtain ⟨v, w', hr, _⟩ := hc default [] (fun d hd => by simp [FW] at hd)
    exact ⟨_, _, hr⟩
  · obtain ⟨_, _, hc⟩ := h
    obtain ⟨e, w', hr, _⟩ := hc default [] (fun d hd => by simp [FW] at hd)
    cases e with
    | returned v => exact ⟨_, _, hr⟩
    | panicked c => exact hr.elim
    | outgrown => obtain ⟨_, _, hr⟩ := hr; exact hr.elim
  · exact h.elim
  · exact h.elim
theorem xstepO_real (hch : ch.Ok P gl) (h : RelS m H B H0 gl rest st a.tmps w) {md : Bool} {F : FootT} {o : Oper} {bid : Nat} {st' : St} (hk : xstepO P gl ch md F all bid o st = some st') : ∃ (a' : Act) (w' : World) (m' : Nat → Lc) (H' : HV), RelS m' H' B H0 gl rest st' a'.tmps w' := by
  have := xstepO_ok hch h hk none 0 (fun a' w' => ∃ m' H', RelS m' H' B H0 gl rest st' a'.tmps w') (fun _ _ _ => False) (fun a' w' m' H' _ _ hr => ⟨m', H', hr⟩)
  split at this
  · obtain ⟨a', w', m', H', hr⟩ := real_of_wpIn this; exact ⟨a', w', m', H', hr⟩
  · obtain ⟨_, m', H', hr⟩ := this; exact ⟨_, _, m', H', hr⟩
def runI (P : Program) (gl : Nat → AV) (ch : CallB) (md : Bool) (F : FootT) (all : List Oper) (base : Nat) : List Nat → St → Option St
  | [], st => some st
  | i :: l, st => match all[i]? with
    | some o => match xstepO P gl ch md F all (base + i) o st with
      | some s => runI P gl ch md F all base l s
      | none => none
    | none => none
theorem runI_append {md : Bool} {F : FootT} {base : Nat} : ∀ {l r : List Nat} {st : St}, runI P gl ch md F all base (l ++ r) st = match runI P gl ch md F all base l st with | some s => runI P gl ch md F all base r s | none => none
  | [], r, st => rfl
  | i :: l, r, st => by
    simp only [List.cons_append, runI]
    cases all[i]? with
    | none => rfl
    | some o =>
      simp only
      cases xstepO P gl ch md F all (base + i) o st with
      | none => rfl
      | some s => exact runI_append
theorem StEq.runI {md : Bool} {F : FootT} {base : Nat} : ∀ {l : List Nat} {x y s : St}, StEq x y → HY.runI P gl ch md F all base l x = some s → ∃ s', HY.runI P gl ch md F all base l y = some s' ∧ StEq s s'
  | [], x, y, s, h, hk => by simp only [HY.runI, Option.some.injEq] at hk; subst hk; exact ⟨y, rfl, h⟩
  | i :: l, x, y, s, h, hk => by
    simp only [HY.runI] at hk ⊢
    cases ho : all[i]? with
    | none => rw [ho] at hk; cases hk
    | some o =>
      rw [ho] at hk
      simp only at hk ⊢
      cases hs : xstepO P gl ch md F all (base + i) o x with
      | none => rw [hs] at hk; cases hk
      | some s1 =>
        rw [hs] at hk
        obtain ⟨s2, h1, h2⟩ := h.stepO hs
        rw [h1]
        exact StEq.runI h2 hk
theorem move (hch : ch.Ok P gl) {md : Bool} {F : FootT} {base i : Nat} {oi : Oper} : ∀ (pre : List Nat) {st : St} {a : Act} {w : World} {m : Nat → Lc} {H : HV} {s1 s2 : St}, RelS m H B H0 gl rest st a.tmps w → runI P gl ch md F all base pre st = some s1 → xstepO P gl ch md F all (base + i) oi s1 = some s2 →
    (∀ j ∈ pre, j ≠ i ∧ ∀ oj, all[j]? = some oj → Apart md F all (base + j) (base + i) oj oi) → ∃ t s', xstepO P gl ch md F all (base + i) oi st = some t ∧ runI P gl ch md F all base pre t = some s' ∧ StEq s' s2
  | [], st, a, w, m, H, s1, s2, _, h1, h2, _ => by
    simp only [runI, Option.some.injEq] at h1
    subst h1
    exact ⟨s2, s2, h2, rfl, .refl _⟩
  | j :: pre, st, a, w, m, H, s1, s2, h, h1, h2, hc => by
    simp only [runI] at h1 ⊢
    cases hj : all[j]? with
    | none => rw [hj] at h1; cases h1
    | some oj =>
      rw [hj] at h1
      simp only at h1 ⊢
      cases hs : xstepO P gl ch md F all (base + j) oj st with
      | none => rw [hs] at h1; cases h1
      | some s0 =>
        rw [hs] at h1
        obtain ⟨a', w', m', H', hr⟩ := xstepO_real hch h hs
        obtain ⟨t, s', k1, k2, k3⟩ := move hch pre hr h1 h2 fun j' hj' => hc j' (by simp [hj'])
        have hcj := hc j (by simp)
        obtain ⟨t1, t2, e1, e2, e3⟩ := swap h (bj := base + j) (bi := base + i) (by omega) (hcj.2 oj hj) hs k1
        obtain ⟨s3, g1, g2⟩ := StEq.runI e3.symm k2
        exact ⟨t1, s3, e1, by rw [e2]; exact g1, g2.symm.trans k3⟩
end
def maskE (acc : List Nat) (es : List Edge) : Nat :=
  match es with
  | [] => 0
  | e :: r => if Region.binds .any e then (2 ^ e.on ||| acc.getD e.on 0) ||| maskE acc r else maskE acc r
def masks : List Oper → List Nat → List Nat
  | [], acc => acc
  | o :: l, acc => masks l (acc ++ [maskE acc o.after.toList])
def ckAll (md : Bool) (all : List Oper) (ms : List Nat) : List Oper → List Oper → Bool
  | _, [] => true
  | pre, p :: l => (List.range pre.length).all (fun i => match all[i]? with
      | some o => !confl md all o p || (ms.getD pre.length 0).testBit i
      | none => true)
    && p.after.toList.all (fun e => !Region.binds .any e || decide (e.on < pre.length))
    && ckAll md all ms (pre ++ [p]) l
def mdR (all : List Oper) : Bool := match all.any fun o => Nat.beq (hk o.op) 2 with
  | true => !ckAll false all (masks all []) [] all
  | false => false
def drawOk (all : List Oper) : Bool := ckAll (mdR all) all (masks all []) [] all
def PairF (F : FootT) (all : List Oper) (base nf : Nat) : Prop := ∀ i j o p, i < j → j < nf → all[i]? = some o → all[j]? = some p → hkCl (hk o.op) (hk p.op) = true → disjF (F (base + i)) (F (base + j)) = true ∨ ((masks all []).getD j 0).testBit i = true
structure CkAt (md : Bool) (all : List Oper) (j : Nat) (p : Oper) : Prop where
  pair : ∀ i o, i < j → all[i]? = some o → confl md all o p = true → ((masks all []).getD j 0).testBit i = true
  before : ∀ e ∈ p.after, Region.binds .any e = true → e.on < j
theorem ckAll_spec {md : Bool} {all : List Oper} : ∀ (l pre : List Oper), all = pre ++ l → ckAll md all (masks all []) pre l = true → ∀ j p, pre.length ≤ j → all[j]? = some p → CkAt md all j p
  | [], pre, he, _, j, p, hj, hp => by
    rw [he, List.append_nil, List.getElem?_eq_none hj] at hp; cases hp
  | q :: l, pre, he, h, j, p, hj, hp => by
    simp only [ckAll, Bool.and_eq_true, List.all_eq_true] at h
    obtain ⟨⟨h1, h2⟩, h4⟩ := h
    by_cases hjl : j = pre.length
    · have hq : q = p := by
        rw [he, hjl, List.getElem?_append_right (Nat.le_refl _)] at hp
        simpa using hp
      subst hq
      subst hjl
      refine ⟨fun i o hi ho hc => ?_, fun e he' hb => ?_⟩
      · have := h1 i (List.mem_range.2 hi)
        rw [ho] at this
        simp only [Bool.or_eq_true] at this
        rw [hc] at this
        simpa using this
      · have := h2 e (Array.mem_toList_iff.2 he')
        simpa [hb] using this
    · exact ckAll_spec l (pre ++ [q]) (by simp [he]) h4 j p (by simp; omega) hp
theorem drawOk_spec {all : List Oper} (h : drawOk all = true) (j : Nat) (p : Oper) (hp : all[j]? = some p) : CkAt (mdR all) all j p :=
  ckAll_spec all [] rfl h j p (Nat.zero_le _) hp
def Closed (all : List Oper) (L : Nat → Bool) : Prop := ∀ j o, all[j]? = some o → L j = true → ∀ e ∈ o.after, Region.binds .any e = true → L e.on = true
theorem maskE_spec {acc : List Nat} {L : Nat → Bool} (hacc : ∀ p i, (acc.getD p 0).testBit i = true → L p = true → L i = true) : ∀ (es : List Edge), (∀ e ∈ es, Region.binds .any e = true → L e.on = true) → ∀ i, (maskE acc es).testBit i = true → L i = true
  | [], _, i, h => by simp [maskE] at h
  | e :: r, hes, i, h => by
    have ih := maskE_spec hacc r (fun e he => hes e (List.mem_cons_of_mem _ he)) i
    unfold maskE at h
    split at h
    · rename_i hb
      have hl := hes e (List.mem_cons_self ..) hb
      rw [Nat.testBit_or, Nat.testBit_or, Bool.or_eq_true, Bool.or_eq_true, Nat.testBit_two_pow] at h
      rcases h with (h | h) | h
      · have : e.on = i := by simpa using h
        subst this; exact hl
      · exact hacc _ _ h hl
      · exact ih h
    · exact ih h
theorem masks_spec {all : List Oper} {L : Nat → Bool} (hL : Closed all L) : ∀ (l pre : List Oper) (acc : List Nat), all = pre ++ l → acc.length = pre.length → (∀ p i, (acc.getD p 0).testBit i = true → L p = true → L i = true) →
    ∀ p i, ((masks l acc).getD p 0).testBit i = true → L p = true → L i = true
  | [], _, _, _, _, h => h
  | o :: l, pre, acc, he, hlen, h => by
    refine masks_spec hL l (pre ++ [o]) _ (by simp [he]) (by simp [hlen]) fun p i hb hp => ?_
    rcases Nat.lt_trichotomy p acc.length with hlt | heq | hgt
    · refine h p i ?_ hp
      rw [List.getD_eq_getElem?_getD, List.getElem?_append_left hlt, ← List.getD_eq_getElem?_getD] at hb
      exact hb
    · subst heq
      rw [List.getD_eq_getElem?_getD, List.getElem?_append_right (Nat.le_refl _), Nat.sub_self] at hb
      simp only [List.getElem?_cons_zero, Option.getD_some] at hb
      have ho : all[acc.length]? = some o := by rw [he, hlen, List.getElem?_append_right (Nat.le_refl _)]; simp
      exact maskE_spec h _ (fun e hm hbd => hL _ o ho hp e (Array.mem_toList_iff.1 hm) hbd) i hb
    · rw [List.getD_eq_getElem?_getD, List.getElem?_eq_none (by simp; omega)] at hb
      simp at hb
theorem masks_closed {all : List Oper} {L : Nat → Bool} (hL : Closed all L) (p i : Nat) (h : ((masks all []).getD p 0).testBit i = true) (hp : L p = true) : L i = true :=
  masks_spec hL all [] [] rfl rfl (fun p i h => by simp at h) p i h hp
end HY
end
section
namespace HY
open Go Go.RowKit
def pend (n : Nat) (L : Nat → Bool) : List Nat := (List.range n).filter fun i => !L i
theorem range_split {n i : Nat} (h : i < n) : List.range n = List.range i ++ i :: List.range' (i + 1) (n - i - 1) := by
  have : n = i + (1 + (n - i - 1)) := by omega
  rw [this, List.range_add, List.range_add]
  simp only [List.range_one, List.map_append, List.map_cons, List.map_nil, Nat.add_zero, List.map_map, List.singleton_append]
  congr 2
  rw [show i + (1 + (n - i - 1)) - i - 1 = n - i - 1 by omega, List.range'_eq_map_range]
  refine List.map_congr_left fun k _ => ?_
  simp [Function.comp]; omega
theorem pend_split {n i : Nat} {L : Nat → Bool} (h : i < n) (hL : L i = false) : pend n L = (List.range i).filter (fun j => !L j) ++ i :: (List.range' (i + 1) (n - i - 1)).filter fun j => !L j := by
  unfold pend
  rw [range_split h, List.filter_append, List.filter_cons]
  simp [hL]
theorem pend_set {n i : Nat} {L L' : Nat → Bool} (h : i < n) (hi : L' i = true) (ho : ∀ j, j ≠ i → L' j = L j) : pend n L' = (List.range i).filter (fun j => !L j) ++ (List.range' (i + 1) (n - i - 1)).filter fun j => !L j := by
  unfold pend
  rw [range_split h, List.filter_append, List.filter_cons]
  simp only [hi, Bool.not_true, Bool.false_eq_true, if_false]
  congr 1
  · refine List.filter_congr fun j hj => ?_
    rw [ho j (by have := List.mem_range.1 hj; omega)]
  · refine List.filter_congr fun j hj => ?_
    rw [ho j (by have := (List.mem_range'_1.1 hj).1; omega)]
theorem getD_def {listed : Array Bool} {j : Nat} (d : Bool) (h : j < listed.size) : listed.getD j d = listed.getD j false := by
  simp [Array.getD_eq_getD_getElem?, Array.getElem?_eq_getElem h]
section
variable {P : Program} {B : Nat → Prop} {H0 : HV} {gl : Nat → AV} {rest : List (AV × Value)} {ch : CallB} {all : List Oper}
theorem draw_any (hch : ch.Ok P gl) (hok : drawOk all = true) {F : FootT} {base nf : Nat} (hF : mdR all = true → PairF F all base nf) (hnf : nf ≤ all.length) (hbar : ∀ i, nf ≤ i → i < all.length → ∀ j, j < nf → ((masks all []).getD i 0).testBit j = true) {ro : Option Nat} {n : Nat} {d0 : List Deferred} {w0 : World} {sF : St} {Q : Exit → Act → World → Prop}
    (hEnd : ∀ (listed : Array Bool) (a : Act) (w : World) (m : Nat → Lc) (H : HV), listed.size = all.length → (∀ j, j < nf → listed.getD j false = true) → (∀ j, nf ≤ j → listed.getD j false = false) → a.defers = d0 → BelowS B w0 w → RelS m H B H0 gl rest sF a.tmps w → wpAnyIn (FW ro) n P .any all.toArray Q (all.length - nf) listed a w) :
    ∀ (q : Nat) (listed : Array Bool) (a : Act) (w : World) (m : Nat → Lc) (H : HV) (st s : St), listed.size = all.length → (pend nf fun j => listed.getD j false).length = q → (∀ j, nf ≤ j → listed.getD j false = false) → Closed all (fun j => listed.getD j false) →
      a.defers = d0 → BelowS B w0 w → RelS m H B H0 gl rest st a.tmps w → runI P gl ch (mdR all) F all base (pend nf fun j => listed.getD j false) st = some s → StEq s sF → wpAnyIn (FW ro) n P .any all.toArray Q (q + (all.length - nf)) listed a w := by
  intro q
  induction q with
  | zero =>
    intro listed a w m H st s hs hl hhi hcl hd hb hr hrun heq
    have hnil : (pend nf fun j => listed.getD j false) = [] := List.eq_nil_of_length_eq_zero hl
    rw [hnil] at hrun
    simp only [runI, Option.some.injEq] at hrun
    subst hrun
    rw [Nat.zero_add]
    refine hEnd listed a w m H hs (fun j hj => ?_) hhi hd hb (heq.rel hr)
    cases hL : listed.getD j false with
    | true => rfl
    | false =>
      have : j ∈ pend nf fun j => listed.getD j false := by
        unfold pend; rw [List.mem_filter]; exact ⟨List.mem_range.2 hj, by simp [hL]⟩
      rw [hnil] at this; cases this
  | succ q ih =>
    intro listed a w m H st s hs hl hhi hcl hd hb hr hrun heq
    have hclI : ∀ i o, all[i]? = some o → (∀ e ∈ o.after, Region.binds .any e = true → listed.getD e.on false = true) → Closed all fun k => listed.getD k false || k == i := fun i o ho hpre k o' ho' hLk e he hbd => by
      by_cases hki : k = i
      · subst hki
        rw [ho] at ho'; cases ho'
        simp only [hpre e he hbd, Bool.true_or]
      · have hk' : (k == i) = false := by simpa using hki
        simp only [hcl k o' ho' (by simpa [hk'] using hLk) e he hbd, Bool.true_or]
    rw [Nat.add_right_comm]
    refine ⟨fun hready => ?_, fun i hi => ?_⟩
    · exfalso
      have hall : ∀ j, j < all.length → listed.getD j false = true := by
        intro j
        induction j using Nat.strongRecOn with
        | _ j ihj =>
          intro hj
          cases hL : listed.getD j false with
          | true => rfl
          | false =>
            exfalso
            have : j ∈ Region.ready .any all.toArray listed := by
              rw [mem_ready]
              refine ⟨by rw [getD_def true (by omega)]; exact hL, all[j], by simp [hj], fun e he hbd => ?_⟩
              have := (drawOk_spec hok j all[j] (List.getElem?_eq_getElem hj)).before e he hbd
              exact ihj e.on this (by omega)
            rw [hready] at this
            cases this
      have : (pend nf fun j => listed.getD j false) = [] := by
        unfold pend
        rw [List.filter_eq_nil_iff]
        intro j hj
        simp [hall j (by have := List.mem_range.1 hj; omega)]
      rw [this] at hl; simp at hl
    · rw [mem_ready] at hi
      obtain ⟨h0, o, ho, hpre⟩ := hi
      rw [List.getElem?_toArray] at ho
      have hil : i < all.length := (List.getElem?_eq_some_iff.1 ho).1
      rw [getD_def true (by omega)] at h0
      by_cases hin : nf ≤ i
      · exfalso
        have hall : ∀ j, j < nf → listed.getD j false = true := fun j hj => by
          have := masks_closed (hclI i o ho hpre) i j (hbar i hin hil j hj) (by simp)
          have hne : (j == i) = false := by simp; omega
          simpa only [hne, Bool.or_false] using this
        have : (pend nf fun j => listed.getD j false) = [] := by
          unfold pend
          rw [List.filter_eq_nil_iff]
          intro j hj
          simp [hall j (List.mem_range.1 hj)]
        rw [this] at hl; simp at hl
      have hin : i < nf := by omega
      have hL'i : (listed.setIfInBounds i true).getD i false = true := by simp [Array.getD_eq_getD_getElem?, show i < listed.size by omega]
      have hL'o : ∀ j, j ≠ i → (listed.setIfInBounds i true).getD j false = listed.getD j false := fun j hj => getD_set_ne false (Ne.symm hj)
      rw [pend_split hin h0] at hrun hl
      have hset := pend_set (L := fun j => listed.getD j false) (L' := fun j => (listed.setIfInBounds i true).getD j false) hin hL'i hL'o
      rw [runI_append] at hrun
      cases hr1 : runI P gl ch (mdR all) F all base ((List.range i).filter fun j => !listed.getD j false) st with
      | none => rw [hr1] at hrun; cases hrun
      | some s1 =>
        rw [hr1] at hrun
        simp only [runI, ho] at hrun
        cases hr2 : xstepO P gl ch (mdR all) F all (base + i) o s1 with
        | none => rw [hr2] at hrun; cases hrun
        | some s2 =>
          rw [hr2] at hrun
          simp only at hrun
          obtain ⟨t, s', e1, e2, e3⟩ := move hch (oi := o) _ hr hr1 hr2 fun j hj => by
            rw [List.mem_filter] at hj
            have hji := List.mem_range.1 hj.1
            refine ⟨by omega, fun oj hoj => ?_⟩
            have hno : ((masks all []).getD i 0).testBit j = true → False := fun hbit => by
              have := masks_closed (hclI i o ho hpre) i j hbit (by simp)
              have hne : (j == i) = false := by simp; omega
              simp only [hne, Bool.or_false] at this
              rw [this] at hj
              simp at hj
            have hcf : confl (mdR all) all oj o = false := by
              cases hcf : confl (mdR all) all oj o with
              | false => rfl
              | true => exact (hno ((drawOk_spec hok i o ho).pair j oj hji hoj hcf)).elim
            simp only [confl, Bool.or_eq_false_iff] at hcf
            refine ⟨hcf.1, ?_⟩
            cases hkc : hkCl (hk oj.op) (hk o.op) with
            | false => exact .inl rfl
            | true =>
              have hmd : mdR all = true := by
                have := hcf.2
                rw [hkc] at this
                simpa using this
              rcases hF hmd j i oj o hji hin hoj ho hkc with hd | hbit
              · exact .inr ⟨hmd, hd⟩
              · exact (hno hbit).elim
          obtain ⟨s3, f1, f2⟩ := StEq.runI e3.symm hrun
          have hrun' : runI P gl ch (mdR all) F all base (pend nf fun j => (listed.setIfInBounds i true).getD j false) t = some s3 := by
            rw [hset, runI_append, e2]; exact f1
          have hstep := xstepO_ok hch hr e1 ro n (wpAnyIn (FW ro) n P .any all.toArray Q (q + (all.length - nf)) (listed.setIfInBounds i true)) Q (fun a' w' m' H' hd' hb' hr' =>
            ih _ a' w' m' H' t s3 (by simp [hs]) (by
              rw [hset]
              simp only [List.length_append, List.length_cons] at hl ⊢
              omega) (fun j hj => by rw [hL'o j (by omega)]; exact hhi j hj) (fun k o' ho' hLk e he hbd => by
                have : ∀ q, (listed.setIfInBounds i true).getD q false = (listed.getD q false || q == i) := fun q => by
                  by_cases hq : q = i
                  · subst hq; rw [hL'i]; simp
                  · rw [hL'o q hq]; have : (q == i) = false := by simpa using hq
                    simp [this]
                simp only [this] at hLk ⊢
                exact hclI i o ho hpre k o' ho' hLk e he hbd) (hd'.trans hd) (hb.trans hb') hr' hrun' (f2.symm.trans heq))
          unfold wpOpIn
          simp only [List.getElem?_toArray, ho]
          exact hstep
theorem ready_nil {listed : Array Bool} (hs : listed.size = all.length) (h : ∀ j, j < all.length → listed.getD j false = true) : Region.ready .any all.toArray listed = [] := by
  refine List.eq_nil_iff_forall_not_mem.2 fun j hj => ?_
  rw [mem_ready] at hj
  obtain ⟨h0, o, ho, _⟩ := hj
  have hjl : j < all.length := by
    rw [List.getElem?_toArray] at ho
    exact (List.getElem?_eq_some_iff.1 ho).1
  rw [getD_def true (by omega), h j hjl] at h0
  cases h0
theorem pend0 (nf : Nat) : (pend nf fun j => (Array.replicate all.toArray.size false).getD j false) = List.range nf := by
  unfold pend
  rw [List.filter_eq_self]
  intro j hj
  simp only [Array.getD_eq_getD_getElem?, Array.getElem?_replicate]
  split <;> simp
theorem getD0 (j : Nat) : (Array.replicate all.toArray.size false).getD j false = false := by
  simp only [Array.getD_eq_getD_getElem?, Array.getElem?_replicate]
  split <;> simp
def okF (F : FootT) (all : List Oper) (base i : Nat) (k : Nat) (ft : Option (List Nat)) : Bool := (List.range i).all fun j => match all[j]? with
  | some oj => match hkCl (hk oj.op) k with
    | true => match disjF (F (base + j)) ft with
      | true => true
      | false => ((masks all []).getD i 0).testBit j
    | false => true
  | none => true
def updT (F : FootT) (k : Nat) (x : Option (List Nat)) : FootT := fun j => bif Nat.beq j k then x else F j
theorem updT_eq {F : FootT} {k : Nat} {x : Option (List Nat)} : updT F k x k = x := by simp [updT]
theorem updT_ne {F : FootT} {k j : Nat} {x : Option (List Nat)} (h : j ≠ k) : updT F k x j = F j := by
  unfold updT; rw [beq_ne h]; rfl
theorem okF_spec {F G : FootT} {base i : Nat} {p : Oper} {ft : Option (List Nat)} (h : okF F all base i (hk p.op) ft = true) (hFG : ∀ j, j < i → G (base + j) = F (base + j)) (hi : G (base + i) = ft) : ∀ j o, j < i → all[j]? = some o → hkCl (hk o.op) (hk p.op) = true → disjF (G (base + j)) (G (base + i)) = true ∨ ((masks all []).getD i 0).testBit j = true := fun j o hj ho hc => by
  have := List.all_eq_true.1 h j (List.mem_range.2 hj)
  simp only [ho, hc] at this
  split at this
  · rename_i hd; rw [hFG j hj, hi]; exact .inl hd
  · exact .inr this
def footS (all : List Oper) (o : Oper) (gv : Option AV) (ev : Operand → AV) : Option (List Nat) := match o.guard with
  | none => foot o.op ev
  | some (_, want) => match gv with
    | some x => match gwant x want with
      | some true => foot o.op ev
      | _ => some []
    | none => none
def runF (P : Program) (gl : Nat → AV) (ch : CallB) (all : List Oper) (base : Nat) : List Nat → FootT → St → Option St
  | [], _, st => some st
  | i :: l, F, st => match all[i]? with
    | some o => match okF F all base i (hk o.op) (footS all o (gval all o st) (st.ev gl)) with
      | true => match xstepO P gl ch true (updT F (base + i) (footS all o (gval all o st) (st.ev gl))) all (base + i) o st with
        | some s => runF P gl ch all base l (updT F (base + i) (footS all o (gval all o st) (st.ev gl))) s
        | none => none
      | false => none
    | none => none
theorem xstepO_F {F G : FootT} {md : Bool} {bid : Nat} {o : Oper} {st : St} (h : F bid = G bid) : xstepO P gl ch md F all bid o st = xstepO P gl ch md G all bid o st := by
  simp only [xstepO_eq, xcore, xoF, footOk, h]
theorem runF_ok {base : Nat} : ∀ (n k : Nat) (F : FootT) (st s : St), runF P gl ch all base (List.range' k n) F st = some s →
    ∃ G : FootT, (∀ j, j < k → G (base + j) = F (base + j)) ∧ runI P gl ch true G all base (List.range' k n) st = some s ∧ ∀ i j o p, i < j → k ≤ j → j < k + n → all[i]? = some o → all[j]? = some p → hkCl (hk o.op) (hk p.op) = true → disjF (G (base + i)) (G (base + j)) = true ∨ ((masks all []).getD j 0).testBit i = true
  | 0, k, F, st, s, h => ⟨F, fun _ _ => rfl, by simpa [runF, runI] using h, fun i j o p h1 h2 h3 => by omega⟩
  | n + 1, k, F, st, s, h => by
    simp only [List.range'_succ, runF] at h
    split at h
    · rename_i o ho
      split at h
      · rename_i hok
        split at h
        · rename_i s1 hs1
          obtain ⟨G, h1, h2, h3⟩ := runF_ok n (k + 1) _ s1 s h
          have hk : G (base + k) = footS all o (gval all o st) (st.ev gl) := by rw [h1 k (by omega), updT_eq]
          have hlo : ∀ j, j < k → G (base + j) = F (base + j) := fun j hj => by rw [h1 j (by omega), updT_ne (by omega)]
          refine ⟨G, hlo, ?_, fun i j o' p h4 h5 h6 ho' hp hc => ?_⟩
          · simp only [List.range'_succ, runI, ho]
            rw [xstepO_F (G := updT F (base + k) (footS all o (gval all o st) (st.ev gl))) (by rw [hk, updT_eq]), hs1]
            exact h2
          · by_cases e : j = k
            · subst e
              rw [ho] at hp; cases hp
              exact okF_spec hok hlo hk i o' h4 ho' hc
            · exact h3 i j o' p h4 (by omega) (by omega) ho' hp hc
        · cases h
      · cases h
    · cases h
theorem runF_pair {base nf : Nat} {st s : St} (h : runF P gl ch all base (List.range nf) (fun _ => none) st = some s) : ∃ G : FootT, runI P gl ch true G all base (List.range nf) st = some s ∧ PairF G all base nf := by
  rw [List.range_eq_range'] at h ⊢
  obtain ⟨G, _, h2, h3⟩ := runF_ok nf 0 _ st s h
  exact ⟨G, h2, fun i j o p h4 h5 => h3 i j o p h4 (Nat.zero_le _) (by omega)⟩
def barOk (all : List Oper) : Bool :=
  let m := (masks all []).getD (all.length - 1) 0
  (List.range (all.length - 1)).all fun j => m.testBit j
def tailGo (ms : List Nat) : Nat → Nat
  | 0 => 0
  | k + 1 => match Nat.beq (ms.getD k 0) (2 ^ k - 1) with
    | true => tailGo ms k
    | false => k + 1
def tailAt (all : List Oper) : Nat := tailGo (masks all []) all.length
theorem tailGo_spec {ms : List Nat} : ∀ k, tailGo ms k ≤ k ∧ ∀ i, tailGo ms k ≤ i → i < k → ∀ j, j < i → (ms.getD i 0).testBit j = true
  | 0 => ⟨Nat.le_refl _, fun i h1 h2 => by omega⟩
  | k + 1 => by
    obtain ⟨h1, h2⟩ := tailGo_spec (ms := ms) k
    unfold tailGo
    split
    · rename_i hb
      refine ⟨by omega, fun i h3 h4 j hj => ?_⟩
      by_cases e : i = k
      · subst e
        rw [Nat.eq_of_beq_eq_true hb, Nat.testBit_two_pow_sub_one]
        simpa using hj
      · exact h2 i h3 (by omega) j hj
    · exact ⟨Nat.le_refl _, fun i h3 h4 => by omega⟩
theorem region_draw_tail (hch : ch.Ok P gl) (hmix : P.follows .mixedOrders = true) (hok : drawOk all = true) {F : FootT} {ro : Option Nat} {n : Nat} {m : Nat → Lc} {H : HV} {st sF : St} {a : Act} {w : World} {id nf : Nat} (hnf : nf ≤ all.length)
    (hbit : ∀ i, nf ≤ i → i < all.length → ∀ j, j < i → ((masks all []).getD i 0).testBit j = true)
    (h : RelS m H B H0 gl rest st a.tmps w) (hrun : runI P gl ch (mdR all) F all st.nx (List.range nf) (st.bump all.length) = some sF) (hF : mdR all = true → PairF F all st.nx nf) {Q : Exit → Act → World → Prop}
    (hQ : ∀ (listed : Array Bool) (a' : Act) (w' : World) (m : Nat → Lc) (H : HV), listed.size = all.length → (∀ j, j < nf → listed.getD j false = true) → (∀ j, nf ≤ j → listed.getD j false = false) → a'.defers = a.defers → BelowS B w w' → RelS m H B H0 gl rest sF a'.tmps w' → wpAnyIn (FW ro) n P .any all.toArray Q (all.length - nf) listed a' w') : (Code.region id all.toArray true).wpIn (FW ro) n P Q a w := by
  refine wpIn_region_any hmix ?_
  have hb : Below w.heap.size w { w with drawn := w.drawn + 1 } := ⟨rfl, rfl, rfl, Nat.le_refl _, fun _ _ => rfl⟩
  have hr0 : RelS m H B H0 gl rest (st.bump all.length) a.tmps { w with drawn := w.drawn + 1 } := by
    have hh := h.heap.ext hb
    exact ⟨{ hh with fresh := fun id hid => hh.fresh id (Nat.le_trans (Nat.le_add_right _ _) hid) }, h.size, h.slot, h.rest⟩
  have := draw_any (sF := sF) (base := st.nx) (nf := nf) (ro := ro) (n := n) (d0 := a.defers) (w0 := w) (Q := Q) hch hok hF hnf (fun i h1 h2 j hj => hbit i h1 h2 j (by omega)) hQ _ (Array.replicate all.toArray.size false) a _ m H (st.bump all.length) sF (by simp) rfl (fun j _ => getD0 j) (fun j o ho hL => by have hL : (Array.replicate all.toArray.size false).getD j false = true := hL; rw [getD0] at hL; cases hL) rfl (BelowS.of hb h.heap.low) hr0 (by rw [pend0]; exact hrun) (.refl _)
  rw [pend0, List.length_range] at this
  rw [show nf + (all.length - nf) = all.toArray.size by simp; omega] at this
  exact this
theorem region_draw (hch : ch.Ok P gl) (hmix : P.follows .mixedOrders = true) (hok : drawOk all = true) {F : FootT} {ro : Option Nat} {n : Nat} {m : Nat → Lc} {H : HV} {st sF : St} {a : Act} {w : World} {id : Nat}
    (h : RelS m H B H0 gl rest st a.tmps w) (hrun : runI P gl ch (mdR all) F all st.nx (List.range all.length) (st.bump all.length) = some sF) (hF : mdR all = true → PairF F all st.nx all.length) {Q : Exit → Act → World → Prop}
    (hQ : ∀ (a' : Act) (w' : World) (m : Nat → Lc) (H : HV), a'.defers = a.defers → BelowS B w w' → RelS m H B H0 gl rest sF a'.tmps w' → Q .normal a' w') : (Code.region id all.toArray true).wpIn (FW ro) n P Q a w := by
  refine wpIn_region_any hmix ?_
  have hb : Below w.heap.size w { w with drawn := w.drawn + 1 } := ⟨rfl, rfl, rfl, Nat.le_refl _, fun _ _ => rfl⟩
  have hr0 : RelS m H B H0 gl rest (st.bump all.length) a.tmps { w with drawn := w.drawn + 1 } := by
    have hh := h.heap.ext hb
    exact ⟨{ hh with fresh := fun id hid => hh.fresh id (Nat.le_trans (Nat.le_add_right _ _) hid) }, h.size, h.slot, h.rest⟩
  have := draw_any (sF := sF) (base := st.nx) (nf := all.length) (ro := ro) (n := n) (d0 := a.defers) (w0 := w) (Q := Q) hch hok hF (Nat.le_refl _) (fun i h1 h2 => by omega) (fun listed a' w' m' H' hs h1 _ hd hb' hr => by
    rw [Nat.sub_self]
    exact ⟨ready_nil hs h1, hQ a' w' m' H' hd hb' hr⟩) _ (Array.replicate all.toArray.size false) a _ m H (st.bump all.length) sF (by simp) rfl (fun j _ => getD0 j) (fun j o ho hL => by have hL : (Array.replicate all.toArray.size false).getD j false = true := hL; rw [getD0] at hL; cases hL) rfl (BelowS.of hb h.heap.low) hr0 (by rw [pend0]; exact hrun) (.refl _)
  rw [pend0, Nat.sub_self, Nat.add_zero, List.length_range] at this
  simpa using this
theorem region_draw_bar (hch : ch.Ok P gl) (hmix : P.follows .mixedOrders = true) (hok : drawOk all = true) {F : FootT} (hbar : barOk all = true) {ol : Oper} (hol : all[all.length - 1]? = some ol) (hg : ol.guard = none) {ro : Option Nat} {n : Nat} {m : Nat → Lc} {H : HV} {st sF : St} {a : Act} {w : World} {id : Nat}
    (h : RelS m H B H0 gl rest st a.tmps w) (hrun : runI P gl ch (mdR all) F all st.nx (List.range (all.length - 1)) (st.bump all.length) = some sF) (hF : mdR all = true → PairF F all st.nx (all.length - 1)) {Q : Exit → Act → World → Prop}
    (hQ : ∀ (a' : Act) (w' : World) (m : Nat → Lc) (H : HV) (K : Act → World → Prop), a'.defers = a.defers → BelowS B w w' → RelS m H B H0 gl rest sF a'.tmps w' → (∀ a2 w2, Q .normal a2 w2 → K a2 w2) → ol.wpIn (FW ro) n P a' w' K Q) : (Code.region id all.toArray true).wpIn (FW ro) n P Q a w := by
  refine wpIn_region_any hmix ?_
  have hlen : 0 < all.length := by have := (List.getElem?_eq_some_iff.1 hol).1; omega
  have hb : Below w.heap.size w { w with drawn := w.drawn + 1 } := ⟨rfl, rfl, rfl, Nat.le_refl _, fun _ _ => rfl⟩
  have hr0 : RelS m H B H0 gl rest (st.bump all.length) a.tmps { w with drawn := w.drawn + 1 } := by
    have hh := h.heap.ext hb
    exact ⟨{ hh with fresh := fun id hid => hh.fresh id (Nat.le_trans (Nat.le_add_right _ _) hid) }, h.size, h.slot, h.rest⟩
  have hbit : ∀ i, all.length - 1 ≤ i → i < all.length → ∀ j, j < all.length - 1 → ((masks all []).getD i 0).testBit j = true := fun i h1 h2 j hj => by
    have : i = all.length - 1 := by omega
    subst this
    simp only [barOk, List.all_eq_true] at hbar
    exact hbar j (List.mem_range.2 hj)
  have := draw_any (sF := sF) (base := st.nx) (nf := all.length - 1) (ro := ro) (n := n) (d0 := a.defers) (w0 := w) (Q := Q) hch hok hF (by omega) hbit (fun listed a' w' m' H' hs h1 h2 hd hb' hr => by
    rw [show all.length - (all.length - 1) = 0 + 1 by omega]
    have hfin : Region.ready .any all.toArray (listed.setIfInBounds (all.length - 1) true) = [] := ready_nil (by simp [hs]) fun j hj => by
      by_cases e : j = all.length - 1
      · subst e; simp [Array.getD_eq_getD_getElem?, show all.length - 1 < listed.size by omega]
      · rw [getD_set_ne false (Ne.symm e)]; exact h1 j (by omega)
    refine ⟨fun hready => ?_, fun i hi => ?_⟩
    · exfalso
      have : all.length - 1 ∈ Region.ready .any all.toArray listed := by
        rw [mem_ready]
        refine ⟨by rw [getD_def true (by omega)]; exact h2 _ (Nat.le_refl _), ol, by rw [List.getElem?_toArray]; exact hol, fun e he hbd => h1 e.on ?_⟩
        exact (drawOk_spec hok _ ol hol).before e he hbd
      rw [hready] at this; cases this
    · rw [mem_ready] at hi
      obtain ⟨h0, o, ho, hpre⟩ := hi
      rw [List.getElem?_toArray] at ho
      have hil : i < all.length := (List.getElem?_eq_some_iff.1 ho).1
      rw [getD_def true (by omega)] at h0
      have hie : i = all.length - 1 := by
        rcases Nat.lt_or_ge i (all.length - 1) with hlt | hge
        · rw [h1 i hlt] at h0; cases h0
        · omega
      subst hie
      rw [hol] at ho; cases ho
      unfold wpOpIn
      simp only [List.getElem?_toArray, hol]
      rw [if_pos (by simp [Region.wanted, hg])]
      exact hQ a' w' m' H' _ hd hb' hr fun a2 w2 hq => ⟨hfin, hq⟩) _ (Array.replicate all.toArray.size false) a _ m H (st.bump all.length) sF (by simp) rfl (fun j _ => getD0 j) (fun j o ho hL => by have hL : (Array.replicate all.toArray.size false).getD j false = true := hL; rw [getD0] at hL; cases hL) rfl (BelowS.of hb h.heap.low) hr0 (by rw [pend0]; exact hrun) (.refl _)
  rw [pend0, List.length_range, show all.length - 1 + (all.length - (all.length - 1)) = all.length by omega] at this
  simpa using this
end
end HY
end
section
namespace HY
open Go Go.RowKit
def runG (stp : Nat → Oper → St → Option St) (all : List Oper) : List Nat → St → Option St
  | [], st => some st
  | i :: l, st => match all[i]? with
    | some o => match stp i o st with
      | some s => runG stp all l s
      | none => none
    | none => none
structure StpOk (P : Program) (B : Nat → Prop) (H0 : HV) (gl : Nat → AV) (rest : List (AV × Value)) (all : List Oper) (stp : Nat → Oper → St → Option St) : Prop where
  sound : ∀ {i : Nat} {o : Oper} {st s : St} {a : Act} {w : World} {m : Nat → Lc} {H : HV}, RelS m H B H0 gl rest st a.tmps w → stp i o st = some s → ∀ (ro : Option Nat) (n : Nat) (next : Act → World → Prop) (Q : Exit → Act → World → Prop),
    (∀ a' w' m' H', a'.defers = a.defers → BelowS B w w' → RelS m' H' B H0 gl rest s a'.tmps w' → next a' w') →
    if Region.wanted o (yielded all.toArray a.tmps) then o.wpIn (FW ro) n P a w next Q else (∀ f, o.about P w a.eval = some f → (FW ro).fn f) ∧ next (a.put o.dst Go.undef) w
  eq : ∀ {i : Nat} {o : Oper} {x y s : St}, StEq x y → stp i o x = some s → ∃ s', stp i o y = some s' ∧ StEq s s'
  swap : ∀ {j i : Nat} {oj oi : Oper} {st s1 s2 : St} {a : Act} {w : World} {m : Nat → Lc} {H : HV}, j < i → all[j]? = some oj → all[i]? = some oi → ((masks all []).getD i 0).testBit j = false → RelS m H B H0 gl rest st a.tmps w →
    stp j oj st = some s1 → stp i oi s1 = some s2 → ∃ t1 t2, stp i oi st = some t1 ∧ stp j oj t1 = some t2 ∧ StEq t2 s2
section
variable {P : Program} {B : Nat → Prop} {H0 : HV} {gl : Nat → AV} {rest : List (AV × Value)} {all : List Oper} {stp : Nat → Oper → St → Option St}
theorem runG_append : ∀ {l r : List Nat} {st : St}, runG stp all (l ++ r) st = match runG stp all l st with | some s => runG stp all r s | none => none
  | [], r, st => rfl
  | i :: l, r, st => by
    simp only [List.cons_append, runG]
    cases all[i]? with
    | none => rfl
    | some o =>
      simp only
      cases stp i o st with
      | none => rfl
      | some s => exact runG_append
theorem StEq.runG (hS : StpOk P B H0 gl rest all stp) : ∀ {l : List Nat} {x y s : St}, StEq x y → HY.runG stp all l x = some s → ∃ s', HY.runG stp all l y = some s' ∧ StEq s s'
  | [], x, y, s, h, hk => by simp only [HY.runG, Option.some.injEq] at hk; subst hk; exact ⟨y, rfl, h⟩
  | i :: l, x, y, s, h, hk => by
    simp only [HY.runG] at hk ⊢
    cases ho : all[i]? with
    | none => rw [ho] at hk; cases hk
    | some o =>
      rw [ho] at hk
      simp only at hk ⊢
      cases hs : stp i o x with
      | none => rw [hs] at hk; cases hk
      | some s1 =>
        rw [hs] at hk
        obtain ⟨s2, h1, h2⟩ := hS.eq h hs
        rw [h1]
        exact StEq.runG hS h2 hk
theorem StpOk.real (hS : StpOk P B H0 gl rest all stp) {st : St} {a : Act} {w : World} {m : Nat → Lc} {H : HV} (h : RelS m H B H0 gl rest st a.tmps w) {i : Nat} {o : Oper} {st' : St} (hk : stp i o st = some st') : ∃ (a' : Act) (w' : World) (m' : Nat → Lc) (H' : HV), RelS m' H' B H0 gl rest st' a'.tmps w' := by
  have := hS.sound h hk none 0 (fun a' w' => ∃ m' H', RelS m' H' B H0 gl rest st' a'.tmps w') (fun _ _ _ => False) (fun a' w' m' H' _ _ hr => ⟨m', H', hr⟩)
  split at this
  · obtain ⟨a', w', m', H', hr⟩ := real_of_wpIn this; exact ⟨a', w', m', H', hr⟩
  · obtain ⟨_, m', H', hr⟩ := this; exact ⟨_, _, m', H', hr⟩
theorem moveG (hS : StpOk P B H0 gl rest all stp) {i : Nat} {oi : Oper} (hoi : all[i]? = some oi) : ∀ (pre : List Nat) {st : St} {a : Act} {w : World} {m : Nat → Lc} {H : HV} {s1 s2 : St}, RelS m H B H0 gl rest st a.tmps w → runG stp all pre st = some s1 → stp i oi s1 = some s2 →
    (∀ j ∈ pre, j < i ∧ ((masks all []).getD i 0).testBit j = false) → ∃ t s', stp i oi st = some t ∧ runG stp all pre t = some s' ∧ StEq s' s2
  | [], st, a, w, m, H, s1, s2, _, h1, h2, _ => by
    simp only [runG, Option.some.injEq] at h1
    subst h1
    exact ⟨s2, s2, h2, rfl, .refl _⟩
  | j :: pre, st, a, w, m, H, s1, s2, h, h1, h2, hc => by
    simp only [runG] at h1 ⊢
    cases hj : all[j]? with
    | none => rw [hj] at h1; cases h1
    | some oj =>
      rw [hj] at h1
      simp only at h1 ⊢
      cases hs : stp j oj st with
      | none => rw [hs] at h1; cases h1
      | some s0 =>
        rw [hs] at h1
        obtain ⟨a', w', m', H', hr⟩ := hS.real h hs
        obtain ⟨t, s', k1, k2, k3⟩ := moveG hS hoi pre hr h1 h2 fun j' hj' => hc j' (by simp [hj'])
        have hcj := hc j (by simp)
        obtain ⟨t1, t2, e1, e2, e3⟩ := hS.swap hcj.1 hj hoi hcj.2 h hs k1
        obtain ⟨s3, g1, g2⟩ := StEq.runG hS e3.symm k2
        exact ⟨t1, s3, e1, by rw [e2]; exact g1, g2.symm.trans k3⟩
theorem draw_anyG (hS : StpOk P B H0 gl rest all stp) (hok : drawOk all = true) {nf : Nat} (hnf : nf ≤ all.length) (hbar : ∀ i, nf ≤ i → i < all.length → ∀ j, j < nf → ((masks all []).getD i 0).testBit j = true) {ro : Option Nat} {n : Nat} {d0 : List Deferred} {w0 : World} {sF : St} {Q : Exit → Act → World → Prop}
    (hEnd : ∀ (listed : Array Bool) (a : Act) (w : World) (m : Nat → Lc) (H : HV), listed.size = all.length → (∀ j, j < nf → listed.getD j false = true) → (∀ j, nf ≤ j → listed.getD j false = false) → a.defers = d0 → BelowS B w0 w → RelS m H B H0 gl rest sF a.tmps w → wpAnyIn (FW ro) n P .any all.toArray Q (all.length - nf) listed a w) :
    ∀ (q : Nat) (listed : Array Bool) (a : Act) (w : World) (m : Nat → Lc) (H : HV) (st s : St), listed.size = all.length → (pend nf fun j => listed.getD j false).length = q → (∀ j, nf ≤ j → listed.getD j false = false) → Closed all (fun j => listed.getD j false) →
      a.defers = d0 → BelowS B w0 w → RelS m H B H0 gl rest st a.tmps w → runG stp all (pend nf fun j => listed.getD j false) st = some s → StEq s sF → wpAnyIn (FW ro) n P .any all.toArray Q (q + (all.length - nf)) listed a w := by
  intro q
  induction q with
  | zero =>
    intro listed a w m H st s hs hl hhi hcl hd hb hr hrun heq
    have hnil : (pend nf fun j => listed.getD j false) = [] := List.eq_nil_of_length_eq_zero hl
    rw [hnil] at hrun
    simp only [runG, Option.some.injEq] at hrun
    subst hrun
    rw [Nat.zero_add]
    refine hEnd listed a w m H hs (fun j hj => ?_) hhi hd hb (heq.rel hr)
    cases hL : listed.getD j false with
    | true => rfl
    | false =>
      have : j ∈ pend nf fun j => listed.getD j false := by
        unfold pend; rw [List.mem_filter]; exact ⟨List.mem_range.2 hj, by simp [hL]⟩
      rw [hnil] at this; cases this
  | succ q ih =>
    intro listed a w m H st s hs hl hhi hcl hd hb hr hrun heq
    have hclI : ∀ i o, all[i]? = some o → (∀ e ∈ o.after, Region.binds .any e = true → listed.getD e.on false = true) → Closed all fun k => listed.getD k false || k == i := fun i o ho hpre k o' ho' hLk e he hbd => by
      by_cases hki : k = i
      · subst hki
        rw [ho] at ho'; cases ho'
        simp only [hpre e he hbd, Bool.true_or]
      · have hk' : (k == i) = false := by simpa using hki
        simp only [hcl k o' ho' (by simpa [hk'] using hLk) e he hbd, Bool.true_or]
    rw [Nat.add_right_comm]
    refine ⟨fun hready => ?_, fun i hi => ?_⟩
    · exfalso
      have hall : ∀ j, j < all.length → listed.getD j false = true := by
        intro j
        induction j using Nat.strongRecOn with
        | _ j ihj =>
          intro hj
          cases hL : listed.getD j false with
          | true => rfl
          | false =>
            exfalso
            have : j ∈ Region.ready .any all.toArray listed := by
              rw [mem_ready]
              refine ⟨by rw [getD_def true (by omega)]; exact hL, all[j], by simp [hj], fun e he hbd => ?_⟩
              have := (drawOk_spec hok j all[j] (List.getElem?_eq_getElem hj)).before e he hbd
              exact ihj e.on this (by omega)
            rw [hready] at this
            cases this
      have : (pend nf fun j => listed.getD j false) = [] := by
        unfold pend
        rw [List.filter_eq_nil_iff]
        intro j hj
        simp [hall j (by have := List.mem_range.1 hj; omega)]
      rw [this] at hl; simp at hl
    · rw [mem_ready] at hi
      obtain ⟨h0, o, ho, hpre⟩ := hi
      rw [List.getElem?_toArray] at ho
      have hil : i < all.length := (List.getElem?_eq_some_iff.1 ho).1
      rw [getD_def true (by omega)] at h0
      by_cases hin : nf ≤ i
      · exfalso
        have hall : ∀ j, j < nf → listed.getD j false = true := fun j hj => by
          have := masks_closed (hclI i o ho hpre) i j (hbar i hin hil j hj) (by simp)
          have hne : (j == i) = false := by simp; omega
          simpa only [hne, Bool.or_false] using this
        have : (pend nf fun j => listed.getD j false) = [] := by
          unfold pend
          rw [List.filter_eq_nil_iff]
          intro j hj
          simp [hall j (List.mem_range.1 hj)]
        rw [this] at hl; simp at hl
      have hin : i < nf := by omega
      have hL'i : (listed.setIfInBounds i true).getD i false = true := by simp [Array.getD_eq_getD_getElem?, show i < listed.size by omega]
      have hL'o : ∀ j, j ≠ i → (listed.setIfInBounds i true).getD j false = listed.getD j false := fun j hj => getD_set_ne false (Ne.symm hj)
      rw [pend_split hin h0] at hrun hl
      have hset := pend_set (L := fun j => listed.getD j false) (L' := fun j => (listed.setIfInBounds i true).getD j false) hin hL'i hL'o
      rw [runG_append] at hrun
      cases hr1 : runG stp all ((List.range i).filter fun j => !listed.getD j false) st with
      | none => rw [hr1] at hrun; cases hrun
      | some s1 =>
        rw [hr1] at hrun
        simp only [runG, ho] at hrun
        cases hr2 : stp i o s1 with
        | none => rw [hr2] at hrun; cases hrun
        | some s2 =>
          rw [hr2] at hrun
          simp only at hrun
          obtain ⟨t, s', e1, e2, e3⟩ := moveG hS ho _ hr hr1 hr2 fun j hj => by
            rw [List.mem_filter] at hj
            have hji := List.mem_range.1 hj.1
            refine ⟨hji, ?_⟩
            cases hbit : ((masks all []).getD i 0).testBit j with
            | false => rfl
            | true =>
              have := masks_closed (hclI i o ho hpre) i j hbit (by simp)
              have hne : (j == i) = false := by simp; omega
              simp only [hne, Bool.or_false] at this
              rw [this] at hj
              simp at hj
          obtain ⟨s3, f1, f2⟩ := StEq.runG hS e3.symm hrun
          have hrun' : runG stp all (pend nf fun j => (listed.setIfInBounds i true).getD j false) t = some s3 := by
            rw [hset, runG_append, e2]; exact f1
          have hstep := hS.sound hr e1 ro n (wpAnyIn (FW ro) n P .any all.toArray Q (q + (all.length - nf)) (listed.setIfInBounds i true)) Q (fun a' w' m' H' hd' hb' hr' =>
            ih _ a' w' m' H' t s3 (by simp [hs]) (by
              rw [hset]
              simp only [List.length_append, List.length_cons] at hl ⊢
              omega) (fun j hj => by rw [hL'o j (by omega)]; exact hhi j hj) (fun k o' ho' hLk e he hbd => by
                have : ∀ q, (listed.setIfInBounds i true).getD q false = (listed.getD q false || q == i) := fun q => by
                  by_cases hq : q = i
                  · subst hq; rw [hL'i]; simp
                  · rw [hL'o q hq]; have : (q == i) = false := by simpa using hq
                    simp [this]
                simp only [this] at hLk ⊢
                exact hclI i o ho hpre k o' ho' hLk e he hbd) (hd'.trans hd) (hb.trans hb') hr' hrun' (f2.symm.trans heq))
          unfold wpOpIn
          simp only [List.getElem?_toArray, ho]
          exact hstep
theorem region_drawG (hS : StpOk P B H0 gl rest all stp) (hmix : P.follows .mixedOrders = true) (hok : drawOk all = true) {ro : Option Nat} {n : Nat} {m : Nat → Lc} {H : HV} {st sF : St} {a : Act} {w : World} {id : Nat}
    (h : RelS m H B H0 gl rest st a.tmps w) (hrun : runG stp all (List.range all.length) (st.bump all.length) = some sF) {Q : Exit → Act → World → Prop}
    (hQ : ∀ (a' : Act) (w' : World) (m : Nat → Lc) (H : HV), a'.defers = a.defers → BelowS B w w' → RelS m H B H0 gl rest sF a'.tmps w' → Q .normal a' w') : (Code.region id all.toArray true).wpIn (FW ro) n P Q a w := by
  refine wpIn_region_any hmix ?_
  have hb : Below w.heap.size w { w with drawn := w.drawn + 1 } := ⟨rfl, rfl, rfl, Nat.le_refl _, fun _ _ => rfl⟩
  have hr0 : RelS m H B H0 gl rest (st.bump all.length) a.tmps { w with drawn := w.drawn + 1 } := by
    have hh := h.heap.ext hb
    exact ⟨{ hh with fresh := fun id hid => hh.fresh id (Nat.le_trans (Nat.le_add_right _ _) hid) }, h.size, h.slot, h.rest⟩
  have := draw_anyG (sF := sF) (nf := all.length) (ro := ro) (n := n) (d0 := a.defers) (w0 := w) (Q := Q) hS hok (Nat.le_refl _) (fun i h1 h2 => by omega) (fun listed a' w' m' H' hs h1 _ hd hb' hr => by
    rw [Nat.sub_self]
    exact ⟨ready_nil hs h1, hQ a' w' m' H' hd hb' hr⟩) _ (Array.replicate all.toArray.size false) a _ m H (st.bump all.length) sF (by simp) rfl (fun j _ => getD0 j) (fun j o ho hL => by have hL : (Array.replicate all.toArray.size false).getD j false = true := hL; rw [getD0] at hL; cases hL) rfl (BelowS.of hb h.heap.low) hr0 (by rw [pend0]; exact hrun) (.refl _)
  rw [pend0, Nat.sub_self, Nat.add_zero, List.length_range] at this
  simpa using this
theorem region_draw_barG (hS : StpOk P B H0 gl rest all stp) (hmix : P.follows .mixedOrders = true) (hok : drawOk all = true) (hbar : barOk all = true) {ol : Oper} (hol : all[all.length - 1]? = some ol) (hg : ol.guard = none) {ro : Option Nat} {n : Nat} {m : Nat → Lc} {H : HV} {st sF : St} {a : Act} {w : World} {id : Nat}
    (h : RelS m H B H0 gl rest st a.tmps w) (hrun : runG stp all (List.range (all.length - 1)) (st.bump all.length) = some sF) {Q : Exit → Act → World → Prop}
    (hQ : ∀ (a' : Act) (w' : World) (m : Nat → Lc) (H : HV) (K : Act → World → Prop), a'.defers = a.defers → BelowS B w w' → RelS m H B H0 gl rest sF a'.tmps w' → (∀ a2 w2, Q .normal a2 w2 → K a2 w2) → ol.wpIn (FW ro) n P a' w' K Q) : (Code.region id all.toArray true).wpIn (FW ro) n P Q a w := by
  refine wpIn_region_any hmix ?_
  have hlen : 0 < all.length := by have := (List.getElem?_eq_some_iff.1 hol).1; omega
  have hb : Below w.heap.size w { w with drawn := w.drawn + 1 } := ⟨rfl, rfl, rfl, Nat.le_refl _, fun _ _ => rfl⟩
  have hr0 : RelS m H B H0 gl rest (st.bump all.length) a.tmps { w with drawn := w.drawn + 1 } := by
    have hh := h.heap.ext hb
    exact ⟨{ hh with fresh := fun id hid => hh.fresh id (Nat.le_trans (Nat.le_add_right _ _) hid) }, h.size, h.slot, h.rest⟩
  have hbit : ∀ i, all.length - 1 ≤ i → i < all.length → ∀ j, j < all.length - 1 → ((masks all []).getD i 0).testBit j = true := fun i h1 h2 j hj => by
    have : i = all.length - 1 := by omega
    subst this
    simp only [barOk, List.all_eq_true] at hbar
    exact hbar j (List.mem_range.2 hj)
  have := draw_anyG (sF := sF) (nf := all.length - 1) (ro := ro) (n := n) (d0 := a.defers) (w0 := w) (Q := Q) hS hok (by omega) hbit (fun listed a' w' m' H' hs h1 h2 hd hb' hr => by
    rw [show all.length - (all.length - 1) = 0 + 1 by omega]
    have hfin : Region.ready .any all.toArray (listed.setIfInBounds (all.length - 1) true) = [] := ready_nil (by simp [hs]) fun j hj => by
      by_cases e : j = all.length - 1
      · subst e; simp [Array.getD_eq_getD_getElem?, show all.length - 1 < listed.size by omega]
      · rw [getD_set_ne false (Ne.symm e)]; exact h1 j (by omega)
    refine ⟨fun hready => ?_, fun i hi => ?_⟩
    · exfalso
      have : all.length - 1 ∈ Region.ready .any all.toArray listed := by
        rw [mem_ready]
        refine ⟨by rw [getD_def true (by omega)]; exact h2 _ (Nat.le_refl _), ol, by rw [List.getElem?_toArray]; exact hol, fun e he hbd => h1 e.on ?_⟩
        exact (drawOk_spec hok _ ol hol).before e he hbd
      rw [hready] at this; cases this
    · rw [mem_ready] at hi
      obtain ⟨h0, o, ho, hpre⟩ := hi
      rw [List.getElem?_toArray] at ho
      have hil : i < all.length := (List.getElem?_eq_some_iff.1 ho).1
      rw [getD_def true (by omega)] at h0
      have hie : i = all.length - 1 := by
        rcases Nat.lt_or_ge i (all.length - 1) with hlt | hge
        · rw [h1 i hlt] at h0; cases h0
        · omega
      subst hie
      rw [hol] at ho; cases ho
      unfold wpOpIn
      simp only [List.getElem?_toArray, hol]
      rw [if_pos (by simp [Region.wanted, hg])]
      exact hQ a' w' m' H' _ hd hb' hr fun a2 w2 hq => ⟨hfin, hq⟩) _ (Array.replicate all.toArray.size false) a _ m H (st.bump all.length) sF (by simp) rfl (fun j _ => getD0 j) (fun j o ho hL => by have hL : (Array.replicate all.toArray.size false).getD j false = true := hL; rw [getD0] at hL; cases hL) rfl (BelowS.of hb h.heap.low) hr0 (by rw [pend0]; exact hrun) (.refl _)
  rw [pend0, List.length_range, show all.length - 1 + (all.length - (all.length - 1)) = all.length by omega] at this
  simpa using this
end
end HY
end
