/- Parts of slices and strings, the builtins, and one operation as a whole. -/
import Derived.Test.YtghdepbcnckfpaaAhExec3
namespace AH
open Go Go.RowKit

/-- A bound of a slice expression. -/
def bnd (d : Nat) : Option AV → Option Int
  | none => some d
  | some (.int _ n) => some n
  | some _ => none

/-- x[lo:hi] and x[lo:hi:mx]. -/
def aslice (P : Program) (t : TypeId) (x : AV) (lo hi mx : Option AV) (K : AV → Prop) : Prop :=
  match x with
  | .str s => match bnd 0 lo with
    | some l => match bnd s.length hi with
      | some h => (P.underlying t = some .string ∧ mx = none ∧ 0 ≤ l ∧ l ≤ h ∧ h ≤ s.length) ∧ K (.str ((s.take h.toNat).drop l.toNat))
      | none => False
    | none => False
  | .sl sz xs => match bnd 0 lo with
    | some l => match bnd xs.length hi with
      | some h => match mx with
        | none => ((elI P t).map (·.1) = some sz ∧ 0 ≤ l ∧ l ≤ h ∧ h ≤ xs.length) ∧ K (.sl sz ((xs.take h.toNat).drop l.toNat))
        | some (.int _ m) => (hi.isSome = true ∧ (elI P t).map (·.1) = some sz ∧ l = 0 ∧ h = 0 ∧ m = 0) ∧ K (.own sz [])
        | some _ => False
      | none => False
    | none => False
  | .nil => match bnd 0 lo with
    | some l => match bnd 0 hi with
      | some h => match mx with
        | none => ((elI P t).isSome = true ∧ l = 0 ∧ h = 0) ∧ K .nil
        | some (.int _ m) => (hi.isSome = true ∧ (elI P t).isSome = true ∧ l = 0 ∧ h = 0 ∧ m = 0) ∧ K .nil
        | some _ => False
      | none => False
    | none => False
  | _ => False

/-- The greatest, the least of integers. -/
def amaxL (big : Bool) (k : IntKind) (a : Int) : List AV → (AV → Prop) → Prop
  | [], K => K (.int k a)
  | .int k' b :: r, K => k = k' ∧ amaxL big k (if big then max a b else min a b) r K
  | _ :: _, _ => False
def amax (big : Bool) (l : List AV) (K : AV → Prop) : Prop :=
  match l with
  | .int k a :: r => amaxL big k a r K
  | _ => False

def alen (P : Program) (t : TypeId) (x : AV) (K : AV → Prop) : Prop :=
  match x with
  | .str s => P.underlying t = some .string ∧ K (.int .i64 s.length)
  | .sl _ xs => (elI P t).isSome = true ∧ K (.int .i64 xs.length)
  | .own _ xs => (elI P t).isSome = true ∧ K (.int .i64 xs.length)
  | .nil => (elI P t).isSome = true ∧ K (.int .i64 0)
  | _ => False

/-- append(s, x): s is nil or the call's own. -/
def aappend (P : Program) (t t' : TypeId) (s : Operand) (x : AV) (st : St) (dst : Option Nat) (K : AV → St → Prop) : Prop :=
  match elG P t with
  | some (sz, by_) => (t' = t ∧ dst.isSome = true) ∧ match (match x with | .sl z ys => some (z, ys) | .nil => some (sz, []) | _ => none) with
    | some (z, ys) => z = sz ∧ match st.ev s with
      | .nil => (ys.length * by_ ≤ 140737488355328 ∧ ys.length ≤ 9223372036854775807) ∧ if ys.isEmpty then K .nil st else K (.own sz ys) st
      | .own z' xs => (z' = sz ∧ (xs.length + ys.length) * by_ ≤ 140737488355328 ∧ xs.length + ys.length ≤ 9223372036854775807) ∧ match s with
        | .tmp k => K (.own sz (xs ++ ys)) (st.put k .undef)
        | _ => False
      | _ => False
    | none => False
  | none => False

/-- What stands behind, for a value alone. -/
def kst (K : AV → St → Prop) (st : St) : AV → Prop := fun av => K av st

def abuiltin (P : Program) (b : Builtin) (ts : List TypeId) (xs : List Operand) (st : St) (dst : Option Nat) (K : AV → St → Prop) : Prop :=
  match b with
  | .len => match ts, xs with
    | [t], [x] => alen P t (st.ev x) (kst K st)
    | _, _ => False
  | .max => amax true (xs.map st.ev) (kst K st)
  | .min => amax false (xs.map st.ev) (kst K st)
  | .append => match ts, xs with
    | [t, t'], [s, x] => aappend P t t' s (st.evD x) st dst K
    | _, _ => False
  | _ => False

section
variable {P : Program} {G : Gh} {B : Nat} {H0 : HV} {rest : List (AV × Value)} {st : St} {a : Act} {w : World} {dst : Option Nat} {K : AV → St → Prop}

theorem run_sliceBound {k : IntKind} {n : Int} {y : Nat} (c : BoundsCode) (h0 : 0 ≤ n) (h1 : n ≤ y) : (Instr.sliceBound (.int k n) y c).run P w = .ok n.toNat w := by
  simp [Instr.sliceBound, asIntOf, h0, h1]

/-- The bounds of a slice expression without a third. -/
theorem run_sliceBounds2 {H : HV} {io : Nat → Option Nat} (isS : Bool) (len cap : Nat) (hc : len ≤ cap) {lo hi : Option AV} {vlo vhi : Option Value} {l h : Int} (hlo : bnd 0 lo = some l) (hhi : bnd len hi = some h)
    (rlo : (lo.isNone ∧ vlo = none) ∨ ∃ x v, lo = some x ∧ vlo = some v ∧ Rel0 H io x v) (rhi : (hi.isNone ∧ vhi = none) ∨ ∃ x v, hi = some x ∧ vhi = some v ∧ Rel0 H io x v)
    (h0 : 0 ≤ l) (h1 : l ≤ h) (h2 : h ≤ len) : (Instr.sliceBounds isS len cap vlo vhi none).run P w = .ok (l.toNat, h.toNat, cap) w := by
  have rlo' : (vlo = none ∧ l = 0) ∨ ∃ k, vlo = some (.int k l) := by
    rcases rlo with ⟨e1, rfl⟩ | ⟨x, v, rfl, rfl, hr⟩
    · cases lo with
      | none => simp only [bnd, Option.some.injEq] at hlo; exact .inl ⟨rfl, hlo.symm⟩
      | some _ => cases e1
    · cases x <;> simp only [bnd, Option.some.injEq, reduceCtorEq] at hlo
      subst hlo
      exact .inr ⟨_, by rw [hr.int_inv]⟩
  have rhi' : (vhi = none ∧ h = len) ∨ ∃ k, vhi = some (.int k h) := by
    rcases rhi with ⟨e1, rfl⟩ | ⟨x, v, rfl, rfl, hr⟩
    · cases hi with
      | none => simp only [bnd, Option.some.injEq] at hhi; exact .inl ⟨rfl, hhi.symm⟩
      | some _ => cases e1
    · cases x <;> simp only [bnd, Option.some.injEq, reduceCtorEq] at hhi
      subst hhi
      exact .inr ⟨_, by rw [hr.int_inv]⟩
  rcases rlo' with ⟨rfl, rfl⟩ | ⟨k, rfl⟩ <;> rcases rhi' with ⟨rfl, rfl⟩ | ⟨k', rfl⟩
  · simp [Instr.sliceBounds]
  · simp [Instr.sliceBounds, run_sliceBound (P := P) (w := w) (k := k') (y := cap) _ (show 0 ≤ h by omega) (by omega)]
  · simp [Instr.sliceBounds, run_sliceBound (P := P) (w := w) (k := k) (y := len) _ h0 (by omega)]
  · simp [Instr.sliceBounds, run_sliceBound (P := P) (w := w) (k := k') (y := cap) _ (show 0 ≤ h by omega) (by omega), run_sliceBound (P := P) (w := w) (k := k) (y := h.toNat) _ h0 (by omega)]

theorem run_sliceBounds3 (isS : Bool) (len cap : Nat) {lo : Option AV} {vlo : Option Value} {H : HV} {io : Nat → Option Nat} (hlo : bnd 0 lo = some 0) (rlo : (lo.isNone ∧ vlo = none) ∨ ∃ x v, lo = some x ∧ vlo = some v ∧ Rel0 H io x v) {k k' : IntKind} :
    (Instr.sliceBounds isS len cap vlo (some (.int k 0)) (some (.int k' 0))).run P w = .ok (0, 0, 0) w := by
  have rlo' : vlo = none ∨ ∃ k, vlo = some (.int k 0) := by
    rcases rlo with ⟨e1, rfl⟩ | ⟨x, v, rfl, rfl, hr⟩
    · exact .inl rfl
    · cases x <;> simp only [bnd, Option.some.injEq, reduceCtorEq] at hlo
      subst hlo
      exact .inr ⟨_, by rw [hr.int_inv]⟩
  have e1 : ∀ (k : IntKind) (y : Nat) (c : BoundsCode), (Instr.sliceBound (.int k 0) y c).run P w = .ok 0 w := fun k y c => run_sliceBound c (by omega) (by omega)
  rcases rlo' with rfl | ⟨k2, rfl⟩
  · simp [Instr.sliceBounds, e1]
  · simp [Instr.sliceBounds, e1]

theorem ev_opt (h : RelG G B H0 rest st a.tmps w) (x : Option Operand) :
    ((x.map st.evD).isNone ∧ x.map a.eval = none) ∨ ∃ y v, x.map st.evD = some y ∧ x.map a.eval = some v ∧ Rel0 G.H G.io y v := by
  cases x with
  | none => exact .inl ⟨rfl, rfl⟩
  | some x => exact .inr ⟨_, _, rfl, rfl, h.ev x⟩

theorem elI_of {t : TypeId} {sz : Nat} (h : (elI P t).map (·.1) = some sz) : ∃ e i, P.underlying t = some (.slice e) ∧ P.info? e = some i ∧ i.size = sz := by
  cases he : elI P t with
  | none => rw [he] at h; cases h
  | some x =>
    obtain ⟨e, i, h1, h2, h3, _⟩ := elI_inv (show elI P t = some (x.1, x.2) from he)
    rw [he] at h
    simp only [Option.map_some, Option.some.injEq] at h
    exact ⟨e, i, h1, h2, h3.trans h⟩

theorem sliceAt_eq {t : TypeId} (ht : ∀ n e, P.underlying t ≠ some (.array n e)) {d : TypeDesc} (hd : P.underlying t = some d) (x : Value) (lo hi mx : Option Value) : (Instr.sliceAt t x lo hi mx).run P w = (Instr.slice t x lo hi mx).run P w := by
  simp only [Instr.sliceAt, Sem.run_bind, run_underlying hd, Result.andThen_ok]
  cases d <;> first | rfl | exact absurd hd (ht _ _)

theorem RelI.sub {H : HV} {sz : Nat} {xs : List AV} {ad : Option Addr} {n cap : Nat} (hv : RelI H (.sl sz xs) (.slice ad n cap)) {l h : Nat} (h1 : l ≤ h) (h2 : h ≤ xs.length) :
    RelI H (.sl sz ((xs.take h).drop l)) (.slice (if cap = l then ad else ad.map (·.add (l * sz))) (h - l) (cap - l)) := by
  obtain ⟨a', cap', e, hc1, hc2⟩ := hv.len_inv
  cases e
  have hlen : ((xs.take h).drop l).length = h - l := by simp; omega
  by_cases hz : h = l
  · subst hz
    have hnil : (xs.take h).drop h = [] := List.eq_nil_of_length_eq_zero (by rw [hlen]; omega)
    rw [hnil, Nat.sub_self]
    exact .sl0 _ _ _ (by omega)
  · rw [if_neg (by omega)]
    cases hv with
    | sl0 => simp at h2; omega
    | sl _ _ b o _ val g0 g1 g2 g3 g4 g5 =>
      have hget : ∀ (i : Nat) (x : AV), ((xs.take h).drop l)[i]? = some x → xs[l + i]? = some x := fun i x hx => by
        rw [List.getElem?_drop, List.getElem?_take] at hx
        split at hx
        · exact hx
        · cases hx
      have := RelI.sl (H := H) sz ((xs.take h).drop l) b (o + l * sz) (cap - l) (fun i j => val (l + i) j) g0 (by rw [hlen]; omega) (by omega) (fun i x hx => g3 _ x (hget i x hx))
        (fun i x j c hx hj => by
          have := g4 _ x j c (hget i x hx) hj
          rw [Nat.add_mul, ← Nat.add_assoc] at this
          exact this) (fun i x j c hx hj => g5 _ x j c (hget i x hx) hj)
      rw [hlen] at this
      simpa [add_none] using this

theorem aslice_sound (h : RelG G B H0 rest st a.tmps w) (hd : dstOk dst st.n = true) {t : TypeId} {x : Operand} {lo hi mx : Option Operand}
    (hk : aslice P t (st.evD x) (lo.map st.evD) (hi.map st.evD) (mx.map st.evD) fun av => K av st) :
    OpOk P B H0 rest st.n a w dst K (do pure (.value (← Instr.sliceAt t (a.eval x) (lo.map a.eval) (hi.map a.eval) (mx.map a.eval)))) := by
  have hx : Rel0 G.H G.io (st.evD x) (a.eval x) := h.ev x
  have rlo := ev_opt h lo
  have rhi := ev_opt h hi
  have rmx := ev_opt h mx
  have hmx : mx.map st.evD = none → mx.map a.eval = none := fun e => by cases mx <;> first | rfl | cases e
  unfold aslice at hk
  split at hk
  · rename_i s he
    rw [he] at hx
    split at hk
    · rename_i l hl
      split at hk
      · rename_i h' hh
        obtain ⟨⟨ht, hm, h0, h1, h2⟩, hk⟩ := hk
        rw [hx.str_inv, hmx hm]
        have hb := run_sliceBounds2 (P := P) (w := w) false s.length s.length (Nat.le_refl _) hl hh rlo rhi h0 h1 h2
        refine OpOk.val h hd (v := .string ⟨((s.take h'.toNat).drop l.toNat).toArray⟩) ?_ (.imm _ _ (.str _)) hk
        rw [Sem.run_bind, sliceAt_eq (fun n e => by rw [ht]; simp) ht]
        simp only [Instr.slice, Sem.run_bind, run_underlying ht, Result.andThen_ok, Option.isSome_none, Bool.false_eq_true, if_false, Sem.run_pure]
        have hsz : (ByteArray.mk s.toArray).size = s.length := by simp [ByteArray.size]
        rw [hsz, hb]
        simp only [Result.andThen_ok]
        congr 3
        apply ByteArray.ext
        apply Array.ext'
        simp [List.drop_take]
      · exact hk.elim
    · exact hk.elim
  · rename_i sz xs he
    rw [he] at hx
    split at hk
    · rename_i l hl
      split at hk
      · rename_i h' hh
        split at hk
        · rename_i hm
          obtain ⟨⟨ht, h0, h1, h2⟩, hk⟩ := hk
          obtain ⟨e, i, hte, hi', hsz⟩ := elI_of ht
          obtain ⟨ad, cap, hv, hc1, hc2⟩ := hx.sl_inv.len_inv
          have hr := hx.sl_inv
          rw [hv] at hr ⊢
          rw [hmx hm]
          have hb := run_sliceBounds2 (P := P) (w := w) true xs.length cap hc1 hl hh rlo rhi h0 h1 h2
          refine OpOk.val h hd ?_ (.imm _ _ (hr.sub (l := l.toNat) (h := h'.toNat) (by omega) (by omega))) hk
          rw [Sem.run_bind, sliceAt_eq (fun n e => by rw [hte]; simp) hte]
          simp only [Instr.slice, Sem.run_bind, run_underlying hte, Result.andThen_ok, hb, Go.sizeOf, typeInfo, run_program, hi', Sem.run_pure, hsz]
        · rename_i k m hm
          obtain ⟨⟨hs, ht, rfl, rfl, rfl⟩, hk⟩ := hk
          obtain ⟨e, i, hte, hi', hsz⟩ := elI_of ht
          obtain ⟨ad, cap, hv, hc1, hc2⟩ := hx.sl_inv.len_inv
          rw [hv]
          rcases rhi with ⟨e1, _⟩ | ⟨y, vy, e1, e2, hr⟩
          · rw [Option.isNone_iff_eq_none] at e1; rw [e1] at hs; cases hs
          · rcases rmx with ⟨e3, _⟩ | ⟨y', vy', e3, e4, hr'⟩
            · rw [hm] at e3; cases e3
            · rw [e1] at hh
              cases y <;> simp only [bnd, Option.some.injEq, reduceCtorEq] at hh
              subst hh
              rw [hm] at e3; cases e3
              rw [e2, e4, hr.int_inv, hr'.int_inv]
              have hb := run_sliceBounds3 (P := P) (w := w) true xs.length cap (k := ‹_›) (k' := k) hl rlo
              refine ⟨_, .slice ad 0 0, w, G, .own sz [], st, ?_, .inl rfl, Below.refl _ _, hk, rfl, h.putO hd fun _ _ => .inl ⟨rfl, _, rfl⟩⟩
              rw [Sem.run_bind, sliceAt_eq (fun n e => by rw [hte]; simp) hte]
              simp only [Instr.slice, Sem.run_bind, run_underlying hte, Result.andThen_ok, hb, Go.sizeOf, typeInfo, run_program, hi', Sem.run_pure, if_true, Nat.sub_self]
        · exact hk.elim
      · exact hk.elim
    · exact hk.elim
  · rename_i he
    rw [he] at hx
    rw [hx.nil_inv]
    split at hk
    · rename_i l hl
      split at hk
      · rename_i h' hh
        split at hk
        · rename_i hm
          obtain ⟨⟨ht, rfl, rfl⟩, hk⟩ := hk
          obtain ⟨sz, ht⟩ := Option.isSome_iff_exists.1 ht
          obtain ⟨e, i, hte, hi', hsz, _⟩ := elI_inv (show elI P t = some (sz.1, sz.2) from ht)
          rw [hmx hm]
          have hb := run_sliceBounds2 (P := P) (w := w) true 0 0 (Nat.le_refl _) hl hh rlo rhi (by omega) (by omega) (by omega)
          refine OpOk.val h hd (v := .slice none 0 0) ?_ (.imm _ _ .nil) hk
          rw [Sem.run_bind, sliceAt_eq (fun n e => by rw [hte]; simp) hte]
          simp [Instr.slice, Sem.run_bind, run_underlying hte, Result.andThen_ok, hb, Go.sizeOf, typeInfo, run_program, hi', Sem.run_pure]
        · rename_i k m hm
          obtain ⟨⟨hs, ht, rfl, rfl, rfl⟩, hk⟩ := hk
          obtain ⟨sz, ht⟩ := Option.isSome_iff_exists.1 ht
          obtain ⟨e, i, hte, hi', hsz, _⟩ := elI_inv (show elI P t = some (sz.1, sz.2) from ht)
          rcases rhi with ⟨e1, _⟩ | ⟨y, vy, e1, e2, hr⟩
          · rw [Option.isNone_iff_eq_none] at e1; rw [e1] at hs; cases hs
          · rcases rmx with ⟨e3, _⟩ | ⟨y', vy', e3, e4, hr'⟩
            · rw [hm] at e3; cases e3
            · rw [e1] at hh
              cases y <;> simp only [bnd, Option.some.injEq, reduceCtorEq] at hh
              subst hh
              rw [hm] at e3; cases e3
              rw [e2, e4, hr.int_inv, hr'.int_inv]
              have hb := run_sliceBounds3 (P := P) (w := w) true 0 0 (k := ‹_›) (k' := k) hl rlo
              refine OpOk.val h hd (v := .slice none 0 0) ?_ (.imm _ _ .nil) hk
              rw [Sem.run_bind, sliceAt_eq (fun n e => by rw [hte]; simp) hte]
              simp [Instr.slice, Sem.run_bind, run_underlying hte, Result.andThen_ok, hb, Go.sizeOf, typeInfo, run_program, hi', Sem.run_pure]
        · exact hk.elim
      · exact hk.elim
    · exact hk.elim
  · exact hk.elim
end
end AH
