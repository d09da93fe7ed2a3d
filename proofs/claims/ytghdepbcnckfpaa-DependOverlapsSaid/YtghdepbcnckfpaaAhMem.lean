/- Reading: loads, fields, indexes, parts. -/
import Derived.Test.YtghdepbcnckfpaaAhOps
namespace AH
open Go Go.RowKit

def aggD : TypeDesc → Bool
  | .struct _ | .array _ _ => true
  | _ => false

/-- A type's number of cells, and whether its values are aggregates. -/
def tyI (P : Program) (t : TypeId) : Option (Nat × Bool) :=
  match P.info? t with
  | some i => (P.underlying t).map fun d => (i.size, aggD d)
  | none => none

/-- A field's place, its number of cells, and whether it is an aggregate. -/
def fldI (P : Program) (s : TypeId) (f : Nat) : Option (Nat × Nat × Bool) :=
  match P.underlying s with
  | some (.struct fs) => match fs[f]? with
    | some fl => (tyI P fl.type).map fun x => (fl.offset, x.1, x.2)
    | none => none
  | _ => none

/-- A slice type's element: its number of cells and its bytes. -/
def elI (P : Program) (t : TypeId) : Option (Nat × Nat) :=
  match P.underlying t with
  | some (.slice e) => (P.info? e).map fun i => (i.size, i.bytes)
  | _ => none

section
variable {P : Program} {w : World}

theorem tyI_inv {t : TypeId} {n : Nat} {g : Bool} (h : tyI P t = some (n, g)) : ∃ i d, P.info? t = some i ∧ P.underlying t = some d ∧ i.size = n ∧ aggD d = g := by
  unfold tyI at h
  split at h
  · rename_i i hi
    simp only [Option.map_eq_some_iff, Prod.mk.injEq] at h
    obtain ⟨d, hd, e1, e2⟩ := h
    exact ⟨i, d, hi, hd, e1, e2⟩
  · cases h

theorem run_isAgg' {t : TypeId} {n : Nat} {g : Bool} (h : tyI P t = some (n, g)) : (isAgg t).run P w = .ok g w := by
  obtain ⟨i, d, hi, hd, e1, e2⟩ := tyI_inv h
  subst e2
  unfold isAgg
  simp only [Sem.run_bind, run_underlying hd, Result.andThen_ok]
  cases d <;> simp [aggD]

theorem run_sizeOf' {t : TypeId} {n : Nat} {g : Bool} (h : tyI P t = some (n, g)) : (Go.sizeOf t).run P w = .ok n w := by
  obtain ⟨i, d, hi, hd, e1, e2⟩ := tyI_inv h
  simp [Go.sizeOf, typeInfo, hi, e1]

theorem fldI_inv {s : TypeId} {f o n : Nat} {g : Bool} (h : fldI P s f = some (o, n, g)) : ∃ fs fl, P.underlying s = some (.struct fs) ∧ fs[f]? = some fl ∧ fl.offset = o ∧ tyI P fl.type = some (n, g) := by
  unfold fldI at h
  split at h
  · rename_i fs hs
    split at h
    · rename_i fl hf
      simp only [Option.map_eq_some_iff, Prod.mk.injEq] at h
      obtain ⟨⟨a, b⟩, hd, e1, e2, e3⟩ := h
      exact ⟨fs, fl, hs, hf, e1, by rw [hd]; simp at e2 e3; rw [e2, e3]⟩
    · cases h
  · cases h

theorem elI_inv {t : TypeId} {n by_ : Nat} (h : elI P t = some (n, by_)) : ∃ e i, P.underlying t = some (.slice e) ∧ P.info? e = some i ∧ i.size = n ∧ i.bytes = by_ := by
  unfold elI at h
  split at h
  · rename_i e he
    simp only [Option.map_eq_some_iff, Prod.mk.injEq] at h
    obtain ⟨i, hi, e1, e2⟩ := h
    exact ⟨e, i, he, hi, e1, e2⟩
  · cases h

theorem add_none (b o n : Nat) : (⟨b, o, none⟩ : Addr).add n = ⟨b, o + n, none⟩ := by
  unfold Addr.add
  split
  · rename_i h; subst h; rfl
  · rfl

theorem run_fieldPlace' {fl : Field} {n : Nat} {g : Bool} (h : tyI P fl.type = some (n, g)) (hn : n ≠ 0) (b o : Nat) : (fieldPlace ⟨b, o, none⟩ fl).run P w = .ok ⟨b, o + fl.offset, none⟩ w := by
  simp only [fieldPlace, Sem.run_bind, run_sizeOf' h, Result.andThen_ok, if_neg hn, Sem.run_pure, add_none]

theorem run_part' {t : TypeId} {n : Nat} {g : Bool} (h : tyI P t = some (n, g)) (cs : Array Value) (off : Nat) :
    (part t cs off).run P w = if g then .ok (.agg (cs.extract off (off + n))) w else match cs[off]? with | some v => .ok v w | none => .halt (.stuck "part: no such cell") w := by
  simp only [part, Sem.run_bind, run_isAgg' h, Result.andThen_ok]
  cases g
  · simp only [Bool.false_eq_true, if_false]
    cases cs[off]? <;> rfl
  · simp only [if_true, Sem.run_bind, run_sizeOf' h, Result.andThen_ok, Sem.run_pure]

/-- A load, off a row whose cells are known. -/
theorem run_loadAt' {t : TypeId} {n : Nat} {g : Bool} (h : tyI P t = some (n, g)) (b o : Nat) (val : Nat → Value) (hv : ∀ j, j < (if g then n else 1) → w.cell? ⟨b, o + j, none⟩ = some (val j)) :
    (Instr.loadAt t (.pointer (some ⟨b, o, none⟩))).run P w = .ok (if g then .agg ((List.range n).map val).toArray else val 0) w := by
  simp only [Instr.loadAt, Instr.sureAddr, loadVar, Sem.run_bind, Sem.run_pure, Result.andThen_ok, run_isAgg' h]
  cases g
  · have := hv 0 (by simp)
    simp only [Nat.add_zero] at this
    simp [this]
  · simp only [if_true, Sem.run_bind, run_sizeOf' h, Result.andThen_ok]
    rw [run_loadCells w ⟨b, o, none⟩ n val (fun j hj => by rw [add_none]; exact hv j (by simpa using hj))]
    rfl
end

/-- What a load of cells off an element gives, as a value and as an abstract value. -/
theorem partD_rel {H : HV} {io : Nat → Option Nat} {x : AV} {n off : Nat} {g : Bool} {val : Nat → Value} (hl : off + (if g then n else 1) ≤ x.cells.length)
    (hc : ∀ (j : Nat) (c : AV), x.cells[j]? = some c → Rel0 H io c (val j)) (h1 : ∀ (j : Nat) (c : AV), x.cells[j]? = some c → (val j).oneCell' = true) :
    Rel0 H io (partD g n off x) (if g then .agg ((List.range n).map fun j => val (off + j)).toArray else val off) := by
  cases g
  · simp only [Bool.false_eq_true, if_false] at hl
    have hx : x.cells[off]? = some (x.cells[off]'(by omega)) := List.getElem?_eq_getElem (by omega)
    simp only [partD, Bool.false_eq_true, if_false, hx, Option.getD_some]
    exact hc off _ hx
  · simp only [if_true] at hl
    simp only [partD, if_true]
    refine .agg _ _ (by simp; omega) (fun v hv => ?_) fun j c v hj hv => ?_
    · simp only [List.mem_toArray, List.mem_map, List.mem_range] at hv
      obtain ⟨j, hj, rfl⟩ := hv
      exact h1 _ _ (List.getElem?_eq_getElem (by omega : off + j < x.cells.length))
    rw [List.getElem?_take] at hj
    split at hj
    · rename_i hjn
      rw [List.getElem?_drop] at hj
      simp [hjn] at hv
      subst hv
      exact hc _ _ hj
    · cases hj

theorem RelI.ip_inv {H : HV} {sz : Nat} {xs : List AV} {i off : Nat} {v : Value} (h : RelI H (.ip sz xs i off) v) :
    ∃ (b o : Nat) (val : Nat → Nat → Value), v = .pointer (some ⟨b, o + i * sz + off, none⟩) ∧ 0 < sz ∧ i < xs.length ∧ (∀ (i : Nat) (x : AV), xs[i]? = some x → x.cells.length = sz) ∧
      (∀ (i : Nat) (x : AV) (j : Nat) (c : AV), xs[i]? = some x → x.cells[j]? = some c → H b (o + i * sz + j) = some (val i j) ∧ (val i j).oneCell' = true) ∧
      (∀ (i : Nat) (x : AV) (j : Nat) (c : AV), xs[i]? = some x → x.cells[j]? = some c → RelI H c (val i j)) := by
  cases h with
  | ip _ _ b o _ _ val h0 h1 h2 h3 h4 => exact ⟨b, o, val, rfl, h0, h1, h2, h3, h4⟩

theorem Rel0.ip_inv {H : HV} {io : Nat → Option Nat} {sz : Nat} {xs : List AV} {i off : Nat} {v : Value} (h : Rel0 H io (.ip sz xs i off) v) : RelI H (.ip sz xs i off) v := by
  cases h with | imm _ _ h => exact h
theorem Rel0.ptr_inv {H : HV} {io : Nat → Option Nat} {id sz i off : Nat} {v : Value} (h : Rel0 H io (.ptr id sz i off) v) : ∃ g, io id = some g ∧ v = .pointer (some ⟨g, i * sz + off, none⟩) := by
  cases h with
  | imm _ _ h => cases h
  | ptr _ _ _ _ g h => exact ⟨g, h, rfl⟩

section
variable {P : Program} {w : World} {H : HV} {io : Nat → Option Nat}

theorem load_ip {t : TypeId} {n : Nat} {g : Bool} (h : tyI P t = some (n, g)) (hs : HV.sat H w) {sz : Nat} {xs : List AV} {i off : Nat} {v : Value} (hv : RelI H (.ip sz xs i off) v)
    (hl : off + (if g then n else 1) ≤ sz) : ∃ u, (Instr.loadAt t v).run P w = .ok u w ∧ Rel0 H io (partD g n off ((xs[i]?).getD .undef)) u := by
  obtain ⟨b, o, val, rfl, h0, h1, h2, h3, h4⟩ := hv.ip_inv
  have hx : xs[i]? = some xs[i] := List.getElem?_eq_getElem h1
  have hlen := h2 i _ hx
  have := run_loadAt' (w := w) h b (o + i * sz + off) (fun j => val i (off + j)) (fun j hj => by
    have hj' : off + j < (xs[i]).cells.length := by omega
    have := h3 i _ (off + j) _ hx (List.getElem?_eq_getElem hj')
    rw [show o + i * sz + off + j = o + i * sz + (off + j) by omega]
    exact hs _ _ _ this.1)
  refine ⟨_, this, ?_⟩
  simp only [hx, Option.getD_some]
  exact partD_rel (val := val i) (by omega) (fun j c hc => .imm _ _ (h4 i _ j c hx hc)) fun j c hc => (h3 i _ j c hx hc).2

theorem fieldAt_ip {s : TypeId} {f o n : Nat} {g : Bool} (h : fldI P s f = some (o, n, g)) (hn : n ≠ 0) {sz : Nat} {xs : List AV} {i off : Nat} {v : Value} (hv : RelI H (.ip sz xs i off) v) :
    ∃ u, (Instr.fieldAt s v f).run P w = .ok u w ∧ RelI H (.ip sz xs i (off + o)) u := by
  obtain ⟨b, ob, val, rfl, h0, h1, h2, h3, h4⟩ := hv.ip_inv
  obtain ⟨fs, fl, hs, hf, ho, ht⟩ := fldI_inv h
  refine ⟨.pointer (some ⟨b, ob + i * sz + (off + o), none⟩), ?_, .ip sz xs b ob i (off + o) val h0 h1 h2 h3 h4⟩
  simp only [Instr.fieldAt, Sem.run_bind, run_underlying hs, Result.andThen_ok, hf, Instr.sureAddr, Sem.run_pure, run_fieldPlace' ht hn, ho, Nat.add_assoc]

theorem fieldAt_ptr {s : TypeId} {f o n : Nat} {g : Bool} (h : fldI P s f = some (o, n, g)) (hn : n ≠ 0) {id sz i off : Nat} {v : Value} (hv : Rel0 H io (.ptr id sz i off) v) :
    ∃ u, (Instr.fieldAt s v f).run P w = .ok u w ∧ Rel0 H io (.ptr id sz i (off + o)) u := by
  obtain ⟨gb, hg, rfl⟩ := hv.ptr_inv
  obtain ⟨fs, fl, hs, hf, ho, ht⟩ := fldI_inv h
  refine ⟨_, ?_, .ptr id sz i (off + o) gb hg⟩
  simp only [Instr.fieldAt, Sem.run_bind, run_underlying hs, Result.andThen_ok, hf, Instr.sureAddr, Sem.run_pure, run_fieldPlace' ht hn, ho, Nat.add_assoc]

theorem field_agg {s : TypeId} {f o n : Nat} {g : Bool} (h : fldI P s f = some (o, n, g)) {cs : List AV} {v : Value} (hv : Rel0 H io (.agg cs) v) (hl : o + (if g then n else 1) ≤ cs.length) :
    ∃ u, (Instr.field s v f).run P w = .ok u w ∧ Rel0 H io (partD g n o (.agg cs)) u := by
  obtain ⟨vs, rfl, hvs, h1, hc⟩ := hv.agg_inv
  obtain ⟨fs, fl, hs, hf, ho, ht⟩ := fldI_inv h
  have hr := partD_rel (x := .agg cs) (n := n) (off := o) (g := g) (val := fun j => vs.getD j Go.undef) (H := H) (io := io) hl (fun j c hj => by
    have hjl : j < vs.size := by rw [← hvs]; exact (List.getElem?_eq_some_iff.1 hj).1
    exact hc j c _ hj (by simp [Array.getD_eq_getD_getElem?, hjl])) (fun j c hj => by
    have hjl : j < vs.size := by rw [← hvs]; exact (List.getElem?_eq_some_iff.1 hj).1
    simp only [Array.getD_eq_getD_getElem?, hjl, Array.getElem?_eq_getElem, Option.getD_some]
    exact h1 _ (Array.getElem_mem hjl))
  refine ⟨_, ?_, hr⟩
  simp only [Instr.field, Sem.run_bind, run_underlying hs, Result.andThen_ok, hf, asAgg, Sem.run_pure, ho, run_part' ht]
  cases g
  · simp only [Bool.false_eq_true, if_false] at hl ⊢
    have : o < vs.size := by omega
    simp [Array.getD_eq_getD_getElem?, this]
  · simp only [if_true] at hl ⊢
    congr 2
    apply Array.ext
    · simp; omega
    · intro i h1 h2
      simp at h1 h2
      simp [Array.getD_eq_getD_getElem?, show o + i < vs.size by omega]

theorem indexAt_sl {t : TypeId} {n by_ : Nat} (h : elI P t = some (n, by_)) {xs : List AV} {v : Value} (hv : RelI H (.sl n xs) v) {k : IntKind} {i : Int} (h0 : 0 ≤ i) (h1 : i < xs.length) :
    ∃ u, (Instr.indexAt t v (.int k i)).run P w = .ok u w ∧ RelI H (.ip n xs i.toNat 0) u := by
  obtain ⟨e, inf, ht, hi, hn, _⟩ := elI_inv h
  have hi' : i.toNat < xs.length := by omega
  cases hv with
  | sl0 => simp at h1; omega
  | sl _ _ b o cap val hs hc hm h2 h3 h4 =>
    refine ⟨_, ?_, .ip n xs b o i.toNat 0 val hs hi' h2 h3 h4⟩
    have hlt : 0 ≤ i ∧ i < (xs.length : Int) := ⟨h0, h1⟩
    simp only [Instr.indexAt, asIntOf, Sem.run_bind, Sem.run_pure, Result.andThen_ok, run_underlying ht]
    simp only [hlt, and_self, if_true, Sem.run_bind, Go.sizeOf, typeInfo, run_program, Result.andThen_ok, hi, Sem.run_pure, hn, add_none, Nat.add_zero]
end
end AH
