/- The frame of the laws of schedules: arguments read, tables laid. -/
import Derived.Test.YtcphiogbjdehhaaDoorD12
import Derived.Test.YtcphiogbjdehhaaDoorHxCard
import Derived.Test.YtcphiogbjdehhaaDoorRows
import Derived.Test.YtcphiogbjdehhaaDoorTie
import Derived.Test.YtcphiogbjdehhaaDoorCards
namespace Go.Proofs.YtcphiogbjdehhaaDoor
open Go HX Go.RowKit Go.ChangeShapes Go.WideShapes Go.ChangeAt

theorem own : ownKnob Tryd.prog.godebug = none := by kernel_rfl
theorem u3 : Tryd.prog.underlying 3 = some (.int .i64) := by kernel_rfl
theorem u9 : Tryd.prog.underlying 9 = some .string := by kernel_rfl
theorem u27 : Tryd.prog.underlying 27 = some (.slice 9) := by kernel_rfl
theorem u22 : Tryd.prog.underlying 22 = some (.slice 29) := by kernel_rfl

def laidL : List (String × DataW Unit) := Rows.scheduleFormatsRow.laid

def spZ : List Int := List.replicate 9 0 ++ List.replicate 5 1 ++ List.replicate 18 0 ++ [1] ++ List.replicate 223 0
def p10Z : List Int := (List.range 20).map fun k => ((10 ^ k : Nat) : Int)
theorem sp_eq : spaces = spZ.map (.int .u8) := by kernel_rfl
theorem p10_eq : pow10s = p10Z.map (.int .u64) := by kernel_rfl
theorem laid_sp : Rows.laid_strings_asciiSpace = .agg (spZ.map (litZ .u8)) := by kernel_rfl
theorem laid_p10 : Rows.laid_internal_strconv_uint64pow10 = .agg (p10Z.map (litZ .u64)) := by kernel_rfl

theorem pos_of_blt {a b : Nat} (h : Nat.blt a b = true) : a < b := Nat.le_of_ble_eq_true h
theorem ml_some {W : World} (h : W.ShapedOpen Tryd.prog) : ∃ m, W.cell? ⟨0, 0, none⟩ = some (.int .i64 m) :=
  Go.Proofs.cell_of_shapedOpen_int (zero := #[.int .i64 0]) (t := 3) h (of_decide_eq_true (by kernel_rfl)) (by kernel_rfl) rfl (by kernel_rfl) (by kernel_rfl) u3

set_option maxRecDepth 100000 in
theorem gls_ok [ML] {W : World} (hm : W.cell? ⟨0, 0, none⟩ = some (.int .i64 ML.m)) (h : laidMetH Tryd.prog laidL W) (g : Nat) : RelI (HV.full W) (gls g) (.pointer (some ⟨g, 0, none⟩)) := by
  unfold gls
  cases h0 : Nat.beq g 0 with
  | true =>
    obtain rfl := Nat.eq_of_beq_eq_true h0
    exact tab_rel (k := .i64) (zs := [ML.m]) (by simp) fun j z hj => by
      cases j with
      | zero => cases hj; exact hm
      | succ j => simp at hj
  | false => cases h1 : Nat.beq g 1 with
    | true =>
      obtain rfl := Nat.eq_of_beq_eq_true h1
      have := tab_rel (W := W) (g := 1) (k := .u8) (zs := spZ) (pos_of_blt (by kernel_rfl)) fun j z hj => laid_cells h (by kernel_rfl) 5 (n := ((laidL[5]?).map (·.1)).getD default) (by rw [← laid_sp]; rfl) (g := 1) (t := 86) (e := 5) (by kernel_rfl) (by kernel_rfl) (by kernel_rfl) (by kernel_rfl) (by kernel_rfl) j z hj
      rw [← sp_eq] at this
      exact this
    | false => cases h2 : Nat.beq g 2 with
      | true =>
        obtain rfl := Nat.eq_of_beq_eq_true h2
        have := tab_rel (W := W) (g := 2) (k := .u64) (zs := p10Z) (pos_of_blt (by kernel_rfl)) fun j z hj => laid_cells h (by kernel_rfl) 2 (n := ((laidL[2]?).map (·.1)).getD default) (by rw [← laid_p10]; rfl) (g := 2) (t := 89) (e := 77) (by kernel_rfl) (by kernel_rfl) (by kernel_rfl) (by kernel_rfl) (by kernel_rfl) j z hj
        rw [← p10_eq] at this
        exact this
      | false => exact .undef _
theorem gv_ok [ML] {W : World} (h : W.ShapedOpen Tryd.prog) : GvOk gls W.heap.size W := fun g sz cs hg => by
  unfold gls at hg
  cases h0 : Nat.beq g 0 with
  | true =>
    obtain rfl := Nat.eq_of_beq_eq_true h0
    cases hg
    exact tab_gv h (g := 0) (n := 1) (zero := #[.int .i64 0]) (t := 3) (of_decide_eq_true (by kernel_rfl)) (by kernel_rfl) rfl
  | false => cases h1 : Nat.beq g 1 with
    | true =>
      obtain rfl := Nat.eq_of_beq_eq_true h1
      cases hg
      exact tab_gv h (g := 1) (n := 256) (zero := Array.replicate 256 (.int .u8 0)) (t := 86) (of_decide_eq_true (by kernel_rfl)) (by kernel_rfl) (by kernel_rfl)
    | false => cases h2 : Nat.beq g 2 with
      | true =>
        obtain rfl := Nat.eq_of_beq_eq_true h2
        cases hg
        exact tab_gv h (g := 2) (n := 20) (zero := Array.replicate 20 (.int .u64 0)) (t := 89) (of_decide_eq_true (by kernel_rfl)) (by kernel_rfl) (by kernel_rfl)
      | false => rw [h0, h1, h2] at hg; cases hg
  
/- the arguments -/
def StepIn (x : Step) : Prop := x.loop.length ≤ maxLen ∧ (-9223372036854775808 ≤ x.by_ ∧ x.by_ ≤ 9223372036854775807) ∧ x.names.length ≤ maxLen ∧ ∀ y ∈ x.names, y.length ≤ maxLen
theorem wf_i64 {n : Int} (h : (Lit.int .i64 n).wf = true) : -9223372036854775808 ≤ n ∧ n ≤ 9223372036854775807 := by
  have h1 : (decide (IntKind.i64.min ≤ n) && decide (n ≤ IntKind.i64.max)) = true := h
  have e1 : IntKind.i64.min = -9223372036854775808 := by decide
  have e2 : IntKind.i64.max = 9223372036854775807 := by decide
  rw [e1, e2] at h1
  simpa using h1
section
variable {H : Type} (enc : TypeId × Value → H) (w : World) (base : Nat) (spare : Nat → Bool) (held : Bool)
theorem reads27 (n : Nat) : Reads enc Tryd.prog w base spare held n 27 (fun l : List Str => [strsAV l]) (fun l _ => l.length ≤ maxLen ∧ ∀ y ∈ l, y.length ≤ maxLen) :=
  ((reads_slice (n := n) sAV u27 (sz := 1) (by kernel_rfl) (by decide) (fun _ => rfl) (reads_string n u9)).to (fun l => l) (fun _ => rfl) (fun l d h => ⟨h.1, fun y hy => by
    obtain ⟨i, hi⟩ := List.getElem?_of_mem hy
    rcases h.2 with ⟨rfl, _⟩ | ⟨el, sp, _, hl, he⟩
    · simp at hi
    · have hlt := (List.getElem?_eq_some_iff.1 hi).1
      exact (he i y _ hi (List.getElem?_eq_getElem (by omega))).1⟩)).le (Nat.le_succ n)
theorem reads29 (n : Nat) : Reads enc Tryd.prog w base spare held n 29 Step.cells (fun x _ => StepIn x) :=
  ((reads_struct (n := n) Tryd.underlying29 (by kernel_rfl) (freads_cons (reads_int n u3) (freads_cons (reads_string n u9) (freads_cons (reads_int n u3) (freads_cons (reads27 enc w base spare held n) (freads_nil n)))))).to
    (fun x => Step.mk x.1 x.2.1 x.2.2.1 x.2.2.2.1) (fun _ => rfl) (fun x d h => by
      obtain ⟨ds, _, d1, ds1, rfl, _, d2, ds2, rfl, h2, d3, ds3, rfl, h3, d4, ds4, rfl, h4, _⟩ := h
      exact ⟨h2.1, wf_i64 h3.1, h4.1, h4.2⟩)).le (Nat.le_succ n)
theorem reads22 (n : Nat) : Reads enc Tryd.prog w base spare held n 22 (fun l : List Step => [stepsAV l]) (fun l _ => l.length ≤ maxLen ∧ ∀ x ∈ l, StepIn x) :=
  ((reads_slice (n := n) Step.av u22 (sz := 4) (by kernel_rfl) (by decide) (fun _ => rfl) (reads29 enc w base spare held n)).to (fun l => l) (fun _ => rfl) (fun l d h => ⟨h.1, fun y hy => by
    obtain ⟨i, hi⟩ := List.getElem?_of_mem hy
    rcases h.2 with ⟨rfl, _⟩ | ⟨el, sp, _, hl, he⟩
    · simp at hi
    · have hlt := (List.getElem?_eq_some_iff.1 hi).1
      exact he i y _ hi (List.getElem?_eq_getElem (by omega))⟩)).le (Nat.le_succ n)
end
theorem maxLen_le : maxLen ≤ 9223372036854775807 := by unfold maxLen; omega
theorem inS_of {l : List Step} (h : l.length ≤ maxLen ∧ ∀ x ∈ l, StepIn x) : InS l := by
  have hm := maxLen_le
  refine ⟨⟨by have := h.1; omega, fun x hx => ?_⟩, fun x hx => (h.2 x hx).2.1.1, fun x hx => (h.2 x hx).2.1.2⟩
  obtain ⟨a1, _, a2, a3⟩ := h.2 x hx
  exact ⟨by omega, by omega, fun y hy => by have := a3 y hy; omega⟩
end Go.Proofs.YtcphiogbjdehhaaDoor
