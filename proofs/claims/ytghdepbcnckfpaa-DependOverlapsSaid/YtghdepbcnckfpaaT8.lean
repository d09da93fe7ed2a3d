/- Proved here: for every input the law DependOverlaps returns true and its arguments read afterwards as they read before. There is no condition. -/
import Derived.Test.YtghdepbcnckfpaaT7
import Derived.Test.YtghdepbcnckfpaaAhClose
import Derived.Test.YtghdepbcnckfpaaRows
namespace Go.Proofs.Ytghdepbcnckfpaa
open Go AH Go.RowKit Go.ChangeShapes Go.WideShapes Go.ChangeAt

theorem own : ownKnob Try.prog.godebug = none := by kernel_rfl
theorem u22 : Try.prog.underlying 22 = some (.slice 26) := by kernel_rfl
theorem u9 : Try.prog.underlying 9 = some .string := by kernel_rfl
theorem u3 : Try.prog.underlying 3 = some (.int .i64) := by kernel_rfl
theorem c26 : Try.prog.cellsOf 26 = 3 := by kernel_rfl
theorem lawOk : LawOk Try.prog Try.f3 4 := ⟨by kernel_rfl, by kernel_rfl, by kernel_rfl, by kernel_rfl⟩


section
variable {H : Type} (enc : TypeId × Value → H) (w : World) (base : Nat) (spare : Nat → Bool) (held : Bool)

theorem reads26 (n : Nat) : Reads enc Try.prog w base spare held n 26 (fun r : Region => (encR r).cells) (fun _ _ => True) :=
  ((reads_struct (n := n) Try.underlying26 (by kernel_rfl) (freads_cons (reads_string n u9) (freads_cons (reads_int n u3) (freads_cons (reads_int n u3) (freads_nil n))))).to
    (fun x => Region.mk x.1 x.2.1 x.2.2.1) (fun _ => rfl) (fun _ _ _ => trivial)).le (Nat.le_succ n)

theorem reads22 (n : Nat) : Reads enc Try.prog w base spare held n 22 (fun l : List Region => [regs l]) (SliceI fun _ _ => True) :=
  (reads_slice encR u22 c26 (by decide) (fun _ => rfl) (reads26 enc w base spare held n)).le (Nat.le_succ n)
end

theorem contract (H : Type) (enc : TypeId × Value → H) (W : World) (base : Nat) (args : Array Value) (ds gs : List (DataW H)) (before : List MemPlace)
    (hval : ∀ (j : Nat) t v, Try.f3.params[j]? = some t → args[j]? = some v → Value.okWide Try.prog W .any base t v)
    (hW : DataW.Whole enc Try.prog Try.f3.params.toList Rows.dependOverlapsSpec.vars false W args.toList ds gs before) :
    Calls Try.prog 3 args W fun e W' => ∃ v, e = .returned v ∧ Rows.dependOverlapsSpec.post enc Try.prog Try.f3 false true false false W args v W' := by
  have hW' := hW
  obtain ⟨p, q, hA0, hV, rfl, hfz, hnd⟩ := hW
  have hA : DataW.TrodAll enc Try.prog W 0 (fun _ => true) true Try.f3.params.toList args.toList ds p := hA0
  rw [Try.params3] at hA hval
  obtain ⟨v0, vs0, d0, ds0, p0, q0, hargs0, rfl, rfl, h0, r0⟩ := trodAll_cons hA
  obtain ⟨v1, vs1, d1, ds1, p1, q1, hargs1, rfl, rfl, h1, r1⟩ := trodAll_cons r0
  obtain ⟨rfl, rfl, rfl⟩ := trodAll_nil r1
  obtain rfl : args = #[v0, v1] := by cases args; simp_all
  obtain ⟨rfl, rfl⟩ := trodVars_none hV
  obtain ⟨a0, l0, c0, rfl⟩ := okWide_slice u22 (hval 0 22 v0 rfl rfl)
  obtain ⟨a1, l1, c1, rfl⟩ := okWide_slice u22 (hval 1 22 v1 rfl rfl)
  obtain ⟨x, _, hx⟩ := Reads.arg (reads22 enc W 0 (fun _ => true) true) h0
  obtain ⟨y, _, hy⟩ := Reads.arg (reads22 enc W 0 (fun _ => true) true) h1
  refine (law_calls (law_ok x y) rfl fun j z v hz hv => ?_).mono fun e W' ⟨he, hb⟩ => ⟨_, he, post_true lawOk rfl hW' rfl hb⟩
  match j with
  | 0 => cases hz; cases hv; exact hx.val1 (fun _ e => by cases e)
  | 1 => cases hz; cases hv; exact hy.val1 (fun _ e => by cases e)
  | j + 2 => cases hz

set_option maxRecDepth 100000 in
theorem lifted (os : Os) (started : os.Started) (H : Type) (enc : TypeId × Value → H) :
    ReturnsInHanded {} Try.checked os 3 .any (Rows.dependOverlapsSpec.pre6 enc Try.prog Try.f3 Rows.dependOverlapsRow.domain false) (Rows.dependOverlapsSpec.post enc Try.prog Try.f3 false true false false) := by
  refine returnsInHanded_of_change (C := Try.checked) own started (by kernel_rfl) Try.func3
    (ChangeSpec.witness6 (enc := enc) (C := Try.checked) false ⟨#[], #[.slice none 0 0, .slice none 0 0], []⟩ 8 (by kernel_rfl) (by kernel_rfl) (by kernel_rfl) (by kernel_rfl)) ?_
  intro W base args ds gs before hval hW _ _
  exact contract H enc W base args ds gs before hval hW

theorem proved : Rows.DependOverlapsSaid :=
  OpenClaim.holds_of_wide 3 Try.f3 rfl rfl rfl rfl rfl rfl rfl ⟨rfl, rfl, rfl, rfl, rfl⟩ rfl rfl rfl rfl rfl (by kernel_rfl) Try.func3 (by kernel_rfl)
    (of_decide_eq_true (by kernel_rfl)) (by unfold Func.isWrapper; first | (rw [if_pos (by decide +kernel)]; kernel_rfl) | (rw [if_neg (by decide +kernel)]; exact ⟨rfl, rfl⟩))
    (fun os started H enc _ => lifted os started H enc)
#print axioms proved
end Go.Proofs.Ytghdepbcnckfpaa
