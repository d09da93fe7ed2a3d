/- Proved here: for every input the law AutotuneCompares returns true and its arguments read afterwards as they read before; the listed package-level variables are tied to the program's text. -/
import Derived.Test.YthgcadgcecbicaaGreatDoorZd3
import Derived.Test.YthgcadgcecbicaaGreatDoorRows
import Derived.Test.YthgcadgcecbicaaGreatDoorTie
import Derived.Test.YthgcadgcecbicaaGreatDoorCards
import Derived.WalkKit
import Derived.ProofKit
import Derived.Handy
import Derived.Lay
import Derived.SevenTiedAt
namespace Go.Proofs.YthgcadgcecbicaaGreatDoor
open Go HX Go.RowKit Go.ChangeShapes Go.WideShapes Go.ChangeAt

theorem own : ownKnob Tryz.prog.godebug = none := by kernel_rfl
theorem lawOk : LawOk Tryz.prog Tryz.f4 4 := ⟨by kernel_rfl, by kernel_rfl, by kernel_rfl, by kernel_rfl⟩
theorem u3 : Tryz.prog.underlying 3 = some (.int .i64) := by kernel_rfl

/- the laid table -/
theorem g0 : Tryz.prog.globalNamed "strings.asciiSpace" = some 0 := by kernel_rfl
theorem g0t : (Tryz.prog.globals[0]?).map (·.type) = some 235 := by kernel_rfl
theorem u235 : ∃ e, Tryz.prog.underlying 235 = some (.array 256 e) ∧ Tryz.prog.cellsOf e = 1 ∧ Tryz.prog.underlying e = some (.int .u8) := ⟨5, by kernel_rfl, by kernel_rfl, by kernel_rfl⟩
theorem u29 : ∃ fs, Tryz.prog.underlying 29 = some (.struct fs) := ⟨_, Tryz.underlying29⟩
def litOf {H : Type} : AV → DataW H
  | .int k n => .lit (.int k n)
  | _ => .nil
def valOf : AV → Value
  | .int k n => .int k n
  | _ => Go.undef
theorem spaces_len : spaces.length = 256 := by kernel_rfl
theorem spaces_int : (spaces.all fun x => match x with | .int .u8 _ => true | _ => false) = true := by kernel_rfl
theorem laid_eq : (Rows.laid_strings_asciiSpace : DataW Unit) = .agg (spaces.map litOf) := by kernel_rfl

theorem cells_of_laid {W : World} (h : laidMetH Tryz.prog [("unicode.White_Space", Rows.laid_unicode_White_Space), ("strings.asciiSpace", Rows.laid_strings_asciiSpace)] W) (j : Nat) (x : AV) (hx : spaces[j]? = some x) : W.cell? ⟨0, j, none⟩ = some (valOf x) ∧ ∃ n, x = .int .u8 n := by
  rw [MakeChecks.laidMetH_plain _ _ _ (by kernel_rfl)] at h
  obtain ⟨ps, hl, _, _⟩ := h
  obtain ⟨_, _, _, _, _, q, _, _, _, _, hl2, _⟩ := hl
  obtain ⟨g, t, cs, fuel, p, q2, e1, e2, e3, e4, _, _⟩ := hl2
  rw [g0] at e1
  cases e1
  rw [g0t] at e2
  cases e2
  obtain ⟨e, ue, ce, ui⟩ := u235
  obtain ⟨xs, m, rfl, hxe, hcl, hxl, hel⟩ := DataW.trod_array ue e4
  rw [World.var?_cell g0 e3 j]
  have hj : j < 256 := by rw [← spaces_len]; exact (List.getElem?_eq_some_iff.1 hx).1
  have h1 := hel j hj
  rw [ce] at h1
  have hxj : xs[j]? = some (xs[j]'(by omega)) := List.getElem?_eq_getElem (by omega)
  rw [hxj] at h1
  obtain ⟨n, h2, h3, _⟩ := DataW.trod_int ui h1
  have h4 : (xs.map (·.1))[j]? = some (.lit (.int .u8 n)) := by rw [List.getElem?_map, hxj, Option.map_some, h3]
  have h5 : (.agg (spaces.map litOf) : DataW Unit) = .agg (xs.map (·.1)) := by rw [← laid_eq]; exact congrArg Prod.fst hxe
  have h6 : spaces.map litOf = xs.map (·.1) := by injection h5
  rw [← h6, List.getElem?_map, hx, Option.map_some] at h4
  have hi := List.all_eq_true.1 spaces_int x (List.mem_of_getElem? hx)
  have hxn : ∃ k, x = .int .u8 k := by
    split at hi
    · exact ⟨_, rfl⟩
    · cases hi
  obtain ⟨k, rfl⟩ := hxn
  simp only [litOf, Option.some.injEq, DataW.lit.injEq, Lit.int.injEq, true_and] at h4
  subst h4
  refine ⟨?_, k, rfl⟩
  have h7 := congrArg (·[0]?) h2
  simp only [Nat.mul_one, List.getElem?_take, List.getElem?_drop, Nat.add_zero] at h7
  simpa [valOf] using h7

theorem gls_ok {W : World} (h : laidMetH Tryz.prog [("unicode.White_Space", Rows.laid_unicode_White_Space), ("strings.asciiSpace", Rows.laid_strings_asciiSpace)] W) (g : Nat) : RelI (HV.full W) (gls g) (.pointer (some ⟨g, 0, none⟩)) := by
  unfold gls
  cases hg : Nat.beq g 0 with
  | false => exact .undef _
  | true =>
    obtain rfl := Nat.eq_of_beq_eq_true hg
    have hx0 : ∀ (i : Nat) (x : AV), [AV.agg spaces][i]? = some x → i = 0 ∧ x = .agg spaces := fun i x hx => by
      cases i with
      | zero => simp at hx; exact ⟨rfl, hx.symm⟩
      | succ i => simp at hx
    refine RelI.ip 256 [.agg spaces] 0 0 0 0 (fun _ j => valOf (spaces[j]?.getD .undef)) (by decide) (by decide) (fun i x hx => ?_) (fun i x j c hx hc => ?_) (fun i x j c hx hc => ?_)
    · obtain ⟨rfl, rfl⟩ := hx0 i x hx
      exact spaces_len
    · obtain ⟨rfl, rfl⟩ := hx0 i x hx
      have hc : spaces[j]? = some c := hc
      obtain ⟨h1, n, rfl⟩ := cells_of_laid h j c hc
      rw [hc]
      refine ⟨?_, rfl⟩
      show W.cell? ⟨0, 0 + 0 * 256 + j, none⟩ = _
      rw [show 0 + 0 * 256 + j = j by omega]
      exact h1
    · obtain ⟨rfl, rfl⟩ := hx0 i x hx
      have hc : spaces[j]? = some c := hc
      obtain ⟨h1, n, rfl⟩ := cells_of_laid h j c hc
      rw [hc]
      exact .int _ _

section
variable {H : Type} (enc : TypeId × Value → H) (w : World) (base : Nat) (spare : Nat → Bool) (held : Bool)
theorem reads29 (n : Nat) : Reads enc Tryz.prog w base spare held n 29 (fun r : Cost => r.av.cells) (fun _ _ => True) :=
  ((reads_struct (n := n) Tryz.underlying29 (by kernel_rfl) (freads_cons (reads_int n u3) (freads_cons (reads_int n u3) (freads_cons (reads_int n u3) (freads_cons (reads_int n u3) (freads_cons (reads_int n u3) (freads_nil n))))))).to
    (fun x => Cost.mk x.1 x.2.1 x.2.2.1 x.2.2.2.1 x.2.2.2.2.1) (fun _ => rfl) (fun _ _ _ => trivial)).le (Nat.le_succ n)
end

theorem relAgg {K : HV} {xs : List AV} {cs : Array Value} (h : RelL K xs cs.toList) : RelI K (.agg xs) (.agg cs) := by
  refine .agg xs cs (by simpa using h.1) (fun v hv => ?_) (fun j c v hc hv => (h.2 j c v hc (by simpa using hv)).2)
  obtain ⟨j, hj, rfl⟩ := Array.mem_iff_getElem.1 hv
  have hl : j < xs.length := by have := h.1; simp at this; omega
  obtain ⟨h1, h2⟩ := h.2 j xs[j] cs[j] (List.getElem?_eq_getElem hl) (by simp [hj])
  exact h2.oneCell h1

set_option maxRecDepth 100000 in
theorem contract (H : Type) (enc : TypeId × Value → H) (W : World) (base : Nat) (args : Array Value) (ds gs : List (DataW H)) (before : List MemPlace)
    (hval : ∀ (j : Nat) t v, Tryz.f4.params[j]? = some t → args[j]? = some v → Value.okWide Tryz.prog W .any base t v)
    (hW : DataW.Whole enc Tryz.prog Tryz.f4.params.toList Rows.autotuneComparesSpec.vars false W args.toList ds gs before)
    (hL : laidMetH Tryz.prog [("unicode.White_Space", Rows.laid_unicode_White_Space), ("strings.asciiSpace", Rows.laid_strings_asciiSpace)] W) :
    Calls Tryz.prog 4 args W fun e W' => ∃ v, e = .returned v ∧ Rows.autotuneComparesSpec.post enc Tryz.prog Tryz.f4 false true false false W args v W' := by
  have hW' := hW
  obtain ⟨p, q, hA0, hV, rfl, hfz, hnd⟩ := hW
  have hA : DataW.TrodAll enc Tryz.prog W 0 (fun _ => true) true Tryz.f4.params.toList args.toList ds p := hA0
  rw [Tryz.params4] at hA hval
  obtain ⟨v0, vs0, d0, ds0, p0, q0, hargs0, rfl, rfl, h0, r0⟩ := trodAll_cons hA
  obtain ⟨v1, vs1, d1, ds1, p1, q1, hargs1, rfl, rfl, h1, r1⟩ := trodAll_cons r0
  obtain ⟨v2, vs2, d2, ds2, p2, q2, hargs2, rfl, rfl, h2, r2⟩ := trodAll_cons r1
  obtain ⟨rfl, rfl, rfl⟩ := trodAll_nil r2
  obtain rfl : args = #[v0, v1, v2] := by cases args; simp_all
  obtain ⟨rfl, rfl⟩ := trodVars_none hV
  obtain ⟨fs, hfs⟩ := u29
  obtain ⟨c0, rfl, _⟩ := okWide_struct hfs (hval 0 29 v0 rfl rfl)
  obtain ⟨c1, rfl, _⟩ := okWide_struct hfs (hval 1 29 v1 rfl rfl)
  obtain ⟨c2, rfl, _⟩ := okWide_struct hfs (hval 2 29 v2 rfl rfl)
  obtain ⟨x, _, hx⟩ := Reads.arg (reads29 enc W 0 (fun _ => true) true) h0
  obtain ⟨y, _, hy⟩ := Reads.arg (reads29 enc W 0 (fun _ => true) true) h1
  obtain ⟨z, _, hz⟩ := Reads.arg (reads29 enc W 0 (fun _ => true) true) h2
  refine (law_calls (cmp_ok x y z) rfl (gls_ok hL) fun j t v ht hv => ?_).mono fun e W' ⟨he, hb⟩ => ⟨_, he, post_true lawOk rfl hW' rfl hb⟩
  match j with
  | 0 => cases ht; cases hv; exact relAgg hx
  | 1 => cases ht; cases hv; exact relAgg hy
  | 2 => cases ht; cases hv; exact relAgg hz
  | j + 3 => cases ht

set_option maxRecDepth 100000 in
theorem lifted (os : Os) (started : os.Started) (H : Type) (enc : TypeId × Value → H) :
    ReturnsInHanded {} Tryz.checked os 4 .any (fun w args => (Rows.autotuneComparesSpec.pre enc Tryz.prog Tryz.f4 [] false w args ∧ laidMetH Tryz.prog [("unicode.White_Space", Rows.laid_unicode_White_Space), ("strings.asciiSpace", Rows.laid_strings_asciiSpace)] w) ∧ sizedMet enc Tryz.prog Tryz.f4 (OpenSpec.ofChange Rows.autotuneComparesSpec) false w args)
      (Rows.autotuneComparesSpec.post enc Tryz.prog Tryz.f4 false true false false) := by
  refine returnsInHanded_of_change_and (C := Tryz.checked) (X := fun w _ => laidMetH Tryz.prog [("unicode.White_Space", Rows.laid_unicode_White_Space), ("strings.asciiSpace", Rows.laid_strings_asciiSpace)] w) (fun _ _ _ hh h => h.of_heap hh) own started (by kernel_rfl) Tryz.func4
    (ChangeSpec.witness_shaped (enc := enc) (C := Tryz.checked) (os := os) (X := fun w _ => laidMetH Tryz.prog [("unicode.White_Space", Rows.laid_unicode_White_Space), ("strings.asciiSpace", Rows.laid_strings_asciiSpace)] w) false (World.laidAll Tryz.prog os [("unicode.White_Space", Rows.laid_unicode_White_Space), ("strings.asciiSpace", Rows.laid_strings_asciiSpace)])
      #[.agg #[.int .i64 0, .int .i64 0, .int .i64 0, .int .i64 0, .int .i64 0], .agg #[.int .i64 0, .int .i64 0, .int .i64 0, .int .i64 0, .int .i64 0], .agg #[.int .i64 0, .int .i64 0, .int .i64 0, .int .i64 0, .int .i64 0]] 8 (World.laidAll_os _ _ _)
      (World.shaped_of_ZipB (by kernel_rfl) (by kernel_rfl)) (by kernel_rfl) (by kernel_rfl) (by kernel_rfl)
      (by rw [MakeChecks.laidMetH_plain _ _ _ (by kernel_rfl)]; exact laidMet_laidAll _ (by kernel_rfl) (by kernel_rfl))) ?_
  intro W base args ds gs before hval hW _ _ hL _
  exact contract H enc W base args ds gs before hval hW hL

theorem row_holds : Rows.AutotuneComparesSaid :=
  OpenClaim.holds_of_wide 4 Tryz.f4 rfl rfl rfl rfl rfl rfl rfl ⟨rfl, rfl, rfl, rfl, rfl⟩ rfl rfl rfl rfl rfl (by kernel_rfl) Tryz.func4 (by kernel_rfl)
    (of_decide_eq_true (by kernel_rfl)) (by unfold Func.isWrapper; first | (rw [if_pos (by decide +kernel)]; kernel_rfl) | (rw [if_neg (by decide +kernel)]; exact ⟨rfl, rfl⟩))
    (fun os started H enc _ => lifted os started H enc)

theorem proved : Rows.AutotuneComparesCardSaid :=
  Claim7.holds_tied_plain_at .later [] [.listed, .data] true (true, "8b8d47125db29c17cc83c8e8d9d06d4e49f68cbdfefc67b46d0d0144e5fdb967") false row_holds (fun _ h => by cases h) (by kernel_rfl) (fun _ h => by cases h) autotuneCompares_row_tie rfl ⟨rfl, rfl⟩ (by kernel_rfl) rfl
    (fun f fn hf hfn => by
      obtain rfl : f = 4 := Option.some.inj ((show Tryz.prog.funcNamed "brocade/brocadelaw45.AutotuneCompares" = some 4 by kernel_rfl).symm.trans hf) |>.symm
      obtain rfl : fn = Tryz.f4 := (Option.some.inj (Tryz.func4.symm.trans hfn)).symm
      exact ⟨by kernel_rfl, fun j t ht => by
        rw [Tryz.params4] at ht
        have hm : t ∈ [29, 29, 29] := by simpa using Array.mem_of_getElem? ht
        have hall : ([29, 29, 29].all fun u => !Tryz.prog.wantsStandIn u) = true := by kernel_rfl
        exact (show Tryz.prog.wantsStandIn t = false by simpa using List.all_eq_true.1 hall t hm)⟩)
    (by kernel_rfl)
#print axioms proved
end Go.Proofs.YthgcadgcecbicaaGreatDoor
