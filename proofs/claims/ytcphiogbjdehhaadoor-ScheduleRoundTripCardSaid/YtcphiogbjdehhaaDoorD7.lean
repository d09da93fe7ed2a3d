/- Contracts of Go's library that cut strings. -/
import Derived.Test.YtcphiogbjdehhaaDoorD4
import Derived.Test.YtcphiogbjdehhaaDoorS5
namespace Go.Proofs.YtcphiogbjdehhaaDoor
open Go HX Go.IntWalk Go.RowKit Go.Sort
variable [ML]
set_option linter.unusedSectionVars false

theorem below_drew (w : World) (k : Nat) : Below w.heap.size w (w.drewN k) := ⟨rfl, rfl, rfl, Nat.le_refl _, fun _ _ => rfl⟩
theorem ml_cell {w : World} {H : HV} (hs : HV.sat H w) (hgl : ∀ g, RelI H (gls g) (.pointer (some ⟨g, 0, none⟩))) : w.cell? ⟨0, 0, none⟩ = some (.int .i64 ML.m) :=
  tab_cell hs (n := 1) (g := 0) (cs := [.int .i64 ML.m]) (hgl 0) (j := 0) rfl

theorem trim_dig (s : Str) : Lib.trimPrefix s [45] = digS s := by
  cases s with
  | nil => simp [Lib.trimPrefix, Lib.hasPrefix, digS]
  | cons a s =>
    by_cases h : a = 45
    · subst h; simp [Lib.trimPrefix, Lib.hasPrefix, digS]
    · have hp : ([45] : Str).isPrefixOf (a :: s) = false := by simp [List.isPrefixOf, Ne.symm h]
      simp [Lib.trimPrefix, Lib.hasPrefix, hp, digS, h]
theorem hasp_neg (s : Str) : Lib.hasPrefix s [45] = negS s := by
  cases s with
  | nil => simp [Lib.hasPrefix, negS]
  | cons a s =>
    by_cases h : a = 45
    · subst h; simp [Lib.hasPrefix, negS]
    · have hp : ([45] : Str).isPrefixOf (a :: s) = false := by simp [List.isPrefixOf, Ne.symm h]
      simp [Lib.hasPrefix, hp, negS, h]
theorem cutp_ok (s : Str) : Pu Tryd.prog gls 61 [.str s, .str [45]] (.tup [.str (digS s), .bool (negS s)]) :=
  Pu.ofCalls (ent 61 (by kernel_rfl)) fun m H w vs hs hgl hgv hl hargs => by
    obtain ⟨v, u, rfl⟩ := two_v hl
    obtain rfl := (hargs 0 _ v rfl rfl).str_inv
    obtain rfl := (hargs 1 _ u rfl rfl).str_inv
    refine (Tryd.strings_CutPrefix ⟨s.toArray⟩ ⟨#[45]⟩ w).mono ?_
    rintro e w' ⟨rfl, rfl⟩
    have h1 := trim_dig s
    have h2 := hasp_neg s
    refine ⟨_, rfl, Below.refl _ _, fun H' _ _ => .tup _ _ rfl fun j c x hj hx => ?_⟩
    match j with
    | 0 => cases hj; cases hx; rw [← h1]; exact .str _
    | 1 => cases hj; cases hx; rw [← h2]; exact .bool _
    | j + 2 => simp at hj

theorem tup3 {H' : HV} (a b : Str) (q : Bool) : RelI H' (.tup [.str a, .str b, .bool q]) (.tuple #[.string ⟨a.toArray⟩, .string ⟨b.toArray⟩, .bool q]) :=
  .tup _ _ rfl fun j c x hj hx => by
    match j with
    | 0 => cases hj; cases hx; exact .str _
    | 1 => cases hj; cases hx; exact .str _
    | 2 => cases hj; cases hx; exact .bool _
    | j + 3 => simp at hj
theorem cut_ok (s : Str) (c : UInt8) (hn : s.length ≤ 100000) : Pu Tryd.prog gls 33 [.str s, .str [c]] (match cutS c s with | none => .tup [.str s, .str [], .bool false] | some (l, r) => .tup [.str l, .str r, .bool true]) :=
  Pu.ofCalls (ent 33 (by kernel_rfl)) fun m H w vs hs hgl hgv hl hargs => by
    obtain ⟨v, u, rfl⟩ := two_v hl
    obtain rfl := (hargs 0 _ v rfl rfl).str_inv
    obtain rfl := (hargs 1 _ u rfl rfl).str_inv
    refine (Tryd.strings_Cut ⟨s.toArray⟩ ⟨#[c]⟩ ML.m w (by show s.toArray.size < _; simp; omega) (ml_cell hs hgl)).mono ?_
    rintro e w' ⟨rfl, k, rfl⟩
    have hc := cut_cutS c s
    refine ⟨_, rfl, below_drew _ _, fun H' _ _ => ?_⟩
    show RelI H' _ (.tuple #[.string ⟨(Lib.cut s [c]).1.toArray⟩, .string ⟨(Lib.cut s [c]).2.1.toArray⟩, .bool (Lib.cut s [c]).2.2])
    rw [hc]
    cases cutS c s with
    | none => exact tup3 s [] false
    | some p => exact tup3 p.1 p.2 true

/-- A row of strings in a block of its own. -/
theorem rel_row {H' : HV} {w' : World} {g cap : Nat} {C : Array Value} {t : TypeId} {fz : Nat × Nat} (l : List Str) (hg : w'.heap[g]? = some (.cells C t fz)) (hC : ∀ (j : Nat) (s : Str), l[j]? = some s → C[j]? = some (.string ⟨s.toArray⟩)) (hcap : l.length ≤ cap) (hm : cap ≤ maxLen)
    (hH : ∀ o, H' g o = w'.cell? ⟨g, o, none⟩) : RelI H' (strsAV l) (.slice (some ⟨g, 0, none⟩) l.length cap) := by
  have hx : ∀ (i : Nat) (x : AV) (j : Nat) (c : AV), (l.map sAV)[i]? = some x → x.cells[j]? = some c → ∃ s, l[i]? = some s ∧ j = 0 ∧ c = .str s := fun i x j c h1 h2 => by
    rw [List.getElem?_map, Option.map_eq_some_iff] at h1
    obtain ⟨s, hs, rfl⟩ := h1
    cases j with
    | zero => cases h2; exact ⟨s, hs, rfl, rfl⟩
    | succ j => simp [sAV, AV.cells] at h2
  have hcell : ∀ (i : Nat) (s : Str), l[i]? = some s → w'.cell? ⟨g, i, none⟩ = some (.string ⟨s.toArray⟩) := fun i s hs => by rw [cell_of_row _ _ _ _ _ _ hg]; exact hC i s hs
  have := RelI.sl (H := H') 1 (l.map sAV) g 0 cap (fun i _ => .string ⟨((l[i]?).getD []).toArray⟩) (by omega) (by simpa using hcap) hm
    (fun i x h => by
      rw [List.getElem?_map, Option.map_eq_some_iff] at h
      obtain ⟨s, _, rfl⟩ := h; rfl)
    (fun i x j c h1 h2 => by
      obtain ⟨s, hs, rfl, rfl⟩ := hx i x j c h1 h2
      rw [hH, show 0 + i * 1 + 0 = i by omega, hcell i s hs, hs]
      exact ⟨rfl, rfl⟩)
    (fun i x j c h1 h2 => by
      obtain ⟨s, hs, rfl, rfl⟩ := hx i x j c h1 h2
      rw [hs]; exact .str _)
  rw [List.length_map] at this
  exact this

theorem split_ok (s : Str) (c : UInt8) (hn : s.length ≤ 100000) : Pu Tryd.prog gls 48 [.str s, .str [c]] (strsAV (splS c s)) :=
  Pu.ofCalls (ent 48 (by kernel_rfl)) fun m H w vs hs hgl hgv hl hargs => by
    obtain ⟨v, u, rfl⟩ := two_v hl
    obtain rfl := (hargs 0 _ v rfl rfl).str_inv
    obtain rfl := (hargs 1 _ u rfl rfl).str_inv
    have hsz : (⟨s.toArray⟩ : ByteArray).size = s.length := by show s.toArray.size = _; simp
    refine (Tryd.strings_Split ⟨s.toArray⟩ ⟨#[c]⟩ ML.m w (by omega) (ml_cell hs hgl) (Nat.le_refl 1)).mono ?_
    rintro e w' ⟨rfl, rfl⟩
    have hcount : Lib.countB ⟨s.toArray⟩ ⟨#[c]⟩ = s.count c := Lib.count_one c s
    have hdata := Lib.splitB_data ⟨#[c]⟩ 0 (s.count c) ⟨s.toArray⟩
    rw [show (⟨#[c]⟩ : ByteArray).data.toList = [c] from rfl, show (⟨s.toArray⟩ : ByteArray).data.toList = s from rfl, splitK_splS] at hdata
    rw [hcount]
    have hlen := splS_count c s
    have hcl : s.count c ≤ s.length := List.count_le_length
    refine ⟨_, rfl, (Below.refl _ _).alloc (Nat.le_refl _) _, fun H' _ hH => ?_⟩
    rw [← hlen]
    refine rel_row (w' := w.alloc (.cells ((Lib.splitB ⟨#[c]⟩ 0 (s.count c) ⟨s.toArray⟩).map Value.string).toArray 9)) (splS c s) (C := ((Lib.splitB ⟨#[c]⟩ 0 (s.count c) ⟨s.toArray⟩).map Value.string).toArray) (t := 9) (fz := (0, 0)) (by show (w.heap.push _)[w.heap.size]? = _; simp) (fun j x hj => ?_) (Nat.le_refl _) (by rw [hlen]; unfold maxLen; omega) (fun o => hH _ o (Nat.le_refl _))
    rw [← hdata, List.getElem?_map, Option.map_eq_some_iff] at hj
    obtain ⟨b, hb, rfl⟩ := hj
    simp [hb]

theorem clone_ok (l : List Str) (hn : l.length ≤ 100000) : Pu Tryd.prog gls 50 [strsAV l] (strsAV l) :=
  Pu.ofCalls (ent 50 (by kernel_rfl)) fun m H w vs hs hgl hgv hl hargs => by
    obtain ⟨v, rfl⟩ := one_v hl
    have hv := (hargs 0 _ v rfl rfl).sl_inv
    have own : ∀ (v' : Value) (w' : World) (n : Nat) (xs : List Value), w'.ownsRow w.heap.size 9 1 v' n xs → n = l.length → xs = l.map (fun s => Value.string ⟨s.toArray⟩) → ∀ H', (∀ b o, w.heap.size ≤ b → H' b o = w'.cell? ⟨b, o, none⟩) → RelI H' (strsAV l) v' := by
      rintro v' w' n xs ⟨h0, h1⟩ rfl hx H' hH
      rcases h1 with ⟨rfl, h1⟩ | ⟨g, cap, cur, rfl, hg, hcur, hcap, hmax, _, htake⟩
      · have : l = [] := List.length_eq_zero_iff.1 h1
        subst this
        exact .sl0 _ _ _ (by unfold maxLen; omega)
      · refine rel_row l hcur (fun j s hj => ?_) hcap hmax (fun o => hH _ o hg)
        have h2 := congrArg (·[j]?) htake
        have hjl := (List.getElem?_eq_some_iff.1 hj).1
        simp only [hx, List.getElem?_take, List.getElem?_map, hj, Option.map_some] at h2
        rw [if_pos (by omega)] at h2
        simpa using h2
    generalize hx : l.map sAV = xs at hv
    cases hv with
    | sl0 _ a cap hc =>
      have : l = [] := List.map_eq_nil_iff.1 hx
      subst this
      cases a with
      | none =>
        refine (Tryd.slices_Clone_string_nil 0 cap w).mono ?_
        rintro e w' ⟨rfl, rfl⟩
        exact ⟨_, rfl, Below.refl _ _, fun H' _ _ => .sl0 _ _ _ (by unfold maxLen; omega)⟩
      | some a =>
        refine (Tryd.slices_Clone_string_zero a cap w).mono ?_
        rintro e w' ⟨v', rfl, ho, _, hb⟩
        exact ⟨v', rfl, hb, fun H' _ hH => own v' w' 0 [] ho rfl rfl H' hH⟩
    | sl _ _ b o cap val h0 h1 h2 h3 h4 h5 =>
      subst hx
      have hl1 : (l.map sAV).length = l.length := by simp
      rw [hl1]
      refine (Tryd.slices_Clone_string b o l.length cap (l.map fun s => ⟨s.toArray⟩) w (by simp) (by omega) fun j hj => ?_).mono ?_
      · have hj' : j < l.length := by simpa using hj
        have hs0 : l[j]? = some l[j] := List.getElem?_eq_getElem hj'
        have hm : (l.map sAV)[j]? = some (sAV l[j]) := by simp [hs0]
        have a1 := h4 j (sAV l[j]) 0 (.str l[j]) hm rfl
        have a2 := h5 j (sAV l[j]) 0 (.str l[j]) hm rfl
        have := hs _ _ _ a1.1
        rw [Nat.mul_one, Nat.add_zero] at this
        rw [this]
        generalize val j 0 = z at a2
        cases a2
        simp [List.getD_eq_getElem?_getD, hs0]
      · rintro e w' ⟨v', rfl, ho, _, hb⟩
        refine ⟨v', rfl, hb, fun H' _ hH => own v' w' l.length _ ho rfl ?_ H' hH⟩
        rw [List.take_of_length_le (by simp), List.map_map]
        exact List.map_congr_left fun s _ => rfl
end Go.Proofs.YtcphiogbjdehhaaDoor
