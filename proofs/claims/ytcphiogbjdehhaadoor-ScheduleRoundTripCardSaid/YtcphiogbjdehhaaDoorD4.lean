/- Contracts of Go's library, on trees. -/
import Derived.Test.YtcphiogbjdehhaaDoorD0
import Derived.Test.YtcphiogbjdehhaaDoorS2
import Derived.Test.YtcphiogbjdehhaaDoorTrydShelf
namespace Go.Proofs.YtcphiogbjdehhaaDoor
open Go HX Go.IntWalk Go.RowKit Go.Sort
variable [ML]
set_option linter.unusedSectionVars false

theorem ent (f : Nat) (h : bodied Tryd.prog f = true) : Enters Tryd.prog f := bodied_enters h
theorem below_grow (w : World) (k : Nat) (os : Array Obj) : Below w.heap.size w (grow (w.drewN k) os) :=
  ⟨rfl, rfl, rfl, by show w.heap.size ≤ (w.heap ++ os).size; simp, fun i hi => by show (w.heap ++ os)[i]? = _; rw [Array.getElem?_append_left hi]⟩

theorem itoa_ok (n : Int) (h0 : -9223372036854775808 ≤ n) (h1 : n ≤ 9223372036854775807) : Pu Tryd.prog gls 27 [.int .i64 n] (.str (Lib.itoa n)) :=
  Pu.ofCalls (ent 27 (by kernel_rfl)) fun m H w vs hs hgl hgv hl hargs => by
    obtain ⟨v, rfl⟩ := one_v hl
    obtain rfl := (hargs 0 _ v rfl rfl).int_inv
    refine (Tryd.strconv_Itoa n h0 h1 w (tab_row hs (g := 2) (by kernel_rfl) (k := .u64) (zs := Lib.pow10Tab) (by kernel_rfl) (hgl 2) hgv)).mono ?_
    rintro e w' ⟨rfl, k, os, rfl⟩
    exact ⟨_, rfl, below_grow w k os, fun H' _ _ => .str _⟩

theorem join_ok (l : List Str) (sep : Str) (hn : l.length ≤ 140737488355328) (hlen : (Lib.join l sep).length ≤ 140737488355328) : Pu Tryd.prog gls 29 [strsAV l, .str sep] (.str (Lib.join l sep)) :=
  Pu.ofCalls (ent 29 (by kernel_rfl)) fun m H w vs hs hgl hgv hl hargs => by
    obtain ⟨v, u, rfl⟩ := two_v hl
    obtain rfl := (hargs 1 _ u rfl rfl).str_inv
    have hv := (hargs 0 _ v rfl rfl).sl_inv
    have hmap : (l.map fun s => (⟨s.toArray⟩ : ByteArray)).map (·.data.toList) = l := by
      rw [List.map_map]
      conv => rhs; rw [← List.map_id l]
      exact List.map_congr_left fun s _ => by simp
    generalize hx : l.map sAV = xs at hv
    cases hv with
    | sl0 _ a cap hc =>
      have : l = [] := List.map_eq_nil_iff.1 hx
      subst this
      refine (Tryd.strings_Join_none a cap ⟨sep.toArray⟩ w).mono ?_
      rintro e w' ⟨rfl, rfl⟩
      exact ⟨_, rfl, Below.refl _ _, fun H' _ _ => .str []⟩
    | sl _ _ b o cap val h0 h1 h2 h3 h4 h5 =>
      subst hx
      have hcell : ∀ (j : Nat) (x : ByteArray), (l.map fun s => (⟨s.toArray⟩ : ByteArray))[j]? = some x → w.cell? ⟨b, o + j, none⟩ = some (.string x) := fun j x hj => by
        rw [List.getElem?_map, Option.map_eq_some_iff] at hj
        obtain ⟨s, hs', rfl⟩ := hj
        have hm : (l.map sAV)[j]? = some (sAV s) := by simp [hs']
        have a1 := h4 j (sAV s) 0 (.str s) hm rfl
        have a2 := h5 j (sAV s) 0 (.str s) hm rfl
        have := hs _ _ _ a1.1
        rw [Nat.mul_one, Nat.add_zero] at this
        rw [this]
        generalize val j 0 = z at a2
        cases a2; rfl
      have hl1 : (l.map sAV).length = (l.map fun s => (⟨s.toArray⟩ : ByteArray)).length := by simp
      rw [hl1]
      by_cases hl0 : l = []
      · subst hl0
        refine (Tryd.strings_Join_none _ cap ⟨sep.toArray⟩ w).mono ?_
        rintro e w' ⟨rfl, rfl⟩
        exact ⟨_, rfl, Below.refl _ _, fun H' _ _ => .str []⟩
      · have hb : b < w.heap.size := by
          obtain ⟨s, l', rfl⟩ := List.exists_cons_of_ne_nil hl0
          have := hcell 0 _ rfl
          exact World.block_lt_of_cell? w ⟨b, o + 0, none⟩ this
        refine (Tryd.strings_Join b o cap _ ⟨sep.toArray⟩ w hcell hb (by simpa using hn) (by simpa using h1) (by rw [hmap]; exact hlen)).mono ?_
        rintro e w' ⟨rfl, hbl⟩
        rw [hmap]
        exact ⟨_, rfl, hbl, fun H' _ _ => .str _⟩
end Go.Proofs.YtcphiogbjdehhaaDoor
