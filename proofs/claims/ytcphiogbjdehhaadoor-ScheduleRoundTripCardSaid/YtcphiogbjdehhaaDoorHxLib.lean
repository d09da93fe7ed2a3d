/- From a contract of the library's shelf to one on trees. -/
import Derived.Test.YtcphiogbjdehhaaDoorHxWp5
namespace HX
open Go Go.RowKit

theorem Pu.ofCalls {P : Program} {gl : Nat → AV} {f : Nat} {args : List AV} {r : AV} (hent : Enters P f)
    (h : ∀ (m : Nat → Lc) (H : HV) (w : World) (vs : Array Value), HV.sat H w → (∀ g, RelI H (gl g) (.pointer (some ⟨g, 0, none⟩))) → GvOk gl w.heap.size w → args.length = vs.size →
      (∀ (j : Nat) (x : AV) (v : Value), args[j]? = some x → vs[j]? = some v → RV H (envOf (lkb .nil) m) x v) →
      Calls P f vs w fun e w' => ∃ v, e = .returned v ∧ Below w.heap.size w w' ∧ ∀ H', HV.le H H' → (∀ b o, w.heap.size ≤ b → H' b o = w'.cell? ⟨b, o, none⟩) → RelI H' r v) : Pu P gl f args r := by
  refine ⟨fun m H B H0 w vs hh hl hargs => .inl ⟨hent, (h m H w vs hh.sat hh.gl (fun g sz cs hg => let ⟨h1, h2⟩ := hh.gv g sz cs hg; ⟨Nat.lt_of_lt_of_le h1 hh.low, h2⟩) hl hargs).mono fun e w' hq => ?_⟩⟩
  obtain ⟨v, rfl, hb, hr⟩ := hq
  have hr0 : RelS m H B H0 gl [] ⟨1, .nil, .nil, 0⟩ (Act.mk #[Go.undef] []).tmps w := by
    refine ⟨hh, rfl, fun k => ?_, fun p hp => by simp at hp⟩
    have : St.get ⟨1, .nil, .nil, 0⟩ k = AV.undef := by show lk AV.undef .nil k = AV.undef; exact lk_nil _ _
    rw [this]; exact .imm _ _ (.undef _)
  obtain ⟨hA, hle⟩ := hr0.after hb (fun b o => w'.cell? ⟨b, o, none⟩) (fun _ _ _ hk => hk)
  exact ⟨v, m, _, rfl, hb.mono hh.low, hA.heap, .imm _ _ (hr _ hle fun b o hbo => by simp only [if_neg (show ¬ b < w.heap.size by omega)])⟩

theorem one_v {vs : Array Value} {x : AV} (hl : [x].length = vs.size) : ∃ v, vs = #[v] := by
  have h : vs.size = 1 := hl.symm
  refine ⟨vs[0], ?_⟩
  apply Array.ext
  · simp [h]
  · intro i h1 h2
    have : i = 0 := by omega
    subst this; rfl
theorem two_v {vs : Array Value} {x y : AV} (hl : [x, y].length = vs.size) : ∃ u v, vs = #[u, v] := by
  have h : vs.size = 2 := hl.symm
  refine ⟨vs[0], vs[1], ?_⟩
  apply Array.ext
  · simp [h]
  · intro i h1 h2
    have : i = 0 ∨ i = 1 := by omega
    rcases this with rfl | rfl <;> rfl

/-- A laid table, cell by cell. -/
theorem tab_cell {H : HV} {w : World} (hs : HV.sat H w) {n g : Nat} {cs : List AV} (h : RelI H (.ip n [.agg cs] 0 0) (.pointer (some ⟨g, 0, none⟩))) {j : Nat} {k : IntKind} {x : Int} (hj : cs[j]? = some (.int k x)) : w.cell? ⟨g, j, none⟩ = some (.int k x) := by
  generalize hv : Value.pointer (some ⟨g, 0, none⟩) = v at h
  cases h with
  | ip _ _ b o _ _ val h0 h1 h2 h3 h4 =>
    simp only [Value.pointer.injEq, Option.some.injEq, Addr.mk.injEq] at hv
    obtain ⟨rfl, ho, _⟩ := hv
    have ho : o = 0 := by omega
    subst ho
    have h5 := h3 0 _ j _ rfl (show (AV.agg cs).cells[j]? = _ from hj)
    have h6 := h4 0 _ j _ rfl (show (AV.agg cs).cells[j]? = _ from hj)
    have := hs _ _ _ h5.1
    simp only [Nat.zero_mul, Nat.zero_add, Nat.add_zero] at this
    rw [this]
    generalize val 0 j = u at h6
    cases h6; rfl
theorem tab_row {P : Program} {H : HV} {w : World} (hs : HV.sat H w) {gl : Nat → AV} {g : Nat} {name : String} (hg : P.globalNamed name = some g) {k : IntKind} {zs : List Int} (hgl : gl g = .ip zs.length [.agg (zs.map fun z => .int k z)] 0 0)
    (hr : RelI H (gl g) (.pointer (some ⟨g, 0, none⟩))) (hv : GvOk gl w.heap.size w) : w.var? P name = some (zs.map fun z => Value.int k z).toArray := by
  obtain ⟨_, C, e, fr, h1, h2⟩ := hv g _ _ hgl
  rw [hgl] at hr
  unfold World.var?
  rw [hg]
  simp only [Option.bind_some, h1, Option.some.injEq]
  apply Array.ext
  · simp [h2]
  · intro j hj1 hj2
    have hj : j < zs.length := by simpa using hj2
    have := tab_cell hs hr (j := j) (k := k) (x := zs[j]) (by simp [hj])
    rw [cell_of_row _ _ _ _ _ _ h1, Array.getElem?_eq_getElem hj1] at this
    simp only [Option.some.injEq] at this
    simp [this]
end HX
