/- Rows of immediate cells; the text of a schedule, step by step. -/
import Derived.Test.YtcphiogbjdehhaaDoorS3
namespace Go.Proofs.YtcphiogbjdehhaaDoor
open Go HX

theorem imm_str (s : Str) : Imm (.str s) := fun _ _ _ h => by cases h; assumption
theorem imm_int (k : IntKind) (n : Int) : Imm (.int k n) := fun _ _ _ h => by cases h; assumption
theorem allImm_bAV (b : Str) : AllImm (bAV b) := ⟨fun c hc => by obtain ⟨x, _, rfl⟩ := List.mem_map.1 hc; exact imm_int _ _⟩
theorem rows_words (ws : List Str) : HX.Rows 1 (ws.map sAV) (wordsAV ws) := by
  refine ⟨?_, fun x hx => ?_, fun c hc => ?_⟩
  · induction ws with
    | nil => rfl
    | cons a ws ih => simp only [wordsAV, List.map_cons, List.flatMap_cons, sAV, AV.cells, List.singleton_append] at ih ⊢; rw [ih]
  · obtain ⟨s, _, rfl⟩ := List.mem_map.1 hx; rfl
  · obtain ⟨s, _, rfl⟩ := List.mem_map.1 hc; exact imm_str s
theorem flat_words (ws : List Str) : (ws.map sAV).flatMap AV.cells = wordsAV ws := (rows_words ws).flat.symm
theorem textS_succ {l : List Step} {i : Nat} {x : Step} (hx : l[i]? = some x) : textS (l.take (i + 1)) = textS (l.take i) ++ lineS x := by
  rw [List.take_add_one, hx]; simp [textS]
theorem lineS_ne (x : Step) : lineS x ≠ [] := by simp [lineS]
theorem textS_take_ne {l : List Step} {i : Nat} {x : Step} (hx : l[i]? = some x) : textS (l.take (i + 1)) ≠ [] := by rw [textS_succ hx]; simp [lineS_ne]
theorem textS_len (n : Nat) : ∀ (l : List Step), (∀ x ∈ l, (lineS x).length ≤ n) → (textS l).length ≤ l.length * n
  | [], _ => by simp [textS]
  | a :: l, h => by
    have := textS_len n l fun x hx => h x (List.mem_cons_of_mem _ hx)
    have h1 := h a List.mem_cons_self
    simp only [textS, List.flatMap_cons, List.length_append, List.length_cons, Nat.add_mul, Nat.one_mul] at this ⊢
    omega
theorem good_at {l : List Step} {i : Nat} {x : Step} (ht : (l.take i).all okS = true) (hx : l[i]? = some x) (hq : okS x = false) : goodS l = l.take i := by
  have hi := lt_of_some hx
  unfold goodS
  have : l = l.take i ++ l.drop i := (List.take_append_drop i l).symm
  conv => lhs; rw [this]
  rw [List.takeWhile_append_of_pos fun y hy => List.all_eq_true.1 ht y hy, List.drop_eq_getElem_cons hi]
  have hx' : l[i] = x := by rw [List.getElem?_eq_getElem hi] at hx; exact Option.some.inj hx
  rw [List.takeWhile_cons_of_neg (by rw [hx']; simp [hq])]; simp
end Go.Proofs.YtcphiogbjdehhaaDoor
