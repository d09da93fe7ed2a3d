/- A part of the proof of a given statement of this seat. -/
import Derived.Test.YtghdepbcnckfpaaT2
namespace Go.Proofs
open Go AH
theorem nm6 : (Try.f6.name == "runtime.NumGoroutine") = false := by kernel_rfl
attribute [local go_sem] t26 t9 t3 z26 e22 e22' fl26_0 fl26_1 fl26_2
set_option linter.unusedSimpArgs false

set_option maxRecDepth 10000 in
set_option maxHeartbeats 1000000 in
theorem refOverlap_ok (a b : List Region) (ha : a.length < 2 ^ 40) (hb : b.length < 2 ^ 40) : PureOk Try.prog 6 [regs a, regs b] (.bool (overlap a b)) := by
  refine PureOk.of_walk Try.func6 rfl nm6 rfl (by kernel_rfl) fun Q hret _ => ?_
  simp only [go_sem, Nat.reduceLT, Nat.reduceEqDiff, Nat.reduceAdd, Nat.reduceLeDiff, Nat.reduceSub, Nat.reduceMul, ↓reduceIte, regs, Try.f6]
  refine loop_walk 55 (fun n st => ∃ i : Nat, n = a.length - i ∧ i ≤ a.length ∧ overlap (a.drop i) b = overlap a b ∧ st = ⟨55, 0, [(0, regs a), (1, regs b), (5, .int .i64 i)], []⟩) ?_
    ⟨0, rfl, by omega, by simp, rfl⟩ (stLe_same rfl (by simp only [go_sem, Nat.reduceLT, Nat.reduceEqDiff, Nat.reduceAdd, Nat.reduceLeDiff, Nat.reduceSub, Nat.reduceMul, ↓reduceIte, regs]; simp)) rfl
  rintro n st - ⟨i, rfl, hi, hov, rfl⟩ Q1 hN1 hX1 hR1
  by_cases hlt : i < a.length
  · have hx : a[i]? = some a[i] := List.getElem?_eq_getElem hlt
    simp only [go_sem, Nat.reduceLT, Nat.reduceEqDiff, Nat.reduceAdd, Nat.reduceLeDiff, Nat.reduceSub, Nat.reduceMul, ↓reduceIte, regs, List.getElem?_map, hx, Int.toNat_natCast, encR, Int.ofNat_lt, hlt]
    refine loop_walk 55 (fun n st => ∃ j : Nat, n = b.length - j ∧ j ≤ b.length ∧ ((b.drop j).any fun y => hit a[i] y) = (b.any fun y => hit a[i] y) ∧
      st = ⟨55, 0, [(0, regs a), (1, regs b), (5, .int .i64 i), (6, .int .i64 j)], []⟩) ?_
      ⟨0, rfl, by omega, by simp, rfl⟩ (stLe_same rfl (by simp only [go_sem, Nat.reduceLT, Nat.reduceEqDiff, Nat.reduceAdd, Nat.reduceLeDiff, Nat.reduceSub, Nat.reduceMul, ↓reduceIte, regs]; simp)) rfl
    rintro n st - ⟨j, rfl, hj, hany, rfl⟩ Q2 hN2 hX2 hR2
    by_cases hlt2 : j < b.length
    · have hy : b[j]? = some b[j] := List.getElem?_eq_getElem hlt2
      have hd := any_drop (x := a[i]) hlt2
      simp (disch := first | exact ⟨by kernel_rfl, by kernel_rfl⟩ | omega) only [go_sem, Nat.reduceLT, Nat.reduceEqDiff, Nat.reduceAdd, Nat.reduceLeDiff, Nat.reduceSub, Nat.reduceMul, ↓reduceIte, regs, List.getElem?_map, hx, hy, Int.toNat_natCast, encR, Int.ofNat_lt, hlt, hlt2]
      have next : hit a[i] b[j] = false → ∀ st', StLe ⟨55, 0, [(0, regs a), (1, regs b), (5, .int .i64 i), (6, .int .i64 (j + 1 : Nat))], []⟩ st' → Q2 .normal st' := fun h st' hle =>
        hN2 (b.length - (j + 1)) st' _ (by omega) ⟨j + 1, rfl, by omega, by rw [← hany, hd, h]; rfl, rfl⟩ hle
      split
      · rename_i h1
        split
        · rename_i h2
          refine hR2 _ ?_
          simp only [go_sem, Nat.reduceLT, Nat.reduceEqDiff, Nat.reduceAdd, Nat.reduceLeDiff, Nat.reduceSub, Nat.reduceMul, ↓reduceIte, regs]
          refine hR1 _ ?_
          simp only [go_sem, Nat.reduceLT, Nat.reduceEqDiff, Nat.reduceAdd, Nat.reduceLeDiff, Nat.reduceSub, Nat.reduceMul, ↓reduceIte, regs]
          refine hret _ ?_
          simp only [go_sem, Nat.reduceLT, Nat.reduceEqDiff, Nat.reduceAdd, Nat.reduceLeDiff, Nat.reduceSub, Nat.reduceMul, ↓reduceIte, regs, Try.f6]
          rw [← hov, overlap_drop hlt, ← hany, hd]
          simp [hit, h1, h2]
        · rename_i h2
          refine next (by simp [hit, h2]) _ (stLe_same rfl (by simp only [go_sem, Nat.reduceLT, Nat.reduceEqDiff, Nat.reduceAdd, Nat.reduceLeDiff, Nat.reduceSub, Nat.reduceMul, ↓reduceIte, regs]; simp))
      · rename_i h1
        refine next (by simp [hit, h1]) _ (stLe_same rfl (by simp only [go_sem, Nat.reduceLT, Nat.reduceEqDiff, Nat.reduceAdd, Nat.reduceLeDiff, Nat.reduceSub, Nat.reduceMul, ↓reduceIte, regs]; simp))
    · simp (disch := omega) only [go_sem, Nat.reduceLT, Nat.reduceEqDiff, Nat.reduceAdd, Nat.reduceLeDiff, Nat.reduceSub, Nat.reduceMul, ↓reduceIte, regs, Int.ofNat_lt, hlt2]
      refine hX2 _ _ ?_
      simp (disch := omega) only [go_sem, Nat.reduceLT, Nat.reduceEqDiff, Nat.reduceAdd, Nat.reduceLeDiff, Nat.reduceSub, Nat.reduceMul, ↓reduceIte, regs]
      have e : (b.any fun y => hit a[i] y) = false := by rw [← hany, List.drop_of_length_le (by omega)]; rfl
      refine hN1 (a.length - (i + 1)) _ _ (by omega) ⟨i + 1, rfl, by omega, by rw [← hov, overlap_drop hlt, e]; rfl, rfl⟩ (stLe_same rfl (by simp only [go_sem, Nat.reduceLT, Nat.reduceEqDiff, Nat.reduceAdd, Nat.reduceLeDiff, Nat.reduceSub, Nat.reduceMul, ↓reduceIte, regs]; simp))
  · simp (disch := omega) only [go_sem, Nat.reduceLT, Nat.reduceEqDiff, Nat.reduceAdd, Nat.reduceLeDiff, Nat.reduceSub, Nat.reduceMul, ↓reduceIte, regs, Int.ofNat_lt, hlt]
    refine hX1 _ _ ?_
    simp only [go_sem, Nat.reduceLT, Nat.reduceEqDiff, Nat.reduceAdd, Nat.reduceLeDiff, Nat.reduceSub, Nat.reduceMul, ↓reduceIte, regs]
    refine hret _ ?_
    simp only [go_sem, Nat.reduceLT, Nat.reduceEqDiff, Nat.reduceAdd, Nat.reduceLeDiff, Nat.reduceSub, Nat.reduceMul, ↓reduceIte, regs, Try.f6]
    rw [← hov, List.drop_of_length_le (by omega)]
    rfl
end Go.Proofs
