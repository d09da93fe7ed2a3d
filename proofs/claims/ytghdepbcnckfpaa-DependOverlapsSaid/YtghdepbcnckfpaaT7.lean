/- A part of the proof of a given statement of this seat. -/
import Derived.Test.YtghdepbcnckfpaaT6
namespace Go.Proofs
open Go AH
theorem nm4 : (Try.f4.name == "runtime.NumGoroutine") = false := by kernel_rfl
theorem nm3 : (Try.f3.name == "runtime.NumGoroutine") = false := by kernel_rfl
theorem u4 : Try.prog.underlying 4 = some .bool := by kernel_rfl
theorem s26 : stI Try.prog 26 = true := by kernel_rfl
attribute [local go_sem] u4 s26 t26 t9 t3 z26 e22 e22' fl26_0 fl26_1 fl26_2
set_option linter.unusedSimpArgs false

set_option maxRecDepth 10000 in
set_option maxHeartbeats 1000000 in
theorem alive_ok : PureOk Try.prog 4 [] (.bool true) := by
  refine PureOk.of_walk Try.func4 rfl nm4 rfl (by kernel_rfl) fun Q hret _ => ?_
  simp (disch := first | exact ⟨by kernel_rfl, by kernel_rfl⟩ | omega) only [go_sem, Nat.reduceLT, Nat.reduceEqDiff, Nat.reduceAdd, Nat.reduceLeDiff, Nat.reduceSub, Nat.reduceMul, ↓reduceIte, Try.f4]
  have h1 : PureOk Try.prog 5 [regs [⟨[97], 0, 3⟩], regs [⟨[97], 2, 4⟩]] (.bool true) := overlap_ok [⟨[97], 0, 3⟩] [⟨[97], 2, 4⟩] (by decide) (by decide)
  have h2 : PureOk Try.prog 5 [regs [⟨[97], 0, 3⟩], regs [⟨[97], 3, 4⟩]] (.bool false) := overlap_ok [⟨[97], 0, 3⟩] [⟨[97], 3, 4⟩] (by decide) (by decide)
  have h3 : PureOk Try.prog 5 [regs [⟨[97], 0, 3⟩], regs [⟨[98], 0, 3⟩]] (.bool false) := overlap_ok [⟨[97], 0, 3⟩] [⟨[98], 0, 3⟩] (by decide) (by decide)
  refine callK_of h1 ?_
  simp only [go_sem, Nat.reduceLT, Nat.reduceEqDiff, Nat.reduceAdd, Nat.reduceLeDiff, Nat.reduceSub, Nat.reduceMul, ↓reduceIte]
  refine callK_of h2 ?_
  simp only [go_sem, Nat.reduceLT, Nat.reduceEqDiff, Nat.reduceAdd, Nat.reduceLeDiff, Nat.reduceSub, Nat.reduceMul, ↓reduceIte]
  refine callK_of h3 ?_
  simp only [go_sem, Nat.reduceLT, Nat.reduceEqDiff, Nat.reduceAdd, Nat.reduceLeDiff, Nat.reduceSub, Nat.reduceMul, ↓reduceIte]
  refine hret _ ?_
  simp only [go_sem, Nat.reduceLT, Nat.reduceEqDiff, Nat.reduceAdd, Nat.reduceLeDiff, Nat.reduceSub, Nat.reduceMul, ↓reduceIte, Try.f4]

set_option maxRecDepth 10000 in
set_option maxHeartbeats 1000000 in
theorem law_ok (a b : List Region) : PureOk Try.prog 3 [regs a, regs b] (.bool true) := by
  refine PureOk.of_walk Try.func3 rfl nm3 rfl (by kernel_rfl) fun Q hret _ => ?_
  simp (disch := omega) only [go_sem, Nat.reduceLT, Nat.reduceEqDiff, Nat.reduceAdd, Nat.reduceLeDiff, Nat.reduceSub, Nat.reduceMul, ↓reduceIte, Try.f3, regs]
  split
  · split
    · refine callK_of alive_ok ?_
      simp only [go_sem, Nat.reduceLT, Nat.reduceEqDiff, Nat.reduceAdd, Nat.reduceLeDiff, Nat.reduceSub, Nat.reduceMul, ↓reduceIte]
      refine hret _ ?_
      simp only [go_sem, Nat.reduceLT, Nat.reduceEqDiff, Nat.reduceAdd, Nat.reduceLeDiff, Nat.reduceSub, Nat.reduceMul, ↓reduceIte, Try.f3]
    · have ha : a.length < 2 ^ 40 := by omega
      have hb : b.length < 2 ^ 40 := by omega
      refine callK_of (overlap_ok a b ha hb) ?_
      simp only [go_sem, Nat.reduceLT, Nat.reduceEqDiff, Nat.reduceAdd, Nat.reduceLeDiff, Nat.reduceSub, Nat.reduceMul, ↓reduceIte, regs]
      refine callK_of (refOverlap_ok a b ha hb) ?_
      simp only [go_sem, Nat.reduceLT, Nat.reduceEqDiff, Nat.reduceAdd, Nat.reduceLeDiff, Nat.reduceSub, Nat.reduceMul, ↓reduceIte, beq_self_eq_true]
      refine callK_of alive_ok ?_
      simp only [go_sem, Nat.reduceLT, Nat.reduceEqDiff, Nat.reduceAdd, Nat.reduceLeDiff, Nat.reduceSub, Nat.reduceMul, ↓reduceIte]
      refine hret _ ?_
      simp only [go_sem, Nat.reduceLT, Nat.reduceEqDiff, Nat.reduceAdd, Nat.reduceLeDiff, Nat.reduceSub, Nat.reduceMul, ↓reduceIte, Try.f3]
  · refine callK_of alive_ok ?_
    simp only [go_sem, Nat.reduceLT, Nat.reduceEqDiff, Nat.reduceAdd, Nat.reduceLeDiff, Nat.reduceSub, Nat.reduceMul, ↓reduceIte]
    refine hret _ ?_
    simp only [go_sem, Nat.reduceLT, Nat.reduceEqDiff, Nat.reduceAdd, Nat.reduceLeDiff, Nat.reduceSub, Nat.reduceMul, ↓reduceIte, Try.f3]
end Go.Proofs
