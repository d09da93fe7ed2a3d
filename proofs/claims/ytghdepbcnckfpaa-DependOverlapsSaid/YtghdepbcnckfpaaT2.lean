/- A part of the proof of a given statement of this seat. -/
import Derived.Test.YtghdepbcnckfpaaAhSimp
import Derived.Test.YtghdepbcnckfpaaProg
namespace Go.Proofs
open Go AH
theorem nm5 : (Try.f5.name == "runtime.NumGoroutine") = false := by kernel_rfl
theorem t26 : tyI Try.prog 26 = some (3, true) := by kernel_rfl
theorem t9 : tyI Try.prog 9 = some (1, false) := by kernel_rfl
theorem t3 : tyI Try.prog 3 = some (1, false) := by kernel_rfl
theorem z26 : zeroI Try.prog 26 = some (.agg [.str [], .int .i64 0, .int .i64 0]) := by kernel_rfl
theorem e22 : elI Try.prog 22 = some (3, 32) := by kernel_rfl
theorem e22' : elG Try.prog 22 = some (3, 32) := by kernel_rfl
theorem fl26_0 : fldI Try.prog 26 0 = some (0, 1, false) := by kernel_rfl
theorem fl26_1 : fldI Try.prog 26 1 = some (1, 1, false) := by kernel_rfl
theorem fl26_2 : fldI Try.prog 26 2 = some (2, 1, false) := by kernel_rfl

structure Region where
  buf : List UInt8
  frm : Int
  to : Int
def encR (r : Region) : AV := .agg [.str r.buf, .int .i64 r.frm, .int .i64 r.to]
def regs (l : List Region) : AV := .sl 3 (l.map encR)
def hit (x y : Region) : Bool := x.buf == y.buf && decide (max x.frm y.frm < min x.to y.to)
def overlap (a b : List Region) : Bool := a.any fun x => b.any fun y => hit x y


attribute [local go_sem] t26 t9 t3 z26 e22 e22' fl26_0 fl26_1 fl26_2
set_option linter.unusedSimpArgs false
theorem overlap_drop {a b : List Region} {i : Nat} (h : i < a.length) : overlap (a.drop i) b = ((b.any fun y => hit a[i] y) || overlap (a.drop (i + 1)) b) := by
  rw [List.drop_eq_getElem_cons h]; rfl
theorem any_drop {b : List Region} {x : Region} {i : Nat} (h : i < b.length) : ((b.drop i).any fun y => hit x y) = (hit x b[i] || (b.drop (i + 1)).any fun y => hit x y) := by
  rw [List.drop_eq_getElem_cons h]; rfl

set_option maxRecDepth 10000 in
set_option maxHeartbeats 1000000 in
theorem overlap_ok (a b : List Region) (ha : a.length < 2 ^ 40) (hb : b.length < 2 ^ 40) : PureOk Try.prog 5 [regs a, regs b] (.bool (overlap a b)) := by
  refine PureOk.of_walk Try.func5 rfl nm5 rfl (by kernel_rfl) fun Q hret _ => ?_
  simp only [go_sem, Nat.reduceLT, Nat.reduceEqDiff, Nat.reduceAdd, Nat.reduceLeDiff, Nat.reduceSub, Nat.reduceMul, ↓reduceIte, regs, Try.f5]
  refine loop_walk 41 (fun n st => ∃ i : Nat, n = a.length - i ∧ i ≤ a.length ∧ overlap (a.drop i) b = overlap a b ∧ st = ⟨41, 0, [(1, regs b), (9, regs a), (10, .int .i64 a.length), (11, .int .i64 i)], []⟩) ?_
    ⟨0, rfl, by omega, by simp, rfl⟩ (stLe_same rfl (by simp only [go_sem, Nat.reduceLT, Nat.reduceEqDiff, Nat.reduceAdd, Nat.reduceLeDiff, Nat.reduceSub, Nat.reduceMul, ↓reduceIte, regs]; simp)) rfl
  rintro n st - ⟨i, rfl, hi, hov, rfl⟩ Q1 hN1 hX1 hR1
  by_cases hlt : i < a.length
  · have hx : a[i]? = some a[i] := List.getElem?_eq_getElem hlt
    simp only [go_sem, Nat.reduceLT, Nat.reduceEqDiff, Nat.reduceAdd, Nat.reduceLeDiff, Nat.reduceSub, Nat.reduceMul, ↓reduceIte, regs, List.getElem?_map, hx, Int.toNat_natCast, encR, Int.ofNat_lt, hlt]
    refine loop_walk 41 (fun n st => ∃ j : Nat, n = b.length - j ∧ j ≤ b.length ∧ ((b.drop j).any fun y => hit a[i] y) = (b.any fun y => hit a[i] y) ∧
      st = ⟨41, 0, [(1, regs b), (9, regs a), (10, .int .i64 a.length), (11, .int .i64 i), (6, .ptr 0 3 0 0), (15, regs b), (16, .int .i64 b.length), (17, .int .i64 j)], [(3, [encR a[i]])]⟩) ?_
      ⟨0, rfl, by omega, by simp, rfl⟩ (stLe_same rfl (by simp only [go_sem, Nat.reduceLT, Nat.reduceEqDiff, Nat.reduceAdd, Nat.reduceLeDiff, Nat.reduceSub, Nat.reduceMul, ↓reduceIte, regs]; simp)) rfl
    rintro n st - ⟨j, rfl, hj, hany, rfl⟩ Q2 hN2 hX2 hR2
    by_cases hlt2 : j < b.length
    · have hy : b[j]? = some b[j] := List.getElem?_eq_getElem hlt2
      have hd := any_drop (x := a[i]) hlt2
      simp (disch := omega) only [go_sem, Nat.reduceLT, Nat.reduceEqDiff, Nat.reduceAdd, Nat.reduceLeDiff, Nat.reduceSub, Nat.reduceMul, ↓reduceIte, regs, List.getElem?_map, hy, Int.toNat_natCast, encR, Int.ofNat_lt, hlt2]
      have next : hit a[i] b[j] = false → ∀ st', StLe ⟨41, 0, [(1, regs b), (9, regs a), (10, .int .i64 a.length), (11, .int .i64 i), (6, .ptr 0 3 0 0), (15, regs b), (16, .int .i64 b.length), (17, .int .i64 (j + 1 : Nat))], [(3, [encR a[i]])]⟩ st' → Q2 .normal st' := fun h st' hle =>
        hN2 (b.length - (j + 1)) st' _ (by omega) ⟨j + 1, rfl, by omega, by rw [← hany, hd, h]; rfl, rfl⟩ hle
      split
      · rename_i h1
        split
        · rename_i h2
          refine hR2 _ ?_
          simp only [go_sem, Nat.reduceLT, Nat.reduceEqDiff, Nat.reduceAdd, Nat.reduceLeDiff, Nat.reduceSub, Nat.reduceMul, ↓reduceIte, regs]
          refine hR1 _ ?_
          simp only [go_sem, Nat.reduceLT, Nat.reduceEqDiff, Nat.reduceAdd, Nat.reduceLeDiff, Nat.reduceSub, Nat.reduceMul, ↓reduceIte, regs]
          refine hret _ ?_
          simp only [go_sem, Nat.reduceLT, Nat.reduceEqDiff, Nat.reduceAdd, Nat.reduceLeDiff, Nat.reduceSub, Nat.reduceMul, ↓reduceIte, regs, Try.f5]
          rw [← hov, overlap_drop hlt, ← hany, hd]
          simp [hit, h1, h2]
        · rename_i h2
          refine next (by simp [hit, h2]) _ (stLe_cut (by simp) rfl (by simp only [go_sem, Nat.reduceLT, Nat.reduceEqDiff, Nat.reduceAdd, Nat.reduceLeDiff, Nat.reduceSub, Nat.reduceMul, ↓reduceIte, regs]) (by simp only [go_sem, Nat.reduceLT, Nat.reduceEqDiff, Nat.reduceAdd, Nat.reduceLeDiff, Nat.reduceSub, Nat.reduceMul, ↓reduceIte, regs, encR]) (by simp only [go_sem, Nat.reduceLT, Nat.reduceEqDiff, Nat.reduceAdd, Nat.reduceLeDiff, Nat.reduceSub, Nat.reduceMul, ↓reduceIte, regs]; simp))
      · rename_i h1
        refine next (by simp [hit, h1]) _ (stLe_cut (by simp) rfl (by simp only [go_sem, Nat.reduceLT, Nat.reduceEqDiff, Nat.reduceAdd, Nat.reduceLeDiff, Nat.reduceSub, Nat.reduceMul, ↓reduceIte, regs]) (by simp only [go_sem, Nat.reduceLT, Nat.reduceEqDiff, Nat.reduceAdd, Nat.reduceLeDiff, Nat.reduceSub, Nat.reduceMul, ↓reduceIte, regs, encR]) (by simp only [go_sem, Nat.reduceLT, Nat.reduceEqDiff, Nat.reduceAdd, Nat.reduceLeDiff, Nat.reduceSub, Nat.reduceMul, ↓reduceIte, regs]; simp))
    · simp (disch := omega) only [go_sem, Nat.reduceLT, Nat.reduceEqDiff, Nat.reduceAdd, Nat.reduceLeDiff, Nat.reduceSub, Nat.reduceMul, ↓reduceIte, regs, Int.ofNat_lt, hlt2]
      refine hX2 _ _ ?_
      simp (disch := omega) only [go_sem, Nat.reduceLT, Nat.reduceEqDiff, Nat.reduceAdd, Nat.reduceLeDiff, Nat.reduceSub, Nat.reduceMul, ↓reduceIte, regs]
      have e : (b.any fun y => hit a[i] y) = false := by rw [← hany, List.drop_of_length_le (by omega)]; rfl
      refine hN1 (a.length - (i + 1)) _ _ (by omega) ⟨i + 1, rfl, by omega, by rw [← hov, overlap_drop hlt, e]; rfl, rfl⟩ (stLe_cut (by simp) rfl (by simp only [go_sem, Nat.reduceLT, Nat.reduceEqDiff, Nat.reduceAdd, Nat.reduceLeDiff, Nat.reduceSub, Nat.reduceMul, ↓reduceIte, regs]) (by simp only [go_sem, Nat.reduceLT, Nat.reduceEqDiff, Nat.reduceAdd, Nat.reduceLeDiff, Nat.reduceSub, Nat.reduceMul, ↓reduceIte, regs, encR]) (by simp only [go_sem, Nat.reduceLT, Nat.reduceEqDiff, Nat.reduceAdd, Nat.reduceLeDiff, Nat.reduceSub, Nat.reduceMul, ↓reduceIte, regs]; simp))
  · simp (disch := omega) only [go_sem, Nat.reduceLT, Nat.reduceEqDiff, Nat.reduceAdd, Nat.reduceLeDiff, Nat.reduceSub, Nat.reduceMul, ↓reduceIte, regs, Int.ofNat_lt, hlt]
    refine hX1 _ _ ?_
    simp only [go_sem, Nat.reduceLT, Nat.reduceEqDiff, Nat.reduceAdd, Nat.reduceLeDiff, Nat.reduceSub, Nat.reduceMul, ↓reduceIte, regs]
    refine hret _ ?_
    simp only [go_sem, Nat.reduceLT, Nat.reduceEqDiff, Nat.reduceAdd, Nat.reduceLeDiff, Nat.reduceSub, Nat.reduceMul, ↓reduceIte, regs, Try.f5]
    rw [← hov, List.drop_of_length_le (by omega)]
    rfl
end Go.Proofs
