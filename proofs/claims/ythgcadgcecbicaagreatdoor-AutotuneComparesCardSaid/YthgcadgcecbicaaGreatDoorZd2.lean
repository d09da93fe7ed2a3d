/- The order of costs: what the functions compute. -/
import Derived.Test.YthgcadgcecbicaaGreatDoorZd1
namespace Go.Proofs.YthgcadgcecbicaaGreatDoor
open Go HX

structure Cost where
  a : Int
  b : Int
  c : Int
  d : Int
  e : Int
def Cost.av (x : Cost) : AV := .agg [.int .i64 x.a, .int .i64 x.b, .int .i64 x.c, .int .i64 x.d, .int .i64 x.e]
def clampZ (n : Int) : Int := max (-1099511627776) (min n 1099511627776)
def w64 (n : Int) : Int := IntKind.wrap .i64 n
def weightZ (x : Cost) : Int := w64 (w64 (w64 (w64 (4 * clampZ x.d) + w64 (2 * clampZ x.b)) + w64 (2 * clampZ x.c)) + clampZ x.a)
def lessZ (x y : Cost) : Bool := if weightZ x ≠ weightZ y then decide (weightZ x < weightZ y) else decide (clampZ x.e < clampZ y.e)

set_option maxRecDepth 100000

theorem clamp1 (n : Int) : xfunS Tryz.prog gls 1000 (chOf fun _ _ => none) 34 [.int .i64 n] [] = some (.int .i64 (clampZ n), []) := by kernel_rfl
theorem clamp2 (n : Int) : xfunS Tryz.prog gls 1000 (chOf fun _ _ => none) 36 [.int .i64 n] [] = some (.int .i64 (clampZ n), []) := by kernel_rfl

def c1 : PureH := fun f args => bif Nat.beq f 34 || Nat.beq f 36 then (match args with
  | [.int .i64 n] => some (.int .i64 (clampZ n))
  | _ => none) else none
theorem c0_ok : PureH.Ok Tryz.prog gls (fun _ _ => none) := fun _ _ _ h => by cases h
theorem c1_ok : PureH.Ok Tryz.prog gls c1 := by
  intro f args r h
  unfold c1 at h
  cases hf : (Nat.beq f 34 || Nat.beq f 36) with
  | false => rw [hf] at h; cases h
  | true =>
    rw [hf] at h
    simp only [cond_true] at h
    split at h
    · rename_i n
      cases h
      rw [Bool.or_eq_true] at hf
      rcases hf with hf | hf
      · obtain rfl := Nat.eq_of_beq_eq_true hf
        exact symOk progOk c0_ok rfl rfl (clamp1 n) (by simp) rfl (fun _ _ e => by cases e)
      · obtain rfl := Nat.eq_of_beq_eq_true hf
        exact symOk progOk c0_ok rfl rfl (clamp2 n) (by simp) rfl (fun _ _ e => by cases e)
    · cases h

theorem weight1 (a b c d e : Int) : xfunS Tryz.prog gls 1000 (chOf c1) 33 [(Cost.mk a b c d e).av] [] = some (.int .i64 (weightZ ⟨a, b, c, d, e⟩), []) := by kernel_rfl
theorem weight2 (a b c d e : Int) : xfunS Tryz.prog gls 1000 (chOf c1) 35 [(Cost.mk a b c d e).av] [] = some (.int .i64 (weightZ ⟨a, b, c, d, e⟩), []) := by kernel_rfl

def c2 : PureH := fun f args => bif Nat.beq f 34 || Nat.beq f 36 then (match args with
  | [.int .i64 n] => some (.int .i64 (clampZ n))
  | _ => none) else bif Nat.beq f 33 || Nat.beq f 35 then (match args with
  | [.agg [.int .i64 a, .int .i64 b, .int .i64 c, .int .i64 d, .int .i64 e]] => some (.int .i64 (weightZ ⟨a, b, c, d, e⟩))
  | _ => none) else none
theorem c2_ok : PureH.Ok Tryz.prog gls c2 := by
  intro f args r h
  cases hf : (Nat.beq f 34 || Nat.beq f 36) with
  | true =>
    refine c1_ok f args r ?_
    unfold c2 at h
    unfold c1
    rw [hf] at h ⊢
    exact h
  | false =>
    unfold c2 at h
    rw [hf] at h
    simp only [cond_false] at h
    cases hg : (Nat.beq f 33 || Nat.beq f 35) with
    | false => rw [hg] at h; cases h
    | true =>
      rw [hg] at h
      simp only [cond_true] at h
      split at h
      · rename_i a b c d e
        cases h
        rw [Bool.or_eq_true] at hg
        rcases hg with hg | hg
        · obtain rfl := Nat.eq_of_beq_eq_true hg
          exact symOk progOk c1_ok rfl rfl (weight1 a b c d e) (by simp) rfl (fun _ _ e => by cases e)
        · obtain rfl := Nat.eq_of_beq_eq_true hg
          exact symOk progOk c1_ok rfl rfl (weight2 a b c d e) (by simp) rfl (fun _ _ e => by cases e)
      · cases h

/-- The two tests of an order, by what they give. -/
theorem less1 (x y : Cost) (h : Bool) : xfunS Tryz.prog gls 1000 (chOf c2) 12 [x.av, y.av] [true, h] = some (.bool h, [(decide (weightZ x < weightZ y), h), (!(weightZ x == weightZ y), true)]) := by kernel_rfl
theorem less2 (x y : Cost) (h : Bool) : xfunS Tryz.prog gls 1000 (chOf c2) 12 [x.av, y.av] [false, h] = some (.bool h, [(decide (clampZ x.e < clampZ y.e), h), (!(weightZ x == weightZ y), false)]) := by kernel_rfl
theorem less3 (x y : Cost) (h : Bool) : xfunS Tryz.prog gls 1000 (chOf c2) 13 [x.av, y.av] [true, h] = some (.bool h, [(decide (weightZ x < weightZ y), h), (!(weightZ x == weightZ y), true)]) := by kernel_rfl
theorem less4 (x y : Cost) (h : Bool) : xfunS Tryz.prog gls 1000 (chOf c2) 13 [x.av, y.av] [false, h] = some (.bool h, [(decide (clampZ x.e < clampZ y.e), h), (!(weightZ x == weightZ y), false)]) := by kernel_rfl

theorem less_ok (x y : Cost) : PureOk Tryz.prog gls 12 [x.av, y.av] (.bool (lessZ x y)) ∧ PureOk Tryz.prog gls 13 [x.av, y.av] (.bool (lessZ x y)) := by
  by_cases hw : weightZ x = weightZ y
  · have e : lessZ x y = decide (clampZ x.e < clampZ y.e) := by simp [lessZ, hw]
    have ho : ∀ p ∈ [(decide (clampZ x.e < clampZ y.e), lessZ x y), (!(weightZ x == weightZ y), false)], p.1 = p.2 := by simp [e, hw]
    exact ⟨symOk progOk c2_ok rfl rfl (less2 x y _) ho rfl (fun _ _ e => by cases e), symOk progOk c2_ok rfl rfl (less4 x y _) ho rfl (fun _ _ e => by cases e)⟩
  · have e : lessZ x y = decide (weightZ x < weightZ y) := by simp [lessZ, hw]
    have ho : ∀ p ∈ [(decide (weightZ x < weightZ y), lessZ x y), (!(weightZ x == weightZ y), true)], p.1 = p.2 := by simp [e, hw]
    exact ⟨symOk progOk c2_ok rfl rfl (less1 x y _) ho rfl (fun _ _ e => by cases e), symOk progOk c2_ok rfl rfl (less3 x y _) ho rfl (fun _ _ e => by cases e)⟩

def c3 : PureH := fun f args => bif Nat.beq f 12 || Nat.beq f 13 then (match args with
  | [.agg [.int .i64 a, .int .i64 b, .int .i64 c, .int .i64 d, .int .i64 e], .agg [.int .i64 a', .int .i64 b', .int .i64 c', .int .i64 d', .int .i64 e']] => some (.bool (lessZ ⟨a, b, c, d, e⟩ ⟨a', b', c', d', e'⟩))
  | _ => none) else bif Nat.beq f 9 then (match args with
  | [] => some (.bool true)
  | _ => none) else none
theorem c3_ok : PureH.Ok Tryz.prog gls c3 := by
  intro f args r h
  unfold c3 at h
  cases hf : (Nat.beq f 12 || Nat.beq f 13) with
  | true =>
    rw [hf] at h
    simp only [cond_true] at h
    split at h
    · rename_i a b c d e a' b' c' d' e'
      cases h
      rw [Bool.or_eq_true] at hf
      rcases hf with hf | hf
      · obtain rfl := Nat.eq_of_beq_eq_true hf
        exact (less_ok ⟨a, b, c, d, e⟩ ⟨a', b', c', d', e'⟩).1
      · obtain rfl := Nat.eq_of_beq_eq_true hf
        exact (less_ok ⟨a, b, c, d, e⟩ ⟨a', b', c', d', e'⟩).2
    · cases h
  | false =>
    rw [hf] at h
    simp only [cond_false] at h
    cases hg : Nat.beq f 9 with
    | false => rw [hg] at h; cases h
    | true =>
      rw [hg] at h
      simp only [cond_true] at h
      split at h
      · cases h
        obtain rfl := Nat.eq_of_beq_eq_true hg
        exact alive_ok
      · cases h

/- plain law -/
theorem less_asymm (x y : Cost) (h : lessZ x y = true) : lessZ y x = false := by
  unfold lessZ at h ⊢
  by_cases hw : weightZ x = weightZ y
  · rw [if_neg (by simp [hw])] at h
    rw [if_neg (by simp [hw])]
    simp only [decide_eq_true_eq, decide_eq_false_iff_not] at h ⊢
    omega
  · rw [if_pos hw] at h
    rw [if_pos (fun e => hw e.symm)]
    simp only [decide_eq_true_eq, decide_eq_false_iff_not] at h ⊢
    omega
theorem less_key (x y : Cost) : (lessZ x y = true) ↔ (weightZ x < weightZ y ∨ (weightZ x = weightZ y ∧ clampZ x.e < clampZ y.e)) := by
  unfold lessZ
  by_cases hw : weightZ x = weightZ y
  · rw [if_neg (by simp [hw])]; simp [hw]
  · rw [if_pos hw]; simp [hw]
theorem less_trans (x y z : Cost) (h1 : lessZ x y = true) (h2 : lessZ y z = true) : lessZ x z = true := by
  rw [less_key] at *
  omega
theorem less_weak (x y z : Cost) (h1 : lessZ x y = false) (h2 : lessZ y z = false) : lessZ x z = false := by
  have e1 : ¬ lessZ x y = true := by simp [h1]
  have e2 : ¬ lessZ y z = true := by simp [h2]
  have e3 : ¬ lessZ x z = true := by
    rw [less_key] at *
    omega
  simpa using e3
end Go.Proofs.YthgcadgcecbicaaGreatDoor
