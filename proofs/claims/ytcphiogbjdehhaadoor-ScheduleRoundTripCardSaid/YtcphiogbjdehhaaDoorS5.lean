/- The text of a schedule, read. -/
import Derived.Test.YtcphiogbjdehhaaDoorS4
import Derived.Lib.SplitLaws
namespace Go.Proofs.YtcphiogbjdehhaaDoor
open Go HX

/-- The parts between the bytes c. -/
def splS (c : UInt8) : Str → List Str
  | [] => [[]]
  | a :: s => if a = c then [] :: splS c s else match splS c s with
    | [] => [[a]]
    | w :: ws => (a :: w) :: ws
theorem splS_ne (c : UInt8) (s : Str) : splS c s ≠ [] := by
  cases s with
  | nil => simp [splS]
  | cons a s => unfold splS; split <;> (try split) <;> simp
theorem splitK_splS (c : UInt8) : ∀ (s : Str), Lib.splitK [c] 0 (s.count c) s = splS c s
  | [] => by simp [Lib.splitK, splS]
  | a :: s => by
    have ih := splitK_splS c s
    by_cases h : a = c
    · subst h
      have hi : Lib.index (a :: s) [a] = 0 := by simp [Lib.index, List.isPrefixOf]
      rw [show (a :: s).count a = s.count a + 1 by simp]
      unfold Lib.splitK splS
      rw [hi]; simp [ih]
    · have hc : (a :: s).count c = s.count c := List.count_cons_of_ne (by simpa using h)
      rw [hc]
      unfold splS
      rw [if_neg h, ← ih]
      have hp : ([c] : Str).isPrefixOf (a :: s) = false := by simp [List.isPrefixOf, Ne.symm h]
      have hix : Lib.index (a :: s) [c] = if Lib.index s [c] == -1 then -1 else Lib.index s [c] + 1 := by rw [Lib.index, hp]; simp
      cases hk : s.count c with
      | zero => simp [Lib.splitK]
      | succ k =>
        unfold Lib.splitK
        rw [hix]
        have hge := Lib.index_ge s [c]
        by_cases hm : Lib.index s [c] = -1
        · simp [hm]
        · have h1 : (Lib.index s [c] == -1) = false := by simpa using hm
          have h2 : (Lib.index s [c] + 1 == -1) = false := by rw [beq_eq_false_iff_ne]; omega
          rw [h1]
          simp only [Bool.false_eq_true, if_false, h2]
          obtain ⟨j, hj⟩ : ∃ j : Nat, Lib.index s [c] = j := ⟨(Lib.index s [c]).toNat, by omega⟩
          rw [hj]
          simp [show ((j : Int) + 1).toNat = j + 1 by omega]
theorem splS_count (c : UInt8) : ∀ (s : Str), (splS c s).length = s.count c + 1
  | [] => by simp [splS]
  | a :: s => by
    have ih := splS_count c s
    unfold splS
    by_cases h : a = c
    · subst h; simp [ih]
    · rw [if_neg h, List.count_cons_of_ne (by simpa using h)]
      have := splS_ne c s
      split
      · rename_i h0; exact absurd h0 this
      · rename_i w ws h0; rw [h0] at ih; simpa using ih

/-- The first line and what follows it. -/
def cutS (c : UInt8) : Str → Option (Str × Str)
  | [] => none
  | a :: s => if a = c then some ([], s) else match cutS c s with
    | none => none
    | some (l, r) => some (a :: l, r)
theorem cut_cutS (c : UInt8) (s : Str) : Lib.cut s [c] = match cutS c s with | none => (s, [], false) | some (l, r) => (l, r, true) := by
  induction s with
  | nil => simp [Lib.cut, Lib.index, cutS]
  | cons a s ih =>
    by_cases h : a = c
    · subst h
      have hi : Lib.index (a :: s) [a] = 0 := by simp [Lib.index, List.isPrefixOf]
      unfold Lib.cut cutS; rw [hi]; simp
    · have hp : ([c] : Str).isPrefixOf (a :: s) = false := by simp [List.isPrefixOf, Ne.symm h]
      have hix : Lib.index (a :: s) [c] = if Lib.index s [c] == -1 then -1 else Lib.index s [c] + 1 := by rw [Lib.index, hp]; simp
      have hge := Lib.index_ge s [c]
      unfold cutS
      rw [if_neg h]
      unfold Lib.cut at ih ⊢
      rw [hix]
      by_cases hm : Lib.index s [c] = -1
      · rw [hm] at ih ⊢
        cases hc : cutS c s with
        | none => simp
        | some p => rw [hc] at ih; simp at ih
      · have h1 : (Lib.index s [c] == -1) = false := by simpa using hm
        obtain ⟨j, hj⟩ : ∃ j : Nat, Lib.index s [c] = j := ⟨(Lib.index s [c]).toNat, by omega⟩
        rw [h1]
        rw [hj] at ih ⊢
        rw [if_pos (by omega)] at ih
        simp only [Bool.false_eq_true, if_false]
        rw [if_pos (by omega)]
        cases hc : cutS c s with
        | none => rw [hc] at ih; simp at ih
        | some p =>
          rw [hc] at ih
          simp only [Prod.mk.injEq] at ih ⊢
          obtain ⟨i1, i2, _⟩ := ih
          simp [show ((j : Int) + 1).toNat = j + 1 by omega, ← i1, ← i2]

def dgB (c : UInt8) : Bool := digitB (u8i c)
/-- A numeral: the number, or the error. -/
def digS (s : Str) : Str := match s with | 45 :: t => t | _ => s
def negS (s : Str) : Bool := match s with | 45 :: _ => true | _ => false
def numF (n : Int) (c : UInt8) : Int := min (n * 10 + (u8i c - 48)) 2147483648
def numN (t : Str) : Int := t.foldl numF 0
def numE (s : Str) : Int :=
  if digS s = [] ∨ ((digS s).headD 0 = 48 ∧ (1 < (digS s).length ∨ negS s = true)) then 5
  else if (digS s).all dgB then (if 2147483647 < numN (digS s) then 3 else 0) else 5
def numV (s : Str) : Int := if numE s = 0 then (if negS s then -(numN (digS s)) else numN (digS s)) else 0

/-- The kind of step with a keyword: 0 for none. -/
def opN (w : Str) : Nat → Int
  | 0 => 0
  | n + 1 => if kwB ((n : Int) + 1) = w then (n : Int) + 1 else opN w n
def opOf (w : Str) : Int := opN w 13
/-- A line, read: the step and the error. -/
def linW (s : Str) : List Str := splS 32 s
def linOp (s : Str) : Int := opOf ((linW s).headD [])
def linC (s : Str) : Bool := cntB (linOp s)
def linM (s : Str) : Int := 2 + nmZ (linOp s) + (if linC s then 1 else 0)
def linX (s : Str) : Step := if linC s then ⟨linOp s, ((linW s)[1]?).getD [], numV (((linW s)[2]?).getD []), (linW s).drop 3⟩ else ⟨linOp s, ((linW s)[1]?).getD [], 0, (linW s).drop 2⟩
def linE (s : Str) : Int :=
  if linOp s = 0 ∨ ((linW s).length : Int) ≠ linM s then 5
  else if linC s = true ∧ numE (((linW s)[2]?).getD []) ≠ 0 then numE (((linW s)[2]?).getD []) else validZ (linX s)
end Go.Proofs.YtcphiogbjdehhaaDoor
