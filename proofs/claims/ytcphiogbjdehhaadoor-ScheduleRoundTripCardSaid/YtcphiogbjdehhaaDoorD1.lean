/- Walks: small functions. -/
import Derived.Test.YtcphiogbjdehhaaDoorD0
import Derived.Test.YtcphiogbjdehhaaDoorS1
import Derived.IntWalk
namespace Go.Proofs.YtcphiogbjdehhaaDoor
open Go HX Go.IntWalk
set_option maxRecDepth 1000000
variable [ML]
set_option linter.unusedSectionVars false

theorem kw_f (op : Int) (r : AV) : ((decide (op < (1 : Int)) = true → some (AV.str []) = some r) ∧
  (decide (op < (1 : Int)) = false →
    (decide ((13 : Int) < op) = true → some (AV.str []) = some r) ∧
      (decide ((13 : Int) < op) = false →
        ((0 : Int) ≤ IntKind.wrap IntKind.i64 (op - (1 : Int)) ∧ IntKind.wrap IntKind.i64 (op - (1 : Int)) < (↑(13 : Nat) : Int)) ∧
          ((0 : Nat) + Int.toNat (IntKind.wrap IntKind.i64 (op - (1 : Int))) * (1 : Nat) + (1 : Nat) ≤ (13 : Nat) ∧
              partD false (1 : Nat) ((0 : Nat) + Int.toNat (IntKind.wrap IntKind.i64 (op - (1 : Int))) * (1 : Nat))
                  [AV.str [(115 : UInt8), (112 : UInt8), (108 : UInt8), (105 : UInt8), (116 : UInt8)],
                    AV.str [(99 : UInt8), (111 : UInt8), (108 : UInt8), (108 : UInt8), (97 : UInt8), (112 : UInt8), (115 : UInt8), (101 : UInt8)],
                    AV.str
                      [(105 : UInt8), (110 : UInt8), (116 : UInt8), (101 : UInt8), (114 : UInt8), (99 : UInt8), (104 : UInt8), (97 : UInt8),
                        (110 : UInt8), (103 : UInt8), (101 : UInt8)],
                    AV.str [(114 : UInt8), (101 : UInt8), (118 : UInt8), (101 : UInt8), (114 : UInt8), (115 : UInt8), (101 : UInt8)],
                    AV.str [(115 : UInt8), (107 : UInt8), (101 : UInt8), (119 : UInt8)],
                    AV.str [(102 : UInt8), (117 : UInt8), (115 : UInt8), (101 : UInt8)],
                    AV.str
                      [(100 : UInt8), (105 : UInt8), (115 : UInt8), (116 : UInt8), (114 : UInt8), (105 : UInt8), (98 : UInt8), (117 : UInt8),
                        (116 : UInt8), (101 : UInt8)],
                    AV.str [(117 : UInt8), (110 : UInt8), (114 : UInt8), (111 : UInt8), (108 : UInt8), (108 : UInt8)],
                    AV.str [(97 : UInt8), (110 : UInt8), (110 : UInt8), (111 : UInt8), (116 : UInt8), (97 : UInt8), (116 : UInt8), (101 : UInt8)],
                    AV.str [(105 : UInt8), (110 : UInt8), (108 : UInt8), (105 : UInt8), (110 : UInt8), (101 : UInt8)],
                    AV.str
                      [(99 : UInt8), (97 : UInt8), (99 : UInt8), (104 : UInt8), (101 : UInt8), (95 : UInt8), (114 : UInt8), (101 : UInt8),
                        (97 : UInt8), (100 : UInt8)],
                    AV.str
                      [(99 : UInt8), (111 : UInt8), (109 : UInt8), (112 : UInt8), (117 : UInt8), (116 : UInt8), (101 : UInt8), (95 : UInt8),
                        (97 : UInt8), (116 : UInt8)],
                    AV.str [(97 : UInt8), (108 : UInt8), (105 : UInt8), (97 : UInt8), (115 : UInt8)]] =
                AV.str (kwB op)) ∧
            some (AV.str (kwB op)) = some r))) = W 18 [(6, .split), (9, .split), (13, .s), (14, .e (.str (kwB op)))] [.int .i64 op] r := by kernel_rfl

theorem nm_f (op : Int) (r : AV) : (((op == (1 : Int)) = true → some (AV.int IntKind.i64 (2 : Int)) = some r) ∧
  ((op == (1 : Int)) = false →
    ((op == (11 : Int)) = true → some (AV.int IntKind.i64 (2 : Int)) = some r) ∧
      ((op == (11 : Int)) = false →
        ((op == (2 : Int)) = true → some (AV.int IntKind.i64 (1 : Int)) = some r) ∧
          ((op == (2 : Int)) = false →
            ((op == (12 : Int)) = true → some (AV.int IntKind.i64 (1 : Int)) = some r) ∧
              ((op == (12 : Int)) = false →
                ((op == (13 : Int)) = true → some (AV.int IntKind.i64 (1 : Int)) = some r) ∧
                  ((op == (13 : Int)) = false →
                    ((op == (5 : Int)) = true → some (AV.int IntKind.i64 (1 : Int)) = some r) ∧
                      ((op == (5 : Int)) = false → some (AV.int IntKind.i64 (0 : Int)) = some r))))))) = W 19 [(5, .split), (6, .split), (8, .split), (9, .split), (10, .split), (11, .split)] [.int .i64 op] r := by kernel_rfl

theorem nm2_f (op : Int) (r : AV) : (((op == (1 : Int)) = true → some (AV.int IntKind.i64 (2 : Int)) = some r) ∧
  ((op == (1 : Int)) = false →
    ((op == (11 : Int)) = true → some (AV.int IntKind.i64 (2 : Int)) = some r) ∧
      ((op == (11 : Int)) = false →
        ((op == (2 : Int)) = true → some (AV.int IntKind.i64 (1 : Int)) = some r) ∧
          ((op == (2 : Int)) = false →
            ((op == (5 : Int)) = true → some (AV.int IntKind.i64 (1 : Int)) = some r) ∧
              ((op == (5 : Int)) = false →
                ((op == (12 : Int)) = true → some (AV.int IntKind.i64 (1 : Int)) = some r) ∧
                  ((op == (12 : Int)) = false →
                    ((op == (13 : Int)) = true → some (AV.int IntKind.i64 (1 : Int)) = some r) ∧
                      ((op == (13 : Int)) = false → some (AV.int IntKind.i64 (0 : Int)) = some r))))))) = W 24 [(5, .split), (6, .split), (8, .split), (9, .split), (10, .split), (11, .split)] [.int .i64 op] r := by kernel_rfl

theorem cnt_f (op : Int) (r : AV) : (((op == (1 : Int)) = true → some (AV.bool true) = some r) ∧
  ((op == (1 : Int)) = false →
    ((op == (5 : Int)) = true → some (AV.bool true) = some r) ∧
      ((op == (5 : Int)) = false →
        ((op == (7 : Int)) = true → some (AV.bool true) = some r) ∧
          ((op == (7 : Int)) = false →
            ((op == (9 : Int)) = true → some (AV.bool true) = some r) ∧ ((op == (9 : Int)) = false → some (AV.bool false) = some r))))) = W 20 [(4, .split), (7, .split), (11, .split), (15, .split)] [.int .i64 op] r := by kernel_rfl

theorem cnt2_f (op : Int) (r : AV) : (((op == (1 : Int)) = true → some (AV.bool true) = some r) ∧
  ((op == (1 : Int)) = false →
    ((op == (5 : Int)) = true → some (AV.bool true) = some r) ∧
      ((op == (5 : Int)) = false →
        ((op == (7 : Int)) = true → some (AV.bool true) = some r) ∧
          ((op == (7 : Int)) = false →
            ((op == (9 : Int)) = true → some (AV.bool true) = some r) ∧ ((op == (9 : Int)) = false → some (AV.bool false) = some r))))) = W 25 [(4, .split), (7, .split), (11, .split), (15, .split)] [.int .i64 op] r := by kernel_rfl

theorem pres_f (s : Step) (r : AV) : (((Step.op s == (1 : Int)) = true → some (AV.bool true) = some r) ∧
  ((Step.op s == (1 : Int)) = false →
    ((Step.op s == (2 : Int)) = true → some (AV.bool true) = some r) ∧
      ((Step.op s == (2 : Int)) = false →
        ((Step.op s == (5 : Int)) = true → some (AV.bool true) = some r) ∧
          ((Step.op s == (5 : Int)) = false →
            ((Step.op s == (8 : Int)) = true → some (AV.bool true) = some r) ∧
              ((Step.op s == (8 : Int)) = false →
                ((Step.op s == (9 : Int)) = true → some (AV.bool true) = some r) ∧
                  ((Step.op s == (9 : Int)) = false →
                    ((Step.op s == (11 : Int)) = true → some (AV.bool true) = some r) ∧
                      ((Step.op s == (11 : Int)) = false → some (AV.bool false) = some r))))))) = W 10 [(6, .split), (7, .split), (8, .split), (9, .split), (10, .split), (11, .split)] [s.av] r := by kernel_rfl

theorem pres2_f (s : Step) (r : AV) : (((Step.op s == (1 : Int)) = true → some (AV.bool true) = some r) ∧
  ((Step.op s == (1 : Int)) = false →
    ((Step.op s == (2 : Int)) = true → some (AV.bool true) = some r) ∧
      ((Step.op s == (2 : Int)) = false →
        ((Step.op s == (5 : Int)) = true → some (AV.bool true) = some r) ∧
          ((Step.op s == (5 : Int)) = false →
            ((Step.op s == (8 : Int)) = true → some (AV.bool true) = some r) ∧
              ((Step.op s == (8 : Int)) = false →
                ((Step.op s == (9 : Int)) = true → some (AV.bool true) = some r) ∧
                  ((Step.op s == (9 : Int)) = false →
                    ((Step.op s == (11 : Int)) = true → some (AV.bool true) = some r) ∧
                      ((Step.op s == (11 : Int)) = false → some (AV.bool false) = some r))))))) = W 11 [(6, .split), (7, .split), (8, .split), (9, .split), (10, .split), (11, .split)] [s.av] r := by kernel_rfl

theorem letter_f (c : Int) (r : AV) : ((decide ((97 : Int) ≤ c) = true →
    (decide (c ≤ (122 : Int)) = true → some (AV.bool true) = some r) ∧ (decide (c ≤ (122 : Int)) = false → some (AV.bool false) = some r)) ∧
  (decide ((97 : Int) ≤ c) = false → some (AV.bool false) = some r)) = W 36 [(4, .split), (7, .split)] [.int .i32 c] r := by kernel_rfl

theorem digit_f (c : Int) (r : AV) : ((decide ((48 : Int) ≤ c) = true →
    (decide (c ≤ (57 : Int)) = true → some (AV.bool true) = some r) ∧ (decide (c ≤ (57 : Int)) = false → some (AV.bool false) = some r)) ∧
  (decide ((48 : Int) ≤ c) = false → some (AV.bool false) = some r)) = W 53 [(4, .split), (7, .split)] [.int .i32 c] r := by kernel_rfl

theorem word_f (c : Int) (r : AV) : (Pu Tryd.prog gls (36 : Nat) [AV.int IntKind.i32 c] (AV.bool (letterB c)) ∧
  (letterB c = true → some (AV.bool true) = some r) ∧
    (letterB c = false →
      Pu Tryd.prog gls (53 : Nat) [AV.int IntKind.i32 c] (AV.bool (digitB c)) ∧
        (digitB c = true → some (AV.bool true) = some r) ∧
          (digitB c = false →
            ((c == (95 : Int)) = true → some (AV.bool true) = some r) ∧ ((c == (95 : Int)) = false → some (AV.bool false) = some r)))) = W 38 [(11, .split), (4, .cs (letterB c)), (7, .cs (digitB c))] [.int .i32 c] r := by kernel_rfl

theorem span_f (s : Str) (i : Nat) (alts : List Alt) (N : List AV → List Bx → Prop) : ((decide ((↑i : Int) < (↑(List.length s) : Int)) = true →
    ((0 : Int) ≤ (↑i : Int) ∧ s[Int.toNat (↑i : Int)]? = some (Option.getD s[i]? (0 : UInt8))) ∧
      Pu Tryd.prog gls (38 : Nat) [AV.int IntKind.i32 (IntKind.wrap IntKind.i32 (↑(UInt8.toNat (Option.getD s[i]? (0 : UInt8))) : Int))]
          (AV.bool (wordB (u8i (Option.getD s[i]? (0 : UInt8))))) ∧
        (wordB (u8i (Option.getD s[i]? (0 : UInt8))) = true →
            N [AV.str s, AV.fn (38 : Nat) [], AV.int IntKind.i64 (IntKind.wrap IntKind.i64 ((↑i : Int) + (1 : Int)))] []) ∧
          (wordB (u8i (Option.getD s[i]? (0 : UInt8))) = false → Out alts (Exit.exit (0 : Nat)) [AV.int IntKind.i64 (↑i : Int)] [])) ∧
  (decide ((↑i : Int) < (↑(List.length s) : Int)) = false → Out alts (Exit.exit (0 : Nat)) [AV.int IntKind.i64 (↑i : Int)] [])) = WR 37 2 21 [(9, .split), (14, .u ((s[i]?).getD 0)), (16, .cs (wordB (u8i ((s[i]?).getD 0))))] [0, 1, 5] [] [5] [] alts [.str s, .fn 38 [], .int .i64 i] [] N := by kernel_rfl

theorem kw_ok (op : Int) : Pu Tryd.prog gls 18 [.int .i64 op] (.str (kwB op)) := Pu1 (kw_f op _) (by
  refine ⟨fun h => ?_, fun h => ⟨fun h2 => ?_, fun h2 => ?_⟩⟩
  · simp at h; simp [kwB, h]
  · simp at h h2; simp [kwB, h2]
  · simp only [decide_eq_false_iff_not] at h h2
    rw [i64_in _ (by omega)]
    have : op = 1 ∨ op = 2 ∨ op = 3 ∨ op = 4 ∨ op = 5 ∨ op = 6 ∨ op = 7 ∨ op = 8 ∨ op = 9 ∨ op = 10 ∨ op = 11 ∨ op = 12 ∨ op = 13 := by omega
    rcases this with rfl | rfl | rfl | rfl | rfl | rfl | rfl | rfl | rfl | rfl | rfl | rfl | rfl <;> exact ⟨⟨by decide, by decide⟩, ⟨by decide, rfl⟩, rfl⟩)
theorem nm_ok (op : Int) : Pu Tryd.prog gls 19 [.int .i64 op] (.int .i64 (nmZ op)) := Pu1 (nm_f op _) (by
  (repeat' (first | intro _ | apply And.intro)) <;> simp_all [nmZ])
theorem nm2_ok (op : Int) : Pu Tryd.prog gls 24 [.int .i64 op] (.int .i64 (nmZ op)) := Pu1 (nm2_f op _) (by
  (repeat' (first | intro _ | apply And.intro)) <;> simp_all [nmZ])
theorem cnt_ok (op : Int) : Pu Tryd.prog gls 20 [.int .i64 op] (.bool (cntB op)) := Pu1 (cnt_f op _) (by
  (repeat' (first | intro _ | apply And.intro)) <;> simp_all [cntB])
theorem cnt2_ok (op : Int) : Pu Tryd.prog gls 25 [.int .i64 op] (.bool (cntB op)) := Pu1 (cnt2_f op _) (by
  (repeat' (first | intro _ | apply And.intro)) <;> simp_all [cntB])
theorem pres_ok (s : Step) : Pu Tryd.prog gls 10 [s.av] (.bool (presB s.op)) := Pu1 (pres_f s _) (by
  (repeat' (first | intro _ | apply And.intro)) <;> simp_all [presB])
theorem pres2_ok (s : Step) : Pu Tryd.prog gls 11 [s.av] (.bool (presB s.op)) := Pu1 (pres2_f s _) (by
  (repeat' (first | intro _ | apply And.intro)) <;> simp_all [presB])
theorem letter_ok (c : Int) : Pu Tryd.prog gls 36 [.int .i32 c] (.bool (letterB c)) := Pu1 (letter_f c _) (by
  (repeat' (first | intro _ | apply And.intro)) <;> simp_all [letterB] <;> omega)
theorem digit_ok (c : Int) : Pu Tryd.prog gls 53 [.int .i32 c] (.bool (digitB c)) := Pu1 (digit_f c _) (by
  (repeat' (first | intro _ | apply And.intro)) <;> simp_all [digitB] <;> omega)
theorem word_ok (c : Int) : Pu Tryd.prog gls 38 [.int .i32 c] (.bool (wordB c)) := Pu1 (word_f c _) (by
  (repeat' (first | intro _ | apply And.intro)) <;> first | exact letter_ok c | exact digit_ok c | simp_all [wordB])

def spanN (s : Str) : Nat := (s.takeWhile fun b => wordB (u8i b)).length
theorem spanN_le (s : Str) : spanN s ≤ s.length := (List.takeWhile_sublist _).length_le
theorem getD_some {α : Type} {l : List α} {i : Nat} (d : α) (h : i < l.length) : l[i]? = some ((l[i]?).getD d) := by simp [h]
theorem tw_lt {α : Type} (p : α → Bool) : ∀ (l : List α) (i : Nat), i < (l.takeWhile p).length → ∃ x, l[i]? = some x ∧ p x = true
  | [], i, h => by simp at h
  | a :: l, i, h => by
    simp only [List.takeWhile_cons] at h
    split at h
    · rename_i ha
      cases i with
      | zero => exact ⟨a, rfl, ha⟩
      | succ i => exact tw_lt p l i (by simpa using h)
    · simp at h
theorem tw_end {α : Type} (p : α → Bool) : ∀ (l : List α) (x : α), l[(l.takeWhile p).length]? = some x → p x = false
  | [], x, h => by simp at h
  | a :: l, x, h => by
    simp only [List.takeWhile_cons] at h
    split at h
    · exact tw_end p l x (by simpa using h)
    · rename_i ha
      simp at h; subst h; simpa using ha

theorem u8i_wrap (b : UInt8) : IntKind.wrap .i32 (u8i b) = u8i b := i32_in _ (by have := b.toNat_lt; unfold u8i; omega)

theorem span_loop (s : Str) (hs : s.length ≤ 9223372036854775807) : LoopOk Tryd.prog gls 21 (lcode Tryd.prog 37 3) [0, 1, 5] [.str s, .fn 38 [], .int .i64 (0 : Nat)] [] [5] [⟨True, .exit 0, [.int .i64 (spanN s)], []⟩] :=
  Lp1 (r := 2) (kb := []) (kbx := []) (by kernel_rfl) (fun j vs bs => ∃ i : Nat, j = s.length - i ∧ i ≤ spanN s ∧ vs = [.str s, .fn 38 [], .int .i64 i] ∧ bs = [])
    (fun j vs bs ⟨i, hj, hi, hv, hb⟩ => by
      subst hv; subst hb
      refine WR1 (span_f s i _ _) ⟨fun h => ?_, fun h => ?_⟩
      · simp only [decide_eq_true_eq] at h
        have hl : i < s.length := by omega
        have hg := getD_some 0 hl
        refine ⟨⟨by omega, by simpa using hg⟩, by have := word_ok (u8i ((s[i]?).getD 0)); rw [← u8i_wrap] at this; exact u8i_wrap ((s[i]?).getD 0) ▸ this, fun hw => ?_, fun hw => ?_⟩
        · rw [i64_in _ (by omega)]
          refine ⟨s.length - (i + 1), by omega, i + 1, rfl, ?_, rfl, rfl⟩
          rcases Nat.lt_or_ge i (spanN s) with h1 | h1
          · exact h1
          · have : i = spanN s := by omega
            subst this
            have := tw_end _ s _ hg
            rw [hw] at this; cases this
        · have : i = spanN s := by
            rcases Nat.lt_or_ge i (spanN s) with h1 | h1
            · obtain ⟨x, hx, hp⟩ := tw_lt _ s i h1
              rw [hx] at hw; simp only [Option.getD_some] at hw; rw [hw] at hp; cases hp
            · omega
          subst this; exact Out.here trivial
      · simp only [decide_eq_false_iff_not] at h
        have := spanN_le s
        have : i = spanN s := by omega
        subst this; exact Out.here trivial) (j := s.length) ⟨0, by omega, by omega, rfl, rfl⟩
end Go.Proofs.YtcphiogbjdehhaaDoor
