/- Walks: the numerals of a schedule, read. -/
import Derived.Test.YtcphiogbjdehhaaDoorD7
import Derived.Test.YtcphiogbjdehhaaDoorD6
namespace Go.Proofs.YtcphiogbjdehhaaDoor
open Go HX Go.IntWalk
set_option maxRecDepth 1000000
variable [ML]
set_option linter.unusedSectionVars false

theorem nu_f (t : Str) (q : Bool) (n : Int) (i : Nat) (c : UInt8) (alts : List Alt) (N : List AV → List Bx → Prop) : ((decide ((↑i : Int) < (↑(List.length t) : Int)) = true →
    ((0 : Int) ≤ (↑i : Int) ∧ t[Int.toNat (↑i : Int)]? = some c) ∧
      (decide ((↑(UInt8.toNat c) : Int) < (48 : Int)) = true →
          Out alts Exit.ret [AV.int IntKind.i64 (0 : Int), AV.int IntKind.i64 (5 : Int), AV.bool q, AV.int IntKind.i64 n] []) ∧
        (decide ((↑(UInt8.toNat c) : Int) < (48 : Int)) = false →
          ((0 : Int) ≤ (↑i : Int) ∧ t[Int.toNat (↑i : Int)]? = some c) ∧
            (decide ((57 : Int) < (↑(UInt8.toNat c) : Int)) = true →
                Out alts Exit.ret [AV.int IntKind.i64 (0 : Int), AV.int IntKind.i64 (5 : Int), AV.bool q, AV.int IntKind.i64 n] []) ∧
              (decide ((57 : Int) < (↑(UInt8.toNat c) : Int)) = false →
                ((0 : Int) ≤ (↑i : Int) ∧ t[Int.toNat (↑i : Int)]? = some c) ∧
                  N
                    [AV.str t, AV.bool q,
                      AV.int IntKind.i64
                        (if false = true then
                          max
                            (IntKind.wrap IntKind.i64
                              (IntKind.wrap IntKind.i64 (n * (10 : Int)) +
                                IntKind.wrap IntKind.i64 (IntKind.wrap IntKind.u8 ((↑(UInt8.toNat c) : Int) - (48 : Int)))))
                            (2147483648 : Int)
                        else
                          min
                            (IntKind.wrap IntKind.i64
                              (IntKind.wrap IntKind.i64 (n * (10 : Int)) +
                                IntKind.wrap IntKind.i64 (IntKind.wrap IntKind.u8 ((↑(UInt8.toNat c) : Int) - (48 : Int)))))
                            (2147483648 : Int)),
                      AV.int IntKind.i64 (↑(List.length t) : Int), AV.int IntKind.i64 (IntKind.wrap IntKind.i64 ((↑i : Int) + (1 : Int)))]
                    []))) ∧
  (decide ((↑i : Int) < (↑(List.length t) : Int)) = false → Out alts (Exit.exit (0 : Nat)) [AV.undef, AV.undef, AV.bool q, AV.int IntKind.i64 n] [])) = WR 49 6 59 [(14, .split), (18, .split), (22, .split), (31, .split), (36, .split), (41, .split), (54, .split), (35, .u c), (40, .u c), (47, .u c)] [4, 5, 6, 29, 30] [] [2, 3, 5, 6] [] alts [.str t, .bool q, .int .i64 n, .int .i64 t.length, .int .i64 i] [] N := by kernel_rfl

theorem nuT_f (s t : Str) (c : UInt8) (z zx : Int) (r : AV) : (Pu Tryd.prog gls (61 : Nat) [AV.str s, AV.str [(45 : UInt8)]] (AV.tup [AV.str t, AV.bool true]) ∧
  ((t == []) = true → some (AV.tup [AV.int IntKind.i64 (0 : Int), AV.int IntKind.i64 (5 : Int)]) = some r) ∧
    ((t == []) = false →
      ((0 : Int) ≤ (0 : Int) ∧ t[(0 : Nat)]? = some c) ∧
        (((↑(UInt8.toNat c) : Int) == (48 : Int)) = true →
            (decide ((1 : Int) < (↑(List.length t) : Int)) = true →
                some (AV.tup [AV.int IntKind.i64 (0 : Int), AV.int IntKind.i64 (5 : Int)]) = some r) ∧
              (decide ((1 : Int) < (↑(List.length t) : Int)) = false →
                some (AV.tup [AV.int IntKind.i64 (0 : Int), AV.int IntKind.i64 (5 : Int)]) = some r)) ∧
          (((↑(UInt8.toNat c) : Int) == (48 : Int)) = false →
            LoopOk Tryd.prog gls (59 : Nat) (lcode Tryd.prog (49 : Nat) (7 : Nat)) [(4 : Nat), (5 : Nat), (6 : Nat), (29 : Nat), (30 : Nat)]
                [AV.str t, AV.bool true, AV.int IntKind.i64 (0 : Int), AV.int IntKind.i64 (↑(List.length t) : Int), AV.int IntKind.i64 (0 : Int)] []
                [(2 : Nat), (3 : Nat), (5 : Nat), (6 : Nat)]
                [{ φ := List.all t dgB = false, ex := Exit.ret,
                    vs := [AV.int IntKind.i64 (0 : Int), AV.int IntKind.i64 (5 : Int), AV.bool true, AV.int IntKind.i64 zx], bs := [] },
                  { φ := List.all t dgB = true, ex := Exit.exit (0 : Nat), vs := [AV.undef, AV.undef, AV.bool true, AV.int IntKind.i64 z],
                    bs := [] }] ∧
              (List.all t dgB = false → some (AV.tup [AV.int IntKind.i64 (0 : Int), AV.int IntKind.i64 (5 : Int)]) = some r) ∧
                (List.all t dgB = true →
                  (decide ((2147483647 : Int) < z) = true → some (AV.tup [AV.int IntKind.i64 (0 : Int), AV.int IntKind.i64 (3 : Int)]) = some r) ∧
                    (decide ((2147483647 : Int) < z) = false →
                      some (AV.tup [AV.int IntKind.i64 (IntKind.wrap IntKind.i64 ((0 : Int) - z)), AV.int IntKind.i64 (0 : Int)]) = some r))))) = W 49 [(14, .split), (18, .split), (22, .split), (31, .split), (36, .split), (41, .split), (54, .split), (10, .c (.tup [.str t, .bool true])), (17, .u c), (3000007, .l [4, 5, 6, 29, 30] [] [2, 3, 5, 6] [] [⟨t.all dgB = false, .ret, [.int .i64 0, .int .i64 5, .bool true, .int .i64 zx], []⟩, ⟨t.all dgB = true, .exit 0, [.undef, .undef, .bool true, .int .i64 z], []⟩])] [.str s] r := by kernel_rfl

theorem nuU_f (s t : Str) (c : UInt8) (z zx : Int) (r : AV) : (Pu Tryd.prog gls (61 : Nat) [AV.str s, AV.str [(45 : UInt8)]] (AV.tup [AV.str t, AV.bool false]) ∧
  ((t == []) = true → some (AV.tup [AV.int IntKind.i64 (0 : Int), AV.int IntKind.i64 (5 : Int)]) = some r) ∧
    ((t == []) = false →
      ((0 : Int) ≤ (0 : Int) ∧ t[(0 : Nat)]? = some c) ∧
        (((↑(UInt8.toNat c) : Int) == (48 : Int)) = true →
            (decide ((1 : Int) < (↑(List.length t) : Int)) = true →
                some (AV.tup [AV.int IntKind.i64 (0 : Int), AV.int IntKind.i64 (5 : Int)]) = some r) ∧
              (decide ((1 : Int) < (↑(List.length t) : Int)) = false →
                LoopOk Tryd.prog gls (59 : Nat) (lcode Tryd.prog (49 : Nat) (7 : Nat)) [(4 : Nat), (5 : Nat), (6 : Nat), (29 : Nat), (30 : Nat)]
                    [AV.str t, AV.bool false, AV.int IntKind.i64 (0 : Int), AV.int IntKind.i64 (↑(List.length t) : Int), AV.int IntKind.i64 (0 : Int)]
                    [] [(2 : Nat), (3 : Nat), (5 : Nat), (6 : Nat)]
                    [{ φ := List.all t dgB = false, ex := Exit.ret,
                        vs := [AV.int IntKind.i64 (0 : Int), AV.int IntKind.i64 (5 : Int), AV.bool false, AV.int IntKind.i64 zx], bs := [] },
                      { φ := List.all t dgB = true, ex := Exit.exit (0 : Nat), vs := [AV.undef, AV.undef, AV.bool false, AV.int IntKind.i64 z],
                        bs := [] }] ∧
                  (List.all t dgB = false → some (AV.tup [AV.int IntKind.i64 (0 : Int), AV.int IntKind.i64 (5 : Int)]) = some r) ∧
                    (List.all t dgB = true →
                      (decide ((2147483647 : Int) < z) = true → some (AV.tup [AV.int IntKind.i64 (0 : Int), AV.int IntKind.i64 (3 : Int)]) = some r) ∧
                        (decide ((2147483647 : Int) < z) = false → some (AV.tup [AV.int IntKind.i64 z, AV.int IntKind.i64 (0 : Int)]) = some r)))) ∧
          (((↑(UInt8.toNat c) : Int) == (48 : Int)) = false →
            LoopOk Tryd.prog gls (59 : Nat) (lcode Tryd.prog (49 : Nat) (7 : Nat)) [(4 : Nat), (5 : Nat), (6 : Nat), (29 : Nat), (30 : Nat)]
                [AV.str t, AV.bool false, AV.int IntKind.i64 (0 : Int), AV.int IntKind.i64 (↑(List.length t) : Int), AV.int IntKind.i64 (0 : Int)] []
                [(2 : Nat), (3 : Nat), (5 : Nat), (6 : Nat)]
                [{ φ := List.all t dgB = false, ex := Exit.ret,
                    vs := [AV.int IntKind.i64 (0 : Int), AV.int IntKind.i64 (5 : Int), AV.bool false, AV.int IntKind.i64 zx], bs := [] },
                  { φ := List.all t dgB = true, ex := Exit.exit (0 : Nat), vs := [AV.undef, AV.undef, AV.bool false, AV.int IntKind.i64 z],
                    bs := [] }] ∧
              (List.all t dgB = false → some (AV.tup [AV.int IntKind.i64 (0 : Int), AV.int IntKind.i64 (5 : Int)]) = some r) ∧
                (List.all t dgB = true →
                  (decide ((2147483647 : Int) < z) = true → some (AV.tup [AV.int IntKind.i64 (0 : Int), AV.int IntKind.i64 (3 : Int)]) = some r) ∧
                    (decide ((2147483647 : Int) < z) = false → some (AV.tup [AV.int IntKind.i64 z, AV.int IntKind.i64 (0 : Int)]) = some r))))) = W 49 [(14, .split), (18, .split), (22, .split), (31, .split), (36, .split), (41, .split), (54, .split), (10, .c (.tup [.str t, .bool false])), (17, .u c), (3000007, .l [4, 5, 6, 29, 30] [] [2, 3, 5, 6] [] [⟨t.all dgB = false, .ret, [.int .i64 0, .int .i64 5, .bool false, .int .i64 zx], []⟩, ⟨t.all dgB = true, .exit 0, [.undef, .undef, .bool false, .int .i64 z], []⟩])] [.str s] r := by kernel_rfl


theorem numF_nn {n : Int} {c : UInt8} (h : dgB c = true) (h0 : 0 ≤ n) (h1 : n ≤ 2147483648) : 0 ≤ numF n c ∧ numF n c ≤ 2147483648 := by
  simp only [dgB, digitB, Bool.and_eq_true, decide_eq_true_eq] at h
  unfold numF; omega
theorem numN_nn {t : Str} (h : t.all dgB = true) : 0 ≤ numN t ∧ numN t ≤ 2147483648 := by
  have : ∀ (t : Str) (n : Int), t.all dgB = true → 0 ≤ n → n ≤ 2147483648 → 0 ≤ t.foldl numF n ∧ t.foldl numF n ≤ 2147483648 := fun t => by
    induction t with
    | nil => intro n _ h0 h1; exact ⟨h0, h1⟩
    | cons a t ih =>
      intro n ht h0 h1
      simp only [List.all_cons, Bool.and_eq_true] at ht
      have := numF_nn ht.1 h0 h1
      exact ih _ ht.2 this.1 this.2
  exact this t 0 h (by omega) (by omega)
theorem numN_succ {t : Str} {i : Nat} {c : UInt8} (h : t[i]? = some c) : numN (t.take (i + 1)) = numF (numN (t.take i)) c := by
  rw [List.take_add_one, h]; simp [numN]
theorem tw_at {α : Type} {p : α → Bool} {l : List α} {i : Nat} {x : α} (ht : (l.take i).all p = true) (hx : l[i]? = some x) (hq : p x = false) : l.takeWhile p = l.take i := by
  have hi := lt_of_some hx
  conv => lhs; rw [(List.take_append_drop i l).symm]
  rw [List.takeWhile_append_of_pos fun y hy => List.all_eq_true.1 ht y hy, List.drop_eq_getElem_cons hi]
  have hx' : l[i] = x := by rw [List.getElem?_eq_getElem hi] at hx; exact Option.some.inj hx
  rw [List.takeWhile_cons_of_neg (by rw [hx']; simp [hq])]; simp

theorem nu_loop (t : Str) (q : Bool) (hl : t.length ≤ 100000) : LoopOk Tryd.prog gls 59 (lcode Tryd.prog 49 7) [4, 5, 6, 29, 30] [.str t, .bool q, .int .i64 0, .int .i64 t.length, .int .i64 (0 : Nat)] [] [2, 3, 5, 6]
    [⟨t.all dgB = false, .ret, [.int .i64 0, .int .i64 5, .bool q, .int .i64 (numN (t.takeWhile dgB))], []⟩, ⟨t.all dgB = true, .exit 0, [.undef, .undef, .bool q, .int .i64 (numN t)], []⟩] :=
  Lp1 (r := 6) (kb := []) (kbx := []) (by kernel_rfl) (fun j vs bs => ∃ i : Nat, j = t.length - i ∧ i ≤ t.length ∧ (t.take i).all dgB = true ∧ vs = [.str t, .bool q, .int .i64 (numN (t.take i)), .int .i64 t.length, .int .i64 i] ∧ bs = [])
    (fun j vs bs ⟨i, hj, hi, ht, hv, hb⟩ => by
      subst hv; subst hb
      have hnn := numN_nn ht
      rcases Nat.lt_or_ge i t.length with hlt | hge
      · obtain ⟨c, hc⟩ := some_of_lt hlt
        have hcn : (c.toNat : Int) < 256 := by have := c.toNat_lt; omega
        have hbad : dgB c = false → Out [⟨t.all dgB = false, .ret, [.int .i64 0, .int .i64 5, .bool q, .int .i64 (numN (t.takeWhile dgB))], []⟩, ⟨t.all dgB = true, .exit 0, [.undef, .undef, .bool q, .int .i64 (numN t)], []⟩] .ret [.int .i64 0, .int .i64 5, .bool q, .int .i64 (numN (t.take i))] [] := fun h => by
          rw [← tw_at ht hc h]; exact Out.here (all_false_at hc h)
        refine WR1 (nu_f t q (numN (t.take i)) i c _ _) ⟨fun _ => ⟨⟨by omega, str_get hc⟩, fun h1 => hbad ?_, fun h1 => ⟨⟨by omega, str_get hc⟩, fun h2 => hbad ?_, fun h2 => ⟨⟨by omega, str_get hc⟩, ?_⟩⟩⟩, fun h => by simp at h; omega⟩
        · simp only [decide_eq_true_eq] at h1
          unfold dgB digitB u8i; simp; omega
        · simp only [decide_eq_true_eq] at h2
          unfold dgB digitB u8i; simp; omega
        · simp only [decide_eq_false_iff_not] at h1 h2
          have hd : dgB c = true := by unfold dgB digitB u8i; simp; omega
          refine ⟨t.length - (i + 1), by omega, i + 1, rfl, by omega, take_succ_all ht hc hd, ?_, rfl⟩
          rw [numN_succ hc, if_neg (by decide), u8w (by omega) (by omega), i64_in ((c.toNat : Int) - 48) (by omega), i64_in (numN (t.take i) * 10) (by omega), i64_in _ (by omega), i64_in _ (by omega)]
          rfl
      · rw [List.take_of_length_le hge] at ht ⊢
        exact WR1 (nu_f t q (numN t) i 0 _ _) ⟨fun h => by simp at h; omega, fun _ => Out.next (Out.here ht)⟩) (j := t.length) ⟨0, by omega, by omega, by simp, rfl, rfl⟩

theorem hd_get {t : Str} (h : (t == []) = false) : t[0]? = some (t.headD 0) := by cases t with | nil => simp at h | cons a t => rfl

theorem nuS_ok (s : Str) (hl : s.length ≤ 100000) : Pu Tryd.prog gls 49 [.str s] (.tup [.int .i64 (numV s), .int .i64 (numE s)]) := by
  have hc := cutp_ok s
  have hdl : (digS s).length ≤ 100000 := by
    have : (digS s).length ≤ s.length := by unfold digS; split <;> simp
    omega
  have hlp := nu_loop (digS s) (negS s) hdl
  unfold numV
  have hE : numE s = if digS s = [] ∨ ((digS s).headD 0 = 48 ∧ (1 < (digS s).length ∨ negS s = true)) then 5 else if (digS s).all dgB then (if 2147483647 < numN (digS s) then 3 else 0) else 5 := rfl
  rw [hE]
  generalize digS s = t at *
  generalize negS s = q at *
  have h48 : (((UInt8.toNat (t.headD 0) : Nat) : Int) == 48) = decide (t.headD 0 = 48) := by
    rw [Bool.eq_iff_iff]; simp only [beq_iff_eq, decide_eq_true_eq]
    constructor
    · intro h; exact UInt8.toNat_inj.1 (by simpa using (by omega : (t.headD 0).toNat = 48))
    · intro h; rw [h]; rfl
  have fin : ∀ z : Int, t.all dgB = true → IntKind.wrap .i64 (0 - numN t) = -(numN t) := fun _ h => by have := numN_nn h; rw [i64_in _ (by omega)]; omega
  have fT := nuT_f s t (t.headD 0) (numN t) (numN (t.takeWhile dgB))
  have fU := nuU_f s t (t.headD 0) (numN t) (numN (t.takeWhile dgB))
  have hg : (t == []) = false → t[0]? = some (t.headD 0) := hd_get
  generalize t.all dgB = A at *
  generalize numN t = z at *
  generalize numN (t.takeWhile dgB) = zx at *
  generalize t.headD 0 = c at *
  cases q with
  | true =>
    refine Pu1 (fT _) ⟨hc, fun h => ?_, fun h => ⟨⟨by omega, hg h⟩, fun h1 => ⟨fun h2 => ?_, fun h2 => ?_⟩, fun h1 => ⟨hlp, fun h3 => ?_, fun h3 => ⟨fun h4 => ?_, fun h4 => ?_⟩⟩⟩⟩
    all_goals clear fT fU hlp hc hg
    all_goals simp only [h48, decide_eq_true_eq, decide_eq_false_iff_not, beq_iff_eq, beq_eq_false_iff_ne] at *
    all_goals (try have hw := fin 0 h3)
    all_goals simp_all <;> (try omega)
  | false =>
    refine Pu1 (fU _) ⟨hc, fun h => ?_, fun h => ⟨⟨by omega, hg h⟩, fun h1 => ⟨fun h2 => ?_, fun h2 => ⟨hlp, fun h3 => ?_, fun h3 => ⟨fun h4 => ?_, fun h4 => ?_⟩⟩⟩, fun h1 => ⟨hlp, fun h3 => ?_, fun h3 => ⟨fun h4 => ?_, fun h4 => ?_⟩⟩⟩⟩
    all_goals clear fT fU hlp hc hg
    all_goals simp only [h48, decide_eq_true_eq, decide_eq_false_iff_not, beq_iff_eq, beq_eq_false_iff_ne] at *
    all_goals simp_all <;> (try omega)

end Go.Proofs.YtcphiogbjdehhaaDoor
