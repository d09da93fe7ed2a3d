/- Walks: the reference's numerals and its Format. -/
import Derived.Test.YtcphiogbjdehhaaDoorD3
import Derived.Test.YtcphiogbjdehhaaDoorD5
namespace Go.Proofs.YtcphiogbjdehhaaDoor
open Go HX Go.IntWalk
set_option maxRecDepth 1000000
variable [ML]
set_option linter.unusedSectionVars false

theorem dec_f (n : Int) (c : UInt8) (a b : Str) (r : AV) : ((decide (n < (0 : Int)) = true →
    Pu Tryd.prog gls (46 : Nat) [AV.int IntKind.i64 (IntKind.wrap IntKind.i64 ((0 : Int) - n))] (AV.str a) ∧
      (1 : Nat) + List.length a ≤ (9223372036854775807 : Nat) ∧ some (AV.str ([(45 : UInt8)] ++ a)) = some r) ∧
  (decide (n < (0 : Int)) = false →
    (decide (n < (10 : Int)) = true →
        ((1 : Nat) ≤ (1 : Nat) ∧
            [AV.int IntKind.u8 (IntKind.wrap IntKind.u8 (IntKind.wrap IntKind.i64 ((48 : Int) + n)))] =
              [AV.int IntKind.u8 (↑(UInt8.toNat c) : Int)]) ∧
          some (AV.str [c]) = some r) ∧
      (decide (n < (10 : Int)) = false →
        (10 : Int) ≠ (0 : Int) ∧
          Pu Tryd.prog gls (46 : Nat) [AV.int IntKind.i64 (IntKind.wrap IntKind.i64 (Int.tdiv n (10 : Int)))] (AV.str b) ∧
            (10 : Int) ≠ (0 : Int) ∧
              ((1 : Nat) ≤ (1 : Nat) ∧
                  [AV.int IntKind.u8 (IntKind.wrap IntKind.u8 (IntKind.wrap IntKind.i64 ((48 : Int) + Int.tmod n (10 : Int))))] =
                    [AV.int IntKind.u8 (↑(UInt8.toNat c) : Int)]) ∧
                List.length b + (1 : Nat) ≤ (9223372036854775807 : Nat) ∧ some (AV.str (b ++ [c])) = some r))) = W 46 [(4, .split), (10, .split), (7, .c (.str a)), (8, .s), (15, .us [c]), (17, .s), (18, .c (.str b)), (20, .s), (24, .us [c]), (25, .s)] [.int .i64 n] r := by kernel_rfl

theorem num_f (n : Int) (a : Str) (r : AV) : (((n == (-9223372036854775808 : Int)) = true →
    some
        (AV.str
          [(45 : UInt8), (57 : UInt8), (50 : UInt8), (50 : UInt8), (51 : UInt8), (51 : UInt8), (55 : UInt8), (50 : UInt8), (48 : UInt8), (51 : UInt8),
            (54 : UInt8), (56 : UInt8), (53 : UInt8), (52 : UInt8), (55 : UInt8), (55 : UInt8), (53 : UInt8), (56 : UInt8), (48 : UInt8),
            (56 : UInt8)]) =
      some r) ∧
  ((n == (-9223372036854775808 : Int)) = false → Pu Tryd.prog gls (46 : Nat) [AV.int IntKind.i64 n] (AV.str a) ∧ some (AV.str a) = some r)) = W 32 [(4, .split), (6, .c (.str a))] [.int .i64 n] r := by kernel_rfl

theorem rkw_f (r : AV) : (some
    (AV.sl (1 : Nat)
      [AV.agg [AV.str [(115 : UInt8), (112 : UInt8), (108 : UInt8), (105 : UInt8), (116 : UInt8)]],
        AV.agg [AV.str [(99 : UInt8), (111 : UInt8), (108 : UInt8), (108 : UInt8), (97 : UInt8), (112 : UInt8), (115 : UInt8), (101 : UInt8)]],
        AV.agg
          [AV.str
              [(105 : UInt8), (110 : UInt8), (116 : UInt8), (101 : UInt8), (114 : UInt8), (99 : UInt8), (104 : UInt8), (97 : UInt8), (110 : UInt8),
                (103 : UInt8), (101 : UInt8)]],
        AV.agg [AV.str [(114 : UInt8), (101 : UInt8), (118 : UInt8), (101 : UInt8), (114 : UInt8), (115 : UInt8), (101 : UInt8)]],
        AV.agg [AV.str [(115 : UInt8), (107 : UInt8), (101 : UInt8), (119 : UInt8)]],
        AV.agg [AV.str [(102 : UInt8), (117 : UInt8), (115 : UInt8), (101 : UInt8)]],
        AV.agg
          [AV.str
              [(100 : UInt8), (105 : UInt8), (115 : UInt8), (116 : UInt8), (114 : UInt8), (105 : UInt8), (98 : UInt8), (117 : UInt8), (116 : UInt8),
                (101 : UInt8)]],
        AV.agg [AV.str [(117 : UInt8), (110 : UInt8), (114 : UInt8), (111 : UInt8), (108 : UInt8), (108 : UInt8)]],
        AV.agg [AV.str [(97 : UInt8), (110 : UInt8), (110 : UInt8), (111 : UInt8), (116 : UInt8), (97 : UInt8), (116 : UInt8), (101 : UInt8)]],
        AV.agg [AV.str [(105 : UInt8), (110 : UInt8), (108 : UInt8), (105 : UInt8), (110 : UInt8), (101 : UInt8)]],
        AV.agg
          [AV.str
              [(99 : UInt8), (97 : UInt8), (99 : UInt8), (104 : UInt8), (101 : UInt8), (95 : UInt8), (114 : UInt8), (101 : UInt8), (97 : UInt8),
                (100 : UInt8)]],
        AV.agg
          [AV.str
              [(99 : UInt8), (111 : UInt8), (109 : UInt8), (112 : UInt8), (117 : UInt8), (116 : UInt8), (101 : UInt8), (95 : UInt8), (97 : UInt8),
                (116 : UInt8)]],
        AV.agg [AV.str [(97 : UInt8), (108 : UInt8), (105 : UInt8), (97 : UInt8), (115 : UInt8)]]]) =
  some r) = W 31 [] [] r := by kernel_rfl

theorem rfi_f (l : List Step) (i k : Nat) (o s loop : Str) (op by_ : Int) (ns : List Str) (alts : List Alt) (N : List AV → List Bx → Prop) : (((0 : Int) ≤ (↑i : Int) ∧
    (List.map Step.av l)[Int.toNat (↑i : Int)]? =
      some (AV.agg [AV.int IntKind.i64 op, AV.str loop, AV.int IntKind.i64 by_, AV.sl (1 : Nat) (List.map sAV ns)])) ∧
  (decide ((↑k : Int) < (↑(List.length (List.map sAV ns)) : Int)) = true →
      List.length o + (1 : Nat) ≤ (9223372036854775807 : Nat) ∧
        ((0 : Int) ≤ (↑i : Int) ∧
            (List.map Step.av l)[Int.toNat (↑i : Int)]? =
              some (AV.agg [AV.int IntKind.i64 op, AV.str loop, AV.int IntKind.i64 by_, AV.sl (1 : Nat) (List.map sAV ns)])) ∧
          ((0 : Int) ≤ (↑k : Int) ∧ (List.map sAV ns)[Int.toNat (↑k : Int)]? = some (AV.agg [AV.str s])) ∧
            List.length (o ++ [(32 : UInt8)]) + List.length s ≤ (9223372036854775807 : Nat) ∧
              N
                [AV.sl (4 : Nat) (List.map Step.av l), AV.str (o ++ [(32 : UInt8)] ++ s), AV.int IntKind.i64 (↑i : Int),
                  AV.int IntKind.i64 (IntKind.wrap IntKind.i64 ((↑k : Int) + (1 : Int)))]
                []) ∧
    (decide ((↑k : Int) < (↑(List.length (List.map sAV ns)) : Int)) = false →
      Out alts (Exit.exit (2 : Nat)) [AV.undef, AV.sl (4 : Nat) (List.map Step.av l), AV.str o, AV.int IntKind.i64 (↑i : Int)] [])) = WR 13 11 75 [(9, .split), (17, .split), (58, .split), (54, .e (.agg [.int .i64 op, .str loop, .int .i64 by_, .sl 1 (ns.map sAV)])), (62, .s), (65, .e (.agg [.int .i64 op, .str loop, .int .i64 by_, .sl 1 (ns.map sAV)])), (69, .e (sAV s)), (71, .s)] [0, 3, 4, 5] [] [2, 0, 3, 4] [] alts [stepsAV l, .str o, .int .i64 i, .int .i64 k] [] N := by kernel_rfl

theorem rfo1_f (l : List Step) (i : Nat) (o kw loop it p nt : Str) (op by_ vz : Int) (ns ks : List Str) (alts : List Alt) (N : List AV → List Bx → Prop) : ((decide ((↑i : Int) < (↑(List.length (List.map Step.av l)) : Int)) = true →
    ((0 : Int) ≤ (↑i : Int) ∧
        (List.map Step.av l)[Int.toNat (↑i : Int)]? =
          some (AV.agg [AV.int IntKind.i64 op, AV.str loop, AV.int IntKind.i64 by_, AV.sl (1 : Nat) (List.map sAV ns)])) ∧
      Pu Tryd.prog gls (9 : Nat) [AV.agg [AV.int IntKind.i64 op, AV.str loop, AV.int IntKind.i64 by_, AV.sl (1 : Nat) (List.map sAV ns)]]
          (AV.int IntKind.i64 vz) ∧
        ((vz != (0 : Int)) = true → Out alts Exit.ret [AV.str [], AV.str o] []) ∧
          ((vz != (0 : Int)) = false →
            Pu Tryd.prog gls (31 : Nat) [] (AV.sl (1 : Nat) (List.map sAV ks)) ∧
              ((0 : Int) ≤ (↑i : Int) ∧
                  (List.map Step.av l)[Int.toNat (↑i : Int)]? =
                    some (AV.agg [AV.int IntKind.i64 op, AV.str loop, AV.int IntKind.i64 by_, AV.sl (1 : Nat) (List.map sAV ns)])) ∧
                ((0 : Int) ≤ IntKind.wrap IntKind.i64 (op - (1 : Int)) ∧
                    (List.map sAV ks)[Int.toNat (IntKind.wrap IntKind.i64 (op - (1 : Int)))]? = some (AV.agg [AV.str kw])) ∧
                  List.length o + List.length kw ≤ (9223372036854775807 : Nat) ∧
                    List.length (o ++ kw) + (1 : Nat) ≤ (9223372036854775807 : Nat) ∧
                      ((0 : Int) ≤ (↑i : Int) ∧
                          (List.map Step.av l)[Int.toNat (↑i : Int)]? =
                            some (AV.agg [AV.int IntKind.i64 op, AV.str loop, AV.int IntKind.i64 by_, AV.sl (1 : Nat) (List.map sAV ns)])) ∧
                        List.length (o ++ kw ++ [(32 : UInt8)]) + List.length loop ≤ (9223372036854775807 : Nat) ∧
                          ((0 : Int) ≤ (↑i : Int) ∧
                              (List.map Step.av l)[Int.toNat (↑i : Int)]? =
                                some (AV.agg [AV.int IntKind.i64 op, AV.str loop, AV.int IntKind.i64 by_, AV.sl (1 : Nat) (List.map sAV ns)])) ∧
                            Pu Tryd.prog gls (25 : Nat) [AV.int IntKind.i64 op] (AV.bool true) ∧
                              List.length (o ++ kw ++ [(32 : UInt8)] ++ loop) + (1 : Nat) ≤ (9223372036854775807 : Nat) ∧
                                ((0 : Int) ≤ (↑i : Int) ∧
                                    (List.map Step.av l)[Int.toNat (↑i : Int)]? =
                                      some (AV.agg [AV.int IntKind.i64 op, AV.str loop, AV.int IntKind.i64 by_, AV.sl (1 : Nat) (List.map sAV ns)])) ∧
                                  Pu Tryd.prog gls (32 : Nat) [AV.int IntKind.i64 by_] (AV.str it) ∧
                                    List.length (o ++ kw ++ [(32 : UInt8)] ++ loop ++ [(32 : UInt8)]) + List.length it ≤ (9223372036854775807 : Nat) ∧
                                      LoopOk Tryd.prog gls (75 : Nat) (lcode Tryd.prog (13 : Nat) (12 : Nat))
                                          [(0 : Nat), (3 : Nat), (4 : Nat), (5 : Nat)]
                                          [AV.sl (4 : Nat) (List.map Step.av l), AV.str (o ++ kw ++ [(32 : UInt8)] ++ loop ++ [(32 : UInt8)] ++ it),
                                            AV.int IntKind.i64 (↑i : Int), AV.int IntKind.i64 (0 : Int)]
                                          [] [(2 : Nat), (0 : Nat), (3 : Nat), (4 : Nat)]
                                          [{ φ := True, ex := Exit.exit (2 : Nat),
                                              vs := [AV.undef, AV.sl (4 : Nat) (List.map Step.av l), AV.str (p ++ nt), AV.int IntKind.i64 (↑i : Int)],
                                              bs := [] }] ∧
                                        (True →
                                          List.length (p ++ nt) + (1 : Nat) ≤ (9223372036854775807 : Nat) ∧
                                            N
                                              [AV.sl (4 : Nat) (List.map Step.av l), AV.str (p ++ nt ++ [(10 : UInt8)]),
                                                AV.int IntKind.i64 (IntKind.wrap IntKind.i64 ((↑i : Int) + (1 : Int)))]
                                              []))) ∧
  (decide ((↑i : Int) < (↑(List.length (List.map Step.av l)) : Int)) = false → Out alts (Exit.exit (0 : Nat)) [AV.undef, AV.str o] [])) = WR 13 3 75 [(9, .split), (17, .split), (58, .split), (14, .e (.agg [.int .i64 op, .str loop, .int .i64 by_, .sl 1 (ns.map sAV)])), (16, .c (.int .i64 vz)), (19, .c (strsAV ks)), (22, .e (.agg [.int .i64 op, .str loop, .int .i64 by_, .sl 1 (ns.map sAV)])), (26, .e (sAV kw)), (28, .s), (29, .s), (32, .e (.agg [.int .i64 op, .str loop, .int .i64 by_, .sl 1 (ns.map sAV)])), (35, .s), (38, .e (.agg [.int .i64 op, .str loop, .int .i64 by_, .sl 1 (ns.map sAV)])), (41, .c (.bool true)), (43, .s), (46, .e (.agg [.int .i64 op, .str loop, .int .i64 by_, .sl 1 (ns.map sAV)])), (49, .c (.str it)), (50, .s), (73, .s), (3000012, .l [0, 3, 4, 5] [] [2, 0, 3, 4] [] [⟨True, .exit 2, [.undef, stepsAV l, .str (p ++ nt), .int .i64 i], []⟩])] [0, 3, 4] [] [2, 3] [] alts [stepsAV l, .str o, .int .i64 i] [] N := by kernel_rfl

theorem rfo0_f (l : List Step) (i : Nat) (o kw loop it p nt : Str) (op by_ vz : Int) (ns ks : List Str) (alts : List Alt) (N : List AV → List Bx → Prop) : ((decide ((↑i : Int) < (↑(List.length (List.map Step.av l)) : Int)) = true →
    ((0 : Int) ≤ (↑i : Int) ∧
        (List.map Step.av l)[Int.toNat (↑i : Int)]? =
          some (AV.agg [AV.int IntKind.i64 op, AV.str loop, AV.int IntKind.i64 by_, AV.sl (1 : Nat) (List.map sAV ns)])) ∧
      Pu Tryd.prog gls (9 : Nat) [AV.agg [AV.int IntKind.i64 op, AV.str loop, AV.int IntKind.i64 by_, AV.sl (1 : Nat) (List.map sAV ns)]]
          (AV.int IntKind.i64 vz) ∧
        ((vz != (0 : Int)) = true → Out alts Exit.ret [AV.str [], AV.str o] []) ∧
          ((vz != (0 : Int)) = false →
            Pu Tryd.prog gls (31 : Nat) [] (AV.sl (1 : Nat) (List.map sAV ks)) ∧
              ((0 : Int) ≤ (↑i : Int) ∧
                  (List.map Step.av l)[Int.toNat (↑i : Int)]? =
                    some (AV.agg [AV.int IntKind.i64 op, AV.str loop, AV.int IntKind.i64 by_, AV.sl (1 : Nat) (List.map sAV ns)])) ∧
                ((0 : Int) ≤ IntKind.wrap IntKind.i64 (op - (1 : Int)) ∧
                    (List.map sAV ks)[Int.toNat (IntKind.wrap IntKind.i64 (op - (1 : Int)))]? = some (AV.agg [AV.str kw])) ∧
                  List.length o + List.length kw ≤ (9223372036854775807 : Nat) ∧
                    List.length (o ++ kw) + (1 : Nat) ≤ (9223372036854775807 : Nat) ∧
                      ((0 : Int) ≤ (↑i : Int) ∧
                          (List.map Step.av l)[Int.toNat (↑i : Int)]? =
                            some (AV.agg [AV.int IntKind.i64 op, AV.str loop, AV.int IntKind.i64 by_, AV.sl (1 : Nat) (List.map sAV ns)])) ∧
                        List.length (o ++ kw ++ [(32 : UInt8)]) + List.length loop ≤ (9223372036854775807 : Nat) ∧
                          ((0 : Int) ≤ (↑i : Int) ∧
                              (List.map Step.av l)[Int.toNat (↑i : Int)]? =
                                some (AV.agg [AV.int IntKind.i64 op, AV.str loop, AV.int IntKind.i64 by_, AV.sl (1 : Nat) (List.map sAV ns)])) ∧
                            Pu Tryd.prog gls (25 : Nat) [AV.int IntKind.i64 op] (AV.bool false) ∧
                              LoopOk Tryd.prog gls (75 : Nat) (lcode Tryd.prog (13 : Nat) (12 : Nat)) [(0 : Nat), (3 : Nat), (4 : Nat), (5 : Nat)]
                                  [AV.sl (4 : Nat) (List.map Step.av l), AV.str (o ++ kw ++ [(32 : UInt8)] ++ loop), AV.int IntKind.i64 (↑i : Int),
                                    AV.int IntKind.i64 (0 : Int)]
                                  [] [(2 : Nat), (0 : Nat), (3 : Nat), (4 : Nat)]
                                  [{ φ := True, ex := Exit.exit (2 : Nat),
                                      vs := [AV.undef, AV.sl (4 : Nat) (List.map Step.av l), AV.str (p ++ nt), AV.int IntKind.i64 (↑i : Int)],
                                      bs := [] }] ∧
                                (True →
                                  List.length (p ++ nt) + (1 : Nat) ≤ (9223372036854775807 : Nat) ∧
                                    N
                                      [AV.sl (4 : Nat) (List.map Step.av l), AV.str (p ++ nt ++ [(10 : UInt8)]),
                                        AV.int IntKind.i64 (IntKind.wrap IntKind.i64 ((↑i : Int) + (1 : Int)))]
                                      []))) ∧
  (decide ((↑i : Int) < (↑(List.length (List.map Step.av l)) : Int)) = false → Out alts (Exit.exit (0 : Nat)) [AV.undef, AV.str o] [])) = WR 13 3 75 [(9, .split), (17, .split), (58, .split), (14, .e (.agg [.int .i64 op, .str loop, .int .i64 by_, .sl 1 (ns.map sAV)])), (16, .c (.int .i64 vz)), (19, .c (strsAV ks)), (22, .e (.agg [.int .i64 op, .str loop, .int .i64 by_, .sl 1 (ns.map sAV)])), (26, .e (sAV kw)), (28, .s), (29, .s), (32, .e (.agg [.int .i64 op, .str loop, .int .i64 by_, .sl 1 (ns.map sAV)])), (35, .s), (38, .e (.agg [.int .i64 op, .str loop, .int .i64 by_, .sl 1 (ns.map sAV)])), (41, .c (.bool false)), (43, .s), (46, .e (.agg [.int .i64 op, .str loop, .int .i64 by_, .sl 1 (ns.map sAV)])), (49, .c (.str it)), (50, .s), (73, .s), (3000012, .l [0, 3, 4, 5] [] [2, 0, 3, 4] [] [⟨True, .exit 2, [.undef, stepsAV l, .str (p ++ nt), .int .i64 i], []⟩])] [0, 3, 4] [] [2, 3] [] alts [stepsAV l, .str o, .int .i64 i] [] N := by kernel_rfl

theorem rf_f (l : List Step) (t tx : Str) (r : AV) : (LoopOk Tryd.prog gls (75 : Nat) (lcode Tryd.prog (13 : Nat) (4 : Nat)) [(0 : Nat), (3 : Nat), (4 : Nat)]
    [AV.sl (4 : Nat) (List.map Step.av l), AV.str [], AV.int IntKind.i64 (0 : Int)] [] [(2 : Nat), (3 : Nat)]
    [{ φ := List.all l okS = false, ex := Exit.ret, vs := [AV.str [], AV.str tx], bs := [] },
      { φ := List.all l okS = true, ex := Exit.exit (0 : Nat), vs := [AV.undef, AV.str t], bs := [] }] ∧
  (List.all l okS = false → some (AV.str []) = some r) ∧ (List.all l okS = true → some (AV.str t) = some r)) = W 13 [(9, .split), (17, .split), (58, .split), (3000004, .l [0, 3, 4] [] [2, 3] [] [⟨l.all okS = false, .ret, [.str [], .str tx], []⟩, ⟨l.all okS = true, .exit 0, [.undef, .str t], []⟩])] [stepsAV l] r := by kernel_rfl


theorem u8w {n : Int} (h0 : 0 ≤ n) (h1 : n < 256) : IntKind.wrap .u8 n = n := by
  show n % 256 = n
  omega

theorem dec_nn : ∀ u : Nat, u < 9223372036854775808 → Pu Tryd.prog gls 46 [.int .i64 u] (.str (Lib.decDigits u))
  | u, hu => by
    by_cases h10 : u < 10
    · refine Pu1 (dec_f u (UInt8.ofNat (48 + u)) [] [] _) ⟨fun h => by simp at h; omega, fun _ => ⟨fun _ => ⟨⟨by omega, ?_⟩, by rw [Lib.decDigits, dif_pos h10]⟩, fun h => by simp at h; omega⟩⟩
      rw [i64_in _ (by omega), u8w (by omega) (by omega)]
      congr 2
      rw [UInt8.toNat_ofNat']; omega
    · have ih := dec_nn (u / 10) (by omega)
      have hm : u % 10 < 10 := Nat.mod_lt _ (by omega)
      have hlen : (Lib.decDigits (u / 10)).length ≤ 20 := by rw [Lib.decDigits_length]; exact Lib.nDigits_le20 _ (by omega)
      have hd : Int.tdiv (u : Int) 10 = ((u / 10 : Nat) : Int) := rfl
      have hr : Int.tmod (u : Int) 10 = ((u % 10 : Nat) : Int) := rfl
      refine Pu1 (dec_f u (UInt8.ofNat (48 + u % 10)) [] (Lib.decDigits (u / 10)) _) ⟨fun h => by simp at h; omega, fun _ => ⟨fun h => by simp at h; omega, fun _ => ⟨by omega, ?_, by omega, ⟨by omega, ?_⟩, by omega, by conv => rhs; rw [Lib.decDigits, dif_neg h10]⟩⟩⟩
      · rw [hd, i64_in _ (by omega)]; exact ih
      · rw [hr, i64_in _ (by omega), u8w (by omega) (by omega)]
        congr 2
        rw [UInt8.toNat_ofNat']; omega
termination_by u => u
decreasing_by omega

theorem num_ok (n : Int) (h0 : -9223372036854775808 ≤ n) (h1 : n ≤ 9223372036854775807) : Pu Tryd.prog gls 32 [.int .i64 n] (.str (Lib.itoa n)) :=
  Pu1 (num_f n (Lib.itoa n) _) ⟨fun h => by
    have : n = -9223372036854775808 := by simpa using h
    subst this
    congr 2; simp [Lib.itoa, Lib.decDigits], fun h => by
    have hn : n ≠ -9223372036854775808 := by simpa using h
    refine ⟨?_, rfl⟩
    by_cases hneg : n < 0
    · have hp := dec_nn n.natAbs (by omega)
      have hlen : (Lib.decDigits n.natAbs).length ≤ 20 := by rw [Lib.decDigits_length]; exact Lib.nDigits_le20 _ (by omega)
      refine Pu1 (dec_f n 0 (Lib.decDigits n.natAbs) [] _) ⟨fun _ => ⟨?_, by omega, ?_⟩, fun h => by simp at h; omega⟩
      · rw [i64_in _ (by omega), show (0 : Int) - n = (n.natAbs : Int) by omega]; exact hp
      · unfold Lib.itoa; rw [if_pos hneg]; rfl
    · have hp := dec_nn n.toNat (by omega)
      rw [show ((n.toNat : Nat) : Int) = n by omega] at hp
      unfold Lib.itoa; rw [if_neg hneg]; exact hp⟩

theorem rkw_ok : Pu Tryd.prog gls 31 [] (strsAV kws) := Pu1 (rkw_f _) rfl

def spS (l : List Str) : Str := l.flatMap fun s => [32] ++ s
theorem spS_joinTail (l : List Str) : Lib.joinTail [32] l = spS l := by unfold Lib.joinTail spS; rw [List.flatMap_def]
theorem lineS_eq (x : Step) : lineS x = kwB x.op ++ [32] ++ x.loop ++ (if cntB x.op then [32] ++ Lib.itoa x.by_ else []) ++ spS x.names ++ [10] := by
  unfold lineS lineWords
  rw [List.cons_append, Lib.join_cons, spS_joinTail]
  split <;> simp [spS]
theorem spS_len {l : List Str} {k : Nat} : (spS (l.take k)).length ≤ (spS l).length := by
  conv => rhs; rw [← List.take_append_drop k l]
  simp only [spS, List.flatMap_append, List.length_append]; omega
theorem spS_succ {l : List Str} {k : Nat} {s : Str} (h : l[k]? = some s) : spS (l.take (k + 1)) = spS (l.take k) ++ [32] ++ s := by
  rw [List.take_add_one, h]; simp [spS]

theorem rfi_loop (l : List Step) (i : Nat) (x : Step) (o : Str) (hx : l[i]? = some x) (hn : x.names.length ≤ 1000) (ho : (o ++ spS x.names).length ≤ 1000000000) :
    LoopOk Tryd.prog gls 75 (lcode Tryd.prog 13 12) [0, 3, 4, 5] [stepsAV l, .str o, .int .i64 i, .int .i64 (0 : Nat)] [] [2, 0, 3, 4] [⟨True, .exit 2, [.undef, stepsAV l, .str (o ++ spS x.names), .int .i64 i], []⟩] :=
  Lp1 (r := 11) (kb := []) (kbx := []) (by kernel_rfl) (fun j vs bs => ∃ k : Nat, j = x.names.length - k ∧ k ≤ x.names.length ∧ vs = [stepsAV l, .str (o ++ spS (x.names.take k)), .int .i64 i, .int .i64 k] ∧ bs = [])
    (fun j vs bs ⟨k, hj, hi, hv, hb⟩ => by
      subst hv; subst hb
      have hmx := map_get (f := Step.av) hx
      rcases Nat.lt_or_ge k x.names.length with hlt | hge
      · obtain ⟨s, hs⟩ := some_of_lt hlt
        have h1 := spS_succ hs
        have h2 := spS_len (l := x.names) (k := k + 1)
        rw [h1] at h2
        simp only [List.length_append, List.length_cons, List.length_nil] at ho h2
        refine WR1 (rfi_f l i k (o ++ spS (x.names.take k)) s x.loop x.op x.by_ x.names _ _) ⟨⟨by omega, hmx⟩, fun _ => ⟨by simp only [List.length_append]; omega, ⟨by omega, hmx⟩, ⟨by omega, map_get hs⟩, by simp only [List.length_append, List.length_cons, List.length_nil]; omega, ?_⟩, fun h => by simp at h; omega⟩
        rw [i64_in _ (by omega)]
        exact ⟨x.names.length - (k + 1), by omega, k + 1, rfl, by omega, by rw [h1]; simp only [List.append_assoc]; rfl, rfl⟩
      · rw [List.take_of_length_le hge]
        exact WR1 (rfi_f l i k (o ++ spS x.names) [] x.loop x.op x.by_ x.names _ _) ⟨⟨by omega, hmx⟩, fun h => by simp at h; omega, fun _ => Out.here trivial⟩) (j := x.names.length) ⟨0, by omega, by omega, by simp [spS], rfl⟩

theorem okS_op {x : Step} (h : okS x = true) : 1 ≤ x.op ∧ x.op ≤ 13 := by
  unfold okS validZ at h
  split at h
  · simp at h
  · omega
theorem kws_at {op : Int} (h1 : 1 ≤ op) (h2 : op ≤ 13) : 0 ≤ IntKind.wrap .i64 (op - 1) ∧ (kws.map sAV)[(IntKind.wrap .i64 (op - 1)).toNat]? = some (AV.agg [.str (kwB op)]) := by
  have : op = 1 ∨ op = 2 ∨ op = 3 ∨ op = 4 ∨ op = 5 ∨ op = 6 ∨ op = 7 ∨ op = 8 ∨ op = 9 ∨ op = 10 ∨ op = 11 ∨ op = 12 ∨ op = 13 := by omega
  rcases this with rfl | rfl | rfl | rfl | rfl | rfl | rfl | rfl | rfl | rfl | rfl | rfl | rfl <;> exact ⟨by decide, rfl⟩

theorem rf_ok (l : List Step) (hl : FmtS l) : Pu Tryd.prog gls 13 [stepsAV l] (.str (fmtS l)) := by
  have hlp : ∃ tx, LoopOk Tryd.prog gls 75 (lcode Tryd.prog 13 4) [0, 3, 4] [stepsAV l, .str [], .int .i64 (0 : Nat)] [] [2, 3] [⟨l.all okS = false, .ret, [.str [], .str tx], []⟩, ⟨l.all okS = true, .exit 0, [.undef, .str (textS l)], []⟩] := ⟨textS (goodS l),
    Lp1 (r := 3) (kb := []) (kbx := []) (by kernel_rfl) (fun j vs bs => ∃ i : Nat, j = l.length - i ∧ i ≤ l.length ∧ (l.take i).all okS = true ∧ vs = [stepsAV l, .str (textS (l.take i)), .int .i64 i] ∧ bs = [])
    (fun j vs bs ⟨i, hj, hi, ht, hv, hb⟩ => by
      subst hv; subst hb
      have hl1 := hl.len
      rcases Nat.lt_or_ge i l.length with hlt | hge
      · obtain ⟨x, hx⟩ := some_of_lt hlt
        have hm := List.mem_of_getElem? hx
        have hfit := hl.fit x hm
        have hn := hl.names x hm
        have hll := hl.line x hm
        have hts := textS_len 100000 (l.take i) fun y hy => hl.line y (List.mem_of_mem_take hy)
        have htl : (l.take i).length ≤ 1000 := by rw [List.length_take]; omega
        have htl' : (l.take i).length * 100000 ≤ 100000000 := by omega
        have hxv := vldR_ok x hfit
        have hbad : okS x = false → Out [⟨l.all okS = false, .ret, [.str [], .str (textS (goodS l))], []⟩, ⟨l.all okS = true, .exit 0, [.undef, .str (textS l)], []⟩] .ret [.str [], .str (textS (l.take i))] [] := fun hq => by
          rw [← good_at ht hx hq]
          exact Out.here (all_false_at hx hq)
        have hmx := map_get (f := Step.av) hx
        have hle := lineS_eq x
        have hnum := num_ok x.by_ (hl.by0 x hm) (hl.by1 x hm)
        have hcn := cnt2_ok x.op
        have htx := textS_succ hx
        have hkw : okS x = true → _ := fun h => kws_at (okS_op h).1 (okS_op h).2
        have hs1 : okS x = (validZ x == 0) := rfl
        have ho1 : (validZ x != 0) = true → okS x = false := fun h => by rw [hs1]; simpa using h
        have ho2 : (validZ x != 0) = false → okS x = true := fun h => by rw [hs1]; simpa using h
        have hnx : okS x = true → ∀ q : Str, q = textS (l.take i) ++ lineS x → ∃ j', j' < j ∧ ∃ i' : Nat, j' = l.length - i' ∧ i' ≤ l.length ∧ (l.take i').all okS = true ∧ [stepsAV l, .str q, .int .i64 (IntKind.wrap .i64 ((i : Int) + 1))] = [stepsAV l, .str (textS (l.take i')), .int .i64 i'] ∧ ([] : List Bx) = [] := fun ho q hq =>
          ⟨l.length - (i + 1), by omega, i + 1, rfl, by omega, take_succ_all ht hx ho, by rw [next_vals l i hlt hl1, hq, htx], rfl⟩
        generalize hT : textS (l.take i) = T at *
        have hlen : (lineS x).length = (kwB x.op).length + 1 + x.loop.length + (if cntB x.op then [32] ++ Lib.itoa x.by_ else []).length + (spS x.names).length + 1 := by rw [hle]; simp only [List.length_append, List.length_cons, List.length_nil]
        cases hc : cntB x.op with
        | true =>
          simp only [hc, if_true, List.length_append, List.length_cons, List.length_nil] at hlen hle
          rw [hc] at hcn
          have hin := rfi_loop l i x (T ++ kwB x.op ++ [32] ++ x.loop ++ [32] ++ Lib.itoa x.by_) hx hn (by simp only [List.length_append, List.length_cons, List.length_nil]; omega)
          refine WR1 (rfo1_f l i T (kwB x.op) x.loop (Lib.itoa x.by_) (T ++ kwB x.op ++ [32] ++ x.loop ++ [32] ++ Lib.itoa x.by_) (spS x.names) x.op x.by_ (validZ x) x.names kws _ _)
            ⟨fun _ => ⟨⟨by omega, hmx⟩, hxv, fun h => hbad (ho1 h), fun h => ⟨rkw_ok, ⟨by omega, hmx⟩, hkw (ho2 h), by omega, ?_, ⟨by omega, hmx⟩, ?_, ⟨by omega, hmx⟩, hcn, ?_, ⟨by omega, hmx⟩, hnum, ?_, hin, fun _ => ⟨?_, hnx (ho2 h) _ ?_⟩⟩⟩, fun h => by simp at h; omega⟩
          all_goals first | (simp only [List.length_append, List.length_cons, List.length_nil]; omega) | (rw [hle]; simp only [List.append_assoc])
        | false =>
          simp only [hc, Bool.false_eq_true, if_false, List.append_nil, List.length_nil] at hlen hle
          rw [hc] at hcn
          have hin := rfi_loop l i x (T ++ kwB x.op ++ [32] ++ x.loop) hx hn (by simp only [List.length_append, List.length_cons, List.length_nil]; omega)
          refine WR1 (rfo0_f l i T (kwB x.op) x.loop [] (T ++ kwB x.op ++ [32] ++ x.loop) (spS x.names) x.op x.by_ (validZ x) x.names kws _ _)
            ⟨fun _ => ⟨⟨by omega, hmx⟩, hxv, fun h => hbad (ho1 h), fun h => ⟨rkw_ok, ⟨by omega, hmx⟩, hkw (ho2 h), by omega, ?_, ⟨by omega, hmx⟩, ?_, ⟨by omega, hmx⟩, hcn, hin, fun _ => ⟨?_, hnx (ho2 h) _ ?_⟩⟩⟩, fun h => by simp at h; omega⟩
          all_goals first | (simp only [List.length_append, List.length_cons, List.length_nil]; omega) | (rw [hle]; simp only [List.append_assoc])
      · rw [List.take_of_length_le hge] at ht ⊢
        exact WR1 (rfo0_f l i (textS l) [] [] [] [] [] 0 0 0 [] [] _ _) ⟨fun h => by simp at h; omega, fun _ => Out.next (Out.here ht)⟩) (j := l.length) ⟨0, by omega, by omega, by simp, rfl, rfl⟩⟩
  obtain ⟨tx, hlp⟩ := hlp
  exact Pu1 (rf_f l (textS l) tx _) ⟨hlp, fun h => by simp [fmtS, h], fun h => by simp [fmtS, h]⟩

end Go.Proofs.YtcphiogbjdehhaaDoor
