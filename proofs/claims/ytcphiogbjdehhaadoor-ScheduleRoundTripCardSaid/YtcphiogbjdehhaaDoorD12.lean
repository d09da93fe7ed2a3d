/- Walks: equality of steps; the laws' functions. -/
import Derived.Test.YtcphiogbjdehhaaDoorD11
import Derived.Test.YtcphiogbjdehhaaDoorS7
namespace Go.Proofs.YtcphiogbjdehhaaDoor
open Go HX Go.IntWalk
set_option maxRecDepth 1000000
variable [ML]
set_option linter.unusedSectionVars false

theorem ss_f (l : List Str) (i : Nat) (x : Str) (alts : List Alt) (N : List AV → List Bx → Prop) : ((decide ((↑i : Int) < (↑(List.length (List.map sAV l)) : Int)) = true →
    ((0 : Int) ≤ (↑i : Int) ∧ (List.map sAV l)[Int.toNat (↑i : Int)]? = some (AV.agg [AV.str x])) ∧
      ((0 : Int) ≤ (↑i : Int) ∧ (List.map sAV l)[Int.toNat (↑i : Int)]? = some (AV.agg [AV.str x])) ∧
        ((!x == x) = true → Out alts Exit.ret [AV.bool false] []) ∧
          ((!x == x) = false →
            N
              [AV.sl (1 : Nat) (List.map sAV l), AV.sl (1 : Nat) (List.map sAV l),
                AV.int IntKind.i64 (IntKind.wrap IntKind.i64 ((↑i : Int) + (1 : Int)))]
              [])) ∧
  (decide ((↑i : Int) < (↑(List.length (List.map sAV l)) : Int)) = false → Out alts (Exit.exit (0 : Nat)) [AV.undef] [])) = WR 17 4 26 [(10, .split), (14, .split), (25, .split), (19, .e (sAV x)), (23, .e (sAV x))] [0, 1, 5] [] [4] [] alts [strsAV l, strsAV l, .int .i64 i] [] N := by kernel_rfl

theorem ssF_f (l : List Str) (r : AV) : ((((↑(List.length (List.map sAV l)) : Int) != (↑(List.length (List.map sAV l)) : Int)) = true → some (AV.bool false) = some r) ∧
  (((↑(List.length (List.map sAV l)) : Int) != (↑(List.length (List.map sAV l)) : Int)) = false →
    LoopOk Tryd.prog gls (26 : Nat) (lcode Tryd.prog (17 : Nat) (5 : Nat)) [(0 : Nat), (1 : Nat), (5 : Nat)]
        [AV.sl (1 : Nat) (List.map sAV l), AV.sl (1 : Nat) (List.map sAV l), AV.int IntKind.i64 (0 : Int)] [] [(4 : Nat)]
        [{ φ := True, ex := Exit.exit (0 : Nat), vs := [AV.undef], bs := [] }] ∧
      (True → some (AV.bool true) = some r))) = W 17 [(10, .split), (14, .split), (25, .split), (3000005, .l [0, 1, 5] [] [4] [] [⟨True, .exit 0, [.undef], []⟩])] [strsAV l, strsAV l] r := by kernel_rfl

theorem st_f (l : List Step) (i : Nat) (x : Step) (alts : List Alt) (N : List AV → List Bx → Prop) : ((decide ((↑i : Int) < (↑(List.length (List.map Step.av l)) : Int)) = true →
    ((0 : Int) ≤ (↑i : Int) ∧
        (List.map Step.av l)[Int.toNat (↑i : Int)]? =
          some
            (AV.agg
              [AV.int IntKind.i64 (Step.op x), AV.str (Step.loop x), AV.int IntKind.i64 (Step.by_ x),
                AV.sl (1 : Nat) (List.map sAV (Step.names x))])) ∧
      ((0 : Int) ≤ (↑i : Int) ∧
          (List.map Step.av l)[Int.toNat (↑i : Int)]? =
            some
              (AV.agg
                [AV.int IntKind.i64 (Step.op x), AV.str (Step.loop x), AV.int IntKind.i64 (Step.by_ x),
                  AV.sl (1 : Nat) (List.map sAV (Step.names x))])) ∧
        (Step.op x != Step.op x) = false ∧
          ((0 : Int) ≤ (↑i : Int) ∧
              (List.map Step.av l)[Int.toNat (↑i : Int)]? =
                some
                  (AV.agg
                    [AV.int IntKind.i64 (Step.op x), AV.str (Step.loop x), AV.int IntKind.i64 (Step.by_ x),
                      AV.sl (1 : Nat) (List.map sAV (Step.names x))])) ∧
            ((0 : Int) ≤ (↑i : Int) ∧
                (List.map Step.av l)[Int.toNat (↑i : Int)]? =
                  some
                    (AV.agg
                      [AV.int IntKind.i64 (Step.op x), AV.str (Step.loop x), AV.int IntKind.i64 (Step.by_ x),
                        AV.sl (1 : Nat) (List.map sAV (Step.names x))])) ∧
              (!Step.loop x == Step.loop x) = false ∧
                ((0 : Int) ≤ (↑i : Int) ∧
                    (List.map Step.av l)[Int.toNat (↑i : Int)]? =
                      some
                        (AV.agg
                          [AV.int IntKind.i64 (Step.op x), AV.str (Step.loop x), AV.int IntKind.i64 (Step.by_ x),
                            AV.sl (1 : Nat) (List.map sAV (Step.names x))])) ∧
                  ((0 : Int) ≤ (↑i : Int) ∧
                      (List.map Step.av l)[Int.toNat (↑i : Int)]? =
                        some
                          (AV.agg
                            [AV.int IntKind.i64 (Step.op x), AV.str (Step.loop x), AV.int IntKind.i64 (Step.by_ x),
                              AV.sl (1 : Nat) (List.map sAV (Step.names x))])) ∧
                    (Step.by_ x != Step.by_ x) = false ∧
                      ((0 : Int) ≤ (↑i : Int) ∧
                          (List.map Step.av l)[Int.toNat (↑i : Int)]? =
                            some
                              (AV.agg
                                [AV.int IntKind.i64 (Step.op x), AV.str (Step.loop x), AV.int IntKind.i64 (Step.by_ x),
                                  AV.sl (1 : Nat) (List.map sAV (Step.names x))])) ∧
                        ((0 : Int) ≤ (↑i : Int) ∧
                            (List.map Step.av l)[Int.toNat (↑i : Int)]? =
                              some
                                (AV.agg
                                  [AV.int IntKind.i64 (Step.op x), AV.str (Step.loop x), AV.int IntKind.i64 (Step.by_ x),
                                    AV.sl (1 : Nat) (List.map sAV (Step.names x))])) ∧
                          Pu Tryd.prog gls (17 : Nat) [AV.sl (1 : Nat) (List.map sAV (Step.names x)), AV.sl (1 : Nat) (List.map sAV (Step.names x))]
                              (AV.bool true) ∧
                            N
                              [AV.sl (4 : Nat) (List.map Step.av l), AV.sl (4 : Nat) (List.map Step.av l),
                                AV.int IntKind.i64 (IntKind.wrap IntKind.i64 ((↑i : Int) + (1 : Int)))]
                              []) ∧
  (decide ((↑i : Int) < (↑(List.length (List.map Step.av l)) : Int)) = false → Out alts (Exit.exit (0 : Nat)) [AV.undef] [])) = WR 16 4 68 [(10, .split), (14, .split), (27, .b false), (39, .b false), (52, .b false), (19, .e x.av), (24, .e x.av), (31, .e x.av), (36, .e x.av), (44, .e x.av), (49, .e x.av), (57, .e x.av), (62, .e x.av), (65, .c (.bool true))] [0, 1, 5] [] [4] [] alts [stepsAV l, stepsAV l, .int .i64 i] [] N := by kernel_rfl

theorem stF_f (l : List Step) (r : AV) : ((((↑(List.length (List.map Step.av l)) : Int) != (↑(List.length (List.map Step.av l)) : Int)) = true → some (AV.bool false) = some r) ∧
  (((↑(List.length (List.map Step.av l)) : Int) != (↑(List.length (List.map Step.av l)) : Int)) = false →
    LoopOk Tryd.prog gls (68 : Nat) (lcode Tryd.prog (16 : Nat) (5 : Nat)) [(0 : Nat), (1 : Nat), (5 : Nat)]
        [AV.sl (4 : Nat) (List.map Step.av l), AV.sl (4 : Nat) (List.map Step.av l), AV.int IntKind.i64 (0 : Int)] [] [(4 : Nat)]
        [{ φ := True, ex := Exit.exit (0 : Nat), vs := [AV.undef], bs := [] }] ∧
      (True → some (AV.bool true) = some r))) = W 16 [(10, .split), (14, .split), (27, .split), (39, .split), (52, .split), (3000005, .l [0, 1, 5] [] [4] [] [⟨True, .exit 0, [.undef], []⟩])] [stepsAV l, stepsAV l] r := by kernel_rfl

theorem stN_f (r : AV) : (some (AV.bool true) = some r) = W 16 [] [.nil, .nil] r := by kernel_rfl

theorem stE_f (r : AV) : (some (AV.bool true) = some r) = W 16 [] [stepsAV [], .nil] r := by kernel_rfl

theorem fmtN_f2 (r : AV) : ((false = true → False) ∧ (false = false → some (AV.str []) = some r)) = W 12 [(10, .split), (15, .split), (39, .i [(7, .us []), (13, .us [])])] [.nil] r := by kernel_rfl

theorem live_f (r : AV) : (Pu Tryd.prog gls (14 : Nat)
    [AV.str
        [(115 : UInt8), (112 : UInt8), (108 : UInt8), (105 : UInt8), (116 : UInt8), (32 : UInt8), (105 : UInt8), (32 : UInt8), (52 : UInt8),
          (32 : UInt8), (105 : UInt8), (111 : UInt8), (32 : UInt8), (105 : UInt8), (105 : UInt8), (10 : UInt8), (114 : UInt8), (101 : UInt8),
          (118 : UInt8), (101 : UInt8), (114 : UInt8), (115 : UInt8), (101 : UInt8), (32 : UInt8), (105 : UInt8), (111 : UInt8), (10 : UInt8)]]
    (AV.tup
      [AV.sl (4 : Nat)
          [AV.agg
              [AV.int IntKind.i64 (1 : Int), AV.str (Step.loop lv1), AV.int IntKind.i64 (4 : Int),
                AV.sl (1 : Nat) [AV.agg [AV.str [(105 : UInt8), (111 : UInt8)]], AV.agg [AV.str [(105 : UInt8), (105 : UInt8)]]]],
            AV.agg [AV.int IntKind.i64 (4 : Int), AV.str (Step.loop lv2), AV.int IntKind.i64 (0 : Int), AV.sl (1 : Nat) []]],
        AV.int IntKind.i64 (2 : Int), AV.int IntKind.i64 (0 : Int)]) ∧
  Pu Tryd.prog gls (14 : Nat)
      [AV.str
          [(114 : UInt8), (101 : UInt8), (118 : UInt8), (101 : UInt8), (114 : UInt8), (115 : UInt8), (101 : UInt8), (32 : UInt8), (105 : UInt8),
            (10 : UInt8), (115 : UInt8), (112 : UInt8), (108 : UInt8), (105 : UInt8), (116 : UInt8), (32 : UInt8), (105 : UInt8), (32 : UInt8),
            (105 : UInt8), (111 : UInt8), (32 : UInt8), (105 : UInt8), (105 : UInt8), (10 : UInt8)]]
      (AV.tup [AV.nil, AV.int IntKind.i64 (1 : Int), AV.int IntKind.i64 (5 : Int)]) ∧
    Pu Tryd.prog gls (17 : Nat)
        [AV.sl (1 : Nat) [AV.agg [AV.str [(105 : UInt8), (111 : UInt8)]], AV.agg [AV.str [(105 : UInt8), (105 : UInt8)]]],
          AV.sl (1 : Nat) [AV.agg [AV.str [(105 : UInt8), (111 : UInt8)]], AV.agg [AV.str [(105 : UInt8), (105 : UInt8)]]]]
        (AV.bool true) ∧
      Pu Tryd.prog gls (12 : Nat)
          [AV.sl (4 : Nat)
              [AV.agg
                  [AV.int IntKind.i64 (1 : Int), AV.str (Step.loop lv1), AV.int IntKind.i64 (4 : Int),
                    AV.sl (1 : Nat) [AV.agg [AV.str [(105 : UInt8), (111 : UInt8)]], AV.agg [AV.str [(105 : UInt8), (105 : UInt8)]]]],
                AV.agg [AV.int IntKind.i64 (4 : Int), AV.str (Step.loop lv2), AV.int IntKind.i64 (0 : Int), AV.sl (1 : Nat) []]]]
          (AV.str lvT) ∧
        Pu Tryd.prog gls (10 : Nat)
            [AV.agg
                [AV.int IntKind.i64 (1 : Int), AV.str (Step.loop lv1), AV.int IntKind.i64 (4 : Int),
                  AV.sl (1 : Nat) [AV.agg [AV.str [(105 : UInt8), (111 : UInt8)]], AV.agg [AV.str [(105 : UInt8), (105 : UInt8)]]]]]
            (AV.bool true) ∧
          Pu Tryd.prog gls (10 : Nat)
              [AV.agg [AV.int IntKind.i64 (4 : Int), AV.str (Step.loop lv2), AV.int IntKind.i64 (0 : Int), AV.sl (1 : Nat) []]] (AV.bool false) ∧
            some (AV.bool true) = some r) = W 7 [(8, .c (.tup [stepsAV [lv1, lv2], .int .i64 2, .int .i64 0])), (13, .c (.tup [.nil, .int .i64 1, .int .i64 5])), (48, .c (.bool true)), (52, .c (.str lvT)), (67, .c (.bool true)), (73, .c (.bool false))] [] r := by kernel_rfl

theorem lawA_f (l : List Step) (i : Nat) (x : Step) (vz : Int) (p : Bool) (alts : List Alt) (N : List AV → List Bx → Prop) : ((decide ((↑i : Int) < (↑(List.length (List.map Step.av l)) : Int)) = true →
    ((0 : Int) ≤ (↑i : Int) ∧
        (List.map Step.av l)[Int.toNat (↑i : Int)]? =
          some
            (AV.agg
              [AV.int IntKind.i64 (Step.op x), AV.str (Step.loop x), AV.int IntKind.i64 (Step.by_ x),
                AV.sl (1 : Nat) (List.map sAV (Step.names x))])) ∧
      Pu Tryd.prog gls (8 : Nat)
          [AV.agg
              [AV.int IntKind.i64 (Step.op x), AV.str (Step.loop x), AV.int IntKind.i64 (Step.by_ x), AV.sl (1 : Nat) (List.map sAV (Step.names x))]]
          (AV.int IntKind.i64 vz) ∧
        ((0 : Int) ≤ (↑i : Int) ∧
            (List.map Step.av l)[Int.toNat (↑i : Int)]? =
              some
                (AV.agg
                  [AV.int IntKind.i64 (Step.op x), AV.str (Step.loop x), AV.int IntKind.i64 (Step.by_ x),
                    AV.sl (1 : Nat) (List.map sAV (Step.names x))])) ∧
          Pu Tryd.prog gls (9 : Nat)
              [AV.agg
                  [AV.int IntKind.i64 (Step.op x), AV.str (Step.loop x), AV.int IntKind.i64 (Step.by_ x),
                    AV.sl (1 : Nat) (List.map sAV (Step.names x))]]
              (AV.int IntKind.i64 vz) ∧
            (vz != vz) = false ∧
              ((0 : Int) ≤ (↑i : Int) ∧
                  (List.map Step.av l)[Int.toNat (↑i : Int)]? =
                    some
                      (AV.agg
                        [AV.int IntKind.i64 (Step.op x), AV.str (Step.loop x), AV.int IntKind.i64 (Step.by_ x),
                          AV.sl (1 : Nat) (List.map sAV (Step.names x))])) ∧
                Pu Tryd.prog gls (10 : Nat)
                    [AV.agg
                        [AV.int IntKind.i64 (Step.op x), AV.str (Step.loop x), AV.int IntKind.i64 (Step.by_ x),
                          AV.sl (1 : Nat) (List.map sAV (Step.names x))]]
                    (AV.bool p) ∧
                  ((0 : Int) ≤ (↑i : Int) ∧
                      (List.map Step.av l)[Int.toNat (↑i : Int)]? =
                        some
                          (AV.agg
                            [AV.int IntKind.i64 (Step.op x), AV.str (Step.loop x), AV.int IntKind.i64 (Step.by_ x),
                              AV.sl (1 : Nat) (List.map sAV (Step.names x))])) ∧
                    Pu Tryd.prog gls (11 : Nat)
                        [AV.agg
                            [AV.int IntKind.i64 (Step.op x), AV.str (Step.loop x), AV.int IntKind.i64 (Step.by_ x),
                              AV.sl (1 : Nat) (List.map sAV (Step.names x))]]
                        (AV.bool p) ∧
                      (!p == p) = false ∧
                        N [AV.sl (4 : Nat) (List.map Step.av l), AV.int IntKind.i64 (IntKind.wrap IntKind.i64 ((↑i : Int) + (1 : Int)))] []) ∧
  (decide ((↑i : Int) < (↑(List.length (List.map Step.av l)) : Int)) = false →
    Out alts (Exit.exit (0 : Nat)) [AV.sl (4 : Nat) (List.map Step.av l), AV.undef] [])) = WR 3 4 46 [(11, .split), (42, .split), (16, .e x.av), (18, .c (.int .i64 vz)), (21, .e x.av), (23, .c (.int .i64 vz)), (24, .b false), (28, .e x.av), (30, .c (.bool p)), (33, .e x.av), (35, .c (.bool p)), (36, .b false)] [0, 3] [] [0, 2] [] alts [stepsAV l, .int .i64 i] [] N := by kernel_rfl

theorem lawA (l : List Step) (t : Str) (q : Bool) (r : AV) : (Pu Tryd.prog gls (6 : Nat) [AV.sl (4 : Nat) (List.map Step.av l)] (AV.bool q) ∧
  (q = true →
      LoopOk Tryd.prog gls (46 : Nat) (lcode Tryd.prog (3 : Nat) (5 : Nat)) [(0 : Nat), (3 : Nat)]
          [AV.sl (4 : Nat) (List.map Step.av l), AV.int IntKind.i64 (0 : Int)] [] [(0 : Nat), (2 : Nat)]
          [{ φ := True, ex := Exit.exit (0 : Nat), vs := [AV.sl (4 : Nat) (List.map Step.av l), AV.undef], bs := [] }] ∧
        (True →
          Pu Tryd.prog gls (12 : Nat) [AV.sl (4 : Nat) (List.map Step.av l)] (AV.str t) ∧
            Pu Tryd.prog gls (13 : Nat) [AV.sl (4 : Nat) (List.map Step.av l)] (AV.str t) ∧
              (t == t) = true ∧ Pu Tryd.prog gls (7 : Nat) [] (AV.bool true) ∧ some (AV.bool true) = some r)) ∧
    (q = false → Pu Tryd.prog gls (7 : Nat) [] (AV.bool true) ∧ some (AV.bool true) = some r)) = W 3 [(11, .split), (24, .split), (36, .split), (5, .cs q), (7, .c (.bool true)), (39, .c (.str t)), (41, .c (.str t)), (44, .c (.bool true)), (42, .b true), (3000005, .l [0, 3] [] [0, 2] [] [⟨True, .exit 0, [stepsAV l, .undef], []⟩])] [stepsAV l] r := by kernel_rfl

theorem lawB1 (s : Str) (n e : Int) (t : Str) (r : AV) : ((decide ((4000 : Int) < (↑(List.length s) : Int)) = true → Pu Tryd.prog gls (7 : Nat) [] (AV.bool true) ∧ some (AV.bool true) = some r) ∧
  (decide ((4000 : Int) < (↑(List.length s) : Int)) = false →
    Pu Tryd.prog gls (14 : Nat) [AV.str s] (AV.tup [AV.nil, AV.int IntKind.i64 n, AV.int IntKind.i64 e]) ∧
      Pu Tryd.prog gls (15 : Nat) [AV.str s] (AV.tup [AV.nil, AV.int IntKind.i64 n, AV.int IntKind.i64 e]) ∧
        Pu Tryd.prog gls (16 : Nat) [AV.nil, AV.nil] (AV.bool true) ∧
          (n == n) = true ∧
            (e == e) = true ∧
              ((e != (0 : Int)) = true → Pu Tryd.prog gls (7 : Nat) [] (AV.bool true) ∧ some (AV.bool true) = some r) ∧
                ((e != (0 : Int)) = false →
                  Pu Tryd.prog gls (12 : Nat) [AV.nil] (AV.str t) ∧
                    ((t == s) = true → Pu Tryd.prog gls (7 : Nat) [] (AV.bool true) ∧ some (AV.bool true) = some r) ∧
                      ((t == s) = false → some (AV.bool false) = some r)))) = W 4 [(11, .split), (40, .split), (45, .split), (12, .c (.bool true)), (15, .c (.tup [.nil, .int .i64 n, .int .i64 e])), (21, .c (.tup [.nil, .int .i64 n, .int .i64 e])), (27, .c (.bool true)), (31, .b true), (36, .b true), (43, .c (.str t)), (49, .c (.bool true))] [.str s] r := by kernel_rfl

theorem lawB2 (s : Str) (l : List Step) (n : Int) (t : Str) (r : AV) : ((decide ((4000 : Int) < (↑(List.length s) : Int)) = true → Pu Tryd.prog gls (7 : Nat) [] (AV.bool true) ∧ some (AV.bool true) = some r) ∧
  (decide ((4000 : Int) < (↑(List.length s) : Int)) = false →
    Pu Tryd.prog gls (14 : Nat) [AV.str s] (AV.tup [AV.sl (4 : Nat) (List.map Step.av l), AV.int IntKind.i64 n, AV.int IntKind.i64 (0 : Int)]) ∧
      Pu Tryd.prog gls (15 : Nat) [AV.str s] (AV.tup [AV.sl (4 : Nat) (List.map Step.av l), AV.int IntKind.i64 n, AV.int IntKind.i64 (0 : Int)]) ∧
        Pu Tryd.prog gls (16 : Nat) [AV.sl (4 : Nat) (List.map Step.av l), AV.sl (4 : Nat) (List.map Step.av l)] (AV.bool true) ∧
          (n == n) = true ∧
            true = true ∧
              (false = true → Pu Tryd.prog gls (7 : Nat) [] (AV.bool true) ∧ some (AV.bool true) = some r) ∧
                (false = false →
                  Pu Tryd.prog gls (12 : Nat) [AV.sl (4 : Nat) (List.map Step.av l)] (AV.str t) ∧
                    ((t == s) = true → Pu Tryd.prog gls (7 : Nat) [] (AV.bool true) ∧ some (AV.bool true) = some r) ∧
                      ((t == s) = false → some (AV.bool false) = some r)))) = W 4 [(11, .split), (40, .split), (45, .split), (12, .c (.bool true)), (15, .c (.tup [stepsAV l, .int .i64 n, .int .i64 0])), (21, .c (.tup [stepsAV l, .int .i64 n, .int .i64 0])), (27, .c (.bool true)), (31, .b true), (36, .b true), (43, .c (.str t)), (49, .c (.bool true))] [.str s] r := by kernel_rfl

theorem lawC_f (l : List Step) (i : Nat) (x : Step) (vz : Int) (alts : List Alt) (N : List AV → List Bx → Prop) : ((decide ((↑i : Int) < (↑(List.length (List.map Step.av l)) : Int)) = true →
    ((0 : Int) ≤ (↑i : Int) ∧
        (List.map Step.av l)[Int.toNat (↑i : Int)]? =
          some
            (AV.agg
              [AV.int IntKind.i64 (Step.op x), AV.str (Step.loop x), AV.int IntKind.i64 (Step.by_ x),
                AV.sl (1 : Nat) (List.map sAV (Step.names x))])) ∧
      Pu Tryd.prog gls (9 : Nat)
          [AV.agg
              [AV.int IntKind.i64 (Step.op x), AV.str (Step.loop x), AV.int IntKind.i64 (Step.by_ x), AV.sl (1 : Nat) (List.map sAV (Step.names x))]]
          (AV.int IntKind.i64 vz) ∧
        ((vz != (0 : Int)) = true →
            Pu Tryd.prog gls (7 : Nat) [] (AV.bool true) ∧ Out alts Exit.ret [AV.sl (4 : Nat) (List.map Step.av l), AV.bool true] []) ∧
          ((vz != (0 : Int)) = false →
            ((0 : Int) ≤ (↑i : Int) ∧
                (List.map Step.av l)[Int.toNat (↑i : Int)]? =
                  some
                    (AV.agg
                      [AV.int IntKind.i64 (Step.op x), AV.str (Step.loop x), AV.int IntKind.i64 (Step.by_ x),
                        AV.sl (1 : Nat) (List.map sAV (Step.names x))])) ∧
              (decide ((2147483647 : Int) < Step.by_ x) = true →
                  Pu Tryd.prog gls (7 : Nat) [] (AV.bool true) ∧ Out alts Exit.ret [AV.sl (4 : Nat) (List.map Step.av l), AV.bool true] []) ∧
                (decide ((2147483647 : Int) < Step.by_ x) = false →
                  ((0 : Int) ≤ (↑i : Int) ∧
                      (List.map Step.av l)[Int.toNat (↑i : Int)]? =
                        some
                          (AV.agg
                            [AV.int IntKind.i64 (Step.op x), AV.str (Step.loop x), AV.int IntKind.i64 (Step.by_ x),
                              AV.sl (1 : Nat) (List.map sAV (Step.names x))])) ∧
                    (decide (Step.by_ x < (-2147483647 : Int)) = true →
                        Pu Tryd.prog gls (7 : Nat) [] (AV.bool true) ∧ Out alts Exit.ret [AV.sl (4 : Nat) (List.map Step.av l), AV.bool true] []) ∧
                      (decide (Step.by_ x < (-2147483647 : Int)) = false →
                        N [AV.sl (4 : Nat) (List.map Step.av l), AV.int IntKind.i64 (IntKind.wrap IntKind.i64 ((↑i : Int) + (1 : Int)))] [])))) ∧
  (decide ((↑i : Int) < (↑(List.length (List.map Step.av l)) : Int)) = false →
    Out alts (Exit.exit (0 : Nat)) [AV.sl (4 : Nat) (List.map Step.av l), AV.undef] [])) = WR 5 4 68 [(13, .split), (19, .split), (27, .split), (34, .split), (42, .split), (59, .split), (63, .split), (24, .e x.av), (26, .c (.int .i64 vz)), (31, .e x.av), (39, .e x.av), (44, .c (.bool true))] [0, 3] [] [0, 2] [] alts [stepsAV l, .int .i64 i] [] N := by kernel_rfl

theorem lawC (l : List Step) (q : Bool) (okq : Bool) (t : Str) (r : AV) : (Pu Tryd.prog gls (6 : Nat) [AV.sl (4 : Nat) (List.map Step.av l)] (AV.bool q) ∧
  (q = true →
      (decide ((64 : Int) < (↑(List.length (List.map Step.av l)) : Int)) = true →
          Pu Tryd.prog gls (7 : Nat) [] (AV.bool true) ∧ some (AV.bool true) = some r) ∧
        (decide ((64 : Int) < (↑(List.length (List.map Step.av l)) : Int)) = false →
          LoopOk Tryd.prog gls (68 : Nat) (lcode Tryd.prog (5 : Nat) (5 : Nat)) [(0 : Nat), (3 : Nat)]
              [AV.sl (4 : Nat) (List.map Step.av l), AV.int IntKind.i64 (0 : Int)] [] [(0 : Nat), (2 : Nat)]
              [{ φ := okq = false, ex := Exit.ret, vs := [AV.sl (4 : Nat) (List.map Step.av l), AV.bool true], bs := [] },
                { φ := okq = true, ex := Exit.exit (0 : Nat), vs := [AV.sl (4 : Nat) (List.map Step.av l), AV.undef], bs := [] }] ∧
            (okq = false → some (AV.bool true) = some r) ∧
              (okq = true →
                Pu Tryd.prog gls (12 : Nat) [AV.sl (4 : Nat) (List.map Step.av l)] (AV.str t) ∧
                  Pu Tryd.prog gls (14 : Nat) [AV.str t]
                      (AV.tup [AV.sl (4 : Nat) (List.map Step.av l), AV.int IntKind.i64 (↑(List.length l) : Int), AV.int IntKind.i64 (0 : Int)]) ∧
                    Pu Tryd.prog gls (16 : Nat) [AV.sl (4 : Nat) (List.map Step.av l), AV.sl (4 : Nat) (List.map Step.av l)] (AV.bool true) ∧
                      (((↑(List.length l) : Int) == (↑(List.length (List.map Step.av l)) : Int)) = true →
                          (true = true → Pu Tryd.prog gls (7 : Nat) [] (AV.bool true) ∧ some (AV.bool true) = some r) ∧
                            (true = false → some (AV.bool false) = some r)) ∧
                        (((↑(List.length l) : Int) == (↑(List.length (List.map Step.av l)) : Int)) = false → some (AV.bool false) = some r)))) ∧
    (q = false → Pu Tryd.prog gls (7 : Nat) [] (AV.bool true) ∧ some (AV.bool true) = some r)) = W 5 [(13, .split), (19, .split), (27, .split), (34, .split), (42, .split), (59, .split), (63, .split), (8, .cs q), (15, .c (.bool true)), (3000005, .l [0, 3] [] [0, 2] [] [⟨okq = false, .ret, [stepsAV l, .bool true], []⟩, ⟨okq = true, .exit 0, [stepsAV l, .undef], []⟩]), (47, .c (.str t)), (48, .c (.tup [stepsAV l, .int .i64 l.length, .int .i64 0])), (54, .c (.bool true)), (66, .c (.bool true))] [stepsAV l] r := by kernel_rfl

theorem lawC0 (q : Bool) (okq : Bool) (r : AV) : (Pu Tryd.prog gls (6 : Nat) [AV.sl (4 : Nat) []] (AV.bool q) ∧
  (q = true →
      (false = true → Pu Tryd.prog gls (7 : Nat) [] (AV.bool true) ∧ some (AV.bool true) = some r) ∧
        (false = false →
          LoopOk Tryd.prog gls (68 : Nat) (lcode Tryd.prog (5 : Nat) (5 : Nat)) [(0 : Nat), (3 : Nat)]
              [AV.sl (4 : Nat) [], AV.int IntKind.i64 (0 : Int)] [] [(0 : Nat), (2 : Nat)]
              [{ φ := okq = false, ex := Exit.ret, vs := [AV.sl (4 : Nat) [], AV.bool true], bs := [] },
                { φ := okq = true, ex := Exit.exit (0 : Nat), vs := [AV.sl (4 : Nat) [], AV.undef], bs := [] }] ∧
            (okq = false → some (AV.bool true) = some r) ∧
              (okq = true →
                Pu Tryd.prog gls (12 : Nat) [AV.sl (4 : Nat) []] (AV.str []) ∧
                  Pu Tryd.prog gls (14 : Nat) [AV.str []] (AV.tup [AV.nil, AV.int IntKind.i64 (0 : Int), AV.int IntKind.i64 (0 : Int)]) ∧
                    Pu Tryd.prog gls (16 : Nat) [AV.sl (4 : Nat) [], AV.nil] (AV.bool true) ∧
                      (true = true →
                          (true = true → Pu Tryd.prog gls (7 : Nat) [] (AV.bool true) ∧ some (AV.bool true) = some r) ∧
                            (true = false → some (AV.bool false) = some r)) ∧
                        (true = false → some (AV.bool false) = some r)))) ∧
    (q = false → Pu Tryd.prog gls (7 : Nat) [] (AV.bool true) ∧ some (AV.bool true) = some r)) = W 5 [(13, .split), (19, .split), (27, .split), (34, .split), (42, .split), (59, .split), (63, .split), (8, .cs q), (15, .c (.bool true)), (3000005, .l [0, 3] [] [0, 2] [] [⟨okq = false, .ret, [stepsAV [], .bool true], []⟩, ⟨okq = true, .exit 0, [stepsAV [], .undef], []⟩]), (47, .c (.str [])), (48, .c (.tup [.nil, .int .i64 0, .int .i64 0])), (54, .c (.bool true)), (66, .c (.bool true))] [stepsAV []] r := by kernel_rfl

theorem ss_ok (l : List Str) (hl : l.length ≤ 9223372036854775807) : Pu Tryd.prog gls 17 [strsAV l, strsAV l] (.bool true) := by
  have hlp : LoopOk Tryd.prog gls 26 (lcode Tryd.prog 17 5) [0, 1, 5] [strsAV l, strsAV l, .int .i64 (0 : Nat)] [] [4] [⟨True, .exit 0, [.undef], []⟩] :=
    Lp1 (r := 4) (kb := []) (kbx := []) (by kernel_rfl) (fun j vs bs => ∃ i : Nat, j = l.length - i ∧ i ≤ l.length ∧ vs = [strsAV l, strsAV l, .int .i64 i] ∧ bs = [])
    (fun j vs bs ⟨i, hj, hi, hv, hb⟩ => by
      subst hv; subst hb
      rcases Nat.lt_or_ge i l.length with hlt | hge
      · obtain ⟨x, hx⟩ := some_of_lt hlt
        refine WR1 (ss_f l i x _ _) ⟨fun _ => ⟨⟨by omega, map_get hx⟩, ⟨by omega, map_get hx⟩, fun h => by simp at h, fun _ => ?_⟩, fun h => by simp at h; omega⟩
        rw [i64_in _ (by omega)]
        exact ⟨l.length - (i + 1), by omega, i + 1, rfl, by omega, rfl, rfl⟩
      · exact WR1 (ss_f l i [] _ _) ⟨fun h => by simp at h; omega, fun _ => Out.here trivial⟩) (j := l.length) ⟨0, by omega, by omega, rfl, rfl⟩
  exact Pu1 (ssF_f l _) ⟨fun h => by simp at h, fun _ => ⟨hlp, fun _ => rfl⟩⟩

theorem st_ok (l : List Step) (hl : FitS l) : Pu Tryd.prog gls 16 [stepsAV l, stepsAV l] (.bool true) := by
  have hl1 := hl.1
  have hlp : LoopOk Tryd.prog gls 68 (lcode Tryd.prog 16 5) [0, 1, 5] [stepsAV l, stepsAV l, .int .i64 (0 : Nat)] [] [4] [⟨True, .exit 0, [.undef], []⟩] :=
    Lp1 (r := 4) (kb := []) (kbx := []) (by kernel_rfl) (fun j vs bs => ∃ i : Nat, j = l.length - i ∧ i ≤ l.length ∧ vs = [stepsAV l, stepsAV l, .int .i64 i] ∧ bs = [])
    (fun j vs bs ⟨i, hj, hi, hv, hb⟩ => by
      subst hv; subst hb
      rcases Nat.lt_or_ge i l.length with hlt | hge
      · obtain ⟨x, hx⟩ := some_of_lt hlt
        have hm : (0 : Int) ≤ (i : Int) ∧ (l.map Step.av)[((i : Int)).toNat]? = some x.av := ⟨by omega, map_get hx⟩
        have hs := ss_ok x.names (hl.2 x (List.mem_of_getElem? hx)).2.1
        refine WR1 (st_f l i x _ _) ⟨fun _ => ⟨hm, hm, by simp, hm, hm, by simp, hm, hm, by simp, hm, hm, hs, ?_⟩, fun h => by simp at h; omega⟩
        rw [i64_in _ (by omega)]
        exact ⟨l.length - (i + 1), by omega, i + 1, rfl, by omega, rfl, rfl⟩
      · exact WR1 (st_f l i ⟨0, [], 0, []⟩ _ _) ⟨fun h => by simp at h; omega, fun _ => Out.here trivial⟩) (j := l.length) ⟨0, by omega, by omega, rfl, rfl⟩
  exact Pu1 (stF_f l _) ⟨fun h => by simp at h, fun _ => ⟨hlp, fun _ => rfl⟩⟩

theorem fmtNil_ok : Pu Tryd.prog gls 12 [.nil] (.str []) := Pu1 (fmtN_f2 _) ⟨fun h => (by cases h), fun _ => rfl⟩

theorem lv_par : parR lvT = .tup [stepsAV [lv1, lv2], .int .i64 2, .int .i64 0] := by kernel_rfl
theorem lv_par2 : parR [114, 101, 118, 101, 114, 115, 101, 32, 105, 10, 115, 112, 108, 105, 116, 32, 105, 32, 105, 111, 32, 105, 105, 10] = .tup [.nil, .int .i64 1, .int .i64 5] := by kernel_rfl
theorem lv_fmt : fmtS [lv1, lv2] = lvT := by
  have e1 : Lib.itoa 4 = [52] := by simp [Lib.itoa, Lib.decDigits]
  have h1 : [lv1, lv2].all okS = true := by decide
  unfold fmtS
  rw [if_pos h1]
  show lineS lv1 ++ (lineS lv2 ++ []) = lvT
  unfold lineS lineWords
  show Lib.join ([kwB 1, [105]] ++ ([Lib.itoa 4] ++ [[105, 111], [105, 105]])) [32] ++ [10] ++ (_ ++ []) = lvT
  rw [e1]; rfl
theorem lv_fit : FmtS [lv1, lv2] where
  len := by decide
  fit x hx := by
    rcases List.mem_cons.1 hx with rfl | hx
    · exact ⟨by decide, by decide, fun y hy => by simp [lv1] at hy; rcases hy with rfl | rfl <;> decide⟩
    · simp at hx; subst hx; exact ⟨by decide, by decide, fun y hy => by simp [lv2] at hy⟩
  by0 x hx := by
    rcases List.mem_cons.1 hx with rfl | hx
    · decide
    · simp at hx; subst hx; decide
  by1 x hx := by
    rcases List.mem_cons.1 hx with rfl | hx
    · decide
    · simp at hx; subst hx; decide
  line x hx := by
    have e1 : Lib.itoa 4 = [52] := by simp [Lib.itoa, Lib.decDigits]
    rcases List.mem_cons.1 hx with rfl | hx
    · unfold lineS lineWords
      show (Lib.join ([kwB 1, [105]] ++ ([Lib.itoa 4] ++ [[105, 111], [105, 105]])) [32] ++ [10]).length ≤ _
      rw [e1]; decide
    · simp at hx; subst hx; decide
  names x hx := by
    rcases List.mem_cons.1 hx with rfl | hx
    · decide
    · simp at hx; subst hx; decide

theorem live_ok : Pu Tryd.prog gls 7 [] (.bool true) := by
  have p1 := parse_ok lvT (by decide)
  have p2 := parse_ok [114, 101, 118, 101, 114, 115, 101, 32, 105, 10, 115, 112, 108, 105, 116, 32, 105, 32, 105, 111, 32, 105, 105, 10] (by decide)
  rw [lv_par] at p1
  rw [lv_par2] at p2
  have p3 := fmt_ok [lv1, lv2] lv_fit
  rw [lv_fmt] at p3
  have p4 := ss_ok [[105, 111], [105, 105]] (by decide)
  have p5 := pres_ok lv1
  have p6 := pres_ok lv2
  have f := live_f (.bool true)
  refine Pu1 f ?_
  (repeat' (first | intro _ | apply And.intro)) <;> first | assumption | rfl | exact p1 | exact p2 | exact p3 | exact p4 | exact p5 | exact p6 | (simp; done)

/-- What the model says of any steps. -/
structure InS (l : List Step) : Prop where
  fit : FitS l
  by0 : ∀ x ∈ l, -9223372036854775808 ≤ x.by_
  by1 : ∀ x ∈ l, x.by_ ≤ 9223372036854775807

theorem kw_len (op : Int) : (kwB op).length ≤ 11 := by
  unfold kwB
  split
  · simp
  · have : ∀ k : Nat, ((kws[k]?).getD []).length ≤ 11 := fun k => by
      rcases Nat.lt_or_ge k 13 with h | h
      · have : k = 0 ∨ k = 1 ∨ k = 2 ∨ k = 3 ∨ k = 4 ∨ k = 5 ∨ k = 6 ∨ k = 7 ∨ k = 8 ∨ k = 9 ∨ k = 10 ∨ k = 11 ∨ k = 12 := by omega
        rcases this with rfl | rfl | rfl | rfl | rfl | rfl | rfl | rfl | rfl | rfl | rfl | rfl | rfl <;> decide
      · rw [List.getElem?_eq_none (by simpa [kws] using h)]; simp
    exact this _
theorem itoa_len {n : Int} (h0 : -9223372036854775808 ≤ n) (h1 : n ≤ 9223372036854775807) : (Lib.itoa n).length ≤ 21 := by
  unfold Lib.itoa
  split
  · have := Lib.nDigits_le20 n.natAbs (by omega)
    simp only [List.length_cons, Lib.decDigits_length]; omega
  · have := Lib.nDigits_le20 n.toNat (by omega)
    rw [Lib.decDigits_length]; omega
theorem spS_le : ∀ (l : List Str) (n : Nat), (∀ x ∈ l, x.length ≤ n) → (spS l).length ≤ l.length * (n + 1)
  | [], _, _ => by simp [spS]
  | a :: l, n, h => by
    have ih := spS_le l n fun x hx => h x (by simp [hx])
    have h1 := h a (by simp)
    simp only [spS, List.flatMap_cons, List.length_append, List.length_cons, Nat.add_mul, Nat.one_mul, List.length_nil] at ih ⊢
    omega
theorem few_fmt {l : List Step} (hl : InS l) (hf : fewB l = true) : FmtS l := by
  unfold fewB at hf
  rw [Bool.and_eq_true] at hf
  have hlen : l.length ≤ 80 := by simpa using hf.2
  have hs : ∀ x ∈ l, x.loop.length ≤ 100 ∧ x.names.length ≤ 10 ∧ ∀ y ∈ x.names, y.length ≤ 100 := fun x hx => by
    have := List.all_eq_true.1 hf.1 x hx
    unfold fewS at this
    simp only [Bool.and_eq_true, decide_eq_true_eq] at this
    exact ⟨this.1.1, this.1.2, fun y hy => by have := List.all_eq_true.1 this.2 y hy; simpa [short] using this⟩
  refine ⟨by omega, hl.fit.2, hl.by0, hl.by1, fun x hx => ?_, fun x hx => by have := (hs x hx).2.1; omega⟩
  obtain ⟨a1, a2, a3⟩ := hs x hx
  have h1 := kw_len x.op
  have h2 := itoa_len (hl.by0 x hx) (hl.by1 x hx)
  have h3 := spS_le x.names 100 a3
  have h4 : x.names.length * 101 ≤ 1010 := by omega
  rw [lineS_eq]
  simp only [List.length_append, List.length_cons, List.length_nil]
  split <;> simp only [List.length_append, List.length_cons, List.length_nil] <;> omega

theorem lawA_ok (l : List Step) (hl : InS l) : Pu Tryd.prog gls 3 [stepsAV l] (.bool true) := by
  have hl1 := hl.fit.1
  have hlp : LoopOk Tryd.prog gls 46 (lcode Tryd.prog 3 5) [0, 3] [stepsAV l, .int .i64 (0 : Nat)] [] [0, 2] [⟨True, .exit 0, [stepsAV l, .undef], []⟩] :=
    Lp1 (r := 4) (kb := []) (kbx := []) (by kernel_rfl) (fun j vs bs => ∃ i : Nat, j = l.length - i ∧ i ≤ l.length ∧ vs = [stepsAV l, .int .i64 i] ∧ bs = [])
    (fun j vs bs ⟨i, hj, hi, hv, hb⟩ => by
      subst hv; subst hb
      rcases Nat.lt_or_ge i l.length with hlt | hge
      · obtain ⟨x, hx⟩ := some_of_lt hlt
        have hm : (0 : Int) ≤ (i : Int) ∧ (l.map Step.av)[((i : Int)).toNat]? = some x.av := ⟨by omega, map_get hx⟩
        have hf := hl.fit.2 x (List.mem_of_getElem? hx)
        refine WR1 (lawA_f l i x (validZ x) (presB x.op) _ _) ⟨fun _ => ⟨hm, vld_ok x hf, hm, vldR_ok x hf, by simp, hm, pres_ok x, hm, pres2_ok x, by simp, ?_⟩, fun h => by simp at h; omega⟩
        rw [i64_in _ (by omega)]
        exact ⟨l.length - (i + 1), by omega, i + 1, rfl, by omega, rfl, rfl⟩
      · exact WR1 (lawA_f l i ⟨0, [], 0, []⟩ 0 true _ _) ⟨fun h => by simp at h; omega, fun _ => Out.here trivial⟩) (j := l.length) ⟨0, by omega, by omega, rfl, rfl⟩
  exact Pu1 (lawA l (fmtS l) (fewB l) _) ⟨few_ok l hl.fit, fun h => ⟨hlp, fun _ => ⟨fmt_ok l (few_fmt hl h), rf_ok l (few_fmt hl h), by simp, live_ok, rfl⟩⟩, fun _ => ⟨live_ok, rfl⟩⟩

theorem par_fmt {s : Str} (hs : s.length ≤ 4000) (he : (parS [] s).e = 0) : FmtS (parS [] s).o ∧ fmtS (parS [] s).o = s := by
  obtain ⟨h1, h2⟩ := text_back s.length [] s (Nat.le_refl _) he
  have h3 := h2 rfl
  have h4 : textS (parS [] s).o = s := by rw [h1]; rfl
  have h5 := parS_olen s.length [] s (Nat.le_refl _) (by simp)
  have hline : ∀ x ∈ (parS [] s).o, (lineS x).length ≤ 4000 := fun x hx => by
    obtain ⟨a, b, hab⟩ := List.append_of_mem hx
    have := congrArg List.length h4
    rw [hab] at this
    simp only [textS, List.flatMap_append, List.flatMap_cons, List.length_append] at this
    omega
  refine ⟨⟨by omega, fun x hx => ?_, fun x hx => ?_, fun x hx => ?_, fun x hx => by have := hline x hx; omega, fun x hx => ?_⟩, by unfold fmtS; rw [if_pos h3, h4]⟩
  all_goals have hq := hline x hx
  all_goals rw [lineS_eq] at hq
  all_goals simp only [List.length_append, List.length_cons, List.length_nil] at hq
  all_goals have hv := ok_inv (List.all_eq_true.1 h3 x hx)
  · refine ⟨by omega, ?_, fun y hy => ?_⟩
    · have := hv.2.1; have := nmZ_le x.op; omega
    · have : y.length ≤ (spS x.names).length := by
        obtain ⟨a, b, hab⟩ := List.append_of_mem hy
        rw [hab]; simp only [spS, List.flatMap_append, List.flatMap_cons, List.length_append]; omega
      omega
  · exact (parS_by s.length [] s (Nat.le_refl _) (fun x hx => by simp at hx) x hx).1
  · exact (parS_by s.length [] s (Nat.le_refl _) (fun x hx => by simp at hx) x hx).2
  · have := hv.2.1; have := nmZ_le x.op; omega

theorem lawB_ok (s : Str) (hs : s.length ≤ 9223372036854775807) : Pu Tryd.prog gls 4 [.str s] (.bool true) := by
  by_cases h : s.length ≤ 4000
  · have hno : ∀ q : Prop, (decide ((4000 : Int) < (s.length : Int)) = true → q) := fun q h2 => by simp at h2; omega
    have p1 := parse_ok s hs
    have p2 := parseR_ok s hs
    have hpar : parR s = if (parS [] s).e = 0 then .tup [stT (parS [] s).o, .int .i64 (parS [] s).o.length, .int .i64 0] else .tup [.nil, .int .i64 (parS [] s).o.length, .int .i64 (parS [] s).e] := by unfold parR; rw [if_neg (by omega)]
    by_cases he : (parS [] s).e = 0
    · rw [hpar, if_pos he] at p1 p2
      obtain ⟨f1, f2⟩ := par_fmt h he
      cases ho : (parS [] s).o with
      | nil =>
        rw [ho] at p1 p2 f2
        have : s = [] := by rw [← f2]; rfl
        subst this
        exact Pu1 (lawB1 [] 0 0 [] _) ⟨hno _, fun _ => ⟨p1, p2, Pu1 (stN_f _) rfl, by simp, by simp, fun _ => ⟨live_ok, rfl⟩, fun _ => ⟨fmtNil_ok, fun _ => ⟨live_ok, rfl⟩, fun h => by simp at h⟩⟩⟩
      | cons a t =>
        rw [ho] at p1 p2 f1 f2
        have hfit : FitS (a :: t) := ⟨by have := f1.len; omega, f1.fit⟩
        exact Pu1 (lawB2 s (a :: t) (a :: t).length s _) ⟨hno _, fun _ => ⟨p1, p2, st_ok _ hfit, by simp, rfl, fun _ => ⟨live_ok, rfl⟩, fun _ => ⟨by have := fmt_ok _ f1; rwa [f2] at this, fun _ => ⟨live_ok, rfl⟩, fun h => by simp at h⟩⟩⟩
    · rw [hpar, if_neg he] at p1 p2
      exact Pu1 (lawB1 s _ _ [] _) ⟨hno _, fun _ => ⟨p1, p2, Pu1 (stN_f _) rfl, by simp, by simp, fun _ => ⟨live_ok, rfl⟩, fun h => by simp [he] at h⟩⟩
  · exact Pu1 (lawB1 s 0 0 [] _) ⟨fun _ => ⟨live_ok, rfl⟩, fun h2 => by simp at h2; omega⟩

def rtQ (x : Step) : Bool := okS x && (decide (x.by_ ≤ 2147483647) && decide (-2147483647 ≤ x.by_))
theorem lawC_loop (l : List Step) (hl : InS l) : LoopOk Tryd.prog gls 68 (lcode Tryd.prog 5 5) [0, 3] [stepsAV l, .int .i64 (0 : Nat)] [] [0, 2] [⟨l.all rtQ = false, .ret, [stepsAV l, .bool true], []⟩, ⟨l.all rtQ = true, .exit 0, [stepsAV l, .undef], []⟩] :=
  Lp1 (r := 4) (kb := []) (kbx := []) (by kernel_rfl) (fun j vs bs => ∃ i : Nat, j = l.length - i ∧ i ≤ l.length ∧ (l.take i).all rtQ = true ∧ vs = [stepsAV l, .int .i64 i] ∧ bs = [])
    (fun j vs bs ⟨i, hj, hi, ht, hv, hb⟩ => by
      subst hv; subst hb
      have hl1 := hl.fit.1
      rcases Nat.lt_or_ge i l.length with hlt | hge
      · obtain ⟨x, hx⟩ := some_of_lt hlt
        have hm : (0 : Int) ≤ (i : Int) ∧ (l.map Step.av)[((i : Int)).toNat]? = some x.av := ⟨by omega, map_get hx⟩
        have hf := hl.fit.2 x (List.mem_of_getElem? hx)
        have bad : rtQ x = false → Out [⟨l.all rtQ = false, .ret, [stepsAV l, .bool true], []⟩, ⟨l.all rtQ = true, .exit 0, [stepsAV l, .undef], []⟩] .ret [stepsAV l, .bool true] [] := fun h => Out.here (all_false_at hx h)
        have e : rtQ x = (validZ x == 0 && (decide (x.by_ ≤ 2147483647) && decide (-2147483647 ≤ x.by_))) := rfl
        refine WR1 (lawC_f l i x (validZ x) _ _) ⟨fun _ => ⟨hm, vldR_ok x hf, fun h1 => ⟨live_ok, bad ?_⟩, fun h1 => ⟨hm, fun h2 => ⟨live_ok, bad ?_⟩, fun h2 => ⟨hm, fun h3 => ⟨live_ok, bad ?_⟩, fun h3 => ?_⟩⟩⟩, fun h => by simp at h; omega⟩
        · rw [e]; simp at h1; simp [h1]
        · rw [e]; simp at h2; simp; omega
        · rw [e]; simp at h3; simp; omega
        · rw [i64_in _ (by omega)]
          exact ⟨l.length - (i + 1), by omega, i + 1, rfl, by omega, take_succ_all ht hx (by rw [e]; simp at h1 h2 h3; simp; omega), rfl, rfl⟩
      · exact WR1 (lawC_f l i ⟨0, [], 0, []⟩ 0 _ _) ⟨fun h => by simp at h; omega, fun _ => Out.next (Out.here (all_of_take ht hge))⟩) (j := l.length) ⟨0, by omega, by omega, by simp, rfl, rfl⟩

theorem line_short {x : Step} (h : okS x = true) (h0 : -2147483647 ≤ x.by_) (h1 : x.by_ ≤ 2147483647) : (lineS x).length ≤ 200 := by
  obtain ⟨_, o3, _, o4, o5⟩ := ok_inv h
  have hz := nmZ_le x.op
  have nl : ∀ s, isName s = true → s.length ≤ 16 := fun s hs => by
    unfold isName at hs; simp only [Bool.and_eq_true, decide_eq_true_eq] at hs; exact hs.1.1.1.2
  have a1 := kw_len x.op
  have a2 := itoa_len (n := x.by_) (by omega) (by omega)
  have a3 := spS_le x.names 16 fun y hy => nl y (List.all_eq_true.1 o5 y hy)
  have a4 := nl _ o4
  have a5 : x.names.length * 17 ≤ 34 := by omega
  rw [lineS_eq]
  simp only [List.length_append, List.length_cons, List.length_nil]
  split <;> simp only [List.length_append, List.length_cons, List.length_nil] <;> omega

theorem lawC_ok (l : List Step) (hl : InS l) : Pu Tryd.prog gls 5 [stepsAV l] (.bool true) := by
  have hlp := lawC_loop l hl
  have hfew := few_ok l hl.fit
  have main : fewB l = true → l.length ≤ 64 → l.all rtQ = true → Pu Tryd.prog gls 12 [stepsAV l] (.str (textS l)) ∧ Pu Tryd.prog gls 14 [.str (textS l)] (.tup [stT l, .int .i64 l.length, .int .i64 0]) := fun hf h64 hq => by
    have hq' : ∀ x ∈ l, okS x = true ∧ -2147483647 ≤ x.by_ ∧ x.by_ ≤ 2147483647 := fun x hx => by
      have := List.all_eq_true.1 hq x hx
      unfold rtQ at this
      simp only [Bool.and_eq_true, decide_eq_true_eq] at this
      exact ⟨this.1, this.2.2, this.2.1⟩
    have hok : l.all okS = true := List.all_eq_true.2 fun x hx => (hq' x hx).1
    have h1 := fmt_ok l (few_fmt hl hf)
    have hft : fmtS l = textS l := by unfold fmtS; rw [if_pos hok]
    rw [hft] at h1
    have hlen := textS_len 200 l fun x hx => line_short (hq' x hx).1 (hq' x hx).2.1 (hq' x hx).2.2
    have hlen2 : l.length * 200 ≤ 12800 := by omega
    have h2 := parse_ok (textS l) (by omega)
    have hp := text_forth l [] (by simpa using h64) hok fun x hx => (hq' x hx).2
    unfold parR at h2
    rw [if_neg (by omega), hp, if_pos rfl] at h2
    exact ⟨h1, h2⟩
  cases l with
  | nil =>
    exact Pu1 (lawC0 (fewB []) ([].all rtQ) _) (by
      obtain ⟨m1, m2⟩ := main rfl (by simp) rfl
      (repeat' (first | intro _ | apply And.intro)) <;> first | assumption | exact hlp | exact live_ok | exact m1 | exact m2 | exact Pu1 (stE_f _) rfl | rfl | (simp_all; done))
  | cons a t =>
    generalize hL : a :: t = L at *
    have hst : stT L = stepsAV L := by rw [← hL]; rfl
    have hs := st_ok L hl.fit
    have f := lawC L (fewB L) (L.all rtQ) (textS L) (.bool true)
    rw [List.length_map] at f
    refine Pu1 f ⟨hfew, fun h1 => ⟨fun _ => ⟨live_ok, rfl⟩, fun h2 => ⟨hlp, fun _ => rfl, fun h3 => ?_⟩⟩, fun _ => ⟨live_ok, rfl⟩⟩
    obtain ⟨m1, m2⟩ := main h1 (by simp at h2; omega) h3
    rw [hst] at m2
    (repeat' (first | intro _ | apply And.intro)) <;> first | assumption | exact live_ok | exact m1 | exact m2 | exact hs | rfl | (simp_all; done)

end Go.Proofs.YtcphiogbjdehhaaDoor
