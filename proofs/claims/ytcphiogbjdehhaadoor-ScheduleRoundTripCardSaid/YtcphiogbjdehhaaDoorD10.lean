/- Walks: a line of a schedule, read. -/
import Derived.Test.YtcphiogbjdehhaaDoorD9
namespace Go.Proofs.YtcphiogbjdehhaaDoor
open Go HX Go.IntWalk
set_option maxRecDepth 1000000
variable [ML]
set_option linter.unusedSectionVars false

theorem plT_f (s w1 w2 : Str) (l l2 l3 : List Str) (op nm nv ne vz : Int) (r : AV) : (Pu Tryd.prog gls (48 : Nat) [AV.str s, AV.str [(32 : UInt8)]] (AV.sl (1 : Nat) (List.map sAV l)) ∧
  LoopOk Tryd.prog gls (75 : Nat) (lcode Tryd.prog (34 : Nat) (5 : Nat)) [(2 : Nat), (4 : Nat), (5 : Nat), (6 : Nat)]
      [AV.ptr (0 : Nat) (0 : Nat) (0 : Nat), AV.sl (1 : Nat) (List.map sAV l), AV.ptr (1 : Nat) (0 : Nat) (0 : Nat), AV.int IntKind.i64 (1 : Int)]
      [((0 : Nat), [AV.int IntKind.i64 (0 : Int), AV.str [], AV.int IntKind.i64 (0 : Int), AV.nil]),
        ((0 : Nat), [AV.int IntKind.i64 (0 : Int), AV.str [], AV.int IntKind.i64 (0 : Int), AV.nil])]
      [(2 : Nat), (4 : Nat), (5 : Nat)]
      [{ φ := True, ex := Exit.exit (0 : Nat),
          vs := [AV.ptr (0 : Nat) (0 : Nat) (0 : Nat), AV.sl (1 : Nat) (List.map sAV l), AV.ptr (1 : Nat) (0 : Nat) (0 : Nat)],
          bs :=
            [((0 : Nat), [AV.int IntKind.i64 (0 : Int), AV.str [], AV.int IntKind.i64 (0 : Int), AV.nil]),
              ((0 : Nat), [AV.int IntKind.i64 op, AV.str [], AV.int IntKind.i64 (0 : Int), AV.nil])] }] ∧
    (True →
      Pu Tryd.prog gls (19 : Nat) [AV.int IntKind.i64 op] (AV.int IntKind.i64 nm) ∧
        Pu Tryd.prog gls (20 : Nat) [AV.int IntKind.i64 op] (AV.bool true) ∧
          ((op == (0 : Int)) = true →
              some (AV.tup [AV.agg [AV.int IntKind.i64 op, AV.str [], AV.int IntKind.i64 (0 : Int), AV.nil], AV.int IntKind.i64 (5 : Int)]) =
                some r) ∧
            ((op == (0 : Int)) = false →
              (((↑(List.length (List.map sAV l)) : Int) != IntKind.wrap IntKind.i64 (IntKind.wrap IntKind.i64 ((2 : Int) + nm) + (1 : Int))) = true →
                  some (AV.tup [AV.agg [AV.int IntKind.i64 op, AV.str [], AV.int IntKind.i64 (0 : Int), AV.nil], AV.int IntKind.i64 (5 : Int)]) =
                    some r) ∧
                (((↑(List.length (List.map sAV l)) : Int) != IntKind.wrap IntKind.i64 (IntKind.wrap IntKind.i64 ((2 : Int) + nm) + (1 : Int))) =
                    false →
                  ((0 : Int) ≤ (1 : Int) ∧ (List.map sAV l)[(1 : Nat)]? = some (AV.agg [AV.str w1])) ∧
                    xslice Tryd.prog (27 : Nat) (AV.sl (1 : Nat) (List.map sAV l)) (some (AV.int IntKind.i64 (2 : Int))) none none =
                        some (AV.sl (1 : Nat) (List.map sAV l2)) ∧
                      Pu Tryd.prog gls (20 : Nat) [AV.int IntKind.i64 op] (AV.bool true) ∧
                        ((0 : Int) ≤ (0 : Int) ∧ (List.map sAV l2)[(0 : Nat)]? = some (AV.agg [AV.str w2])) ∧
                          Pu Tryd.prog gls (49 : Nat) [AV.str w2] (AV.tup [AV.int IntKind.i64 nv, AV.int IntKind.i64 ne]) ∧
                            ((ne != (0 : Int)) = true →
                                some
                                    (AV.tup
                                      [AV.agg [AV.int IntKind.i64 op, AV.str w1, AV.int IntKind.i64 (0 : Int), AV.nil], AV.int IntKind.i64 ne]) =
                                  some r) ∧
                              ((ne != (0 : Int)) = false →
                                xslice Tryd.prog (27 : Nat) (AV.sl (1 : Nat) (List.map sAV l2)) (some (AV.int IntKind.i64 (1 : Int))) none none =
                                    some (AV.sl (1 : Nat) (List.map sAV l3)) ∧
                                  Pu Tryd.prog gls (50 : Nat) [AV.sl (1 : Nat) (List.map sAV l3)] (AV.sl (1 : Nat) (List.map sAV l3)) ∧
                                    Pu Tryd.prog gls (8 : Nat)
                                        [AV.agg [AV.int IntKind.i64 op, AV.str w1, AV.int IntKind.i64 nv, AV.sl (1 : Nat) (List.map sAV l3)]]
                                        (AV.int IntKind.i64 vz) ∧
                                      some
                                          (AV.tup
                                            [AV.agg [AV.int IntKind.i64 op, AV.str w1, AV.int IntKind.i64 nv, AV.sl (1 : Nat) (List.map sAV l3)],
                                              AV.int IntKind.i64 vz]) =
                                        some r))))) = W 34 [(15, .split), (23, .split), (37, .split), (42, .split), (62, .split), (12, .c (strsAV l)), (3000005, .l [2, 4, 5, 6] [⟨2, [], false⟩, ⟨5, [], false⟩] [2, 4, 5] [⟨2, [], false⟩, ⟨5, [], false⟩] [⟨True, .exit 0, [.ptr 0 0 0, strsAV l, .ptr 1 0 0], [(0, [.int .i64 0, .str [], .int .i64 0, .nil]), (0, [.int .i64 op, .str [], .int .i64 0, .nil])]⟩]), (28, .c (.int .i64 nm)), (32, .c (.bool true)), (46, .e (sAV w1)), (50, .v (strsAV l2)), (53, .c (.bool true)), (56, .e (sAV w2)), (58, .c (.tup [.int .i64 nv, .int .i64 ne])), (67, .v (strsAV l3)), (70, .c (strsAV l3)), (74, .c (.int .i64 vz))] [.str s] r := by kernel_rfl

theorem plF_f (s w1 : Str) (l l2 : List Str) (op nm vz : Int) (r : AV) : (Pu Tryd.prog gls (48 : Nat) [AV.str s, AV.str [(32 : UInt8)]] (AV.sl (1 : Nat) (List.map sAV l)) ∧
  LoopOk Tryd.prog gls (75 : Nat) (lcode Tryd.prog (34 : Nat) (5 : Nat)) [(2 : Nat), (4 : Nat), (5 : Nat), (6 : Nat)]
      [AV.ptr (0 : Nat) (0 : Nat) (0 : Nat), AV.sl (1 : Nat) (List.map sAV l), AV.ptr (1 : Nat) (0 : Nat) (0 : Nat), AV.int IntKind.i64 (1 : Int)]
      [((0 : Nat), [AV.int IntKind.i64 (0 : Int), AV.str [], AV.int IntKind.i64 (0 : Int), AV.nil]),
        ((0 : Nat), [AV.int IntKind.i64 (0 : Int), AV.str [], AV.int IntKind.i64 (0 : Int), AV.nil])]
      [(2 : Nat), (4 : Nat), (5 : Nat)]
      [{ φ := True, ex := Exit.exit (0 : Nat),
          vs := [AV.ptr (0 : Nat) (0 : Nat) (0 : Nat), AV.sl (1 : Nat) (List.map sAV l), AV.ptr (1 : Nat) (0 : Nat) (0 : Nat)],
          bs :=
            [((0 : Nat), [AV.int IntKind.i64 (0 : Int), AV.str [], AV.int IntKind.i64 (0 : Int), AV.nil]),
              ((0 : Nat), [AV.int IntKind.i64 op, AV.str [], AV.int IntKind.i64 (0 : Int), AV.nil])] }] ∧
    (True →
      Pu Tryd.prog gls (19 : Nat) [AV.int IntKind.i64 op] (AV.int IntKind.i64 nm) ∧
        Pu Tryd.prog gls (20 : Nat) [AV.int IntKind.i64 op] (AV.bool false) ∧
          ((op == (0 : Int)) = true →
              some (AV.tup [AV.agg [AV.int IntKind.i64 op, AV.str [], AV.int IntKind.i64 (0 : Int), AV.nil], AV.int IntKind.i64 (5 : Int)]) =
                some r) ∧
            ((op == (0 : Int)) = false →
              (((↑(List.length (List.map sAV l)) : Int) != IntKind.wrap IntKind.i64 ((2 : Int) + nm)) = true →
                  some (AV.tup [AV.agg [AV.int IntKind.i64 op, AV.str [], AV.int IntKind.i64 (0 : Int), AV.nil], AV.int IntKind.i64 (5 : Int)]) =
                    some r) ∧
                (((↑(List.length (List.map sAV l)) : Int) != IntKind.wrap IntKind.i64 ((2 : Int) + nm)) = false →
                  ((0 : Int) ≤ (1 : Int) ∧ (List.map sAV l)[(1 : Nat)]? = some (AV.agg [AV.str w1])) ∧
                    xslice Tryd.prog (27 : Nat) (AV.sl (1 : Nat) (List.map sAV l)) (some (AV.int IntKind.i64 (2 : Int))) none none =
                        some (AV.sl (1 : Nat) (List.map sAV l2)) ∧
                      Pu Tryd.prog gls (20 : Nat) [AV.int IntKind.i64 op] (AV.bool false) ∧
                        Pu Tryd.prog gls (50 : Nat) [AV.sl (1 : Nat) (List.map sAV l2)] (AV.sl (1 : Nat) (List.map sAV l2)) ∧
                          Pu Tryd.prog gls (8 : Nat)
                              [AV.agg [AV.int IntKind.i64 op, AV.str w1, AV.int IntKind.i64 (0 : Int), AV.sl (1 : Nat) (List.map sAV l2)]]
                              (AV.int IntKind.i64 vz) ∧
                            some
                                (AV.tup
                                  [AV.agg [AV.int IntKind.i64 op, AV.str w1, AV.int IntKind.i64 (0 : Int), AV.sl (1 : Nat) (List.map sAV l2)],
                                    AV.int IntKind.i64 vz]) =
                              some r)))) = W 34 [(15, .split), (23, .split), (37, .split), (42, .split), (62, .split), (12, .c (strsAV l)), (3000005, .l [2, 4, 5, 6] [⟨2, [], false⟩, ⟨5, [], false⟩] [2, 4, 5] [⟨2, [], false⟩, ⟨5, [], false⟩] [⟨True, .exit 0, [.ptr 0 0 0, strsAV l, .ptr 1 0 0], [(0, [.int .i64 0, .str [], .int .i64 0, .nil]), (0, [.int .i64 op, .str [], .int .i64 0, .nil])]⟩]), (28, .c (.int .i64 nm)), (32, .c (.bool false)), (46, .e (sAV w1)), (50, .v (strsAV l2)), (53, .c (.bool false)), (70, .c (strsAV l2)), (74, .c (.int .i64 vz))] [.str s] r := by kernel_rfl

theorem lnT_f (s w1 w2 : Str) (ks l l2 l3 : List Str) (op nm nv ne vz : Int) (r : AV) : (Pu Tryd.prog gls (51 : Nat) [AV.str s] (AV.sl (1 : Nat) (List.map sAV l)) ∧
  Pu Tryd.prog gls (31 : Nat) [] (AV.sl (1 : Nat) (List.map sAV ks)) ∧
    LoopOk Tryd.prog gls (85 : Nat) (lcode Tryd.prog (35 : Nat) (6 : Nat)) [(2 : Nat), (4 : Nat), (5 : Nat), (6 : Nat), (7 : Nat)]
        [AV.ptr (0 : Nat) (0 : Nat) (0 : Nat), AV.sl (1 : Nat) (List.map sAV l), AV.ptr (1 : Nat) (0 : Nat) (0 : Nat),
          AV.sl (1 : Nat) (List.map sAV ks), AV.int IntKind.i64 (0 : Int)]
        [((0 : Nat), [AV.int IntKind.i64 (0 : Int), AV.str [], AV.int IntKind.i64 (0 : Int), AV.nil]),
          ((0 : Nat), [AV.int IntKind.i64 (0 : Int), AV.str [], AV.int IntKind.i64 (0 : Int), AV.nil])]
        [(2 : Nat), (4 : Nat), (5 : Nat)]
        [{ φ := True, ex := Exit.exit (0 : Nat),
            vs := [AV.ptr (0 : Nat) (0 : Nat) (0 : Nat), AV.sl (1 : Nat) (List.map sAV l), AV.ptr (1 : Nat) (0 : Nat) (0 : Nat)],
            bs :=
              [((0 : Nat), [AV.int IntKind.i64 (0 : Int), AV.str [], AV.int IntKind.i64 (0 : Int), AV.nil]),
                ((0 : Nat), [AV.int IntKind.i64 op, AV.str [], AV.int IntKind.i64 (0 : Int), AV.nil])] }] ∧
      (True →
        Pu Tryd.prog gls (24 : Nat) [AV.int IntKind.i64 op] (AV.int IntKind.i64 nm) ∧
          Pu Tryd.prog gls (25 : Nat) [AV.int IntKind.i64 op] (AV.bool true) ∧
            ((op == (0 : Int)) = true →
                some (AV.tup [AV.agg [AV.int IntKind.i64 (0 : Int), AV.str [], AV.int IntKind.i64 (0 : Int), AV.nil], AV.int IntKind.i64 (5 : Int)]) =
                  some r) ∧
              ((op == (0 : Int)) = false →
                (((↑(List.length (List.map sAV l)) : Int) != IntKind.wrap IntKind.i64 (IntKind.wrap IntKind.i64 ((2 : Int) + nm) + (1 : Int))) =
                      true →
                    some
                        (AV.tup
                          [AV.agg [AV.int IntKind.i64 (0 : Int), AV.str [], AV.int IntKind.i64 (0 : Int), AV.nil], AV.int IntKind.i64 (5 : Int)]) =
                      some r) ∧
                  (((↑(List.length (List.map sAV l)) : Int) != IntKind.wrap IntKind.i64 (IntKind.wrap IntKind.i64 ((2 : Int) + nm) + (1 : Int))) =
                      false →
                    ((0 : Int) ≤ (1 : Int) ∧ (List.map sAV l)[(1 : Nat)]? = some (AV.agg [AV.str w1])) ∧
                      xslice Tryd.prog (27 : Nat) (AV.sl (1 : Nat) (List.map sAV l)) (some (AV.int IntKind.i64 (2 : Int))) none none =
                          some (AV.sl (1 : Nat) (List.map sAV l2)) ∧
                        Pu Tryd.prog gls (25 : Nat) [AV.int IntKind.i64 op] (AV.bool true) ∧
                          ((0 : Int) ≤ (0 : Int) ∧ (List.map sAV l2)[(0 : Nat)]? = some (AV.agg [AV.str w2])) ∧
                            Pu Tryd.prog gls (52 : Nat) [AV.str w2] (AV.tup [AV.int IntKind.i64 nv, AV.int IntKind.i64 ne]) ∧
                              ((ne != (0 : Int)) = true →
                                  some
                                      (AV.tup
                                        [AV.agg [AV.int IntKind.i64 (0 : Int), AV.str [], AV.int IntKind.i64 (0 : Int), AV.nil],
                                          AV.int IntKind.i64 ne]) =
                                    some r) ∧
                                ((ne != (0 : Int)) = false →
                                  xslice Tryd.prog (27 : Nat) (AV.sl (1 : Nat) (List.map sAV l2)) (some (AV.int IntKind.i64 (1 : Int))) none none =
                                      some (AV.sl (1 : Nat) (List.map sAV l3)) ∧
                                    Pu Tryd.prog gls (9 : Nat)
                                        [AV.agg [AV.int IntKind.i64 op, AV.str w1, AV.int IntKind.i64 nv, AV.sl (1 : Nat) (List.map sAV l3)]]
                                        (AV.int IntKind.i64 vz) ∧
                                      ((vz != (0 : Int)) = true →
                                          some
                                              (AV.tup
                                                [AV.agg [AV.int IntKind.i64 (0 : Int), AV.str [], AV.int IntKind.i64 (0 : Int), AV.nil],
                                                  AV.int IntKind.i64 vz]) =
                                            some r) ∧
                                        ((vz != (0 : Int)) = false →
                                          some
                                              (AV.tup
                                                [AV.agg [AV.int IntKind.i64 op, AV.str w1, AV.int IntKind.i64 nv, AV.sl (1 : Nat) (List.map sAV l3)],
                                                  AV.int IntKind.i64 (0 : Int)]) =
                                            some r)))))) = W 35 [(19, .split), (29, .split), (44, .split), (49, .split), (69, .split), (81, .split), (13, .c (strsAV l)), (15, .c (strsAV ks)), (3000006, .l [2, 4, 5, 6, 7] [⟨2, [], false⟩, ⟨5, [], false⟩] [2, 4, 5] [⟨2, [], false⟩, ⟨5, [], false⟩] [⟨True, .exit 0, [.ptr 0 0 0, strsAV l, .ptr 1 0 0], [(0, [.int .i64 0, .str [], .int .i64 0, .nil]), (0, [.int .i64 op, .str [], .int .i64 0, .nil])]⟩]), (35, .c (.int .i64 nm)), (39, .c (.bool true)), (53, .e (sAV w1)), (57, .v (strsAV l2)), (60, .c (.bool true)), (63, .e (sAV w2)), (65, .c (.tup [.int .i64 nv, .int .i64 ne])), (75, .v (strsAV l3)), (79, .c (.int .i64 vz))] [.str s] r := by kernel_rfl

theorem lnF_f (s w1 : Str) (ks l l2 : List Str) (op nm vz : Int) (r : AV) : (Pu Tryd.prog gls (51 : Nat) [AV.str s] (AV.sl (1 : Nat) (List.map sAV l)) ∧
  Pu Tryd.prog gls (31 : Nat) [] (AV.sl (1 : Nat) (List.map sAV ks)) ∧
    LoopOk Tryd.prog gls (85 : Nat) (lcode Tryd.prog (35 : Nat) (6 : Nat)) [(2 : Nat), (4 : Nat), (5 : Nat), (6 : Nat), (7 : Nat)]
        [AV.ptr (0 : Nat) (0 : Nat) (0 : Nat), AV.sl (1 : Nat) (List.map sAV l), AV.ptr (1 : Nat) (0 : Nat) (0 : Nat),
          AV.sl (1 : Nat) (List.map sAV ks), AV.int IntKind.i64 (0 : Int)]
        [((0 : Nat), [AV.int IntKind.i64 (0 : Int), AV.str [], AV.int IntKind.i64 (0 : Int), AV.nil]),
          ((0 : Nat), [AV.int IntKind.i64 (0 : Int), AV.str [], AV.int IntKind.i64 (0 : Int), AV.nil])]
        [(2 : Nat), (4 : Nat), (5 : Nat)]
        [{ φ := True, ex := Exit.exit (0 : Nat),
            vs := [AV.ptr (0 : Nat) (0 : Nat) (0 : Nat), AV.sl (1 : Nat) (List.map sAV l), AV.ptr (1 : Nat) (0 : Nat) (0 : Nat)],
            bs :=
              [((0 : Nat), [AV.int IntKind.i64 (0 : Int), AV.str [], AV.int IntKind.i64 (0 : Int), AV.nil]),
                ((0 : Nat), [AV.int IntKind.i64 op, AV.str [], AV.int IntKind.i64 (0 : Int), AV.nil])] }] ∧
      (True →
        Pu Tryd.prog gls (24 : Nat) [AV.int IntKind.i64 op] (AV.int IntKind.i64 nm) ∧
          Pu Tryd.prog gls (25 : Nat) [AV.int IntKind.i64 op] (AV.bool false) ∧
            ((op == (0 : Int)) = true →
                some (AV.tup [AV.agg [AV.int IntKind.i64 (0 : Int), AV.str [], AV.int IntKind.i64 (0 : Int), AV.nil], AV.int IntKind.i64 (5 : Int)]) =
                  some r) ∧
              ((op == (0 : Int)) = false →
                (((↑(List.length (List.map sAV l)) : Int) != IntKind.wrap IntKind.i64 ((2 : Int) + nm)) = true →
                    some
                        (AV.tup
                          [AV.agg [AV.int IntKind.i64 (0 : Int), AV.str [], AV.int IntKind.i64 (0 : Int), AV.nil], AV.int IntKind.i64 (5 : Int)]) =
                      some r) ∧
                  (((↑(List.length (List.map sAV l)) : Int) != IntKind.wrap IntKind.i64 ((2 : Int) + nm)) = false →
                    ((0 : Int) ≤ (1 : Int) ∧ (List.map sAV l)[(1 : Nat)]? = some (AV.agg [AV.str w1])) ∧
                      xslice Tryd.prog (27 : Nat) (AV.sl (1 : Nat) (List.map sAV l)) (some (AV.int IntKind.i64 (2 : Int))) none none =
                          some (AV.sl (1 : Nat) (List.map sAV l2)) ∧
                        Pu Tryd.prog gls (25 : Nat) [AV.int IntKind.i64 op] (AV.bool false) ∧
                          Pu Tryd.prog gls (9 : Nat)
                              [AV.agg [AV.int IntKind.i64 op, AV.str w1, AV.int IntKind.i64 (0 : Int), AV.sl (1 : Nat) (List.map sAV l2)]]
                              (AV.int IntKind.i64 vz) ∧
                            ((vz != (0 : Int)) = true →
                                some
                                    (AV.tup
                                      [AV.agg [AV.int IntKind.i64 (0 : Int), AV.str [], AV.int IntKind.i64 (0 : Int), AV.nil],
                                        AV.int IntKind.i64 vz]) =
                                  some r) ∧
                              ((vz != (0 : Int)) = false →
                                some
                                    (AV.tup
                                      [AV.agg [AV.int IntKind.i64 op, AV.str w1, AV.int IntKind.i64 (0 : Int), AV.sl (1 : Nat) (List.map sAV l2)],
                                        AV.int IntKind.i64 (0 : Int)]) =
                                  some r))))) = W 35 [(19, .split), (29, .split), (44, .split), (49, .split), (69, .split), (81, .split), (13, .c (strsAV l)), (15, .c (strsAV ks)), (3000006, .l [2, 4, 5, 6, 7] [⟨2, [], false⟩, ⟨5, [], false⟩] [2, 4, 5] [⟨2, [], false⟩, ⟨5, [], false⟩] [⟨True, .exit 0, [.ptr 0 0 0, strsAV l, .ptr 1 0 0], [(0, [.int .i64 0, .str [], .int .i64 0, .nil]), (0, [.int .i64 op, .str [], .int .i64 0, .nil])]⟩]), (35, .c (.int .i64 nm)), (39, .c (.bool false)), (53, .e (sAV w1)), (57, .v (strsAV l2)), (60, .c (.bool false)), (79, .c (.int .i64 vz))] [.str s] r := by kernel_rfl

theorem splS_len (c : UInt8) : ∀ (s : Str), (splS c s).length ≤ s.length + 1
  | [] => by simp [splS]
  | a :: s => by
    have ih := splS_len c s
    have hn := splS_ne c s
    unfold splS
    split
    · simp; omega
    · split
      · simp
      · rename_i w ws e; rw [e] at ih; simp at ih ⊢; omega
theorem splS_mem (c : UInt8) : ∀ (s : Str), ∀ w ∈ splS c s, w.length ≤ s.length
  | [], w, h => by simp [splS] at h; simp [h]
  | a :: s, w, h => by
    have ih := splS_mem c s
    unfold splS at h
    split at h
    · rcases List.mem_cons.1 h with rfl | h
      · simp
      · have := ih w h; simp; omega
    · split at h
      · simp at h; subst h; simp
      · rename_i w0 ws e
        rw [e] at ih
        rcases List.mem_cons.1 h with rfl | h
        · have := ih w0 (by simp); simp; omega
        · have := ih w (by simp [h]); simp; omega

theorem sl_rest (l : List Str) (k : Nat) (h : k ≤ l.length) : xslice Tryd.prog 27 (.sl 1 (l.map sAV)) (some (.int .i64 (k : Int))) none none = some (.sl 1 ((l.drop k).map sAV)) := by
  have h1 : bndN 0 (some (AV.int .i64 (k : Int))) = some k := by unfold bndN; simp
  have h2 : elI Tryd.prog 27 = some 1 := by kernel_rfl
  simp only [xslice, h1, bndN, h2]
  simp [List.map_drop, h, List.take_of_length_le]

def nilStep (a : Int) (b : Str) : AV := .agg [.int .i64 a, .str b, .int .i64 0, .nil]
/-- A line is read: in error the step is of no use. -/
def LineOk (f : Nat) (s : Str) : Prop := (linE s ≠ 0 ∧ ∃ a b, Pu Tryd.prog gls f [.str s] (.tup [nilStep a b, .int .i64 (linE s)])) ∨ Pu Tryd.prog gls f [.str s] (.tup [(linX s).av, .int .i64 (linE s)])

theorem nmZ_le (op : Int) : 0 ≤ nmZ op ∧ nmZ op ≤ 2 := by unfold nmZ; split <;> (try split) <;> omega

structure LineSt (s : Str) where
  w : List Str
  hw : w = splS 32 s
  w0 : Str
  h0 : w[0]? = some w0
  hop : linOp s = opOf w0
  len : w.length ≤ 70001
  mem : ∀ x ∈ w, x.length ≤ 70000
theorem lineSt (s : Str) (hl : s.length ≤ 70000) : Nonempty (LineSt s) := by
  have hn := splS_ne 32 s
  have h1 := splS_len 32 s
  have h2 := splS_mem 32 s
  have e : linOp s = opOf ((splS 32 s).headD []) := rfl
  cases h : splS 32 s with
  | nil => exact absurd h hn
  | cons a t => exact ⟨⟨_, h.symm, a, rfl, by rw [e, h]; rfl, by rw [← h]; omega, fun x hx => by rw [← h] at hx; have := h2 x hx; omega⟩⟩

theorem line_fit {s : Str} (L : LineSt s) (k : Nat) : Fit (L.w.drop k) := ⟨by have := L.len; rw [List.length_drop]; omega, fun x hx => by have := L.mem x (List.mem_of_mem_drop hx); omega⟩

theorem linE_eq {s : Str} {w : List Str} (hw : w = splS 32 s) : linE s = if linOp s = 0 ∨ (w.length : Int) ≠ linM s then 5
  else if linC s = true ∧ numE ((w[2]?).getD []) ≠ 0 then numE ((w[2]?).getD []) else validZ (linX s) := by subst hw; rfl
theorem linX_T {s : Str} {w : List Str} (hw : w = splS 32 s) (h : linC s = true) : linX s = ⟨linOp s, (w[1]?).getD [], numV ((w[2]?).getD []), w.drop 3⟩ := by subst hw; unfold linX; rw [if_pos h]; rfl
theorem linX_F {s : Str} {w : List Str} (hw : w = splS 32 s) (h : linC s = false) : linX s = ⟨linOp s, (w[1]?).getD [], 0, w.drop 2⟩ := by subst hw; unfold linX; rw [if_neg (by simp [h])]; rfl
theorem linM_T {s : Str} (h : linC s = true) : linM s = 3 + nmZ (linOp s) := by unfold linM; rw [if_pos h]; omega
theorem linM_F {s : Str} (h : linC s = false) : linM s = 2 + nmZ (linOp s) := by unfold linM; rw [if_neg (by simp [h])]; omega

theorem numE_ne (s : Str) : numE s = 0 ∨ numE s ≠ 0 := by omega

theorem pl_ok (s : Str) (hl : s.length ≤ 70000) : LineOk 34 s := by
  obtain ⟨L⟩ := lineSt s hl
  have hsp := split_ok s 32 (by omega)
  have hlp := pl_loop L.w L.w0 L.h0
  have hnm := nm_ok (linOp s)
  have hcn := cnt_ok (linOp s)
  have hle := linE_eq L.hw
  have hfit3 := line_fit L 3
  have hfit2 := line_fit L 2
  have hlen := L.len
  have hmem := L.mem
  have hz := nmZ_le (linOp s)
  rw [← L.hop] at hlp
  rw [← L.hw] at hsp
  have hC : linC s = cntB (linOp s) := rfl
  have cl : ∀ k, Pu Tryd.prog gls 50 [strsAV (L.w.drop k)] (strsAV (L.w.drop k)) := fun k => clone_ok _ (by rw [List.length_drop]; omega)
  have r2 := fun h => sl_rest L.w 2 h
  have get : ∀ k, k < L.w.length → (L.w.map sAV)[k]? = some (AV.agg [.str ((L.w[k]?).getD [])]) := fun k h => by simp [h, sAV]
  cases hc : linC s with
  | true =>
    have hM := linM_T hc
    have hX := linX_T L.hw hc
    rw [← hC, hc] at hcn
    have e1 : IntKind.wrap .i64 (IntKind.wrap .i64 (2 + nmZ (linOp s)) + 1) = 3 + nmZ (linOp s) := by rw [i64_in (2 + _) (by omega), i64_in _ (by omega)]; omega
    have hnum : 2 < L.w.length → Pu Tryd.prog gls 49 [.str ((L.w[2]?).getD [])] (.tup [.int .i64 (numV ((L.w[2]?).getD [])), .int .i64 (numE ((L.w[2]?).getD []))]) := fun h => nuS_ok _ (by have := hmem L.w[2] (List.getElem_mem h); simp [h]; omega)
    have r3 : 3 ≤ L.w.length → xslice Tryd.prog 27 (.sl 1 ((L.w.drop 2).map sAV)) (some (.int .i64 1)) none none = some (.sl 1 ((L.w.drop 3).map sAV)) := fun h => by
      have := sl_rest (L.w.drop 2) 1 (by rw [List.length_drop]; omega)
      rwa [List.drop_drop] at this
    have g2 : 2 < L.w.length → ((L.w.drop 2).map sAV)[0]? = some (AV.agg [.str ((L.w[2]?).getD [])]) := fun h => by simp [h, sAV]
    have hv := vld_ok (linX s) (by rw [hX]; exact ⟨by show ((L.w[1]?).getD []).length ≤ _; cases h : L.w[1]? with | none => simp | some x => have := hmem x (List.mem_of_getElem? h); simp; omega, hfit3⟩)
    have f := plT_f s ((L.w[1]?).getD []) ((L.w[2]?).getD []) L.w (L.w.drop 2) (L.w.drop 3) (linOp s) (nmZ (linOp s)) (numV ((L.w[2]?).getD [])) (numE ((L.w[2]?).getD [])) (validZ (linX s))
    rw [e1, List.length_map] at f
    by_cases h1 : linOp s = 0 ∨ (L.w.length : Int) ≠ linM s
    · rw [if_pos h1] at hle
      refine .inl ⟨by omega, linOp s, [], Pu1 (f _) ⟨hsp, hlp, fun _ => ⟨hnm, hcn, fun _ => by rw [hle]; rfl, fun h2 => ⟨fun _ => by rw [hle]; rfl, fun h3 => ?_⟩⟩⟩⟩
      simp only [beq_eq_false_iff_ne, bne_eq_false_iff_eq] at h2 h3
      omega
    · rw [if_neg h1] at hle
      have h2 : linOp s ≠ 0 := fun e => h1 (.inl e)
      have h3 : (L.w.length : Int) = linM s := by omega
      have h4 : 3 ≤ L.w.length := by omega
      have n1 : ((linOp s == 0) = true) = False := by simp [h2]
      have n2 : (((L.w.length : Int) != 3 + nmZ (linOp s)) = true) = False := by simp; omega
      rw [n1, n2] at f
      by_cases h5 : numE ((L.w[2]?).getD []) = 0
      · rw [if_neg (by simp [h5])] at hle
        refine .inr (Pu1 (f _) ⟨hsp, hlp, fun _ => ⟨hnm, hcn, False.elim, fun _ => ⟨False.elim, fun _ => ⟨⟨by omega, get 1 (by omega)⟩, r2 (by omega), hcn, ⟨by omega, g2 (by omega)⟩, hnum (by omega), fun h => by simp [h5] at h, fun _ => ⟨r3 h4, cl 3, ?_, ?_⟩⟩⟩⟩⟩)
        · rw [hX] at hv ⊢; exact hv
        · rw [hle, hX]; rfl
      · rw [if_pos ⟨hc, h5⟩] at hle
        refine .inl ⟨by omega, linOp s, (L.w[1]?).getD [], Pu1 (f _) ⟨hsp, hlp, fun _ => ⟨hnm, hcn, False.elim, fun _ => ⟨False.elim, fun _ => ⟨⟨by omega, get 1 (by omega)⟩, r2 (by omega), hcn, ⟨by omega, g2 (by omega)⟩, hnum (by omega), fun _ => by rw [hle]; rfl, fun h => by simp [h5] at h⟩⟩⟩⟩⟩
  | false =>
    have hM := linM_F hc
    have hX := linX_F L.hw hc
    rw [← hC, hc] at hcn
    have e1 : IntKind.wrap .i64 (2 + nmZ (linOp s)) = 2 + nmZ (linOp s) := by rw [i64_in (2 + _) (by omega)]
    have hv := vld_ok (linX s) (by rw [hX]; exact ⟨by show ((L.w[1]?).getD []).length ≤ _; cases h : L.w[1]? with | none => simp | some x => have := hmem x (List.mem_of_getElem? h); simp; omega, hfit2⟩)
    have f := plF_f s ((L.w[1]?).getD []) L.w (L.w.drop 2) (linOp s) (nmZ (linOp s)) (validZ (linX s))
    rw [e1, List.length_map] at f
    by_cases h1 : linOp s = 0 ∨ (L.w.length : Int) ≠ linM s
    · rw [if_pos h1] at hle
      refine .inl ⟨by omega, linOp s, [], Pu1 (f _) ⟨hsp, hlp, fun _ => ⟨hnm, hcn, fun _ => by rw [hle]; rfl, fun h2 => ⟨fun _ => by rw [hle]; rfl, fun h3 => ?_⟩⟩⟩⟩
      simp only [beq_eq_false_iff_ne, bne_eq_false_iff_eq] at h2 h3
      omega
    · rw [if_neg h1] at hle
      have h2 : linOp s ≠ 0 := fun e => h1 (.inl e)
      have h3 : (L.w.length : Int) = linM s := by omega
      have n1 : ((linOp s == 0) = true) = False := by simp [h2]
      have n2 : (((L.w.length : Int) != 2 + nmZ (linOp s)) = true) = False := by simp; omega
      rw [n1, n2] at f
      rw [if_neg (by simp [hc])] at hle
      refine .inr (Pu1 (f _) ⟨hsp, hlp, fun _ => ⟨hnm, hcn, False.elim, fun _ => ⟨False.elim, fun _ => ⟨⟨by omega, get 1 (by omega)⟩, r2 (by omega), hcn, cl 2, ?_, ?_⟩⟩⟩⟩)
      · rw [hX] at hv ⊢; exact hv
      · rw [hle, hX]; rfl

theorem ln_ok (s : Str) (hl : s.length ≤ 70000) : LineOk 35 s := by
  obtain ⟨L⟩ := lineSt s hl
  have hsp := wd_ok s (by omega)
  have hlp := ln_loop L.w L.w0 L.h0
  have hnm := nm2_ok (linOp s)
  have hcn := cnt2_ok (linOp s)
  have hle := linE_eq L.hw
  have hfit3 := line_fit L 3
  have hfit2 := line_fit L 2
  have hlen := L.len
  have hmem := L.mem
  have hz := nmZ_le (linOp s)
  rw [← L.hop] at hlp
  rw [← L.hw] at hsp
  have hC : linC s = cntB (linOp s) := rfl
  have r2 := fun h => sl_rest L.w 2 h
  have get : ∀ k, k < L.w.length → (L.w.map sAV)[k]? = some (AV.agg [.str ((L.w[k]?).getD [])]) := fun k h => by simp [h, sAV]
  cases hc : linC s with
  | true =>
    have hM := linM_T hc
    have hX := linX_T L.hw hc
    rw [← hC, hc] at hcn
    have e1 : IntKind.wrap .i64 (IntKind.wrap .i64 (2 + nmZ (linOp s)) + 1) = 3 + nmZ (linOp s) := by rw [i64_in (2 + _) (by omega), i64_in _ (by omega)]; omega
    have hnum : 2 < L.w.length → Pu Tryd.prog gls 52 [.str ((L.w[2]?).getD [])] (.tup [.int .i64 (numV ((L.w[2]?).getD [])), .int .i64 (numE ((L.w[2]?).getD []))]) := fun h => inS_ok _ (by have := hmem L.w[2] (List.getElem_mem h); simp [h]; omega)
    have r3 : 3 ≤ L.w.length → xslice Tryd.prog 27 (.sl 1 ((L.w.drop 2).map sAV)) (some (.int .i64 1)) none none = some (.sl 1 ((L.w.drop 3).map sAV)) := fun h => by
      have := sl_rest (L.w.drop 2) 1 (by rw [List.length_drop]; omega)
      rwa [List.drop_drop] at this
    have g2 : 2 < L.w.length → ((L.w.drop 2).map sAV)[0]? = some (AV.agg [.str ((L.w[2]?).getD [])]) := fun h => by simp [h, sAV]
    have hv := vldR_ok (linX s) (by rw [hX]; exact ⟨by show ((L.w[1]?).getD []).length ≤ _; cases h : L.w[1]? with | none => simp | some x => have := hmem x (List.mem_of_getElem? h); simp; omega, hfit3⟩)
    have f := lnT_f s ((L.w[1]?).getD []) ((L.w[2]?).getD []) kws L.w (L.w.drop 2) (L.w.drop 3) (linOp s) (nmZ (linOp s)) (numV ((L.w[2]?).getD [])) (numE ((L.w[2]?).getD [])) (validZ (linX s))
    rw [e1, List.length_map] at f
    by_cases h1 : linOp s = 0 ∨ (L.w.length : Int) ≠ linM s
    · rw [if_pos h1] at hle
      refine .inl ⟨by omega, 0, [], Pu1 (f _) ⟨hsp, rkw_ok, hlp, fun _ => ⟨hnm, hcn, fun _ => by rw [hle]; rfl, fun h2 => ⟨fun _ => by rw [hle]; rfl, fun h3 => ?_⟩⟩⟩⟩
      simp only [beq_eq_false_iff_ne, bne_eq_false_iff_eq] at h2 h3
      omega
    · rw [if_neg h1] at hle
      have h2 : linOp s ≠ 0 := fun e => h1 (.inl e)
      have h3 : (L.w.length : Int) = linM s := by omega
      have h4 : 3 ≤ L.w.length := by omega
      have n1 : ((linOp s == 0) = true) = False := by simp [h2]
      have n2 : (((L.w.length : Int) != 3 + nmZ (linOp s)) = true) = False := by simp; omega
      rw [n1, n2] at f
      by_cases h5 : numE ((L.w[2]?).getD []) = 0
      · rw [if_neg (by simp [h5])] at hle
        have hv' := hv
        rw [hX] at hv'
        by_cases h6 : validZ (linX s) = 0
        · exact .inr (Pu1 (f _) ⟨hsp, rkw_ok, hlp, fun _ => ⟨hnm, hcn, False.elim, fun _ => ⟨False.elim, fun _ => ⟨⟨by omega, get 1 (by omega)⟩, r2 (by omega), hcn, ⟨by omega, g2 (by omega)⟩, hnum (by omega), fun h => by simp [h5] at h, fun _ => ⟨r3 h4, by rw [hX]; exact hv', fun h => by simp [h6] at h, fun _ => by rw [hle, h6, hX]; rfl⟩⟩⟩⟩⟩)
        · exact .inl ⟨by omega, 0, [], (Pu1 (f _) ⟨hsp, rkw_ok, hlp, fun _ => ⟨hnm, hcn, False.elim, fun _ => ⟨False.elim, fun _ => ⟨⟨by omega, get 1 (by omega)⟩, r2 (by omega), hcn, ⟨by omega, g2 (by omega)⟩, hnum (by omega), fun h => by simp [h5] at h, fun _ => ⟨r3 h4, by rw [hX]; exact hv', fun h => by rw [hle]; rfl, fun h => by simp [h6] at h⟩⟩⟩⟩⟩)⟩
      · rw [if_pos ⟨hc, h5⟩] at hle
        refine .inl ⟨by omega, 0, [], Pu1 (f _) ⟨hsp, rkw_ok, hlp, fun _ => ⟨hnm, hcn, False.elim, fun _ => ⟨False.elim, fun _ => ⟨⟨by omega, get 1 (by omega)⟩, r2 (by omega), hcn, ⟨by omega, g2 (by omega)⟩, hnum (by omega), fun _ => by rw [hle]; rfl, fun h => by simp [h5] at h⟩⟩⟩⟩⟩
  | false =>
    have hM := linM_F hc
    have hX := linX_F L.hw hc
    rw [← hC, hc] at hcn
    have e1 : IntKind.wrap .i64 (2 + nmZ (linOp s)) = 2 + nmZ (linOp s) := by rw [i64_in (2 + _) (by omega)]
    have hv := vldR_ok (linX s) (by rw [hX]; exact ⟨by show ((L.w[1]?).getD []).length ≤ _; cases h : L.w[1]? with | none => simp | some x => have := hmem x (List.mem_of_getElem? h); simp; omega, hfit2⟩)
    have f := lnF_f s ((L.w[1]?).getD []) kws L.w (L.w.drop 2) (linOp s) (nmZ (linOp s)) (validZ (linX s))
    rw [e1, List.length_map] at f
    by_cases h1 : linOp s = 0 ∨ (L.w.length : Int) ≠ linM s
    · rw [if_pos h1] at hle
      refine .inl ⟨by omega, 0, [], Pu1 (f _) ⟨hsp, rkw_ok, hlp, fun _ => ⟨hnm, hcn, fun _ => by rw [hle]; rfl, fun h2 => ⟨fun _ => by rw [hle]; rfl, fun h3 => ?_⟩⟩⟩⟩
      simp only [beq_eq_false_iff_ne, bne_eq_false_iff_eq] at h2 h3
      omega
    · rw [if_neg h1] at hle
      have h2 : linOp s ≠ 0 := fun e => h1 (.inl e)
      have h3 : (L.w.length : Int) = linM s := by omega
      have n1 : ((linOp s == 0) = true) = False := by simp [h2]
      have n2 : (((L.w.length : Int) != 2 + nmZ (linOp s)) = true) = False := by simp; omega
      rw [n1, n2] at f
      rw [if_neg (by simp [hc])] at hle
      have hv' := hv
      rw [hX] at hv'
      by_cases h6 : validZ (linX s) = 0
      · exact .inr (Pu1 (f _) ⟨hsp, rkw_ok, hlp, fun _ => ⟨hnm, hcn, False.elim, fun _ => ⟨False.elim, fun _ => ⟨⟨by omega, get 1 (by omega)⟩, r2 (by omega), hcn, by rw [hX]; exact hv', fun h => by simp [h6] at h, fun _ => by rw [hle, h6, hX]; rfl⟩⟩⟩⟩)
      · exact .inl ⟨by omega, 0, [], (Pu1 (f _) ⟨hsp, rkw_ok, hlp, fun _ => ⟨hnm, hcn, False.elim, fun _ => ⟨False.elim, fun _ => ⟨⟨by omega, get 1 (by omega)⟩, r2 (by omega), hcn, by rw [hX]; exact hv', fun h => by rw [hle]; rfl, fun h => by simp [h6] at h⟩⟩⟩⟩)⟩

end Go.Proofs.YtcphiogbjdehhaaDoor
