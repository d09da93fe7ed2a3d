/- Walks: schedule.Format. -/
import Derived.Test.YtcphiogbjdehhaaDoorD3
import Derived.Test.YtcphiogbjdehhaaDoorD4
import Derived.Test.YtcphiogbjdehhaaDoorS4
namespace Go.Proofs.YtcphiogbjdehhaaDoor
open Go HX Go.IntWalk
set_option maxRecDepth 1000000
variable [ML]
set_option linter.unusedSectionVars false

theorem fmt_a0 (l : List Step) (i _n0 n1 : Nat) (_b0 b1 : List AV) (op by_ : Int) (loop jn kw it : Str) (cnt : Bool) (vz : Int) (_ns ws : List Str) (alts : List Alt) (N : List AV → List Bx → Prop) : ((decide ((↑i : Int) < (↑(List.length l) : Int)) = true →
    ((0 : Int) ≤ (↑i : Int) ∧
        (List.map Step.av l)[Int.toNat (↑i : Int)]? =
          some (AV.agg [AV.int IntKind.i64 op, AV.str loop, AV.int IntKind.i64 by_, AV.sl (1 : Nat) []])) ∧
      Pu Tryd.prog gls (8 : Nat) [AV.agg [AV.int IntKind.i64 op, AV.str loop, AV.int IntKind.i64 by_, AV.sl (1 : Nat) []]] (AV.int IntKind.i64 vz) ∧
        ((vz != (0 : Int)) = true → Out alts Exit.ret [AV.str [], AV.ptr (0 : Nat) (45 : Nat) (0 : Nat)] [((45 : Nat), [AV.nilp, AV.nil])]) ∧
          ((vz != (0 : Int)) = false →
            Pu Tryd.prog gls (18 : Nat) [AV.int IntKind.i64 op] (AV.str kw) ∧
              Pu Tryd.prog gls (20 : Nat) [AV.int IntKind.i64 op] (AV.bool cnt) ∧
                (cnt = true →
                    Pu Tryd.prog gls (27 : Nat) [AV.int IntKind.i64 by_] (AV.str it) ∧
                      (((3 : Nat) ≤ (3 : Nat) ∧ List.length (List.map sAV ws) = (3 : Nat) ∧ (0 : Nat) < (1 : Nat)) ∧
                          HX.Rows (1 : Nat) (List.map sAV ws) [AV.str kw, AV.str loop, AV.str it]) ∧
                        some (AV.str [(32 : UInt8)]) = some (AV.str [(32 : UInt8)]) ∧
                          Pu Tryd.prog gls (29 : Nat) [AV.sl (1 : Nat) (List.map sAV ws), AV.str [(32 : UInt8)]] (AV.str jn) ∧
                            List.length jn + (1 : Nat) ≤ (9223372036854775807 : Nat) ∧
                              (List.length (jn ++ [(10 : UInt8)]) ≠ (0 : Nat) ∧
                                  List.length (jn ++ [(10 : UInt8)]) * (1 : Nat) ≤ (140737488355328 : Nat) ∧
                                    List.length (jn ++ [(10 : UInt8)]) ≤ (9223372036854775807 : Nat) ∧
                                      List.length (jn ++ [(10 : UInt8)]) = n1 ∧ List.map byteAV (jn ++ [(10 : UInt8)]) = b1) ∧
                                AllImm b1 ∧
                                  N
                                    [AV.ptr (0 : Nat) (45 : Nat) (0 : Nat), AV.sl (4 : Nat) (List.map Step.av l),
                                      AV.int IntKind.i64 (↑(List.length l) : Int),
                                      AV.int IntKind.i64 (IntKind.wrap IntKind.i64 ((↑i : Int) + (1 : Int)))]
                                    [((45 : Nat), [AV.ptr (0 : Nat) (45 : Nat) (0 : Nat), AV.bs (1 : Nat) (6 : Nat) (1 : Nat) (0 : Nat) n1]),
                                      ((6 : Nat), b1)]) ∧
                  (cnt = false →
                    (((2 : Nat) ≤ (2 : Nat) ∧ List.length (List.map sAV ws) = (2 : Nat) ∧ (0 : Nat) < (1 : Nat)) ∧
                        HX.Rows (1 : Nat) (List.map sAV ws) [AV.str kw, AV.str loop]) ∧
                      some (AV.str [(32 : UInt8)]) = some (AV.str [(32 : UInt8)]) ∧
                        Pu Tryd.prog gls (29 : Nat) [AV.sl (1 : Nat) (List.map sAV ws), AV.str [(32 : UInt8)]] (AV.str jn) ∧
                          List.length jn + (1 : Nat) ≤ (9223372036854775807 : Nat) ∧
                            (List.length (jn ++ [(10 : UInt8)]) ≠ (0 : Nat) ∧
                                List.length (jn ++ [(10 : UInt8)]) * (1 : Nat) ≤ (140737488355328 : Nat) ∧
                                  List.length (jn ++ [(10 : UInt8)]) ≤ (9223372036854775807 : Nat) ∧
                                    List.length (jn ++ [(10 : UInt8)]) = n1 ∧ List.map byteAV (jn ++ [(10 : UInt8)]) = b1) ∧
                              AllImm b1 ∧
                                N
                                  [AV.ptr (0 : Nat) (45 : Nat) (0 : Nat), AV.sl (4 : Nat) (List.map Step.av l),
                                    AV.int IntKind.i64 (↑(List.length l) : Int),
                                    AV.int IntKind.i64 (IntKind.wrap IntKind.i64 ((↑i : Int) + (1 : Int)))]
                                  [((45 : Nat), [AV.ptr (0 : Nat) (45 : Nat) (0 : Nat), AV.bs (1 : Nat) (6 : Nat) (1 : Nat) (0 : Nat) n1]),
                                    ((6 : Nat), b1)]))) ∧
  (decide ((↑i : Int) < (↑(List.length l) : Int)) = false →
    Out alts (Exit.exit (0 : Nat)) [AV.undef, AV.ptr (0 : Nat) (45 : Nat) (0 : Nat)] [((45 : Nat), [AV.nilp, AV.nil])])) = WR 12 3 40 [(10, .split), (15, .split), (11, .e (.agg [.int .i64 op, .str loop, .int .i64 by_, .sl 1 []])), (14, .c (.int .i64 vz)), (18, .c (.str kw)), (24, .cs cnt), (28, .c (.str it)), (35, .ct [strsAV ws, .str [32]] (.str jn)), (36, .s), (37, .i [(7, .i [(10, .i [])]), (14, .a n1 b1)])] [3, 7, 8, 9] [⟨3, [], false⟩, ⟨3, [1], true⟩] [2, 3] [⟨3, [], false⟩, ⟨3, [1], true⟩] alts [.ptr 0 45 0, stepsAV l, .int .i64 l.length, .int .i64 i] [(45, [.nilp, .nil])] N := by kernel_rfl

theorem fmt_a1 (l : List Step) (i _n0 n1 : Nat) (_b0 b1 : List AV) (op by_ : Int) (loop jn kw it : Str) (cnt : Bool) (vz : Int) (ns ws : List Str) (alts : List Alt) (N : List AV → List Bx → Prop) : ((decide ((↑i : Int) < (↑(List.length l) : Int)) = true →
    ((0 : Int) ≤ (↑i : Int) ∧
        (List.map Step.av l)[Int.toNat (↑i : Int)]? =
          some (AV.agg [AV.int IntKind.i64 op, AV.str loop, AV.int IntKind.i64 by_, AV.sl (1 : Nat) (List.map sAV ns)])) ∧
      Pu Tryd.prog gls (8 : Nat) [AV.agg [AV.int IntKind.i64 op, AV.str loop, AV.int IntKind.i64 by_, AV.sl (1 : Nat) (List.map sAV ns)]]
          (AV.int IntKind.i64 vz) ∧
        ((vz != (0 : Int)) = true → Out alts Exit.ret [AV.str [], AV.ptr (0 : Nat) (45 : Nat) (0 : Nat)] [((45 : Nat), [AV.nilp, AV.nil])]) ∧
          ((vz != (0 : Int)) = false →
            Pu Tryd.prog gls (18 : Nat) [AV.int IntKind.i64 op] (AV.str kw) ∧
              Pu Tryd.prog gls (20 : Nat) [AV.int IntKind.i64 op] (AV.bool cnt) ∧
                (cnt = true →
                    Pu Tryd.prog gls (27 : Nat) [AV.int IntKind.i64 by_] (AV.str it) ∧
                      (List.length (List.map sAV ns) ≠ (0 : Nat) ∧
                          (3 : Nat) ≤ (3 : Nat) ∧
                            ((3 : Nat) + List.length (List.map sAV ns)) * (16 : Nat) ≤ (140737488355328 : Nat) ∧
                              (3 : Nat) + List.length (List.map sAV ns) ≤ (9223372036854775807 : Nat) ∧
                                (3 : Nat) + List.length (List.map sAV ns) = List.length ws ∧
                                  [AV.str kw, AV.str loop, AV.str it] ++ List.flatMap AV.cells (List.map sAV ns) = wordsAV ws) ∧
                        (((0 : Nat) + List.length ws * (1 : Nat) ≤ List.length (wordsAV ws) ∧
                              List.length (List.map sAV ws) = List.length ws ∧ (0 : Nat) < (1 : Nat)) ∧
                            HX.Rows (1 : Nat) (List.map sAV ws) (List.take (List.length ws * (1 : Nat)) (List.drop (0 : Nat) (wordsAV ws)))) ∧
                          some (AV.str [(32 : UInt8)]) = some (AV.str [(32 : UInt8)]) ∧
                            Pu Tryd.prog gls (29 : Nat) [AV.sl (1 : Nat) (List.map sAV ws), AV.str [(32 : UInt8)]] (AV.str jn) ∧
                              List.length jn + (1 : Nat) ≤ (9223372036854775807 : Nat) ∧
                                (List.length (jn ++ [(10 : UInt8)]) ≠ (0 : Nat) ∧
                                    List.length (jn ++ [(10 : UInt8)]) * (1 : Nat) ≤ (140737488355328 : Nat) ∧
                                      List.length (jn ++ [(10 : UInt8)]) ≤ (9223372036854775807 : Nat) ∧
                                        List.length (jn ++ [(10 : UInt8)]) = n1 ∧ List.map byteAV (jn ++ [(10 : UInt8)]) = b1) ∧
                                  AllImm b1 ∧
                                    N
                                      [AV.ptr (0 : Nat) (45 : Nat) (0 : Nat), AV.sl (4 : Nat) (List.map Step.av l),
                                        AV.int IntKind.i64 (↑(List.length l) : Int),
                                        AV.int IntKind.i64 (IntKind.wrap IntKind.i64 ((↑i : Int) + (1 : Int)))]
                                      [((45 : Nat), [AV.ptr (0 : Nat) (45 : Nat) (0 : Nat), AV.bs (1 : Nat) (6 : Nat) (1 : Nat) (0 : Nat) n1]),
                                        ((6 : Nat), b1)]) ∧
                  (cnt = false →
                    (List.length (List.map sAV ns) ≠ (0 : Nat) ∧
                        (2 : Nat) ≤ (2 : Nat) ∧
                          ((2 : Nat) + List.length (List.map sAV ns)) * (16 : Nat) ≤ (140737488355328 : Nat) ∧
                            (2 : Nat) + List.length (List.map sAV ns) ≤ (9223372036854775807 : Nat) ∧
                              (2 : Nat) + List.length (List.map sAV ns) = List.length ws ∧
                                [AV.str kw, AV.str loop] ++ List.flatMap AV.cells (List.map sAV ns) = wordsAV ws) ∧
                      (((0 : Nat) + List.length ws * (1 : Nat) ≤ List.length (wordsAV ws) ∧
                            List.length (List.map sAV ws) = List.length ws ∧ (0 : Nat) < (1 : Nat)) ∧
                          HX.Rows (1 : Nat) (List.map sAV ws) (List.take (List.length ws * (1 : Nat)) (List.drop (0 : Nat) (wordsAV ws)))) ∧
                        some (AV.str [(32 : UInt8)]) = some (AV.str [(32 : UInt8)]) ∧
                          Pu Tryd.prog gls (29 : Nat) [AV.sl (1 : Nat) (List.map sAV ws), AV.str [(32 : UInt8)]] (AV.str jn) ∧
                            List.length jn + (1 : Nat) ≤ (9223372036854775807 : Nat) ∧
                              (List.length (jn ++ [(10 : UInt8)]) ≠ (0 : Nat) ∧
                                  List.length (jn ++ [(10 : UInt8)]) * (1 : Nat) ≤ (140737488355328 : Nat) ∧
                                    List.length (jn ++ [(10 : UInt8)]) ≤ (9223372036854775807 : Nat) ∧
                                      List.length (jn ++ [(10 : UInt8)]) = n1 ∧ List.map byteAV (jn ++ [(10 : UInt8)]) = b1) ∧
                                AllImm b1 ∧
                                  N
                                    [AV.ptr (0 : Nat) (45 : Nat) (0 : Nat), AV.sl (4 : Nat) (List.map Step.av l),
                                      AV.int IntKind.i64 (↑(List.length l) : Int),
                                      AV.int IntKind.i64 (IntKind.wrap IntKind.i64 ((↑i : Int) + (1 : Int)))]
                                    [((45 : Nat), [AV.ptr (0 : Nat) (45 : Nat) (0 : Nat), AV.bs (1 : Nat) (6 : Nat) (1 : Nat) (0 : Nat) n1]),
                                      ((6 : Nat), b1)]))) ∧
  (decide ((↑i : Int) < (↑(List.length l) : Int)) = false →
    Out alts (Exit.exit (0 : Nat)) [AV.undef, AV.ptr (0 : Nat) (45 : Nat) (0 : Nat)] [((45 : Nat), [AV.nilp, AV.nil])])) = WR 12 3 40 [(10, .split), (15, .split), (11, .e (.agg [.int .i64 op, .str loop, .int .i64 by_, .sl 1 (ns.map sAV)])), (14, .c (.int .i64 vz)), (18, .c (.str kw)), (24, .cs cnt), (28, .c (.str it)), (34, .a ws.length (wordsAV ws)), (35, .ct [strsAV ws, .str [32]] (.str jn)), (36, .s), (37, .i [(7, .i [(10, .i [])]), (14, .a n1 b1)])] [3, 7, 8, 9] [⟨3, [], false⟩, ⟨3, [1], true⟩] [2, 3] [⟨3, [], false⟩, ⟨3, [1], true⟩] alts [.ptr 0 45 0, stepsAV l, .int .i64 l.length, .int .i64 i] [(45, [.nilp, .nil])] N := by kernel_rfl

theorem fmt_b0 (l : List Step) (i n0 n1 : Nat) (b0 b1 : List AV) (op by_ : Int) (loop jn kw it : Str) (cnt : Bool) (vz : Int) (_ns ws : List Str) (alts : List Alt) (N : List AV → List Bx → Prop) : ((decide ((↑i : Int) < (↑(List.length l) : Int)) = true →
    ((0 : Int) ≤ (↑i : Int) ∧
        (List.map Step.av l)[Int.toNat (↑i : Int)]? =
          some (AV.agg [AV.int IntKind.i64 op, AV.str loop, AV.int IntKind.i64 by_, AV.sl (1 : Nat) []])) ∧
      Pu Tryd.prog gls (8 : Nat) [AV.agg [AV.int IntKind.i64 op, AV.str loop, AV.int IntKind.i64 by_, AV.sl (1 : Nat) []]] (AV.int IntKind.i64 vz) ∧
        ((vz != (0 : Int)) = true →
            AllImm b0 ∧
              Out alts Exit.ret [AV.str [], AV.ptr (0 : Nat) (45 : Nat) (0 : Nat)]
                [((45 : Nat), [AV.ptr (0 : Nat) (45 : Nat) (0 : Nat), AV.bs (1 : Nat) (6 : Nat) (1 : Nat) (0 : Nat) n0]), ((6 : Nat), b0)]) ∧
          ((vz != (0 : Int)) = false →
            Pu Tryd.prog gls (18 : Nat) [AV.int IntKind.i64 op] (AV.str kw) ∧
              Pu Tryd.prog gls (20 : Nat) [AV.int IntKind.i64 op] (AV.bool cnt) ∧
                (cnt = true →
                    Pu Tryd.prog gls (27 : Nat) [AV.int IntKind.i64 by_] (AV.str it) ∧
                      (((3 : Nat) ≤ (3 : Nat) ∧ List.length (List.map sAV ws) = (3 : Nat) ∧ (0 : Nat) < (1 : Nat)) ∧
                          HX.Rows (1 : Nat) (List.map sAV ws) [AV.str kw, AV.str loop, AV.str it]) ∧
                        some (AV.str [(32 : UInt8)]) = some (AV.str [(32 : UInt8)]) ∧
                          Pu Tryd.prog gls (29 : Nat) [AV.sl (1 : Nat) (List.map sAV ws), AV.str [(32 : UInt8)]] (AV.str jn) ∧
                            List.length jn + (1 : Nat) ≤ (9223372036854775807 : Nat) ∧
                              (List.length (jn ++ [(10 : UInt8)]) ≠ (0 : Nat) ∧
                                  (0 : Nat) + n0 * (1 : Nat) ≤ List.length b0 ∧
                                    (n0 + List.length (jn ++ [(10 : UInt8)])) * (1 : Nat) ≤ (140737488355328 : Nat) ∧
                                      n0 + List.length (jn ++ [(10 : UInt8)]) ≤ (9223372036854775807 : Nat) ∧
                                        n0 + List.length (jn ++ [(10 : UInt8)]) = n1 ∧
                                          List.take (n0 * (1 : Nat)) (List.drop (0 : Nat) b0) ++ List.map byteAV (jn ++ [(10 : UInt8)]) = b1) ∧
                                AllImm b1 ∧
                                  N
                                    [AV.ptr (0 : Nat) (45 : Nat) (0 : Nat), AV.sl (4 : Nat) (List.map Step.av l),
                                      AV.int IntKind.i64 (↑(List.length l) : Int),
                                      AV.int IntKind.i64 (IntKind.wrap IntKind.i64 ((↑i : Int) + (1 : Int)))]
                                    [((45 : Nat), [AV.ptr (0 : Nat) (45 : Nat) (0 : Nat), AV.bs (1 : Nat) (6 : Nat) (1 : Nat) (0 : Nat) n1]),
                                      ((6 : Nat), b1)]) ∧
                  (cnt = false →
                    (((2 : Nat) ≤ (2 : Nat) ∧ List.length (List.map sAV ws) = (2 : Nat) ∧ (0 : Nat) < (1 : Nat)) ∧
                        HX.Rows (1 : Nat) (List.map sAV ws) [AV.str kw, AV.str loop]) ∧
                      some (AV.str [(32 : UInt8)]) = some (AV.str [(32 : UInt8)]) ∧
                        Pu Tryd.prog gls (29 : Nat) [AV.sl (1 : Nat) (List.map sAV ws), AV.str [(32 : UInt8)]] (AV.str jn) ∧
                          List.length jn + (1 : Nat) ≤ (9223372036854775807 : Nat) ∧
                            (List.length (jn ++ [(10 : UInt8)]) ≠ (0 : Nat) ∧
                                (0 : Nat) + n0 * (1 : Nat) ≤ List.length b0 ∧
                                  (n0 + List.length (jn ++ [(10 : UInt8)])) * (1 : Nat) ≤ (140737488355328 : Nat) ∧
                                    n0 + List.length (jn ++ [(10 : UInt8)]) ≤ (9223372036854775807 : Nat) ∧
                                      n0 + List.length (jn ++ [(10 : UInt8)]) = n1 ∧
                                        List.take (n0 * (1 : Nat)) (List.drop (0 : Nat) b0) ++ List.map byteAV (jn ++ [(10 : UInt8)]) = b1) ∧
                              AllImm b1 ∧
                                N
                                  [AV.ptr (0 : Nat) (45 : Nat) (0 : Nat), AV.sl (4 : Nat) (List.map Step.av l),
                                    AV.int IntKind.i64 (↑(List.length l) : Int),
                                    AV.int IntKind.i64 (IntKind.wrap IntKind.i64 ((↑i : Int) + (1 : Int)))]
                                  [((45 : Nat), [AV.ptr (0 : Nat) (45 : Nat) (0 : Nat), AV.bs (1 : Nat) (6 : Nat) (1 : Nat) (0 : Nat) n1]),
                                    ((6 : Nat), b1)]))) ∧
  (decide ((↑i : Int) < (↑(List.length l) : Int)) = false →
    AllImm b0 ∧
      Out alts (Exit.exit (0 : Nat)) [AV.undef, AV.ptr (0 : Nat) (45 : Nat) (0 : Nat)]
        [((45 : Nat), [AV.ptr (0 : Nat) (45 : Nat) (0 : Nat), AV.bs (1 : Nat) (6 : Nat) (1 : Nat) (0 : Nat) n0]), ((6 : Nat), b0)])) = WR 12 3 40 [(10, .split), (15, .split), (11, .e (.agg [.int .i64 op, .str loop, .int .i64 by_, .sl 1 []])), (14, .c (.int .i64 vz)), (18, .c (.str kw)), (24, .cs cnt), (28, .c (.str it)), (35, .ct [strsAV ws, .str [32]] (.str jn)), (36, .s), (37, .i [(7, .i [(10, .i [])]), (14, .a n1 b1)])] [3, 7, 8, 9] [⟨3, [], false⟩, ⟨3, [1], true⟩] [2, 3] [⟨3, [], false⟩, ⟨3, [1], true⟩] alts [.ptr 0 45 0, stepsAV l, .int .i64 l.length, .int .i64 i] [(45, [.ptr 0 45 0, .bs 1 6 1 0 n0]), (6, b0)] N := by kernel_rfl

theorem fmt_b1 (l : List Step) (i n0 n1 : Nat) (b0 b1 : List AV) (op by_ : Int) (loop jn kw it : Str) (cnt : Bool) (vz : Int) (ns ws : List Str) (alts : List Alt) (N : List AV → List Bx → Prop) : ((decide ((↑i : Int) < (↑(List.length l) : Int)) = true →
    ((0 : Int) ≤ (↑i : Int) ∧
        (List.map Step.av l)[Int.toNat (↑i : Int)]? =
          some (AV.agg [AV.int IntKind.i64 op, AV.str loop, AV.int IntKind.i64 by_, AV.sl (1 : Nat) (List.map sAV ns)])) ∧
      Pu Tryd.prog gls (8 : Nat) [AV.agg [AV.int IntKind.i64 op, AV.str loop, AV.int IntKind.i64 by_, AV.sl (1 : Nat) (List.map sAV ns)]]
          (AV.int IntKind.i64 vz) ∧
        ((vz != (0 : Int)) = true →
            AllImm b0 ∧
              Out alts Exit.ret [AV.str [], AV.ptr (0 : Nat) (45 : Nat) (0 : Nat)]
                [((45 : Nat), [AV.ptr (0 : Nat) (45 : Nat) (0 : Nat), AV.bs (1 : Nat) (6 : Nat) (1 : Nat) (0 : Nat) n0]), ((6 : Nat), b0)]) ∧
          ((vz != (0 : Int)) = false →
            Pu Tryd.prog gls (18 : Nat) [AV.int IntKind.i64 op] (AV.str kw) ∧
              Pu Tryd.prog gls (20 : Nat) [AV.int IntKind.i64 op] (AV.bool cnt) ∧
                (cnt = true →
                    Pu Tryd.prog gls (27 : Nat) [AV.int IntKind.i64 by_] (AV.str it) ∧
                      (List.length (List.map sAV ns) ≠ (0 : Nat) ∧
                          (3 : Nat) ≤ (3 : Nat) ∧
                            ((3 : Nat) + List.length (List.map sAV ns)) * (16 : Nat) ≤ (140737488355328 : Nat) ∧
                              (3 : Nat) + List.length (List.map sAV ns) ≤ (9223372036854775807 : Nat) ∧
                                (3 : Nat) + List.length (List.map sAV ns) = List.length ws ∧
                                  [AV.str kw, AV.str loop, AV.str it] ++ List.flatMap AV.cells (List.map sAV ns) = wordsAV ws) ∧
                        (((0 : Nat) + List.length ws * (1 : Nat) ≤ List.length (wordsAV ws) ∧
                              List.length (List.map sAV ws) = List.length ws ∧ (0 : Nat) < (1 : Nat)) ∧
                            HX.Rows (1 : Nat) (List.map sAV ws) (List.take (List.length ws * (1 : Nat)) (List.drop (0 : Nat) (wordsAV ws)))) ∧
                          some (AV.str [(32 : UInt8)]) = some (AV.str [(32 : UInt8)]) ∧
                            Pu Tryd.prog gls (29 : Nat) [AV.sl (1 : Nat) (List.map sAV ws), AV.str [(32 : UInt8)]] (AV.str jn) ∧
                              List.length jn + (1 : Nat) ≤ (9223372036854775807 : Nat) ∧
                                (List.length (jn ++ [(10 : UInt8)]) ≠ (0 : Nat) ∧
                                    (0 : Nat) + n0 * (1 : Nat) ≤ List.length b0 ∧
                                      (n0 + List.length (jn ++ [(10 : UInt8)])) * (1 : Nat) ≤ (140737488355328 : Nat) ∧
                                        n0 + List.length (jn ++ [(10 : UInt8)]) ≤ (9223372036854775807 : Nat) ∧
                                          n0 + List.length (jn ++ [(10 : UInt8)]) = n1 ∧
                                            List.take (n0 * (1 : Nat)) (List.drop (0 : Nat) b0) ++ List.map byteAV (jn ++ [(10 : UInt8)]) = b1) ∧
                                  AllImm b1 ∧
                                    N
                                      [AV.ptr (0 : Nat) (45 : Nat) (0 : Nat), AV.sl (4 : Nat) (List.map Step.av l),
                                        AV.int IntKind.i64 (↑(List.length l) : Int),
                                        AV.int IntKind.i64 (IntKind.wrap IntKind.i64 ((↑i : Int) + (1 : Int)))]
                                      [((45 : Nat), [AV.ptr (0 : Nat) (45 : Nat) (0 : Nat), AV.bs (1 : Nat) (6 : Nat) (1 : Nat) (0 : Nat) n1]),
                                        ((6 : Nat), b1)]) ∧
                  (cnt = false →
                    (List.length (List.map sAV ns) ≠ (0 : Nat) ∧
                        (2 : Nat) ≤ (2 : Nat) ∧
                          ((2 : Nat) + List.length (List.map sAV ns)) * (16 : Nat) ≤ (140737488355328 : Nat) ∧
                            (2 : Nat) + List.length (List.map sAV ns) ≤ (9223372036854775807 : Nat) ∧
                              (2 : Nat) + List.length (List.map sAV ns) = List.length ws ∧
                                [AV.str kw, AV.str loop] ++ List.flatMap AV.cells (List.map sAV ns) = wordsAV ws) ∧
                      (((0 : Nat) + List.length ws * (1 : Nat) ≤ List.length (wordsAV ws) ∧
                            List.length (List.map sAV ws) = List.length ws ∧ (0 : Nat) < (1 : Nat)) ∧
                          HX.Rows (1 : Nat) (List.map sAV ws) (List.take (List.length ws * (1 : Nat)) (List.drop (0 : Nat) (wordsAV ws)))) ∧
                        some (AV.str [(32 : UInt8)]) = some (AV.str [(32 : UInt8)]) ∧
                          Pu Tryd.prog gls (29 : Nat) [AV.sl (1 : Nat) (List.map sAV ws), AV.str [(32 : UInt8)]] (AV.str jn) ∧
                            List.length jn + (1 : Nat) ≤ (9223372036854775807 : Nat) ∧
                              (List.length (jn ++ [(10 : UInt8)]) ≠ (0 : Nat) ∧
                                  (0 : Nat) + n0 * (1 : Nat) ≤ List.length b0 ∧
                                    (n0 + List.length (jn ++ [(10 : UInt8)])) * (1 : Nat) ≤ (140737488355328 : Nat) ∧
                                      n0 + List.length (jn ++ [(10 : UInt8)]) ≤ (9223372036854775807 : Nat) ∧
                                        n0 + List.length (jn ++ [(10 : UInt8)]) = n1 ∧
                                          List.take (n0 * (1 : Nat)) (List.drop (0 : Nat) b0) ++ List.map byteAV (jn ++ [(10 : UInt8)]) = b1) ∧
                                AllImm b1 ∧
                                  N
                                    [AV.ptr (0 : Nat) (45 : Nat) (0 : Nat), AV.sl (4 : Nat) (List.map Step.av l),
                                      AV.int IntKind.i64 (↑(List.length l) : Int),
                                      AV.int IntKind.i64 (IntKind.wrap IntKind.i64 ((↑i : Int) + (1 : Int)))]
                                    [((45 : Nat), [AV.ptr (0 : Nat) (45 : Nat) (0 : Nat), AV.bs (1 : Nat) (6 : Nat) (1 : Nat) (0 : Nat) n1]),
                                      ((6 : Nat), b1)]))) ∧
  (decide ((↑i : Int) < (↑(List.length l) : Int)) = false →
    AllImm b0 ∧
      Out alts (Exit.exit (0 : Nat)) [AV.undef, AV.ptr (0 : Nat) (45 : Nat) (0 : Nat)]
        [((45 : Nat), [AV.ptr (0 : Nat) (45 : Nat) (0 : Nat), AV.bs (1 : Nat) (6 : Nat) (1 : Nat) (0 : Nat) n0]), ((6 : Nat), b0)])) = WR 12 3 40 [(10, .split), (15, .split), (11, .e (.agg [.int .i64 op, .str loop, .int .i64 by_, .sl 1 (ns.map sAV)])), (14, .c (.int .i64 vz)), (18, .c (.str kw)), (24, .cs cnt), (28, .c (.str it)), (34, .a ws.length (wordsAV ws)), (35, .ct [strsAV ws, .str [32]] (.str jn)), (36, .s), (37, .i [(7, .i [(10, .i [])]), (14, .a n1 b1)])] [3, 7, 8, 9] [⟨3, [], false⟩, ⟨3, [1], true⟩] [2, 3] [⟨3, [], false⟩, ⟨3, [1], true⟩] alts [.ptr 0 45 0, stepsAV l, .int .i64 l.length, .int .i64 i] [(45, [.ptr 0 45 0, .bs 1 6 1 0 n0]), (6, b0)] N := by kernel_rfl

def bxF : List Bx := [(45, [.nilp, .nil])]
def bxU (t : Str) : List Bx := [(45, [.ptr 0 45 0, .bs 1 6 1 0 t.length]), (6, bAV t)]
def bxS (t : Str) : List Bx := match t with | [] => bxF | a :: t => bxU (a :: t)
theorem bxS_ne {t : Str} (h : t ≠ []) : bxS t = bxU t := by cases t with | nil => exact absurd rfl h | cons a t => rfl

theorem fmtN_f (l : List Step) (t tg : Str) (r : AV) : (LoopOk Tryd.prog gls (40 : Nat) (lcode Tryd.prog (12 : Nat) (4 : Nat)) [(3 : Nat), (7 : Nat), (8 : Nat), (9 : Nat)]
    [AV.ptr (0 : Nat) (45 : Nat) (0 : Nat), AV.sl (4 : Nat) (List.map Step.av l), AV.int IntKind.i64 (↑(List.length (List.map Step.av l)) : Int),
      AV.int IntKind.i64 (0 : Int)]
    [((45 : Nat), [AV.nilp, AV.nil])] [(2 : Nat), (3 : Nat)]
    [{ φ := List.all l okS = false ∧ goodS l = [], ex := Exit.ret, vs := [AV.str [], AV.ptr (0 : Nat) (45 : Nat) (0 : Nat)],
        bs := [((45 : Nat), [AV.nilp, AV.nil])] },
      { φ := List.all l okS = false ∧ goodS l ≠ [], ex := Exit.ret, vs := [AV.str [], AV.ptr (0 : Nat) (45 : Nat) (0 : Nat)],
        bs :=
          [((45 : Nat), [AV.ptr (0 : Nat) (45 : Nat) (0 : Nat), AV.bs (1 : Nat) (6 : Nat) (1 : Nat) (0 : Nat) (List.length tg)]),
            ((6 : Nat), bAV tg)] },
      { φ := List.all l okS = true, ex := Exit.exit (0 : Nat), vs := [AV.undef, AV.ptr (0 : Nat) (45 : Nat) (0 : Nat)],
        bs :=
          [((45 : Nat), [AV.ptr (0 : Nat) (45 : Nat) (0 : Nat), AV.bs (1 : Nat) (6 : Nat) (1 : Nat) (0 : Nat) (List.length t)]),
            ((6 : Nat), bAV t)] }] ∧
  (List.all l okS = false ∧ goodS l = [] → some (AV.str []) = some r) ∧
    (List.all l okS = false ∧ goodS l ≠ [] → some (AV.str []) = some r) ∧
      (List.all l okS = true →
        (0 : Nat) < List.length t ∧
          ((0 : Int) < (↑(List.length t) : Int) ∧
              (↑(List.length t) : Int) ≤ (9223372036854775807 : Int) ∧
                Int.toNat (↑(List.length t) : Int) ≤ List.length (bAV t) ∧
                  List.take (Int.toNat (↑(List.length t) : Int)) (bAV t) = List.map byteAV t) ∧
            some (AV.str t) = some r)) = W 12 [(10, .split), (15, .split), (3000004, .l [3, 7, 8, 9] [⟨3, [], false⟩, ⟨3, [1], true⟩] [2, 3] [⟨3, [], false⟩, ⟨3, [1], true⟩] [⟨l.all okS = false ∧ goodS l = [], .ret, [.str [], .ptr 0 45 0], [(45, [.nilp, .nil])]⟩, ⟨l.all okS = false ∧ goodS l ≠ [], .ret, [.str [], .ptr 0 45 0], [(45, [.ptr 0 45 0, .bs 1 6 1 0 tg.length]), (6, bAV tg)]⟩, ⟨l.all okS = true, .exit 0, [.undef, .ptr 0 45 0], [(45, [.ptr 0 45 0, .bs 1 6 1 0 t.length]), (6, bAV t)]⟩]), (39, .i [(7, .us t), (13, .us t)])] [stepsAV l] r := by kernel_rfl

theorem fmt0_f (r : AV) : (LoopOk Tryd.prog gls (40 : Nat) (lcode Tryd.prog (12 : Nat) (4 : Nat)) [(3 : Nat), (7 : Nat), (8 : Nat), (9 : Nat)]
    [AV.ptr (0 : Nat) (45 : Nat) (0 : Nat), AV.sl (4 : Nat) [], AV.int IntKind.i64 (↑(0 : Nat) : Int), AV.int IntKind.i64 (0 : Int)]
    [((45 : Nat), [AV.nilp, AV.nil])] [(2 : Nat), (3 : Nat)]
    [{ φ := True, ex := Exit.exit (0 : Nat), vs := [AV.undef, AV.ptr (0 : Nat) (45 : Nat) (0 : Nat)], bs := [((45 : Nat), [AV.nilp, AV.nil])] }] ∧
  (True → some (AV.str []) = some r)) = W 12 [(10, .split), (15, .split), (3000004, .l [3, 7, 8, 9] [⟨3, [], false⟩, ⟨3, [1], true⟩] [2, 3] [⟨3, [], false⟩, ⟨3, [1], true⟩] [⟨True, .exit 0, [.undef, .ptr 0 45 0], [(45, [.nilp, .nil])]⟩]), (39, .i [(7, .us []), (13, .us [])])] [stepsAV []] r := by kernel_rfl


/-- What Format asks of its steps. -/
structure FmtS (l : List Step) : Prop where
  len : l.length ≤ 1000
  fit : ∀ x ∈ l, x.Fit
  by0 : ∀ x ∈ l, -9223372036854775808 ≤ x.by_
  by1 : ∀ x ∈ l, x.by_ ≤ 9223372036854775807
  line : ∀ x ∈ l, (lineS x).length ≤ 100000
  names : ∀ x ∈ l, x.names.length ≤ 1000

theorem okS_eq (x : Step) : (validZ x != 0) = !(okS x) := by unfold okS; rfl
theorem words_len (x : Step) : (lineWords x).length = 2 + (if cntB x.op then 1 else 0) + x.names.length := by unfold lineWords; split <;> simp <;> omega
theorem line_len (x : Step) : (lineS x).length = (Lib.join (lineWords x) [32]).length + 1 := by simp [lineS]
theorem next_vals (l : List Step) (i : Nat) (hi : i < l.length) (hl : l.length ≤ 1000) : (AV.int .i64 (IntKind.wrap .i64 ((i : Int) + 1))) = .int .i64 ((i + 1 : Nat) : Int) := by rw [i64_in _ (by omega)]; rfl

theorem rows_take (ws : List Str) : ((0 + ws.length * 1 ≤ (wordsAV ws).length ∧ (ws.map sAV).length = ws.length ∧ 0 < 1) ∧ HX.Rows 1 (ws.map sAV) ((List.drop 0 (wordsAV ws)).take (ws.length * 1))) := by
  have h : (wordsAV ws).length = ws.length := by simp [wordsAV]
  exact ⟨⟨by omega, by simp, by omega⟩, by rw [List.drop_zero, Nat.mul_one, List.take_of_length_le (by omega)]; exact rows_words ws⟩
theorem bytes_a {jn T' : Str} (h : T' = jn ++ [10]) (hl : jn.length ≤ 100000) : (jn ++ [10]).length ≠ 0 ∧ (jn ++ [10]).length * 1 ≤ 140737488355328 ∧ (jn ++ [10]).length ≤ 9223372036854775807 ∧ (jn ++ [10]).length = T'.length ∧ (jn ++ [10]).map byteAV = bAV T' := by
  subst h
  have : (jn ++ [10]).length = jn.length + 1 := by simp
  exact ⟨by omega, by omega, by omega, rfl, rfl⟩
theorem bytes_b {jn T' U : Str} (h : T' = U ++ (jn ++ [10])) (hl : jn.length + U.length ≤ 1000000000) : (jn ++ [10]).length ≠ 0 ∧ 0 + U.length * 1 ≤ (bAV U).length ∧ (U.length + (jn ++ [10]).length) * 1 ≤ 140737488355328 ∧ U.length + (jn ++ [10]).length ≤ 9223372036854775807 ∧ U.length + (jn ++ [10]).length = T'.length ∧ (List.drop 0 (bAV U)).take (U.length * 1) ++ (jn ++ [10]).map byteAV = bAV T' := by
  subst h
  have h1 : (jn ++ [10]).length = jn.length + 1 := by simp
  have h2 : (bAV U).length = U.length := by simp [bAV]
  exact ⟨by omega, by omega, by omega, by omega, by simp, by rw [List.drop_zero, Nat.mul_one, List.take_of_length_le (by omega)]; simp [bAV]⟩

theorem fmt_loop (l : List Step) (hl : FmtS l) (alts : List Alt)
    (hret : ∀ (i : Nat) (x : Step), l[i]? = some x → (l.take i).all okS = true → okS x = false → Out alts .ret [.str [], .ptr 0 45 0] (bxS (textS (l.take i))))
    (hex : l.all okS = true → Out alts (.exit 0) [.undef, .ptr 0 45 0] (bxS (textS l))) :
    LoopOk Tryd.prog gls 40 (lcode Tryd.prog 12 4) [3, 7, 8, 9] [.ptr 0 45 0, stepsAV l, .int .i64 l.length, .int .i64 (0 : Nat)] [(45, [.nilp, .nil])] [2, 3] alts :=
  Lp1 (r := 3) (kb := [⟨3, [], false⟩, ⟨3, [1], true⟩]) (kbx := [⟨3, [], false⟩, ⟨3, [1], true⟩]) (by kernel_rfl) (fun j vs bs => ∃ i : Nat, j = l.length - i ∧ i ≤ l.length ∧ (l.take i).all okS = true ∧ vs = [.ptr 0 45 0, stepsAV l, .int .i64 l.length, .int .i64 i] ∧ bs = bxS (textS (l.take i)))
    (fun j vs bs ⟨i, hj, hi, ht, hv, hb⟩ => by
      subst hv
      have hl1 := hl.len
      rcases Nat.lt_or_ge i l.length with hlt | hge
      · obtain ⟨x, hx⟩ := some_of_lt hlt
        have hm := List.mem_of_getElem? hx
        have hfit := hl.fit x hm
        have hw := words_len x
        have hn := hl.names x hm
        have hwl : (lineWords x).length ≤ 2000 := by rw [hw]; split <;> omega
        have hll := hl.line x hm
        rw [line_len] at hll
        have hjn := join_ok (lineWords x) [32] (by omega) (by omega)
        have hit := itoa_ok x.by_ (hl.by0 x hm) (hl.by1 x hm)
        have hts := textS_len 100000 (l.take i) fun y hy => hl.line y (List.mem_of_mem_take hy)
        have htl : (l.take i).length ≤ 1000 := by rw [List.length_take]; omega
        have htl' : (l.take i).length * 100000 ≤ 100000000 := by omega
        have hxv := vld_ok x hfit
        have hnx : okS x = true → ∃ j', j' < j ∧ ∃ i' : Nat, j' = l.length - i' ∧ i' ≤ l.length ∧ (l.take i').all okS = true ∧ [AV.ptr 0 45 0, stepsAV l, .int .i64 l.length, .int .i64 (IntKind.wrap .i64 ((i : Int) + 1))] = [.ptr 0 45 0, stepsAV l, .int .i64 l.length, .int .i64 i'] ∧ bxU (textS (l.take (i + 1))) = bxS (textS (l.take i')) := fun ho =>
          ⟨l.length - (i + 1), by omega, i + 1, rfl, by omega, take_succ_all ht hx ho, by rw [next_vals l i hlt hl1], (bxS_ne (textS_take_ne hx)).symm⟩
        have hgo : okS x = false → Out alts .ret [.str [], .ptr 0 45 0] (bxS (textS (l.take i))) := hret i x hx ht
        have htx := textS_succ hx
        have hbl : textS (l.take (i + 1)) = textS (l.take i) ++ (Lib.join (lineWords x) [32] ++ [10]) := htx
        have hs1 : okS x = (validZ x == 0) := rfl
        generalize hvz : validZ x = vz at hxv
        have ho1 : (vz != 0) = true → okS x = false := fun h => by rw [hs1, hvz]; simpa using h
        have ho2 : (vz != 0) = false → okS x = true := fun h => by rw [hs1, hvz]; simpa using h
        have hmx := map_get (f := Step.av) hx
        have hkw := kw_ok x.op
        have hcn := cnt_ok x.op
        generalize hT : textS (l.take i) = T at *
        generalize hT' : textS (l.take (i + 1)) = T' at *
        have hws : lineWords x = [kwB x.op, x.loop] ++ ((if cntB x.op then [Lib.itoa x.by_] else []) ++ x.names) := rfl
        generalize lineWords x = ws at *
        generalize Lib.join ws [32] = jn at *
        generalize hq : Lib.itoa x.by_ = it at *
        rcases x with ⟨op, loop, by_, names⟩
        simp only at hws hit hkw hcn hw hn hxv
        generalize kwB op = kw at *
        generalize cntB op = cnt at *
        have hjl : jn.length + 1 ≤ 9223372036854775807 := by omega
        cases T with
        | nil =>
          subst hb
          simp only [List.nil_append] at hbl
          have hB := bytes_a (jn := jn) (T' := T') hbl (by omega)
          cases names with
          | nil =>
            refine WR1 (fmt_a0 l i 0 T'.length [] (bAV T') op by_ loop jn kw it cnt vz [] ws _ _) ⟨fun _ => ⟨⟨by omega, hmx⟩, hxv, fun h => hgo (ho1 h), fun h => ⟨hkw, hcn, fun hc => ?_, fun hc => ?_⟩⟩, fun h => by simp at h; omega⟩
            · simp only [hc, if_true, List.append_nil, List.cons_append, List.nil_append] at hws
              exact ⟨hit, ⟨⟨by omega, by rw [hws]; rfl, by omega⟩, by rw [hws]; exact rows_words _⟩, rfl, hjn, hjl, hB, allImm_bAV _, hnx (ho2 h)⟩
            · simp only [hc, Bool.false_eq_true, if_false, List.append_nil, List.cons_append, List.nil_append] at hws
              exact ⟨⟨⟨by omega, by rw [hws]; rfl, by omega⟩, by rw [hws]; exact rows_words _⟩, rfl, hjn, hjl, hB, allImm_bAV _, hnx (ho2 h)⟩
          | cons n ns =>
            refine WR1 (fmt_a1 l i 0 T'.length [] (bAV T') op by_ loop jn kw it cnt vz (n :: ns) ws _ _) ⟨fun _ => ⟨⟨by omega, hmx⟩, hxv, fun h => hgo (ho1 h), fun h => ⟨hkw, hcn, fun hc => ?_, fun hc => ?_⟩⟩, fun h => by simp at h; omega⟩
            · simp only [hc, if_true, List.cons_append, List.nil_append] at hws hw
              exact ⟨hit, ⟨by simp, by omega, by rw [List.length_map]; omega, by rw [List.length_map]; omega, by rw [List.length_map]; omega, by rw [flat_words, hws]; rfl⟩, rows_take ws, rfl, hjn, hjl, hB, allImm_bAV _, hnx (ho2 h)⟩
            · simp only [hc, Bool.false_eq_true, if_false, List.cons_append, List.nil_append] at hws hw
              exact ⟨⟨by simp, by omega, by rw [List.length_map]; omega, by rw [List.length_map]; omega, by rw [List.length_map]; omega, by rw [flat_words, hws]; rfl⟩, rows_take ws, rfl, hjn, hjl, hB, allImm_bAV _, hnx (ho2 h)⟩
        | cons a T =>
          rw [bxS_ne (by simp)] at hb
          subst hb
          have hgo' := hgo
          rw [bxS_ne (by simp)] at hgo'
          generalize a :: T = U at *
          have hB := bytes_b (jn := jn) (T' := T') (U := U) hbl (by omega)
          cases names with
          | nil =>
            refine WR1 (fmt_b0 l i U.length T'.length (bAV U) (bAV T') op by_ loop jn kw it cnt vz [] ws _ _) ⟨fun _ => ⟨⟨by omega, hmx⟩, hxv, fun h => ⟨allImm_bAV _, hgo' (ho1 h)⟩, fun h => ⟨hkw, hcn, fun hc => ?_, fun hc => ?_⟩⟩, fun h => by simp at h; omega⟩
            · simp only [hc, if_true, List.append_nil, List.cons_append, List.nil_append] at hws
              exact ⟨hit, ⟨⟨by omega, by rw [hws]; rfl, by omega⟩, by rw [hws]; exact rows_words _⟩, rfl, hjn, hjl, hB, allImm_bAV _, hnx (ho2 h)⟩
            · simp only [hc, Bool.false_eq_true, if_false, List.append_nil, List.cons_append, List.nil_append] at hws
              exact ⟨⟨⟨by omega, by rw [hws]; rfl, by omega⟩, by rw [hws]; exact rows_words _⟩, rfl, hjn, hjl, hB, allImm_bAV _, hnx (ho2 h)⟩
          | cons n ns =>
            refine WR1 (fmt_b1 l i U.length T'.length (bAV U) (bAV T') op by_ loop jn kw it cnt vz (n :: ns) ws _ _) ⟨fun _ => ⟨⟨by omega, hmx⟩, hxv, fun h => ⟨allImm_bAV _, hgo' (ho1 h)⟩, fun h => ⟨hkw, hcn, fun hc => ?_, fun hc => ?_⟩⟩, fun h => by simp at h; omega⟩
            · simp only [hc, if_true, List.cons_append, List.nil_append] at hws hw
              exact ⟨hit, ⟨by simp, by omega, by rw [List.length_map]; omega, by rw [List.length_map]; omega, by rw [List.length_map]; omega, by rw [flat_words, hws]; rfl⟩, rows_take ws, rfl, hjn, hjl, hB, allImm_bAV _, hnx (ho2 h)⟩
            · simp only [hc, Bool.false_eq_true, if_false, List.cons_append, List.nil_append] at hws hw
              exact ⟨⟨by simp, by omega, by rw [List.length_map]; omega, by rw [List.length_map]; omega, by rw [List.length_map]; omega, by rw [flat_words, hws]; rfl⟩, rows_take ws, rfl, hjn, hjl, hB, allImm_bAV _, hnx (ho2 h)⟩
      · rw [List.take_of_length_le hge] at ht hb
        have hex' := hex ht
        generalize textS l = T at *
        cases T with
        | nil =>
          subst hb
          exact WR1 (fmt_a0 l i 0 0 [] [] 0 0 [] [] [] [] false 0 [] [] _ _) ⟨fun h => by simp at h; omega, fun _ => hex'⟩
        | cons a T =>
          rw [bxS_ne (by simp)] at hb hex'
          subst hb
          generalize a :: T = U at *
          exact WR1 (fmt_b0 l i U.length 0 (bAV U) [] 0 0 [] [] [] [] false 0 [] [] _ _) ⟨fun h => by simp at h; omega, fun _ => ⟨allImm_bAV _, hex'⟩⟩) (j := l.length) ⟨0, by omega, by omega, by simp, rfl, by simp [textS, bxS, bxF]⟩

theorem fmt_ok (l : List Step) (hl : FmtS l) : Pu Tryd.prog gls 12 [stepsAV l] (.str (fmtS l)) := by
  cases l with
  | nil => exact Pu1 (fmt0_f _) ⟨fmt_loop [] hl _ (fun i x hx => by simp at hx) (fun _ => Out.here trivial), fun _ => rfl⟩
  | cons a l =>
    generalize hL : a :: l = L at *
    have hne : L ≠ [] := by rw [← hL]; simp
    have htn : L.all okS = true → textS L ≠ [] := fun _ => by rw [← hL]; simp [textS, lineS]
    have hlen := textS_len 100000 L hl.line
    have hl1 := hl.len
    have hl2 : L.length * 100000 ≤ 100000000 := by omega
    have hlp := fmt_loop L hl [⟨L.all okS = false ∧ goodS L = [], .ret, [.str [], .ptr 0 45 0], bxF⟩, ⟨L.all okS = false ∧ goodS L ≠ [], .ret, [.str [], .ptr 0 45 0], bxU (textS (goodS L))⟩, ⟨L.all okS = true, .exit 0, [.undef, .ptr 0 45 0], bxU (textS L)⟩]
      (fun i x hx ht hq => by
        have hg := good_at ht hx hq
        have hf := all_false_at hx hq
        rw [hg]
        cases i with
        | zero => exact Out.here ⟨hf, by simp⟩
        | succ i =>
          have hi := lt_of_some hx
          obtain ⟨y, hy⟩ := some_of_lt (l := L) (i := i) (by omega)
          rw [bxS_ne (textS_take_ne hy)]
          exact Out.next (Out.here ⟨hf, fun h0 => textS_take_ne hy (by rw [h0]; rfl)⟩))
      (fun ht => by rw [bxS_ne (htn ht)]; exact Out.next (Out.next (Out.here ht)))
    refine Pu1 (fmtN_f L (textS L) (textS (goodS L)) _) ⟨by rw [List.length_map]; exact hlp, fun h => by simp [fmtS, h.1], fun h => by simp [fmtS, h.1], fun h => ?_⟩
    have hp : 0 < (textS L).length := List.length_pos_iff.2 (htn h)
    exact ⟨hp, ⟨by omega, by omega, by simp [bAV], by rw [Int.toNat_natCast, List.take_of_length_le (by simp [bAV])]; rfl⟩, by simp [fmtS, h]⟩
end Go.Proofs.YtcphiogbjdehhaaDoor
