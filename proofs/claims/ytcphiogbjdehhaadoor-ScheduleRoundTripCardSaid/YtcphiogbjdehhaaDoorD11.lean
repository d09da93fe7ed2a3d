/- Walks: a schedule's text, read. -/
import Derived.Test.YtcphiogbjdehhaaDoorD10
import Derived.Test.YtcphiogbjdehhaaDoorS6
namespace Go.Proofs.YtcphiogbjdehhaaDoor
open Go HX Go.IntWalk
set_option maxRecDepth 1000000
variable [ML]
set_option linter.unusedSectionVars false

theorem pA0_f (s l rest : Str) (a : Int) (b : Str) (e : Int) (alts : List Alt) (N : List AV → List Bx → Prop) : (((!s == []) = true →
    (false = true → Out alts Exit.ret [AV.nil, AV.int IntKind.i64 (0 : Int), AV.int IntKind.i64 (2 : Int), AV.nil] []) ∧
      (false = false →
        Pu Tryd.prog gls (33 : Nat) [AV.str s, AV.str [(10 : UInt8)]] (AV.tup [AV.str l, AV.str rest, AV.bool true]) ∧
          Pu Tryd.prog gls (34 : Nat) [AV.str l]
              (AV.tup [AV.agg [AV.int IntKind.i64 a, AV.str b, AV.int IntKind.i64 (0 : Int), AV.nil], AV.int IntKind.i64 e]) ∧
            ((e != (0 : Int)) = true → Out alts Exit.ret [AV.nil, AV.int IntKind.i64 (0 : Int), AV.int IntKind.i64 e, AV.nil] []) ∧
              ((e != (0 : Int)) = false →
                ((1 : Nat) ≠ (0 : Nat) ∧
                    (56 : Nat) ≤ (140737488355328 : Nat) ∧
                      (1 : Nat) ≤ (9223372036854775807 : Nat) ∧
                        (1 : Nat) = (0 : Nat) ∧ [AV.int IntKind.i64 a, AV.str b, AV.int IntKind.i64 (0 : Int), AV.nil] = []) ∧
                  AllImm [] ∧ N [AV.str rest, AV.bs (0 : Nat) (0 : Nat) (4 : Nat) (0 : Nat) (0 : Nat)] [((0 : Nat), [])]))) ∧
  ((!s == []) = false → Out alts (Exit.exit (0 : Nat)) [AV.undef, AV.undef, AV.undef, AV.nil] [])) = WR 14 4 49 [(13, .split), (15, .split), (18, .split), (37, .split), (23, .c (.tup [.str l, .str rest, .bool true])), (33, .c (.tup [nilStep a b, .int .i64 e])), (44, .a 0 [])] [0, 5] [⟨5, [], true⟩] [2, 3, 4, 5] [⟨5, [], true⟩] alts [.str s, .nil] [] N := by kernel_rfl

theorem pA1_f (s l rest : Str) (x : Step) (e : Int) (alts : List Alt) (N : List AV → List Bx → Prop) : (((!s == []) = true →
    (false = true → Out alts Exit.ret [AV.nil, AV.int IntKind.i64 (0 : Int), AV.int IntKind.i64 (2 : Int), AV.nil] []) ∧
      (false = false →
        Pu Tryd.prog gls (33 : Nat) [AV.str s, AV.str [(10 : UInt8)]] (AV.tup [AV.str l, AV.str rest, AV.bool true]) ∧
          Pu Tryd.prog gls (34 : Nat) [AV.str l]
              (AV.tup
                [AV.agg
                    [AV.int IntKind.i64 (Step.op x), AV.str (Step.loop x), AV.int IntKind.i64 (Step.by_ x),
                      AV.sl (1 : Nat) (List.map sAV (Step.names x))],
                  AV.int IntKind.i64 e]) ∧
            ((e != (0 : Int)) = true → Out alts Exit.ret [AV.nil, AV.int IntKind.i64 (0 : Int), AV.int IntKind.i64 e, AV.nil] []) ∧
              ((e != (0 : Int)) = false →
                ((1 : Nat) ≠ (0 : Nat) ∧
                    (56 : Nat) ≤ (140737488355328 : Nat) ∧
                      (1 : Nat) ≤ (9223372036854775807 : Nat) ∧
                        (1 : Nat) = (1 : Nat) ∧
                          [AV.int IntKind.i64 (Step.op x), AV.str (Step.loop x), AV.int IntKind.i64 (Step.by_ x),
                              AV.sl (1 : Nat) (List.map sAV (Step.names x))] =
                            [AV.int IntKind.i64 (Step.op x), AV.str (Step.loop x), AV.int IntKind.i64 (Step.by_ x),
                              AV.sl (1 : Nat) (List.map sAV (Step.names x))]) ∧
                  AllImm
                      [AV.int IntKind.i64 (Step.op x), AV.str (Step.loop x), AV.int IntKind.i64 (Step.by_ x),
                        AV.sl (1 : Nat) (List.map sAV (Step.names x))] ∧
                    N [AV.str rest, AV.bs (0 : Nat) (0 : Nat) (4 : Nat) (0 : Nat) (1 : Nat)]
                      [((0 : Nat),
                          [AV.int IntKind.i64 (Step.op x), AV.str (Step.loop x), AV.int IntKind.i64 (Step.by_ x),
                            AV.sl (1 : Nat) (List.map sAV (Step.names x))])]))) ∧
  ((!s == []) = false → Out alts (Exit.exit (0 : Nat)) [AV.undef, AV.undef, AV.undef, AV.nil] [])) = WR 14 4 49 [(13, .split), (15, .split), (18, .split), (37, .split), (23, .c (.tup [.str l, .str rest, .bool true])), (33, .c (.tup [x.av, .int .i64 e])), (44, .a 1 (celS [x]))] [0, 5] [⟨5, [], true⟩] [2, 3, 4, 5] [⟨5, [], true⟩] alts [.str s, .nil] [] N := by kernel_rfl

theorem pA2_f (s : Str) (alts : List Alt) (N : List AV → List Bx → Prop) : (((!s == []) = true →
    (false = true → Out alts Exit.ret [AV.nil, AV.int IntKind.i64 (0 : Int), AV.int IntKind.i64 (2 : Int), AV.nil] []) ∧
      (false = false →
        Pu Tryd.prog gls (33 : Nat) [AV.str s, AV.str [(10 : UInt8)]] (AV.tup [AV.str s, AV.str [], AV.bool false]) ∧
          Out alts Exit.ret [AV.nil, AV.int IntKind.i64 (0 : Int), AV.int IntKind.i64 (6 : Int), AV.nil] [])) ∧
  ((!s == []) = false → Out alts (Exit.exit (0 : Nat)) [AV.undef, AV.undef, AV.undef, AV.nil] [])) = WR 14 4 49 [(13, .split), (15, .split), (18, .split), (37, .split), (23, .c (.tup [.str s, .str [], .bool false]))] [0, 5] [⟨5, [], true⟩] [2, 3, 4, 5] [⟨5, [], true⟩] alts [.str s, .nil] [] N := by kernel_rfl

theorem pB0_f (o : List Step) (s l rest : Str) (a : Int) (b : Str) (e : Int) (alts : List Alt) (N : List AV → List Bx → Prop) : (((!s == []) = true →
    (((↑(List.length o) : Int) == (64 : Int)) = true →
        AllImm (celS o) ∧
          Out alts Exit.ret
            [AV.nil, AV.int IntKind.i64 (↑(List.length o) : Int), AV.int IntKind.i64 (2 : Int),
              AV.bs (0 : Nat) (0 : Nat) (4 : Nat) (0 : Nat) (List.length o)]
            [((0 : Nat), celS o)]) ∧
      (((↑(List.length o) : Int) == (64 : Int)) = false →
        Pu Tryd.prog gls (33 : Nat) [AV.str s, AV.str [(10 : UInt8)]] (AV.tup [AV.str l, AV.str rest, AV.bool true]) ∧
          Pu Tryd.prog gls (34 : Nat) [AV.str l]
              (AV.tup [AV.agg [AV.int IntKind.i64 a, AV.str b, AV.int IntKind.i64 (0 : Int), AV.nil], AV.int IntKind.i64 e]) ∧
            ((e != (0 : Int)) = true →
                AllImm (celS o) ∧
                  Out alts Exit.ret
                    [AV.nil, AV.int IntKind.i64 (↑(List.length o) : Int), AV.int IntKind.i64 e,
                      AV.bs (0 : Nat) (0 : Nat) (4 : Nat) (0 : Nat) (List.length o)]
                    [((0 : Nat), celS o)]) ∧
              ((e != (0 : Int)) = false →
                ((1 : Nat) ≠ (0 : Nat) ∧
                    (0 : Nat) + List.length o * (4 : Nat) ≤ List.length (celS o) ∧
                      (List.length o + (1 : Nat)) * (56 : Nat) ≤ (140737488355328 : Nat) ∧
                        List.length o + (1 : Nat) ≤ (9223372036854775807 : Nat) ∧
                          List.length o + (1 : Nat) = (0 : Nat) ∧
                            List.take (List.length o * (4 : Nat)) (List.drop (0 : Nat) (celS o)) ++
                                [AV.int IntKind.i64 a, AV.str b, AV.int IntKind.i64 (0 : Int), AV.nil] =
                              []) ∧
                  AllImm [] ∧ N [AV.str rest, AV.bs (0 : Nat) (0 : Nat) (4 : Nat) (0 : Nat) (0 : Nat)] [((0 : Nat), [])]))) ∧
  ((!s == []) = false →
    AllImm (celS o) ∧
      Out alts (Exit.exit (0 : Nat)) [AV.undef, AV.undef, AV.undef, AV.bs (0 : Nat) (0 : Nat) (4 : Nat) (0 : Nat) (List.length o)]
        [((0 : Nat), celS o)])) = WR 14 4 49 [(13, .split), (15, .split), (18, .split), (37, .split), (23, .c (.tup [.str l, .str rest, .bool true])), (33, .c (.tup [nilStep a b, .int .i64 e])), (44, .a 0 [])] [0, 5] [⟨5, [], true⟩] [2, 3, 4, 5] [⟨5, [], true⟩] alts [.str s, .bs 0 0 4 0 o.length] [(0, celS o)] N := by kernel_rfl

theorem pB1_f (o : List Step) (s l rest : Str) (x : Step) (e : Int) (alts : List Alt) (N : List AV → List Bx → Prop) : (((!s == []) = true →
    (((↑(List.length o) : Int) == (64 : Int)) = true →
        AllImm (celS o) ∧
          Out alts Exit.ret
            [AV.nil, AV.int IntKind.i64 (↑(List.length o) : Int), AV.int IntKind.i64 (2 : Int),
              AV.bs (0 : Nat) (0 : Nat) (4 : Nat) (0 : Nat) (List.length o)]
            [((0 : Nat), celS o)]) ∧
      (((↑(List.length o) : Int) == (64 : Int)) = false →
        Pu Tryd.prog gls (33 : Nat) [AV.str s, AV.str [(10 : UInt8)]] (AV.tup [AV.str l, AV.str rest, AV.bool true]) ∧
          Pu Tryd.prog gls (34 : Nat) [AV.str l]
              (AV.tup
                [AV.agg
                    [AV.int IntKind.i64 (Step.op x), AV.str (Step.loop x), AV.int IntKind.i64 (Step.by_ x),
                      AV.sl (1 : Nat) (List.map sAV (Step.names x))],
                  AV.int IntKind.i64 e]) ∧
            ((e != (0 : Int)) = true →
                AllImm (celS o) ∧
                  Out alts Exit.ret
                    [AV.nil, AV.int IntKind.i64 (↑(List.length o) : Int), AV.int IntKind.i64 e,
                      AV.bs (0 : Nat) (0 : Nat) (4 : Nat) (0 : Nat) (List.length o)]
                    [((0 : Nat), celS o)]) ∧
              ((e != (0 : Int)) = false →
                ((1 : Nat) ≠ (0 : Nat) ∧
                    (0 : Nat) + List.length o * (4 : Nat) ≤ List.length (celS o) ∧
                      (List.length o + (1 : Nat)) * (56 : Nat) ≤ (140737488355328 : Nat) ∧
                        List.length o + (1 : Nat) ≤ (9223372036854775807 : Nat) ∧
                          List.length o + (1 : Nat) = List.length o + (1 : Nat) ∧
                            List.take (List.length o * (4 : Nat)) (List.drop (0 : Nat) (celS o)) ++
                                [AV.int IntKind.i64 (Step.op x), AV.str (Step.loop x), AV.int IntKind.i64 (Step.by_ x),
                                  AV.sl (1 : Nat) (List.map sAV (Step.names x))] =
                              celS (o ++ [x])) ∧
                  AllImm (celS (o ++ [x])) ∧
                    N [AV.str rest, AV.bs (0 : Nat) (0 : Nat) (4 : Nat) (0 : Nat) (List.length o + (1 : Nat))] [((0 : Nat), celS (o ++ [x]))]))) ∧
  ((!s == []) = false →
    AllImm (celS o) ∧
      Out alts (Exit.exit (0 : Nat)) [AV.undef, AV.undef, AV.undef, AV.bs (0 : Nat) (0 : Nat) (4 : Nat) (0 : Nat) (List.length o)]
        [((0 : Nat), celS o)])) = WR 14 4 49 [(13, .split), (15, .split), (18, .split), (37, .split), (23, .c (.tup [.str l, .str rest, .bool true])), (33, .c (.tup [x.av, .int .i64 e])), (44, .a (o.length + 1) (celS (o ++ [x])))] [0, 5] [⟨5, [], true⟩] [2, 3, 4, 5] [⟨5, [], true⟩] alts [.str s, .bs 0 0 4 0 o.length] [(0, celS o)] N := by kernel_rfl

theorem pB2_f (o : List Step) (s : Str) (alts : List Alt) (N : List AV → List Bx → Prop) : (((!s == []) = true →
    (((↑(List.length o) : Int) == (64 : Int)) = true →
        AllImm (celS o) ∧
          Out alts Exit.ret
            [AV.nil, AV.int IntKind.i64 (↑(List.length o) : Int), AV.int IntKind.i64 (2 : Int),
              AV.bs (0 : Nat) (0 : Nat) (4 : Nat) (0 : Nat) (List.length o)]
            [((0 : Nat), celS o)]) ∧
      (((↑(List.length o) : Int) == (64 : Int)) = false →
        Pu Tryd.prog gls (33 : Nat) [AV.str s, AV.str [(10 : UInt8)]] (AV.tup [AV.str s, AV.str [], AV.bool false]) ∧
          AllImm (celS o) ∧
            Out alts Exit.ret
              [AV.nil, AV.int IntKind.i64 (↑(List.length o) : Int), AV.int IntKind.i64 (6 : Int),
                AV.bs (0 : Nat) (0 : Nat) (4 : Nat) (0 : Nat) (List.length o)]
              [((0 : Nat), celS o)])) ∧
  ((!s == []) = false →
    AllImm (celS o) ∧
      Out alts (Exit.exit (0 : Nat)) [AV.undef, AV.undef, AV.undef, AV.bs (0 : Nat) (0 : Nat) (4 : Nat) (0 : Nat) (List.length o)]
        [((0 : Nat), celS o)])) = WR 14 4 49 [(13, .split), (15, .split), (18, .split), (37, .split), (23, .c (.tup [.str s, .str [], .bool false]))] [0, 5] [⟨5, [], true⟩] [2, 3, 4, 5] [⟨5, [], true⟩] alts [.str s, .bs 0 0 4 0 o.length] [(0, celS o)] N := by kernel_rfl

theorem qA0_f (s : Str) (frm i : Nat) (c : UInt8) (a : Int) (b : Str) (e : Int) (alts : List Alt) (N : List AV → List Bx → Prop) : ((decide ((↑i : Int) < (↑(List.length s) : Int)) = true →
    ((0 : Int) ≤ (↑i : Int) ∧ s[Int.toNat (↑i : Int)]? = some c) ∧
      (((↑(UInt8.toNat c) : Int) != (10 : Int)) = true →
          N [AV.str s, AV.nil, AV.int IntKind.i64 (↑frm : Int), AV.int IntKind.i64 (IntKind.wrap IntKind.i64 ((↑i : Int) + (1 : Int)))] []) ∧
        (((↑(UInt8.toNat c) : Int) != (10 : Int)) = false →
          (false = true →
              Out alts Exit.ret
                [AV.nil, AV.int IntKind.i64 (0 : Int), AV.int IntKind.i64 (2 : Int), AV.str s, AV.nil, AV.int IntKind.i64 (↑frm : Int)] []) ∧
            (false = false →
              ((0 : Int) ≤ (↑frm : Int) ∧ (↑frm : Int) ≤ (↑i : Int) ∧ (↑i : Int) ≤ (↑(List.length s) : Int)) ∧
                Pu Tryd.prog gls (35 : Nat) [AV.str (List.drop (Int.toNat (↑frm : Int)) (List.take (Int.toNat (↑i : Int)) s))]
                    (AV.tup [AV.agg [AV.int IntKind.i64 a, AV.str b, AV.int IntKind.i64 (0 : Int), AV.nil], AV.int IntKind.i64 e]) ∧
                  ((e != (0 : Int)) = true →
                      Out alts Exit.ret
                        [AV.nil, AV.int IntKind.i64 (0 : Int), AV.int IntKind.i64 e, AV.str s, AV.nil, AV.int IntKind.i64 (↑frm : Int)] []) ∧
                    ((e != (0 : Int)) = false →
                      ((1 : Nat) ≠ (0 : Nat) ∧
                          (56 : Nat) ≤ (140737488355328 : Nat) ∧
                            (1 : Nat) ≤ (9223372036854775807 : Nat) ∧
                              (1 : Nat) = (0 : Nat) ∧ [AV.int IntKind.i64 a, AV.str b, AV.int IntKind.i64 (0 : Int), AV.nil] = []) ∧
                        AllImm [] ∧
                          N
                            [AV.str s, AV.bs (0 : Nat) (0 : Nat) (4 : Nat) (0 : Nat) (0 : Nat),
                              AV.int IntKind.i64 (IntKind.wrap IntKind.i64 ((↑i : Int) + (1 : Int))),
                              AV.int IntKind.i64 (IntKind.wrap IntKind.i64 ((↑i : Int) + (1 : Int)))]
                            [((0 : Nat), [])])))) ∧
  (decide ((↑i : Int) < (↑(List.length s) : Int)) = false →
    Out alts (Exit.exit (0 : Nat)) [AV.undef, AV.undef, AV.undef, AV.str s, AV.nil, AV.int IntKind.i64 (↑frm : Int)] [])) = WR 15 6 61 [(12, .split), (16, .split), (22, .split), (25, .split), (37, .split), (50, .split), (53, .split), (21, .u c), (32, .s), (33, .c (.tup [nilStep a b, .int .i64 e])), (44, .a 0 [])] [0, 5, 6, 7] [⟨5, [], true⟩] [2, 3, 4, 0, 5, 6] [⟨5, [], true⟩] alts [.str s, .nil, .int .i64 frm, .int .i64 i] [] N := by kernel_rfl

theorem qA1_f (s : Str) (frm i : Nat) (c : UInt8) (x : Step) (e : Int) (alts : List Alt) (N : List AV → List Bx → Prop) : ((decide ((↑i : Int) < (↑(List.length s) : Int)) = true →
    ((0 : Int) ≤ (↑i : Int) ∧ s[Int.toNat (↑i : Int)]? = some c) ∧
      (((↑(UInt8.toNat c) : Int) != (10 : Int)) = true →
          N [AV.str s, AV.nil, AV.int IntKind.i64 (↑frm : Int), AV.int IntKind.i64 (IntKind.wrap IntKind.i64 ((↑i : Int) + (1 : Int)))] []) ∧
        (((↑(UInt8.toNat c) : Int) != (10 : Int)) = false →
          (false = true →
              Out alts Exit.ret
                [AV.nil, AV.int IntKind.i64 (0 : Int), AV.int IntKind.i64 (2 : Int), AV.str s, AV.nil, AV.int IntKind.i64 (↑frm : Int)] []) ∧
            (false = false →
              ((0 : Int) ≤ (↑frm : Int) ∧ (↑frm : Int) ≤ (↑i : Int) ∧ (↑i : Int) ≤ (↑(List.length s) : Int)) ∧
                Pu Tryd.prog gls (35 : Nat) [AV.str (List.drop (Int.toNat (↑frm : Int)) (List.take (Int.toNat (↑i : Int)) s))]
                    (AV.tup
                      [AV.agg
                          [AV.int IntKind.i64 (Step.op x), AV.str (Step.loop x), AV.int IntKind.i64 (Step.by_ x),
                            AV.sl (1 : Nat) (List.map sAV (Step.names x))],
                        AV.int IntKind.i64 e]) ∧
                  ((e != (0 : Int)) = true →
                      Out alts Exit.ret
                        [AV.nil, AV.int IntKind.i64 (0 : Int), AV.int IntKind.i64 e, AV.str s, AV.nil, AV.int IntKind.i64 (↑frm : Int)] []) ∧
                    ((e != (0 : Int)) = false →
                      ((1 : Nat) ≠ (0 : Nat) ∧
                          (56 : Nat) ≤ (140737488355328 : Nat) ∧
                            (1 : Nat) ≤ (9223372036854775807 : Nat) ∧
                              (1 : Nat) = (1 : Nat) ∧
                                [AV.int IntKind.i64 (Step.op x), AV.str (Step.loop x), AV.int IntKind.i64 (Step.by_ x),
                                    AV.sl (1 : Nat) (List.map sAV (Step.names x))] =
                                  [AV.int IntKind.i64 (Step.op x), AV.str (Step.loop x), AV.int IntKind.i64 (Step.by_ x),
                                    AV.sl (1 : Nat) (List.map sAV (Step.names x))]) ∧
                        AllImm
                            [AV.int IntKind.i64 (Step.op x), AV.str (Step.loop x), AV.int IntKind.i64 (Step.by_ x),
                              AV.sl (1 : Nat) (List.map sAV (Step.names x))] ∧
                          N
                            [AV.str s, AV.bs (0 : Nat) (0 : Nat) (4 : Nat) (0 : Nat) (1 : Nat),
                              AV.int IntKind.i64 (IntKind.wrap IntKind.i64 ((↑i : Int) + (1 : Int))),
                              AV.int IntKind.i64 (IntKind.wrap IntKind.i64 ((↑i : Int) + (1 : Int)))]
                            [((0 : Nat),
                                [AV.int IntKind.i64 (Step.op x), AV.str (Step.loop x), AV.int IntKind.i64 (Step.by_ x),
                                  AV.sl (1 : Nat) (List.map sAV (Step.names x))])])))) ∧
  (decide ((↑i : Int) < (↑(List.length s) : Int)) = false →
    Out alts (Exit.exit (0 : Nat)) [AV.undef, AV.undef, AV.undef, AV.str s, AV.nil, AV.int IntKind.i64 (↑frm : Int)] [])) = WR 15 6 61 [(12, .split), (16, .split), (22, .split), (25, .split), (37, .split), (50, .split), (53, .split), (21, .u c), (32, .s), (33, .c (.tup [x.av, .int .i64 e])), (44, .a 1 (celS [x]))] [0, 5, 6, 7] [⟨5, [], true⟩] [2, 3, 4, 0, 5, 6] [⟨5, [], true⟩] alts [.str s, .nil, .int .i64 frm, .int .i64 i] [] N := by kernel_rfl

theorem qB0_f (o : List Step) (s : Str) (frm i : Nat) (c : UInt8) (a : Int) (b : Str) (e : Int) (alts : List Alt) (N : List AV → List Bx → Prop) : ((decide ((↑i : Int) < (↑(List.length s) : Int)) = true →
    ((0 : Int) ≤ (↑i : Int) ∧ s[Int.toNat (↑i : Int)]? = some c) ∧
      (((↑(UInt8.toNat c) : Int) != (10 : Int)) = true →
          AllImm (celS o) ∧
            N
              [AV.str s, AV.bs (0 : Nat) (0 : Nat) (4 : Nat) (0 : Nat) (List.length o), AV.int IntKind.i64 (↑frm : Int),
                AV.int IntKind.i64 (IntKind.wrap IntKind.i64 ((↑i : Int) + (1 : Int)))]
              [((0 : Nat), celS o)]) ∧
        (((↑(UInt8.toNat c) : Int) != (10 : Int)) = false →
          (((↑(List.length o) : Int) == (64 : Int)) = true →
              AllImm (celS o) ∧
                Out alts Exit.ret
                  [AV.nil, AV.int IntKind.i64 (↑(List.length o) : Int), AV.int IntKind.i64 (2 : Int), AV.str s,
                    AV.bs (0 : Nat) (0 : Nat) (4 : Nat) (0 : Nat) (List.length o), AV.int IntKind.i64 (↑frm : Int)]
                  [((0 : Nat), celS o)]) ∧
            (((↑(List.length o) : Int) == (64 : Int)) = false →
              ((0 : Int) ≤ (↑frm : Int) ∧ (↑frm : Int) ≤ (↑i : Int) ∧ (↑i : Int) ≤ (↑(List.length s) : Int)) ∧
                Pu Tryd.prog gls (35 : Nat) [AV.str (List.drop (Int.toNat (↑frm : Int)) (List.take (Int.toNat (↑i : Int)) s))]
                    (AV.tup [AV.agg [AV.int IntKind.i64 a, AV.str b, AV.int IntKind.i64 (0 : Int), AV.nil], AV.int IntKind.i64 e]) ∧
                  ((e != (0 : Int)) = true →
                      AllImm (celS o) ∧
                        Out alts Exit.ret
                          [AV.nil, AV.int IntKind.i64 (↑(List.length o) : Int), AV.int IntKind.i64 e, AV.str s,
                            AV.bs (0 : Nat) (0 : Nat) (4 : Nat) (0 : Nat) (List.length o), AV.int IntKind.i64 (↑frm : Int)]
                          [((0 : Nat), celS o)]) ∧
                    ((e != (0 : Int)) = false →
                      ((1 : Nat) ≠ (0 : Nat) ∧
                          (0 : Nat) + List.length o * (4 : Nat) ≤ List.length (celS o) ∧
                            (List.length o + (1 : Nat)) * (56 : Nat) ≤ (140737488355328 : Nat) ∧
                              List.length o + (1 : Nat) ≤ (9223372036854775807 : Nat) ∧
                                List.length o + (1 : Nat) = (0 : Nat) ∧
                                  List.take (List.length o * (4 : Nat)) (List.drop (0 : Nat) (celS o)) ++
                                      [AV.int IntKind.i64 a, AV.str b, AV.int IntKind.i64 (0 : Int), AV.nil] =
                                    []) ∧
                        AllImm [] ∧
                          N
                            [AV.str s, AV.bs (0 : Nat) (0 : Nat) (4 : Nat) (0 : Nat) (0 : Nat),
                              AV.int IntKind.i64 (IntKind.wrap IntKind.i64 ((↑i : Int) + (1 : Int))),
                              AV.int IntKind.i64 (IntKind.wrap IntKind.i64 ((↑i : Int) + (1 : Int)))]
                            [((0 : Nat), [])])))) ∧
  (decide ((↑i : Int) < (↑(List.length s) : Int)) = false →
    AllImm (celS o) ∧
      Out alts (Exit.exit (0 : Nat))
        [AV.undef, AV.undef, AV.undef, AV.str s, AV.bs (0 : Nat) (0 : Nat) (4 : Nat) (0 : Nat) (List.length o), AV.int IntKind.i64 (↑frm : Int)]
        [((0 : Nat), celS o)])) = WR 15 6 61 [(12, .split), (16, .split), (22, .split), (25, .split), (37, .split), (50, .split), (53, .split), (21, .u c), (32, .s), (33, .c (.tup [nilStep a b, .int .i64 e])), (44, .a 0 [])] [0, 5, 6, 7] [⟨5, [], true⟩] [2, 3, 4, 0, 5, 6] [⟨5, [], true⟩] alts [.str s, .bs 0 0 4 0 o.length, .int .i64 frm, .int .i64 i] [(0, celS o)] N := by kernel_rfl

theorem qB1_f (o : List Step) (s : Str) (frm i : Nat) (c : UInt8) (x : Step) (e : Int) (alts : List Alt) (N : List AV → List Bx → Prop) : ((decide ((↑i : Int) < (↑(List.length s) : Int)) = true →
    ((0 : Int) ≤ (↑i : Int) ∧ s[Int.toNat (↑i : Int)]? = some c) ∧
      (((↑(UInt8.toNat c) : Int) != (10 : Int)) = true →
          AllImm (celS o) ∧
            N
              [AV.str s, AV.bs (0 : Nat) (0 : Nat) (4 : Nat) (0 : Nat) (List.length o), AV.int IntKind.i64 (↑frm : Int),
                AV.int IntKind.i64 (IntKind.wrap IntKind.i64 ((↑i : Int) + (1 : Int)))]
              [((0 : Nat), celS o)]) ∧
        (((↑(UInt8.toNat c) : Int) != (10 : Int)) = false →
          (((↑(List.length o) : Int) == (64 : Int)) = true →
              AllImm (celS o) ∧
                Out alts Exit.ret
                  [AV.nil, AV.int IntKind.i64 (↑(List.length o) : Int), AV.int IntKind.i64 (2 : Int), AV.str s,
                    AV.bs (0 : Nat) (0 : Nat) (4 : Nat) (0 : Nat) (List.length o), AV.int IntKind.i64 (↑frm : Int)]
                  [((0 : Nat), celS o)]) ∧
            (((↑(List.length o) : Int) == (64 : Int)) = false →
              ((0 : Int) ≤ (↑frm : Int) ∧ (↑frm : Int) ≤ (↑i : Int) ∧ (↑i : Int) ≤ (↑(List.length s) : Int)) ∧
                Pu Tryd.prog gls (35 : Nat) [AV.str (List.drop (Int.toNat (↑frm : Int)) (List.take (Int.toNat (↑i : Int)) s))]
                    (AV.tup
                      [AV.agg
                          [AV.int IntKind.i64 (Step.op x), AV.str (Step.loop x), AV.int IntKind.i64 (Step.by_ x),
                            AV.sl (1 : Nat) (List.map sAV (Step.names x))],
                        AV.int IntKind.i64 e]) ∧
                  ((e != (0 : Int)) = true →
                      AllImm (celS o) ∧
                        Out alts Exit.ret
                          [AV.nil, AV.int IntKind.i64 (↑(List.length o) : Int), AV.int IntKind.i64 e, AV.str s,
                            AV.bs (0 : Nat) (0 : Nat) (4 : Nat) (0 : Nat) (List.length o), AV.int IntKind.i64 (↑frm : Int)]
                          [((0 : Nat), celS o)]) ∧
                    ((e != (0 : Int)) = false →
                      ((1 : Nat) ≠ (0 : Nat) ∧
                          (0 : Nat) + List.length o * (4 : Nat) ≤ List.length (celS o) ∧
                            (List.length o + (1 : Nat)) * (56 : Nat) ≤ (140737488355328 : Nat) ∧
                              List.length o + (1 : Nat) ≤ (9223372036854775807 : Nat) ∧
                                List.length o + (1 : Nat) = List.length o + (1 : Nat) ∧
                                  List.take (List.length o * (4 : Nat)) (List.drop (0 : Nat) (celS o)) ++
                                      [AV.int IntKind.i64 (Step.op x), AV.str (Step.loop x), AV.int IntKind.i64 (Step.by_ x),
                                        AV.sl (1 : Nat) (List.map sAV (Step.names x))] =
                                    celS (o ++ [x])) ∧
                        AllImm (celS (o ++ [x])) ∧
                          N
                            [AV.str s, AV.bs (0 : Nat) (0 : Nat) (4 : Nat) (0 : Nat) (List.length o + (1 : Nat)),
                              AV.int IntKind.i64 (IntKind.wrap IntKind.i64 ((↑i : Int) + (1 : Int))),
                              AV.int IntKind.i64 (IntKind.wrap IntKind.i64 ((↑i : Int) + (1 : Int)))]
                            [((0 : Nat), celS (o ++ [x]))])))) ∧
  (decide ((↑i : Int) < (↑(List.length s) : Int)) = false →
    AllImm (celS o) ∧
      Out alts (Exit.exit (0 : Nat))
        [AV.undef, AV.undef, AV.undef, AV.str s, AV.bs (0 : Nat) (0 : Nat) (4 : Nat) (0 : Nat) (List.length o), AV.int IntKind.i64 (↑frm : Int)]
        [((0 : Nat), celS o)])) = WR 15 6 61 [(12, .split), (16, .split), (22, .split), (25, .split), (37, .split), (50, .split), (53, .split), (21, .u c), (32, .s), (33, .c (.tup [x.av, .int .i64 e])), (44, .a (o.length + 1) (celS (o ++ [x])))] [0, 5, 6, 7] [⟨5, [], true⟩] [2, 3, 4, 0, 5, 6] [⟨5, [], true⟩] alts [.str s, .bs 0 0 4 0 o.length, .int .i64 frm, .int .i64 i] [(0, celS o)] N := by kernel_rfl

theorem p_f (s : Str) (o : List Step) (e : Int) (r : AV) : ((decide ((65536 : Int) < (↑(List.length s) : Int)) = true → AV.tup [AV.nil, AV.int IntKind.i64 (0 : Int), AV.int IntKind.i64 (2 : Int)] = r) ∧
  (decide ((65536 : Int) < (↑(List.length s) : Int)) = false →
    LoopOk Tryd.prog gls (49 : Nat) (lcode Tryd.prog (14 : Nat) (5 : Nat)) [(0 : Nat), (5 : Nat)] [AV.str s, AV.nil] []
        [(2 : Nat), (3 : Nat), (4 : Nat), (5 : Nat)]
        [{ φ := e ≠ (0 : Int) ∧ o = [], ex := Exit.ret, vs := [AV.nil, AV.int IntKind.i64 (↑(List.length o) : Int), AV.int IntKind.i64 e, AV.nil],
            bs := [] },
          { φ := e ≠ (0 : Int) ∧ o ≠ [], ex := Exit.ret,
            vs :=
              [AV.nil, AV.int IntKind.i64 (↑(List.length o) : Int), AV.int IntKind.i64 e,
                AV.bs (0 : Nat) (0 : Nat) (4 : Nat) (0 : Nat) (List.length o)],
            bs := [((0 : Nat), celS o)] },
          { φ := e = (0 : Int) ∧ o = [], ex := Exit.exit (0 : Nat), vs := [AV.undef, AV.undef, AV.undef, AV.nil], bs := [] },
          { φ := e = (0 : Int) ∧ o ≠ [], ex := Exit.exit (0 : Nat),
            vs := [AV.undef, AV.undef, AV.undef, AV.bs (0 : Nat) (0 : Nat) (4 : Nat) (0 : Nat) (List.length o)], bs := [((0 : Nat), celS o)] }] ∧
      (e ≠ (0 : Int) ∧ o = [] → AV.tup [AV.nil, AV.int IntKind.i64 (↑(List.length o) : Int), AV.int IntKind.i64 e] = r) ∧
        (e ≠ (0 : Int) ∧ o ≠ [] → AV.tup [AV.nil, AV.int IntKind.i64 (↑(List.length o) : Int), AV.int IntKind.i64 e] = r) ∧
          (e = (0 : Int) ∧ o = [] → AV.tup [AV.nil, AV.int IntKind.i64 (0 : Int), AV.int IntKind.i64 (0 : Int)] = r) ∧
            (e = (0 : Int) ∧ o ≠ [] →
              ∃ xs,
                (((0 : Nat) + List.length o * (4 : Nat) ≤ List.length (celS o) ∧ List.length xs = List.length o ∧ (0 : Nat) < (4 : Nat)) ∧
                    HX.Rows (4 : Nat) xs (List.take (List.length o * (4 : Nat)) (List.drop (0 : Nat) (celS o)))) ∧
                  AV.tup [AV.sl (4 : Nat) xs, AV.int IntKind.i64 (↑(List.length o) : Int), AV.int IntKind.i64 (0 : Int)] = r))) = WT 14 [(13, .split), (15, .split), (18, .split), (37, .split), (3000005, .l [0, 5] [⟨5, [], true⟩] [2, 3, 4, 5] [⟨5, [], true⟩] [⟨e ≠ 0 ∧ o = [], .ret, [.nil, .int .i64 o.length, .int .i64 e, .nil], []⟩, ⟨e ≠ 0 ∧ o ≠ [], .ret, [.nil, .int .i64 o.length, .int .i64 e, .bs 0 0 4 0 o.length], [(0, celS o)]⟩, ⟨e = 0 ∧ o = [], .exit 0, [.undef, .undef, .undef, .nil], []⟩, ⟨e = 0 ∧ o ≠ [], .exit 0, [.undef, .undef, .undef, .bs 0 0 4 0 o.length], [(0, celS o)]⟩])] [.str s] [] r := by kernel_rfl

theorem q_f (s : Str) (o : List Step) (e : Int) (frm : Nat) (f : Bool) (r : AV) : ((decide ((65536 : Int) < (↑(List.length s) : Int)) = true → AV.tup [AV.nil, AV.int IntKind.i64 (0 : Int), AV.int IntKind.i64 (2 : Int)] = r) ∧
  (decide ((65536 : Int) < (↑(List.length s) : Int)) = false →
    LoopOk Tryd.prog gls (61 : Nat) (lcode Tryd.prog (15 : Nat) (7 : Nat)) [(0 : Nat), (5 : Nat), (6 : Nat), (7 : Nat)]
        [AV.str s, AV.nil, AV.int IntKind.i64 (0 : Int), AV.int IntKind.i64 (0 : Int)] []
        [(2 : Nat), (3 : Nat), (4 : Nat), (0 : Nat), (5 : Nat), (6 : Nat)]
        [{ φ := f = true ∧ o = [], ex := Exit.ret,
            vs := [AV.nil, AV.int IntKind.i64 (↑(List.length o) : Int), AV.int IntKind.i64 e, AV.str s, AV.nil, AV.int IntKind.i64 (↑frm : Int)],
            bs := [] },
          { φ := f = true ∧ o ≠ [], ex := Exit.ret,
            vs :=
              [AV.nil, AV.int IntKind.i64 (↑(List.length o) : Int), AV.int IntKind.i64 e, AV.str s,
                AV.bs (0 : Nat) (0 : Nat) (4 : Nat) (0 : Nat) (List.length o), AV.int IntKind.i64 (↑frm : Int)],
            bs := [((0 : Nat), celS o)] },
          { φ := f = false ∧ o = [], ex := Exit.exit (0 : Nat),
            vs := [AV.undef, AV.undef, AV.undef, AV.str s, AV.nil, AV.int IntKind.i64 (↑frm : Int)], bs := [] },
          { φ := f = false ∧ o ≠ [], ex := Exit.exit (0 : Nat),
            vs :=
              [AV.undef, AV.undef, AV.undef, AV.str s, AV.bs (0 : Nat) (0 : Nat) (4 : Nat) (0 : Nat) (List.length o),
                AV.int IntKind.i64 (↑frm : Int)],
            bs := [((0 : Nat), celS o)] }] ∧
      (f = true ∧ o = [] → AV.tup [AV.nil, AV.int IntKind.i64 (↑(List.length o) : Int), AV.int IntKind.i64 e] = r) ∧
        (f = true ∧ o ≠ [] → AV.tup [AV.nil, AV.int IntKind.i64 (↑(List.length o) : Int), AV.int IntKind.i64 e] = r) ∧
          (f = false ∧ o = [] →
              (decide ((↑frm : Int) < (↑(List.length s) : Int)) = true →
                  (false = true → AV.tup [AV.nil, AV.int IntKind.i64 (0 : Int), AV.int IntKind.i64 (2 : Int)] = r) ∧
                    (false = false → AV.tup [AV.nil, AV.int IntKind.i64 (0 : Int), AV.int IntKind.i64 (6 : Int)] = r)) ∧
                (decide ((↑frm : Int) < (↑(List.length s) : Int)) = false →
                  AV.tup [AV.nil, AV.int IntKind.i64 (0 : Int), AV.int IntKind.i64 (0 : Int)] = r)) ∧
            (f = false ∧ o ≠ [] →
              (decide ((↑frm : Int) < (↑(List.length s) : Int)) = true →
                  (((↑(List.length o) : Int) == (64 : Int)) = true →
                      AV.tup [AV.nil, AV.int IntKind.i64 (↑(List.length o) : Int), AV.int IntKind.i64 (2 : Int)] = r) ∧
                    (((↑(List.length o) : Int) == (64 : Int)) = false →
                      AV.tup [AV.nil, AV.int IntKind.i64 (↑(List.length o) : Int), AV.int IntKind.i64 (6 : Int)] = r)) ∧
                (decide ((↑frm : Int) < (↑(List.length s) : Int)) = false →
                  ∃ xs,
                    (((0 : Nat) + List.length o * (4 : Nat) ≤ List.length (celS o) ∧ List.length xs = List.length o ∧ (0 : Nat) < (4 : Nat)) ∧
                        HX.Rows (4 : Nat) xs (List.take (List.length o * (4 : Nat)) (List.drop (0 : Nat) (celS o)))) ∧
                      AV.tup [AV.sl (4 : Nat) xs, AV.int IntKind.i64 (↑(List.length o) : Int), AV.int IntKind.i64 (0 : Int)] = r)))) = WT 15 [(12, .split), (16, .split), (22, .split), (25, .split), (37, .split), (50, .split), (53, .split), (3000007, .l [0, 5, 6, 7] [⟨5, [], true⟩] [2, 3, 4, 0, 5, 6] [⟨5, [], true⟩] [⟨f = true ∧ o = [], .ret, [.nil, .int .i64 o.length, .int .i64 e, .str s, .nil, .int .i64 frm], []⟩, ⟨f = true ∧ o ≠ [], .ret, [.nil, .int .i64 o.length, .int .i64 e, .str s, .bs 0 0 4 0 o.length, .int .i64 frm], [(0, celS o)]⟩, ⟨f = false ∧ o = [], .exit 0, [.undef, .undef, .undef, .str s, .nil, .int .i64 frm], []⟩, ⟨f = false ∧ o ≠ [], .exit 0, [.undef, .undef, .undef, .str s, .bs 0 0 4 0 o.length, .int .i64 frm], [(0, celS o)]⟩])] [.str s] [] r := by kernel_rfl

theorem push_a (x : Step) : 1 ≠ 0 ∧ 56 ≤ 140737488355328 ∧ 1 ≤ 9223372036854775807 ∧ 1 = 1 ∧ [AV.int .i64 x.op, .str x.loop, .int .i64 x.by_, .sl 1 (x.names.map sAV)] = celS [x] := ⟨by omega, by omega, by omega, rfl, rfl⟩
theorem push_b (o : List Step) (x : Step) (h : o.length ≤ 64) : 1 ≠ 0 ∧ 0 + o.length * 4 ≤ (celS o).length ∧ (o.length + 1) * 56 ≤ 140737488355328 ∧ o.length + 1 ≤ 9223372036854775807 ∧ o.length + 1 = o.length + 1 ∧ List.take (o.length * 4) (List.drop 0 (celS o)) ++ [AV.int .i64 x.op, .str x.loop, .int .i64 x.by_, .sl 1 (x.names.map sAV)] = celS (o ++ [x]) := by
  have := celS_len o
  exact ⟨by omega, by omega, by omega, by omega, rfl, by rw [List.drop_zero, List.take_of_length_le (by omega), celS_snoc]; rfl⟩

theorem p_loop (s0 : Str) (alts : List Alt) (hl : s0.length ≤ 65536)
    (hret : ∀ o e r, parS [] s0 = ⟨o, e, r⟩ → e ≠ 0 → Out alts .ret [.nil, .int .i64 o.length, .int .i64 e, stV o] (stB o))
    (hex : ∀ o r, parS [] s0 = ⟨o, 0, r⟩ → Out alts (.exit 0) [.undef, .undef, .undef, stV o] (stB o)) :
    LoopOk Tryd.prog gls 49 (lcode Tryd.prog 14 5) [0, 5] [.str s0, .nil] [] [2, 3, 4, 5] alts :=
  Lp1 (r := 4) (kb := [⟨5, [], true⟩]) (kbx := [⟨5, [], true⟩]) (by kernel_rfl) (fun j vs bs => ∃ (o : List Step) (s : Str), j = s.length ∧ s.length ≤ 65536 ∧ o.length ≤ 64 ∧ parS o s = parS [] s0 ∧ vs = [.str s, stV o] ∧ bs = stB o)
    (fun j vs bs ⟨o, s, hj, hs, ho, hp, hv, hb⟩ => by
      subst hv; subst hb
      by_cases hs0 : s = []
      · subst hs0
        have := hex o [] (by rw [← hp]; rfl)
        cases o with
        | nil => exact WR1 (pA2_f [] _ _) ⟨fun h => by simp at h, fun _ => this⟩
        | cons a t => exact WR1 (pB2_f (a :: t) [] _ _) ⟨fun h => by simp at h, fun _ => ⟨allImm_cel _, this⟩⟩
      · have hnf : ∀ q : Prop, ((!(s == [])) = false → q) := fun q h => by simp [hs0] at h
        by_cases h64 : o.length = 64
        · have hr := hret o 2 s (by rw [← hp, parS_64 hs0 h64]) (by omega)
          cases o with
          | nil => simp at h64
          | cons a t => exact WR1 (pB2_f (a :: t) s _ _) ⟨fun _ => ⟨fun _ => ⟨allImm_cel _, hr⟩, fun h => by simp at h h64; omega⟩, hnf _⟩
        · have hcut := cut_ok s 10 (by omega)
          cases hc : cutS 10 s with
          | none =>
            rw [hc] at hcut
            have hr := hret o 6 s (by rw [← hp, parS_no hs0 h64 hc]) (by omega)
            cases o with
            | nil => exact WR1 (pA2_f s _ _) ⟨fun _ => ⟨fun h => (by cases h), fun _ => ⟨hcut, hr⟩⟩, hnf _⟩
            | cons a t => exact WR1 (pB2_f (a :: t) s _ _) ⟨fun _ => ⟨fun h => by simp only [beq_iff_eq] at h; omega, fun _ => ⟨hcut, allImm_cel _, hr⟩⟩, hnf _⟩
          | some p =>
            obtain ⟨l, r⟩ := p
            rw [hc] at hcut
            have hsl := congrArg List.length (cutS_len 10 s l r hc)
            simp only [List.length_append, List.length_cons] at hsl
            have hline := pl_ok l (by omega)
            have bad : linE l ≠ 0 → Out alts .ret [.nil, .int .i64 o.length, .int .i64 (linE l), stV o] (stB o) := fun h => hret o (linE l) s (by rw [← hp, parS_bad hs0 h64 hc h]) h
            have good : linE l = 0 → ∃ j', j' < j ∧ ∃ (o' : List Step) (s' : Str), j' = s'.length ∧ s'.length ≤ 65536 ∧ o'.length ≤ 64 ∧ parS o' s' = parS [] s0 ∧ [.str r, .bs 0 0 4 0 (o.length + 1)] = [.str s', stV o'] ∧ [((0 : Nat), celS (o ++ [linX l]))] = stB o' := fun h =>
              ⟨r.length, by omega, o ++ [linX l], r, rfl, by omega, by simp; omega, by rw [← hp, parS_go hs0 h64 hc h], by rw [stV_ne (by simp)]; simp, (stB_ne (by simp)).symm⟩
            rcases hline with ⟨hne, a, b, hpu⟩ | hpu
            · cases o with
              | nil => exact WR1 (pA0_f s l r a b (linE l) _ _) ⟨fun _ => ⟨fun h => (by cases h), fun _ => ⟨hcut, hpu, fun _ => bad hne, fun h => by simp [hne] at h⟩⟩, hnf _⟩
              | cons x t => exact WR1 (pB0_f (x :: t) s l r a b (linE l) _ _) ⟨fun _ => ⟨fun h => by simp only [beq_iff_eq] at h; omega, fun _ => ⟨hcut, hpu, fun _ => ⟨allImm_cel _, bad hne⟩, fun h => by simp [hne] at h⟩⟩, hnf _⟩
            · cases o with
              | nil => exact WR1 (pA1_f s l r (linX l) (linE l) _ _) ⟨fun _ => ⟨fun h => (by cases h), fun _ => ⟨hcut, hpu, fun h => bad (by simpa using h), fun h => ⟨push_a _, allImm_cel [linX l], good (by simpa using h)⟩⟩⟩, hnf _⟩
              | cons x t => exact WR1 (pB1_f (x :: t) s l r (linX l) (linE l) _ _) ⟨fun _ => ⟨fun h => by simp only [beq_iff_eq] at h; omega, fun _ => ⟨hcut, hpu, fun h => ⟨allImm_cel _, bad (by simpa using h)⟩, fun h => ⟨push_b _ _ ho, allImm_cel _, good (by simpa using h)⟩⟩⟩, hnf _⟩) (j := s0.length) ⟨[], s0, rfl, hl, by simp, rfl, rfl, rfl⟩

theorem parse_ok (s : Str) (hs : s.length ≤ 9223372036854775807) : Pu Tryd.prog gls 14 [.str s] (parR s) := by
  unfold parR
  by_cases h : 65536 < s.length
  · rw [if_pos h]
    exact PuT (p_f s [] 0 _) ⟨fun _ => rfl, fun h2 => by simp at h2; omega⟩
  · rw [if_neg h]
    have hlp := p_loop s [⟨(parS [] s).e ≠ 0 ∧ (parS [] s).o = [], .ret, [.nil, .int .i64 (parS [] s).o.length, .int .i64 (parS [] s).e, .nil], []⟩, ⟨(parS [] s).e ≠ 0 ∧ (parS [] s).o ≠ [], .ret, [.nil, .int .i64 (parS [] s).o.length, .int .i64 (parS [] s).e, .bs 0 0 4 0 (parS [] s).o.length], [(0, celS (parS [] s).o)]⟩, ⟨(parS [] s).e = 0 ∧ (parS [] s).o = [], .exit 0, [.undef, .undef, .undef, .nil], []⟩, ⟨(parS [] s).e = 0 ∧ (parS [] s).o ≠ [], .exit 0, [.undef, .undef, .undef, .bs 0 0 4 0 (parS [] s).o.length], [(0, celS (parS [] s).o)]⟩] (by omega)
      (fun o e r hp he => by
        rw [hp]
        cases o with
        | nil => exact Out.here ⟨he, rfl⟩
        | cons a t => exact Out.next (Out.here ⟨he, by simp⟩))
      (fun o r hp => by
        rw [hp]
        cases o with
        | nil => exact Out.next (Out.next (Out.here ⟨rfl, rfl⟩))
        | cons a t => exact Out.next (Out.next (Out.next (Out.here ⟨rfl, by simp⟩))))
    refine PuT (p_f s (parS [] s).o (parS [] s).e _) ⟨fun h2 => by simp at h2; omega, fun _ => ⟨hlp, fun ⟨h1, h2⟩ => by rw [if_neg h1], fun ⟨h1, h2⟩ => by rw [if_neg h1], fun ⟨h1, h2⟩ => by rw [if_pos h1, h2]; rfl, fun ⟨h1, h2⟩ => ⟨(parS [] s).o.map Step.av, rows_cel_take _, by rw [if_pos h1, stT_ne h2]; rfl⟩⟩⟩

theorem q_loop (s : Str) (alts : List Alt) (hl : s.length ≤ 65536)
    (hret : ∀ o e frm, frm ≤ s.length → parS [] s = ⟨o, e, s.drop frm⟩ → e ≠ 0 → 10 ∈ s.drop frm → Out alts .ret [.nil, .int .i64 o.length, .int .i64 e, .str s, stV o, .int .i64 (frm : Nat)] (stB o))
    (hex : ∀ o frm, frm ≤ s.length → parS o (s.drop frm) = parS [] s → (∀ x ∈ s.drop frm, x ≠ 10) → Out alts (.exit 0) [.undef, .undef, .undef, .str s, stV o, .int .i64 (frm : Nat)] (stB o)) :
    LoopOk Tryd.prog gls 61 (lcode Tryd.prog 15 7) [0, 5, 6, 7] [.str s, .nil, .int .i64 (0 : Nat), .int .i64 (0 : Nat)] [] [2, 3, 4, 0, 5, 6] alts :=
  Lp1 (r := 6) (kb := [⟨5, [], true⟩]) (kbx := [⟨5, [], true⟩]) (by kernel_rfl) (fun j vs bs => ∃ (o : List Step) (frm i : Nat), j = s.length - i ∧ i ≤ s.length ∧ frm ≤ i ∧ o.length ≤ 64 ∧ (∀ x ∈ (s.take i).drop frm, x ≠ 10) ∧ parS o (s.drop frm) = parS [] s ∧ vs = [.str s, stV o, .int .i64 frm, .int .i64 i] ∧ bs = stB o)
    (fun j vs bs ⟨o, frm, i, hj, hi, hf, ho, hno, hp, hv, hb⟩ => by
      subst hv; subst hb
      rcases Nat.lt_or_ge i s.length with hlt | hge
      · obtain ⟨c, hc⟩ := some_of_lt hlt
        have hout : ∀ q : Prop, (decide ((i : Int) < (s.length : Int)) = false → q) := fun q h => by simp at h; omega
        have hget : (0 : Int) ≤ (i : Int) ∧ s[((i : Int)).toNat]? = some c := ⟨by omega, str_get hc⟩
        by_cases h10 : c = 10
        · subst h10
          have hbyte : ∀ q : Prop, ((((UInt8.toNat 10 : Nat) : Int) != 10) = true → q) := fun q h => by simp at h
          have hsp := drop_split hc hf
          have hne : s.drop frm ≠ [] := by rw [hsp]; simp
          have hmem : 10 ∈ s.drop frm := by rw [hsp]; simp
          have hcut : cutS 10 (s.drop frm) = some ((s.take i).drop frm, s.drop (i + 1)) := by
            rw [hsp]; exact cutS_at 10 _ _ hno
          have hline := ln_ok ((s.take i).drop frm) (by rw [List.length_drop, List.length_take]; omega)
          have hb3 : (0 : Int) ≤ (frm : Int) ∧ (frm : Int) ≤ (i : Int) ∧ (i : Int) ≤ (s.length : Int) := by omega
          by_cases h64 : o.length = 64
          · have hr := hret o 2 frm (by omega) (by rw [← hp, parS_64 hne h64]) (by omega) hmem
            cases o with
            | nil => simp at h64
            | cons a t => exact WR1 (qB0_f (a :: t) s frm i 10 0 [] 0 _ _) ⟨fun _ => ⟨hget, hbyte _, fun _ => ⟨fun _ => ⟨allImm_cel _, hr⟩, fun h => by simp at h h64; omega⟩⟩, hout _⟩
          · generalize hL : (s.take i).drop frm = l at *
            have hL' : List.drop ((frm : Int)).toNat (List.take ((i : Int)).toNat s) = l := by rw [← hL]; rfl
            have bad : linE l ≠ 0 → Out alts .ret [.nil, .int .i64 o.length, .int .i64 (linE l), .str s, stV o, .int .i64 (frm : Nat)] (stB o) := fun h => hret o (linE l) frm (by omega) (by rw [← hp, parS_bad hne h64 hcut h]) h hmem
            have good : linE l = 0 → ∃ j', j' < j ∧ ∃ (o' : List Step) (frm' i' : Nat), j' = s.length - i' ∧ i' ≤ s.length ∧ frm' ≤ i' ∧ o'.length ≤ 64 ∧ (∀ x ∈ (s.take i').drop frm', x ≠ 10) ∧ parS o' (s.drop frm') = parS [] s ∧ [.str s, .bs 0 0 4 0 (o.length + 1), .int .i64 (IntKind.wrap .i64 ((i : Int) + 1)), .int .i64 (IntKind.wrap .i64 ((i : Int) + 1))] = [.str s, stV o', .int .i64 frm', .int .i64 i'] ∧ [((0 : Nat), celS (o ++ [linX l]))] = stB o' := fun h =>
              ⟨s.length - (i + 1), by omega, o ++ [linX l], i + 1, i + 1, rfl, by omega, by omega, by simp; omega, by simp, by rw [← hp, parS_go hne h64 hcut h], by rw [stV_ne (by simp), i64_in _ (by omega)]; simp, (stB_ne (by simp)).symm⟩
            rcases hline with ⟨hne', a, b, hpu⟩ | hpu
            · cases o with
              | nil => exact WR1 (qA0_f s frm i 10 a b (linE l) _ _) ⟨fun _ => ⟨hget, hbyte _, fun _ => ⟨fun h => (by cases h), fun _ => ⟨hb3, hL' ▸ hpu, fun _ => bad hne', fun h => by simp [hne'] at h⟩⟩⟩, hout _⟩
              | cons x t => exact WR1 (qB0_f (x :: t) s frm i 10 a b (linE l) _ _) ⟨fun _ => ⟨hget, hbyte _, fun _ => ⟨fun h => by simp only [beq_iff_eq] at h; omega, fun _ => ⟨hb3, hL' ▸ hpu, fun _ => ⟨allImm_cel _, bad hne'⟩, fun h => by simp [hne'] at h⟩⟩⟩, hout _⟩
            · cases o with
              | nil => exact WR1 (qA1_f s frm i 10 (linX l) (linE l) _ _) ⟨fun _ => ⟨hget, hbyte _, fun _ => ⟨fun h => (by cases h), fun _ => ⟨hb3, hL' ▸ hpu, fun h => bad (by simpa using h), fun h => ⟨push_a _, allImm_cel [linX l], good (by simpa using h)⟩⟩⟩⟩, hout _⟩
              | cons x t => exact WR1 (qB1_f (x :: t) s frm i 10 (linX l) (linE l) _ _) ⟨fun _ => ⟨hget, hbyte _, fun _ => ⟨fun h => by simp only [beq_iff_eq] at h; omega, fun _ => ⟨hb3, hL' ▸ hpu, fun h => ⟨allImm_cel _, bad (by simpa using h)⟩, fun h => ⟨push_b _ _ ho, allImm_cel _, good (by simpa using h)⟩⟩⟩⟩, hout _⟩
        · have hbyte : ∀ q : Prop, ((((UInt8.toNat c : Nat) : Int) != 10) = false → q) := fun q h => by
            have h : (c.toNat : Int) = 10 := by simpa using h
            exact absurd (UInt8.toNat_inj.1 (show c.toNat = 10 by omega)) h10
          have stay : ∃ j', j' < j ∧ ∃ (o' : List Step) (frm' i' : Nat), j' = s.length - i' ∧ i' ≤ s.length ∧ frm' ≤ i' ∧ o'.length ≤ 64 ∧ (∀ x ∈ (s.take i').drop frm', x ≠ 10) ∧ parS o' (s.drop frm') = parS [] s ∧ [.str s, stV o, .int .i64 frm, .int .i64 (IntKind.wrap .i64 ((i : Int) + 1))] = [.str s, stV o', .int .i64 frm', .int .i64 i'] ∧ stB o = stB o' :=
            ⟨s.length - (i + 1), by omega, o, frm, i + 1, rfl, by omega, by omega, ho, drop_take_no hno hc h10 hf, hp, by rw [i64_in _ (by omega)]; rfl, rfl⟩
          cases o with
          | nil => exact WR1 (qA0_f s frm i c 0 [] 0 _ _) ⟨fun _ => ⟨hget, fun _ => stay, hbyte _⟩, hout _⟩
          | cons a t => exact WR1 (qB0_f (a :: t) s frm i c 0 [] 0 _ _) ⟨fun _ => ⟨hget, fun _ => ⟨allImm_cel _, stay⟩, hbyte _⟩, hout _⟩
      · have hin : ∀ q : Prop, (decide ((i : Int) < (s.length : Int)) = true → q) := fun q h => by simp at h; omega
        rw [List.take_of_length_le hge] at hno
        have := hex o frm (by omega) hp hno
        cases o with
        | nil => exact WR1 (qA0_f s frm i 0 0 [] 0 _ _) ⟨hin _, fun _ => this⟩
        | cons a t => exact WR1 (qB0_f (a :: t) s frm i 0 0 [] 0 _ _) ⟨hin _, fun _ => ⟨allImm_cel _, this⟩⟩) (j := s.length) ⟨[], 0, 0, by omega, by omega, by omega, by simp, by simp, by simp, rfl, rfl⟩

theorem parseR_ok (s : Str) (hs : s.length ≤ 9223372036854775807) : Pu Tryd.prog gls 15 [.str s] (parR s) := by
  unfold parR
  by_cases h : 65536 < s.length
  · rw [if_pos h]
    exact PuT (q_f s [] 0 0 true _) ⟨fun _ => rfl, fun h2 => by simp at h2; omega⟩
  · rw [if_neg h]
    generalize hP : parS [] s = P
    obtain ⟨o, e, r⟩ := P
    have hnot : ∀ q : Prop, (decide ((65536 : Int) < (s.length : Int)) = true → q) := fun q h2 => by simp at h2; omega
    have drop_inj : ∀ frm frm', frm ≤ s.length → frm' ≤ s.length → s.drop frm = s.drop frm' → frm = frm' := fun a b h1 h2 h3 => by
      have := congrArg List.length h3
      simp only [List.length_drop] at this; omega
    have hfin := parS_fin s.length [] s (Nat.le_refl _)
    rw [hP] at hfin
    simp only at hfin
    by_cases hm : 10 ∈ r
    · have hlp : ∀ frm, frm = s.length - r.length → LoopOk Tryd.prog gls 61 (lcode Tryd.prog 15 7) [0, 5, 6, 7] [.str s, .nil, .int .i64 (0 : Nat), .int .i64 (0 : Nat)] [] [2, 3, 4, 0, 5, 6] [⟨true = true ∧ o = [], .ret, [.nil, .int .i64 o.length, .int .i64 e, .str s, .nil, .int .i64 (frm : Nat)], []⟩, ⟨true = true ∧ o ≠ [], .ret, [.nil, .int .i64 o.length, .int .i64 e, .str s, .bs 0 0 4 0 o.length, .int .i64 (frm : Nat)], [(0, celS o)]⟩, ⟨true = false ∧ o = [], .exit 0, [.undef, .undef, .undef, .str s, .nil, .int .i64 (frm : Nat)], []⟩, ⟨true = false ∧ o ≠ [], .exit 0, [.undef, .undef, .undef, .str s, .bs 0 0 4 0 o.length, .int .i64 (frm : Nat)], [(0, celS o)]⟩] ∧ e ≠ 0 := fun frm hfrm => by
        have he : e ≠ 0 := fun e0 => by rw [hfin.1.1 e0] at hm; simp at hm
        refine ⟨q_loop s _ (by omega) (fun o' e' frm' hf' hp' he' hm' => ?_) (fun o' frm' hf' hp' hno' => ?_), he⟩
        · rw [hP] at hp'; cases hp'
          have : frm = frm' := by rw [hfrm, List.length_drop]; omega
          subst this
          cases o with
          | nil => exact Out.here ⟨rfl, rfl⟩
          | cons a t => exact Out.next (Out.here ⟨rfl, by simp⟩)
        · rw [hP, parS_end hno'] at hp'
          cases hp'
          exact absurd rfl (hno' 10 hm)
      obtain ⟨h1, he⟩ := hlp _ rfl
      rw [if_neg he]
      exact PuT (q_f s o e (s.length - r.length) true _) ⟨hnot _, fun _ => ⟨h1, fun _ => rfl, fun _ => rfl, fun h => by simp at h, fun h => by simp at h⟩⟩
    · have hno : ∀ x ∈ r, x ≠ 10 := fun x hx h => hm (h ▸ hx)
      have he := hfin.2 hno
      have hlp : ∀ frm, frm = s.length - r.length → LoopOk Tryd.prog gls 61 (lcode Tryd.prog 15 7) [0, 5, 6, 7] [.str s, .nil, .int .i64 (0 : Nat), .int .i64 (0 : Nat)] [] [2, 3, 4, 0, 5, 6] [⟨false = true ∧ o = [], .ret, [.nil, .int .i64 o.length, .int .i64 e, .str s, .nil, .int .i64 (frm : Nat)], []⟩, ⟨false = true ∧ o ≠ [], .ret, [.nil, .int .i64 o.length, .int .i64 e, .str s, .bs 0 0 4 0 o.length, .int .i64 (frm : Nat)], [(0, celS o)]⟩, ⟨false = false ∧ o = [], .exit 0, [.undef, .undef, .undef, .str s, .nil, .int .i64 (frm : Nat)], []⟩, ⟨false = false ∧ o ≠ [], .exit 0, [.undef, .undef, .undef, .str s, .bs 0 0 4 0 o.length, .int .i64 (frm : Nat)], [(0, celS o)]⟩] := fun frm hfrm => by
        refine q_loop s _ (by omega) (fun o' e' frm' hf' hp' he' hm' => ?_) (fun o' frm' hf' hp' hno' => ?_)
        · rw [hP] at hp'; cases hp'
          exact absurd hm' hm
        · rw [hP, parS_end hno'] at hp'
          cases hp'
          have : frm = frm' := by rw [hfrm, List.length_drop]; omega
          subst this
          cases o with
          | nil => exact Out.next (Out.next (Out.here ⟨rfl, rfl⟩))
          | cons a t => exact Out.next (Out.next (Out.next (Out.here ⟨rfl, by simp⟩)))
      have hrl : r.length ≤ s.length := parS_rle hP
      have hfr : (((s.length - r.length : Nat) : Int) < (s.length : Int)) ↔ r ≠ [] := by
        rw [← List.length_pos_iff]; omega
      by_cases hr : r = []
      · rw [if_pos hr] at he
        rw [if_pos he]
        have hfr' : ¬ (((s.length - r.length : Nat) : Int) < (s.length : Int)) := fun h => hfr.1 h hr
        refine PuT (q_f s o e (s.length - r.length) false _) ⟨hnot _, fun _ => ⟨hlp _ rfl, fun h => by simp at h, fun h => by simp at h, fun ⟨_, h⟩ => ⟨fun h2 => absurd (by simpa using h2) hfr', fun _ => by rw [h]; rfl⟩, fun ⟨_, h⟩ => ⟨fun h2 => absurd (by simpa using h2) hfr', fun _ => ⟨o.map Step.av, rows_cel_take _, by rw [stT_ne h]; rfl⟩⟩⟩⟩
      · have hfr' := hfr.2 hr
        rw [if_neg hr] at he
        have he0 : e ≠ 0 := by rw [he]; split <;> omega
        rw [if_neg he0]
        refine PuT (q_f s o e (s.length - r.length) false _) ⟨hnot _, fun _ => ⟨hlp _ rfl, fun h => by simp at h, fun h => by simp at h, fun ⟨_, h⟩ => ⟨fun _ => ⟨fun h3 => (by cases h3), fun _ => (by subst h; rw [he]; rfl)⟩, fun h2 => absurd hfr' (by simpa using h2)⟩, fun ⟨_, h⟩ => ⟨fun _ => ⟨fun h3 => ?_, fun h3 => ?_⟩, fun h2 => absurd hfr' (by simpa using h2)⟩⟩⟩
        · have h3 : o.length = 64 := by simp only [beq_iff_eq] at h3; omega
          rw [he, if_pos h3]
        · have h3 : o.length ≠ 64 := fun e => by rw [e] at h3; simp at h3
          rw [he, if_neg h3]

end Go.Proofs.YtcphiogbjdehhaaDoor
