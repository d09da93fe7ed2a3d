/- Walks: names and Validate. -/
import Derived.Test.YtcphiogbjdehhaaDoorD1
import Derived.Test.YtcphiogbjdehhaaDoorS2
namespace Go.Proofs.YtcphiogbjdehhaaDoor
open Go HX Go.IntWalk
set_option maxRecDepth 1000000
variable [ML]
set_option linter.unusedSectionVars false

theorem spanF_f (s : Str) (r : AV) : (LoopOk Tryd.prog gls (21 : Nat) (lcode Tryd.prog (37 : Nat) (3 : Nat)) [(0 : Nat), (1 : Nat), (5 : Nat)]
    [AV.str s, AV.fn (38 : Nat) [], AV.int IntKind.i64 (0 : Int)] [] [(5 : Nat)]
    [{ φ := True, ex := Exit.exit (0 : Nat), vs := [AV.int IntKind.i64 (↑(spanN s) : Int)], bs := [] }] ∧
  (True → some (AV.int IntKind.i64 (↑(spanN s) : Int)) = some r)) = W 37 [(9, .split), (3000003, .l [0, 1, 5] [] [5] [] [⟨True, .exit 0, [.int .i64 (spanN s)], []⟩])] [.str s, .fn 38 []] r := by kernel_rfl

theorem isName_f (s : Str) (r : AV) : (((!s == []) = true →
    (decide ((↑(List.length s) : Int) ≤ (16 : Int)) = true →
        ((0 : Int) ≤ (0 : Int) ∧ s[(0 : Nat)]? = some (List.headD s (0 : UInt8))) ∧
          Pu Tryd.prog gls (36 : Nat) [AV.int IntKind.i32 (IntKind.wrap IntKind.i32 (↑(UInt8.toNat (List.headD s (0 : UInt8))) : Int))]
              (AV.bool (letterB (u8i (List.headD s (0 : UInt8))))) ∧
            (letterB (u8i (List.headD s (0 : UInt8))) = true →
                Pu Tryd.prog gls (37 : Nat) [AV.str s, AV.fn (38 : Nat) []] (AV.int IntKind.i64 (↑(spanN s) : Int)) ∧
                  (((↑(spanN s) : Int) == (↑(List.length s) : Int)) = true →
                      Pu Tryd.prog gls (39 : Nat) [AV.str s] (AV.bool (List.contains words s)) ∧ some (AV.bool !List.contains words s) = some r) ∧
                    (((↑(spanN s) : Int) == (↑(List.length s) : Int)) = false → some (AV.bool false) = some r)) ∧
              (letterB (u8i (List.headD s (0 : UInt8))) = false → some (AV.bool false) = some r)) ∧
      (decide ((↑(List.length s) : Int) ≤ (16 : Int)) = false → some (AV.bool false) = some r)) ∧
  ((!s == []) = false → some (AV.bool false) = some r)) = W 21 [(4, .split), (8, .split), (21, .split), (12, .u (s.headD 0)), (14, .cs (letterB (u8i (s.headD 0)))), (18, .c (.int .i64 (spanN s))), (25, .c (.bool (words.contains s)))] [.str s] r := by kernel_rfl

theorem index_f (l : List Str) (s : Str) (i : Nat) (x : Str) (alts : List Alt) (N : List AV → List Bx → Prop) : ((decide ((↑i : Int) < (↑(List.length l) : Int)) = true →
    ((0 : Int) ≤ (↑i : Int) ∧ (List.map sAV l)[Int.toNat (↑i : Int)]? = some (AV.agg [AV.str x])) ∧
      ((s == x) = true → Out alts Exit.ret [AV.int IntKind.i64 (↑i : Int)] []) ∧
        ((s == x) = false →
          N
            [AV.sl (1 : Nat) (List.map sAV l), AV.str s, AV.int IntKind.i64 (↑(List.length l) : Int),
              AV.int IntKind.i64 (IntKind.wrap IntKind.i64 ((↑i : Int) + (1 : Int)))]
            [])) ∧
  (decide ((↑i : Int) < (↑(List.length l) : Int)) = false → Out alts (Exit.exit (0 : Nat)) [AV.undef] [])) = WR 62 2 19 [(9, .split), (16, .split), (14, .e (sAV x))] [0, 1, 7, 8] [] [4] [] alts [strsAV l, .str s, .int .i64 l.length, .int .i64 i] [] N := by kernel_rfl

theorem indexF_f (l : List Str) (s : Str) (r : AV) : (LoopOk Tryd.prog gls (19 : Nat) (lcode Tryd.prog (62 : Nat) (3 : Nat)) [(0 : Nat), (1 : Nat), (7 : Nat), (8 : Nat)]
    [AV.sl (1 : Nat) (List.map sAV l), AV.str s, AV.int IntKind.i64 (↑(List.length (List.map sAV l)) : Int), AV.int IntKind.i64 (0 : Int)] []
    [(4 : Nat)]
    [{ φ := List.contains l s = true, ex := Exit.ret, vs := [AV.int IntKind.i64 (↑(List.idxOf s l) : Int)], bs := [] },
      { φ := List.contains l s = false, ex := Exit.exit (0 : Nat), vs := [AV.undef], bs := [] }] ∧
  (List.contains l s = true → some (AV.int IntKind.i64 (↑(List.idxOf s l) : Int)) = some r) ∧
    (List.contains l s = false → some (AV.int IntKind.i64 (-1 : Int)) = some r)) = W 62 [(9, .split), (16, .split), (3000003, .l [0, 1, 7, 8] [] [4] [] [⟨l.contains s = true, .ret, [.int .i64 (l.idxOf s)], []⟩, ⟨l.contains s = false, .exit 0, [.undef], []⟩])] [strsAV l, .str s] r := by kernel_rfl

theorem contains_f (l : List Str) (s : Str) (r : AV) : (Pu Tryd.prog gls (62 : Nat) [AV.sl (1 : Nat) (List.map sAV l), AV.str s]
    (AV.int IntKind.i64 (if List.contains l s = true then (↑(List.idxOf s l) : Int) else (-1 : Int))) ∧
  (decide ((0 : Int) ≤ if List.contains l s = true then (↑(List.idxOf s l) : Int) else (-1 : Int)) = true → some (AV.bool true) = some r) ∧
    (decide ((0 : Int) ≤ if List.contains l s = true then (↑(List.idxOf s l) : Int) else (-1 : Int)) = false → some (AV.bool false) = some r)) = W 54 [(8, .split), (7, .c (.int .i64 (if l.contains s then (l.idxOf s : Int) else -1)))] [strsAV l, .str s] r := by kernel_rfl

theorem kwd_f (s : Str) (r : AV) : (Pu Tryd.prog gls (55 : Nat) []
    (AV.sl (1 : Nat)
      [AV.agg [AV.str [(115 : UInt8), (105 : UInt8), (122 : UInt8), (101 : UInt8)]],
        AV.agg [AV.str [(119 : UInt8), (104 : UInt8), (101 : UInt8), (114 : UInt8), (101 : UInt8)]], AV.agg [AV.str [(105 : UInt8), (110 : UInt8)]],
        AV.agg [AV.str [(100 : UInt8), (101 : UInt8), (102 : UInt8)]], AV.agg [AV.str [(111 : UInt8), (117 : UInt8), (116 : UInt8)]],
        AV.agg [AV.str [(115 : UInt8), (117 : UInt8), (109 : UInt8)]], AV.agg [AV.str [(112 : UInt8), (114 : UInt8), (111 : UInt8), (100 : UInt8)]],
        AV.agg [AV.str [(109 : UInt8), (105 : UInt8), (110 : UInt8)]], AV.agg [AV.str [(109 : UInt8), (97 : UInt8), (120 : UInt8)]],
        AV.agg [AV.str [(115 : UInt8), (99 : UInt8), (97 : UInt8), (110 : UInt8)]],
        AV.agg [AV.str [(111 : UInt8), (118 : UInt8), (101 : UInt8), (114 : UInt8)]], AV.agg [AV.str [(105 : UInt8), (102 : UInt8)]],
        AV.agg [AV.str [(99 : UInt8), (97 : UInt8), (115 : UInt8), (116 : UInt8)]],
        AV.agg [AV.str [(102 : UInt8), (114 : UInt8), (97 : UInt8), (99 : UInt8)]], AV.agg [AV.str [(105 : UInt8), (110 : UInt8), (116 : UInt8)]],
        AV.agg [AV.str [(102 : UInt8), (105 : UInt8), (120 : UInt8)]], AV.agg [AV.str [(99 : UInt8), (101 : UInt8), (105 : UInt8), (108 : UInt8)]],
        AV.agg [AV.str [(102 : UInt8), (108 : UInt8), (111 : UInt8), (111 : UInt8), (114 : UInt8)]],
        AV.agg [AV.str [(122 : UInt8), (101 : UInt8), (114 : UInt8), (111 : UInt8)]],
        AV.agg [AV.str [(101 : UInt8), (118 : UInt8), (101 : UInt8), (110 : UInt8)]], AV.agg [AV.str [(115 : UInt8), (97 : UInt8), (116 : UInt8)]],
        AV.agg [AV.str [(119 : UInt8), (114 : UInt8), (97 : UInt8), (112 : UInt8)]]]) ∧
  Pu Tryd.prog gls (54 : Nat)
      [AV.sl (1 : Nat)
          [AV.agg [AV.str [(115 : UInt8), (105 : UInt8), (122 : UInt8), (101 : UInt8)]],
            AV.agg [AV.str [(119 : UInt8), (104 : UInt8), (101 : UInt8), (114 : UInt8), (101 : UInt8)]],
            AV.agg [AV.str [(105 : UInt8), (110 : UInt8)]], AV.agg [AV.str [(100 : UInt8), (101 : UInt8), (102 : UInt8)]],
            AV.agg [AV.str [(111 : UInt8), (117 : UInt8), (116 : UInt8)]], AV.agg [AV.str [(115 : UInt8), (117 : UInt8), (109 : UInt8)]],
            AV.agg [AV.str [(112 : UInt8), (114 : UInt8), (111 : UInt8), (100 : UInt8)]],
            AV.agg [AV.str [(109 : UInt8), (105 : UInt8), (110 : UInt8)]], AV.agg [AV.str [(109 : UInt8), (97 : UInt8), (120 : UInt8)]],
            AV.agg [AV.str [(115 : UInt8), (99 : UInt8), (97 : UInt8), (110 : UInt8)]],
            AV.agg [AV.str [(111 : UInt8), (118 : UInt8), (101 : UInt8), (114 : UInt8)]], AV.agg [AV.str [(105 : UInt8), (102 : UInt8)]],
            AV.agg [AV.str [(99 : UInt8), (97 : UInt8), (115 : UInt8), (116 : UInt8)]],
            AV.agg [AV.str [(102 : UInt8), (114 : UInt8), (97 : UInt8), (99 : UInt8)]], AV.agg [AV.str [(105 : UInt8), (110 : UInt8), (116 : UInt8)]],
            AV.agg [AV.str [(102 : UInt8), (105 : UInt8), (120 : UInt8)]],
            AV.agg [AV.str [(99 : UInt8), (101 : UInt8), (105 : UInt8), (108 : UInt8)]],
            AV.agg [AV.str [(102 : UInt8), (108 : UInt8), (111 : UInt8), (111 : UInt8), (114 : UInt8)]],
            AV.agg [AV.str [(122 : UInt8), (101 : UInt8), (114 : UInt8), (111 : UInt8)]],
            AV.agg [AV.str [(101 : UInt8), (118 : UInt8), (101 : UInt8), (110 : UInt8)]],
            AV.agg [AV.str [(115 : UInt8), (97 : UInt8), (116 : UInt8)]],
            AV.agg [AV.str [(119 : UInt8), (114 : UInt8), (97 : UInt8), (112 : UInt8)]]],
        AV.str s]
      (AV.bool (List.contains words s)) ∧
    some (AV.bool (List.contains words s)) = some r) = W 39 [(3, .c (strsAV words)), (5, .c (.bool (words.contains s)))] [.str s] r := by kernel_rfl

theorem vld1_f (s : Str) (r : AV) : (Pu Tryd.prog gls (21 : Nat) [AV.str s] (AV.bool (isName s)) ∧ some (AV.bool !isName s) = some r) = W 23 [(4, .c (.bool (isName s)))] [.str s] r := by kernel_rfl

theorem ixf_f (l : List Str) (i : Nat) (x : Str) (alts : List Alt) (N : List AV → List Bx → Prop) : ((decide ((↑i : Int) < (↑(List.length l) : Int)) = true →
    ((0 : Int) ≤ (↑i : Int) ∧ (List.map sAV l)[Int.toNat (↑i : Int)]? = some (AV.agg [AV.str x])) ∧
      Pu Tryd.prog gls (23 : Nat) [AV.str x] (AV.bool !isName x) ∧
        ((!isName x) = true → Out alts Exit.ret [AV.int IntKind.i64 (↑i : Int)] []) ∧
          ((!isName x) = false →
            N
              [AV.sl (1 : Nat) (List.map sAV l), AV.fn (23 : Nat) [], AV.int IntKind.i64 (↑(List.length l) : Int),
                AV.int IntKind.i64 (IntKind.wrap IntKind.i64 ((↑i : Int) + (1 : Int)))]
              [])) ∧
  (decide ((↑i : Int) < (↑(List.length l) : Int)) = false → Out alts (Exit.exit (0 : Nat)) [AV.undef] [])) = WR 40 2 19 [(9, .split), (14, .e (sAV x)), (16, .cs (!isName x))] [0, 1, 7, 8] [] [4] [] alts [strsAV l, .fn 23 [], .int .i64 l.length, .int .i64 i] [] N := by kernel_rfl

theorem ixfF_f (l : List Str) (r : AV) : (LoopOk Tryd.prog gls (19 : Nat) (lcode Tryd.prog (40 : Nat) (3 : Nat)) [(0 : Nat), (1 : Nat), (7 : Nat), (8 : Nat)]
    [AV.sl (1 : Nat) (List.map sAV l), AV.fn (23 : Nat) [], AV.int IntKind.i64 (↑(List.length (List.map sAV l)) : Int), AV.int IntKind.i64 (0 : Int)]
    [] [(4 : Nat)]
    [{ φ := List.all l isName = false, ex := Exit.ret, vs := [AV.int IntKind.i64 (↑(List.findIdx (fun x => !isName x) l) : Int)], bs := [] },
      { φ := List.all l isName = true, ex := Exit.exit (0 : Nat), vs := [AV.undef], bs := [] }] ∧
  (List.all l isName = false → some (AV.int IntKind.i64 (↑(List.findIdx (fun x => !isName x) l) : Int)) = some r) ∧
    (List.all l isName = true → some (AV.int IntKind.i64 (-1 : Int)) = some r)) = W 40 [(9, .split), (3000003, .l [0, 1, 7, 8] [] [4] [] [⟨l.all isName = false, .ret, [.int .i64 (l.findIdx (fun x => !isName x))], []⟩, ⟨l.all isName = true, .exit 0, [.undef], []⟩])] [strsAV l, .fn 23 []] r := by kernel_rfl

theorem cf_f (l : List Str) (r : AV) : (Pu Tryd.prog gls (40 : Nat) [AV.sl (1 : Nat) (List.map sAV l), AV.fn (23 : Nat) []]
    (AV.int IntKind.i64 (if List.all l isName = true then (-1 : Int) else (↑(List.findIdx (fun x => !isName x) l) : Int))) ∧
  (decide ((0 : Int) ≤ if List.all l isName = true then (-1 : Int) else (↑(List.findIdx (fun x => !isName x) l) : Int)) = true →
      some (AV.bool true) = some r) ∧
    (decide ((0 : Int) ≤ if List.all l isName = true then (-1 : Int) else (↑(List.findIdx (fun x => !isName x) l) : Int)) = false →
      some (AV.bool false) = some r)) = W 22 [(8, .split), (7, .c (.int .i64 (if l.all isName then -1 else (l.findIdx (fun x => !isName x) : Int))))] [strsAV l, .fn 23 []] r := by kernel_rfl

theorem vld_f (s : Step) (r : AV) : (Pu Tryd.prog gls (18 : Nat) [AV.int IntKind.i64 (Step.op s)] (AV.str (kwB (Step.op s))) ∧
  ((kwB (Step.op s) == []) = true → some (AV.int IntKind.i64 (26 : Int)) = some r) ∧
    ((kwB (Step.op s) == []) = false →
      Pu Tryd.prog gls (19 : Nat) [AV.int IntKind.i64 (Step.op s)] (AV.int IntKind.i64 (nmZ (Step.op s))) ∧
        (((↑(List.length (List.map sAV (Step.names s))) : Int) != nmZ (Step.op s)) = true → some (AV.int IntKind.i64 (26 : Int)) = some r) ∧
          (((↑(List.length (List.map sAV (Step.names s))) : Int) != nmZ (Step.op s)) = false →
            Pu Tryd.prog gls (20 : Nat) [AV.int IntKind.i64 (Step.op s)] (AV.bool (cntB (Step.op s))) ∧
              (cntB (Step.op s) = true →
                  Pu Tryd.prog gls (21 : Nat) [AV.str (Step.loop s)] (AV.bool (isName (Step.loop s))) ∧
                    (isName (Step.loop s) = true →
                        Pu Tryd.prog gls (22 : Nat) [AV.sl (1 : Nat) (List.map sAV (Step.names s)), AV.fn (23 : Nat) []]
                            (AV.bool !List.all (Step.names s) isName) ∧
                          ((!List.all (Step.names s) isName) = true → some (AV.int IntKind.i64 (7 : Int)) = some r) ∧
                            ((!List.all (Step.names s) isName) = false → some (AV.int IntKind.i64 (0 : Int)) = some r)) ∧
                      (isName (Step.loop s) = false → some (AV.int IntKind.i64 (7 : Int)) = some r)) ∧
                (cntB (Step.op s) = false →
                  ((Step.by_ s != (0 : Int)) = true → some (AV.int IntKind.i64 (26 : Int)) = some r) ∧
                    ((Step.by_ s != (0 : Int)) = false →
                      Pu Tryd.prog gls (21 : Nat) [AV.str (Step.loop s)] (AV.bool (isName (Step.loop s))) ∧
                        (isName (Step.loop s) = true →
                            Pu Tryd.prog gls (22 : Nat) [AV.sl (1 : Nat) (List.map sAV (Step.names s)), AV.fn (23 : Nat) []]
                                (AV.bool !List.all (Step.names s) isName) ∧
                              ((!List.all (Step.names s) isName) = true → some (AV.int IntKind.i64 (7 : Int)) = some r) ∧
                                ((!List.all (Step.names s) isName) = false → some (AV.int IntKind.i64 (0 : Int)) = some r)) ∧
                          (isName (Step.loop s) = false → some (AV.int IntKind.i64 (7 : Int)) = some r)))))) = W 8 [(6, .split), (14, .split), (24, .split), (5, .c (.str (kwB s.op))), (13, .c (.int .i64 (nmZ s.op))), (19, .cs (cntB s.op)), (29, .cs (isName s.loop)), (34, .cs (!(s.names.all isName)))] [s.av] r := by kernel_rfl

theorem has_f (l : List Str) (s : Str) (i : Nat) (x : Str) (alts : List Alt) (N : List AV → List Bx → Prop) : ((decide ((↑i : Int) < (↑(List.length (List.map sAV l)) : Int)) = true →
    ((0 : Int) ≤ (↑i : Int) ∧ (List.map sAV l)[Int.toNat (↑i : Int)]? = some (AV.agg [AV.str x])) ∧
      ((x == s) = true → Out alts Exit.ret [AV.bool true] []) ∧
        ((x == s) = false →
          N [AV.sl (1 : Nat) (List.map sAV l), AV.str s, AV.int IntKind.i64 (IntKind.wrap IntKind.i64 ((↑i : Int) + (1 : Int)))] [])) ∧
  (decide ((↑i : Int) < (↑(List.length (List.map sAV l)) : Int)) = false → Out alts (Exit.exit (0 : Nat)) [AV.undef] [])) = WR 41 2 18 [(9, .split), (17, .split), (14, .e (sAV x))] [0, 1, 5] [] [4] [] alts [strsAV l, .str s, .int .i64 i] [] N := by kernel_rfl

theorem hasF_f (l : List Str) (s : Str) (r : AV) : (LoopOk Tryd.prog gls (18 : Nat) (lcode Tryd.prog (41 : Nat) (3 : Nat)) [(0 : Nat), (1 : Nat), (5 : Nat)]
    [AV.sl (1 : Nat) (List.map sAV l), AV.str s, AV.int IntKind.i64 (0 : Int)] [] [(4 : Nat)]
    [{ φ := List.contains l s = true, ex := Exit.ret, vs := [AV.bool true], bs := [] },
      { φ := List.contains l s = false, ex := Exit.exit (0 : Nat), vs := [AV.undef], bs := [] }] ∧
  (List.contains l s = true → some (AV.bool true) = some r) ∧ (List.contains l s = false → some (AV.bool false) = some r)) = W 41 [(9, .split), (17, .split), (3000003, .l [0, 1, 5] [] [4] [] [⟨l.contains s = true, .ret, [.bool true], []⟩, ⟨l.contains s = false, .exit 0, [.undef], []⟩])] [strsAV l, .str s] r := by kernel_rfl

theorem name_f (s : Str) (i : Nat) (c : UInt8) (alts : List Alt) (N : List AV → List Bx → Prop) : ((decide ((↑i : Int) < (↑(List.length s) : Int)) = true →
    ((0 : Int) ≤ (↑i : Int) ∧ s[Int.toNat (↑i : Int)]? = some c) ∧
      (decide ((97 : Int) ≤ (↑(UInt8.toNat c) : Int)) = true →
          (decide ((↑(UInt8.toNat c) : Int) ≤ (122 : Int)) = true →
              N [AV.str s, AV.int IntKind.i64 (IntKind.wrap IntKind.i64 ((↑i : Int) + (1 : Int)))] []) ∧
            (decide ((↑(UInt8.toNat c) : Int) ≤ (122 : Int)) = false →
              (decide ((0 : Int) < (↑i : Int)) = true →
                  (decide ((48 : Int) ≤ (↑(UInt8.toNat c) : Int)) = true →
                      (decide ((↑(UInt8.toNat c) : Int) ≤ (57 : Int)) = true →
                          N [AV.str s, AV.int IntKind.i64 (IntKind.wrap IntKind.i64 ((↑i : Int) + (1 : Int)))] []) ∧
                        (decide ((↑(UInt8.toNat c) : Int) ≤ (57 : Int)) = false →
                          (((↑(UInt8.toNat c) : Int) == (95 : Int)) = true →
                              N [AV.str s, AV.int IntKind.i64 (IntKind.wrap IntKind.i64 ((↑i : Int) + (1 : Int)))] []) ∧
                            (((↑(UInt8.toNat c) : Int) == (95 : Int)) = false → Out alts Exit.ret [AV.bool false] []))) ∧
                    (decide ((48 : Int) ≤ (↑(UInt8.toNat c) : Int)) = false →
                      (((↑(UInt8.toNat c) : Int) == (95 : Int)) = true →
                          N [AV.str s, AV.int IntKind.i64 (IntKind.wrap IntKind.i64 ((↑i : Int) + (1 : Int)))] []) ∧
                        (((↑(UInt8.toNat c) : Int) == (95 : Int)) = false → Out alts Exit.ret [AV.bool false] []))) ∧
                (decide ((0 : Int) < (↑i : Int)) = false → Out alts Exit.ret [AV.bool false] []))) ∧
        (decide ((97 : Int) ≤ (↑(UInt8.toNat c) : Int)) = false →
          (decide ((0 : Int) < (↑i : Int)) = true →
              (decide ((48 : Int) ≤ (↑(UInt8.toNat c) : Int)) = true →
                  (decide ((↑(UInt8.toNat c) : Int) ≤ (57 : Int)) = true →
                      N [AV.str s, AV.int IntKind.i64 (IntKind.wrap IntKind.i64 ((↑i : Int) + (1 : Int)))] []) ∧
                    (decide ((↑(UInt8.toNat c) : Int) ≤ (57 : Int)) = false →
                      (((↑(UInt8.toNat c) : Int) == (95 : Int)) = true →
                          N [AV.str s, AV.int IntKind.i64 (IntKind.wrap IntKind.i64 ((↑i : Int) + (1 : Int)))] []) ∧
                        (((↑(UInt8.toNat c) : Int) == (95 : Int)) = false → Out alts Exit.ret [AV.bool false] []))) ∧
                (decide ((48 : Int) ≤ (↑(UInt8.toNat c) : Int)) = false →
                  (((↑(UInt8.toNat c) : Int) == (95 : Int)) = true →
                      N [AV.str s, AV.int IntKind.i64 (IntKind.wrap IntKind.i64 ((↑i : Int) + (1 : Int)))] []) ∧
                    (((↑(UInt8.toNat c) : Int) == (95 : Int)) = false → Out alts Exit.ret [AV.bool false] []))) ∧
            (decide ((0 : Int) < (↑i : Int)) = false → Out alts Exit.ret [AV.bool false] []))) ∧
  (decide ((↑i : Int) < (↑(List.length s) : Int)) = false → Out alts (Exit.exit (0 : Nat)) [AV.undef] [])) = WR 26 4 50 [(7, .split), (11, .split), (21, .split), (28, .split), (31, .split), (35, .split), (38, .split), (41, .split), (45, .split), (26, .u c)] [0, 3] [] [2] [] alts [.str s, .int .i64 i] [] N := by kernel_rfl

theorem nameF_f (s : Str) (r : AV) : ((decide ((↑(List.length s) : Int) < (1 : Int)) = true → some (AV.bool false) = some r) ∧
  (decide ((↑(List.length s) : Int) < (1 : Int)) = false →
    (decide ((16 : Int) < (↑(List.length s) : Int)) = true → some (AV.bool false) = some r) ∧
      (decide ((16 : Int) < (↑(List.length s) : Int)) = false →
        Pu Tryd.prog gls (42 : Nat) []
            (AV.sl (1 : Nat)
              [AV.agg [AV.str [(115 : UInt8), (105 : UInt8), (122 : UInt8), (101 : UInt8)]],
                AV.agg [AV.str [(119 : UInt8), (104 : UInt8), (101 : UInt8), (114 : UInt8), (101 : UInt8)]],
                AV.agg [AV.str [(105 : UInt8), (110 : UInt8)]], AV.agg [AV.str [(100 : UInt8), (101 : UInt8), (102 : UInt8)]],
                AV.agg [AV.str [(111 : UInt8), (117 : UInt8), (116 : UInt8)]], AV.agg [AV.str [(115 : UInt8), (117 : UInt8), (109 : UInt8)]],
                AV.agg [AV.str [(112 : UInt8), (114 : UInt8), (111 : UInt8), (100 : UInt8)]],
                AV.agg [AV.str [(109 : UInt8), (105 : UInt8), (110 : UInt8)]], AV.agg [AV.str [(109 : UInt8), (97 : UInt8), (120 : UInt8)]],
                AV.agg [AV.str [(115 : UInt8), (99 : UInt8), (97 : UInt8), (110 : UInt8)]],
                AV.agg [AV.str [(111 : UInt8), (118 : UInt8), (101 : UInt8), (114 : UInt8)]], AV.agg [AV.str [(105 : UInt8), (102 : UInt8)]],
                AV.agg [AV.str [(99 : UInt8), (97 : UInt8), (115 : UInt8), (116 : UInt8)]],
                AV.agg [AV.str [(102 : UInt8), (114 : UInt8), (97 : UInt8), (99 : UInt8)]],
                AV.agg [AV.str [(105 : UInt8), (110 : UInt8), (116 : UInt8)]], AV.agg [AV.str [(102 : UInt8), (105 : UInt8), (120 : UInt8)]],
                AV.agg [AV.str [(99 : UInt8), (101 : UInt8), (105 : UInt8), (108 : UInt8)]],
                AV.agg [AV.str [(102 : UInt8), (108 : UInt8), (111 : UInt8), (111 : UInt8), (114 : UInt8)]],
                AV.agg [AV.str [(122 : UInt8), (101 : UInt8), (114 : UInt8), (111 : UInt8)]],
                AV.agg [AV.str [(101 : UInt8), (118 : UInt8), (101 : UInt8), (110 : UInt8)]],
                AV.agg [AV.str [(115 : UInt8), (97 : UInt8), (116 : UInt8)]],
                AV.agg [AV.str [(119 : UInt8), (114 : UInt8), (97 : UInt8), (112 : UInt8)]]]) ∧
          Pu Tryd.prog gls (41 : Nat)
              [AV.sl (1 : Nat)
                  [AV.agg [AV.str [(115 : UInt8), (105 : UInt8), (122 : UInt8), (101 : UInt8)]],
                    AV.agg [AV.str [(119 : UInt8), (104 : UInt8), (101 : UInt8), (114 : UInt8), (101 : UInt8)]],
                    AV.agg [AV.str [(105 : UInt8), (110 : UInt8)]], AV.agg [AV.str [(100 : UInt8), (101 : UInt8), (102 : UInt8)]],
                    AV.agg [AV.str [(111 : UInt8), (117 : UInt8), (116 : UInt8)]], AV.agg [AV.str [(115 : UInt8), (117 : UInt8), (109 : UInt8)]],
                    AV.agg [AV.str [(112 : UInt8), (114 : UInt8), (111 : UInt8), (100 : UInt8)]],
                    AV.agg [AV.str [(109 : UInt8), (105 : UInt8), (110 : UInt8)]], AV.agg [AV.str [(109 : UInt8), (97 : UInt8), (120 : UInt8)]],
                    AV.agg [AV.str [(115 : UInt8), (99 : UInt8), (97 : UInt8), (110 : UInt8)]],
                    AV.agg [AV.str [(111 : UInt8), (118 : UInt8), (101 : UInt8), (114 : UInt8)]], AV.agg [AV.str [(105 : UInt8), (102 : UInt8)]],
                    AV.agg [AV.str [(99 : UInt8), (97 : UInt8), (115 : UInt8), (116 : UInt8)]],
                    AV.agg [AV.str [(102 : UInt8), (114 : UInt8), (97 : UInt8), (99 : UInt8)]],
                    AV.agg [AV.str [(105 : UInt8), (110 : UInt8), (116 : UInt8)]], AV.agg [AV.str [(102 : UInt8), (105 : UInt8), (120 : UInt8)]],
                    AV.agg [AV.str [(99 : UInt8), (101 : UInt8), (105 : UInt8), (108 : UInt8)]],
                    AV.agg [AV.str [(102 : UInt8), (108 : UInt8), (111 : UInt8), (111 : UInt8), (114 : UInt8)]],
                    AV.agg [AV.str [(122 : UInt8), (101 : UInt8), (114 : UInt8), (111 : UInt8)]],
                    AV.agg [AV.str [(101 : UInt8), (118 : UInt8), (101 : UInt8), (110 : UInt8)]],
                    AV.agg [AV.str [(115 : UInt8), (97 : UInt8), (116 : UInt8)]],
                    AV.agg [AV.str [(119 : UInt8), (114 : UInt8), (97 : UInt8), (112 : UInt8)]]],
                AV.str s]
              (AV.bool (List.contains words s)) ∧
            (List.contains words s = true → some (AV.bool false) = some r) ∧
              (List.contains words s = false →
                LoopOk Tryd.prog gls (50 : Nat) (lcode Tryd.prog (26 : Nat) (5 : Nat)) [(0 : Nat), (3 : Nat)] [AV.str s, AV.int IntKind.i64 (0 : Int)]
                    [] [(2 : Nat)]
                    [{ φ := ¬nameUpto s (List.length s), ex := Exit.ret, vs := [AV.bool false], bs := [] },
                      { φ := nameUpto s (List.length s), ex := Exit.exit (0 : Nat), vs := [AV.undef], bs := [] }] ∧
                  (¬nameUpto s (List.length s) → some (AV.bool false) = some r) ∧ (nameUpto s (List.length s) → some (AV.bool true) = some r))))) = W 26 [(7, .split), (11, .split), (21, .split), (28, .split), (31, .split), (35, .split), (38, .split), (41, .split), (45, .split), (14, .c (strsAV words)), (16, .cs (words.contains s)), (3000005, .l [0, 3] [] [2] [] [⟨¬ nameUpto s s.length, .ret, [.bool false], []⟩, ⟨nameUpto s s.length, .exit 0, [.undef], []⟩])] [.str s] r := by kernel_rfl


theorem spanF_ok (s : Str) (hs : s.length ≤ 9223372036854775807) : Pu Tryd.prog gls 37 [.str s, .fn 38 []] (.int .i64 (spanN s)) :=
  Pu1 (spanF_f s _) ⟨span_loop s hs, fun _ => rfl⟩

theorem index_loop (l : List Str) (s : Str) (hl : l.length ≤ 9223372036854775807) : LoopOk Tryd.prog gls 19 (lcode Tryd.prog 62 3) [0, 1, 7, 8] [strsAV l, .str s, .int .i64 l.length, .int .i64 (0 : Nat)] [] [4]
    [⟨l.contains s = true, .ret, [.int .i64 (l.idxOf s)], []⟩, ⟨l.contains s = false, .exit 0, [.undef], []⟩] :=
  Lp1 (r := 2) (kb := []) (kbx := []) (by kernel_rfl) (fun j vs bs => ∃ i : Nat, j = l.length - i ∧ i ≤ l.length ∧ (l.take i).all (fun x => !(x == s)) = true ∧ vs = [strsAV l, .str s, .int .i64 l.length, .int .i64 i] ∧ bs = [])
    (fun j vs bs ⟨i, hj, hi, ht, hv, hb⟩ => by
      subst hv; subst hb
      rcases Nat.lt_or_ge i l.length with hlt | hge
      · obtain ⟨x, hx⟩ := some_of_lt hlt
        refine WR1 (index_f l s i x _ _) ⟨fun _ => ⟨⟨by omega, map_get hx⟩, fun he => ?_, fun he => ?_⟩, fun h => by simp at h; omega⟩
        · have : x = s := by simpa using Eq.symm (by simpa using he)
          subst this
          rw [← idxOf_at ht hx]
          exact Out.here (by simpa using List.mem_of_getElem? hx)
        · rw [i64_in _ (by omega)]
          refine ⟨l.length - (i + 1), by omega, i + 1, rfl, by omega, take_succ_all ht hx ?_, rfl, rfl⟩
          simp at he ⊢; exact fun e => he e.symm
      · refine WR1 (index_f l s i s _ _) ⟨fun h => by simp at h; omega, fun _ => ?_⟩
        refine Out.next (Out.here ?_)
        rw [contains_all, all_of_take ht hge]; rfl) (j := l.length) ⟨0, by omega, by omega, by simp, rfl, rfl⟩

theorem indexF_ok (l : List Str) (s : Str) (hl : l.length ≤ 9223372036854775807) : Pu Tryd.prog gls 62 [strsAV l, .str s] (.int .i64 (if l.contains s then (l.idxOf s : Int) else -1)) :=
  Pu1 (indexF_f l s _) ⟨by have := index_loop l s hl; rw [← List.length_map (f := sAV)] at this; exact this, fun h => by rw [if_pos h], fun h => by rw [if_neg (by rw [h]; simp)]⟩

theorem contains_ok (l : List Str) (s : Str) (hl : l.length ≤ 9223372036854775807) : Pu Tryd.prog gls 54 [strsAV l, .str s] (.bool (l.contains s)) :=
  Pu1 (contains_f l s _) ⟨indexF_ok l s hl, by cases l.contains s <;> simp, by cases l.contains s <;> simp⟩

theorem words_run : runR (xcall Tryd.prog gls gds 20000 20 55 [] .nil 0) = some (strsAV words) := by kernel_rfl
theorem keywords_ok : Pu Tryd.prog gls 55 [] (strsAV words) := Run1 words_run
theorem words2_run : runR (xcall Tryd.prog gls gds 20000 20 42 [] .nil 0) = some (strsAV words) := by kernel_rfl
theorem words_ok : Pu Tryd.prog gls 42 [] (strsAV words) := Run1 words2_run

theorem kwd_ok (s : Str) : Pu Tryd.prog gls 39 [.str s] (.bool (words.contains s)) :=
  Pu1 (kwd_f s _) ⟨keywords_ok, contains_ok words s (by decide), rfl⟩

theorem headD_get {s : Str} (h : s ≠ []) : s[((0 : Int)).toNat]? = some (s.headD 0) := by
  cases s with
  | nil => exact absurd rfl h
  | cons a s => rfl

theorem tw_len {α : Type} (p : α → Bool) : ∀ (l : List α), ((l.takeWhile p).length = l.length) ↔ l.all p = true
  | [] => by simp
  | a :: l => by
    have ih := tw_len p l
    simp only [List.takeWhile_cons, List.all_cons, Bool.and_eq_true, List.length_cons]
    cases h : p a with
    | true => simp [ih]
    | false => simp
theorem all_span {s : Str} : ((spanN s : Int) == (s.length : Int)) = s.all (fun b => wordB (u8i b)) := by
  have h1 : spanN s = s.length ↔ s.all (fun b => wordB (u8i b)) = true := tw_len _ s
  rw [Bool.eq_iff_iff, ← h1]
  simp only [beq_iff_eq]
  omega

theorem isName_ok (s : Str) (hs : s.length ≤ 9223372036854775807) : Pu Tryd.prog gls 21 [.str s] (.bool (isName s)) :=
  Pu1 (isName_f s _) (by
    refine ⟨fun h0 => ⟨fun h1 => ?_, fun h1 => ?_⟩, fun h0 => ?_⟩
    · have hne : s ≠ [] := by simpa using h0
      refine ⟨⟨by omega, headD_get hne⟩, by have := letter_ok (u8i (s.headD 0)); rw [← u8i_wrap] at this; exact u8i_wrap (s.headD 0) ▸ this, fun h2 => ⟨spanF_ok s hs, fun h3 => ⟨kwd_ok s, ?_⟩, fun h3 => ?_⟩, fun h2 => ?_⟩
      · rw [all_span] at h3
        have h0' : s.isEmpty = false := by cases s <;> first | rfl | exact absurd rfl hne
        have : s.length ≤ 16 := by simp at h1; omega
        simp only [isName, h0', h2, h3, this]; simp
      · rw [all_span] at h3
        simp only [isName, h3]; simp
      · simp only [isName, h2]; simp
    · have : ¬ s.length ≤ 16 := by simp at h1; omega
      simp only [isName, this]; simp
    · have : s = [] := by simpa using h0
      subst this; rfl)

theorem vld1_ok (s : Str) (hs : s.length ≤ 9223372036854775807) : Pu Tryd.prog gls 23 [.str s] (.bool (!isName s)) := Pu1 (vld1_f s _) ⟨isName_ok s hs, rfl⟩

/-- No string is too long. -/
def Fit (l : List Str) : Prop := l.length ≤ 9223372036854775807 ∧ ∀ x ∈ l, x.length ≤ 9223372036854775807

theorem ixf_loop (l : List Str) (hl : Fit l) : LoopOk Tryd.prog gls 19 (lcode Tryd.prog 40 3) [0, 1, 7, 8] [strsAV l, .fn 23 [], .int .i64 l.length, .int .i64 (0 : Nat)] [] [4]
    [⟨l.all isName = false, .ret, [.int .i64 (l.findIdx (fun x => !isName x))], []⟩, ⟨l.all isName = true, .exit 0, [.undef], []⟩] :=
  Lp1 (r := 2) (kb := []) (kbx := []) (by kernel_rfl) (fun j vs bs => ∃ i : Nat, j = l.length - i ∧ i ≤ l.length ∧ (l.take i).all isName = true ∧ vs = [strsAV l, .fn 23 [], .int .i64 l.length, .int .i64 i] ∧ bs = [])
    (fun j vs bs ⟨i, hj, hi, ht, hv, hb⟩ => by
      subst hv; subst hb
      have := hl.1
      rcases Nat.lt_or_ge i l.length with hlt | hge
      · obtain ⟨x, hx⟩ := some_of_lt hlt
        refine WR1 (ixf_f l i x _ _) ⟨fun _ => ⟨⟨by omega, map_get hx⟩, vld1_ok x (hl.2 x (List.mem_of_getElem? hx)), fun he => ?_, fun he => ?_⟩, fun h => by simp at h; omega⟩
        · have he : isName x = false := by simpa using he
          rw [← findIdx_at ht hx he]
          exact Out.here (all_false_at hx he)
        · have he : isName x = true := by simpa using he
          rw [i64_in _ (by omega)]
          exact ⟨l.length - (i + 1), by omega, i + 1, rfl, by omega, take_succ_all ht hx he, rfl, rfl⟩
      · exact WR1 (ixf_f l i [] _ _) ⟨fun h => by simp at h; omega, fun _ => Out.next (Out.here (all_of_take ht hge))⟩) (j := l.length) ⟨0, by omega, by omega, by simp, rfl, rfl⟩

theorem ixfF_ok (l : List Str) (hl : Fit l) : Pu Tryd.prog gls 40 [strsAV l, .fn 23 []] (.int .i64 (if l.all isName then -1 else (l.findIdx (fun x => !isName x) : Int))) :=
  Pu1 (ixfF_f l _) ⟨by have := ixf_loop l hl; rw [← List.length_map (f := sAV)] at this; exact this, fun h => by rw [if_neg (by rw [h]; simp)], fun h => by rw [if_pos h]⟩

theorem cf_ok (l : List Str) (hl : Fit l) : Pu Tryd.prog gls 22 [strsAV l, .fn 23 []] (.bool (!(l.all isName))) :=
  Pu1 (cf_f l _) ⟨ixfF_ok l hl, by cases l.all isName <;> simp, by cases l.all isName <;> simp⟩

def Step.Fit (s : Step) : Prop := s.loop.length ≤ 9223372036854775807 ∧ Go.Proofs.YtcphiogbjdehhaaDoor.Fit s.names

theorem kwB_nil {op : Int} : (kwB op == []) = decide (op < 1 ∨ 13 < op) := by
  by_cases h : op < 1 ∨ 13 < op
  · simp [kwB, h]
  · have : op = 1 ∨ op = 2 ∨ op = 3 ∨ op = 4 ∨ op = 5 ∨ op = 6 ∨ op = 7 ∨ op = 8 ∨ op = 9 ∨ op = 10 ∨ op = 11 ∨ op = 12 ∨ op = 13 := by omega
    rcases this with rfl | rfl | rfl | rfl | rfl | rfl | rfl | rfl | rfl | rfl | rfl | rfl | rfl <;> rfl

theorem vld_ok (s : Step) (hs : s.Fit) : Pu Tryd.prog gls 8 [s.av] (.int .i64 (validZ s)) :=
  Pu1 (vld_f s _) (by
    have f1 := kw_ok s.op
    have f2 := nm_ok s.op
    have f3 := cnt_ok s.op
    have f4 := isName_ok s.loop hs.1
    have f5 := cf_ok s.names hs.2
    rw [kwB_nil]
    unfold validZ
    generalize s.names.all isName = A at *
    generalize isName s.loop = L at *
    generalize cntB s.op = C at *
    rw [List.length_map]
    generalize (s.names.length : Int) = n at *
    generalize nmZ s.op = z at *
    (repeat' (first | intro _ | apply And.intro)) <;> first | assumption | (simp_all; done) | (simp_all <;> omega))

theorem has_loop (l : List Str) (s : Str) (hl : l.length ≤ 9223372036854775807) : LoopOk Tryd.prog gls 18 (lcode Tryd.prog 41 3) [0, 1, 5] [strsAV l, .str s, .int .i64 (0 : Nat)] [] [4]
    [⟨l.contains s = true, .ret, [.bool true], []⟩, ⟨l.contains s = false, .exit 0, [.undef], []⟩] :=
  Lp1 (r := 2) (kb := []) (kbx := []) (by kernel_rfl) (fun j vs bs => ∃ i : Nat, j = l.length - i ∧ i ≤ l.length ∧ (l.take i).all (fun x => !(x == s)) = true ∧ vs = [strsAV l, .str s, .int .i64 i] ∧ bs = [])
    (fun j vs bs ⟨i, hj, hi, ht, hv, hb⟩ => by
      subst hv; subst hb
      rcases Nat.lt_or_ge i l.length with hlt | hge
      · obtain ⟨x, hx⟩ := some_of_lt hlt
        refine WR1 (has_f l s i x _ _) ⟨fun _ => ⟨⟨by omega, map_get hx⟩, fun he => ?_, fun he => ?_⟩, fun h => by simp at h; omega⟩
        · have : x = s := by simpa using he
          subst this
          exact Out.here (by simpa using List.mem_of_getElem? hx)
        · rw [i64_in _ (by omega)]
          exact ⟨l.length - (i + 1), by omega, i + 1, rfl, by omega, take_succ_all ht hx (by simpa using he), rfl, rfl⟩
      · refine WR1 (has_f l s i s _ _) ⟨fun h => by simp at h; omega, fun _ => Out.next (Out.here ?_)⟩
        rw [contains_all, all_of_take ht hge]; rfl) (j := l.length) ⟨0, by omega, by omega, by simp, rfl, rfl⟩
theorem has_ok (l : List Str) (s : Str) (hl : l.length ≤ 9223372036854775807) : Pu Tryd.prog gls 41 [strsAV l, .str s] (.bool (l.contains s)) :=
  Pu1 (hasF_f l s _) ⟨has_loop l s hl, fun h => by rw [h], fun h => by rw [h]⟩

theorem name_loop (s : Str) (hs : s.length ≤ 9223372036854775807) : LoopOk Tryd.prog gls 50 (lcode Tryd.prog 26 5) [0, 3] [.str s, .int .i64 (0 : Nat)] [] [2]
    [⟨¬ nameUpto s s.length, .ret, [.bool false], []⟩, ⟨nameUpto s s.length, .exit 0, [.undef], []⟩] :=
  Lp1 (r := 4) (kb := []) (kbx := []) (by kernel_rfl) (fun j vs bs => ∃ i : Nat, j = s.length - i ∧ i ≤ s.length ∧ nameUpto s i ∧ vs = [.str s, .int .i64 i] ∧ bs = [])
    (fun j vs bs ⟨i, hj, hi, ht, hv, hb⟩ => by
      subst hv; subst hb
      rcases Nat.lt_or_ge i s.length with hlt | hge
      · obtain ⟨c, hx⟩ := some_of_lt hlt
        refine WR1 (name_f s i c _ _) ⟨fun _ => ⟨⟨by omega, str_get hx⟩, ?_⟩, fun h => by simp at h; omega⟩
        have good : nameAt i (u8i c) = true → ∃ i_1, i_1 < j ∧ ∃ i_2 : Nat, i_1 = s.length - i_2 ∧ i_2 ≤ s.length ∧ nameUpto s i_2 ∧ [AV.str s, AV.int .i64 (IntKind.wrap .i64 ((i : Int) + 1))] = [.str s, .int .i64 i_2] ∧ ([] : List Bx) = [] := fun hn => by
          rw [i64_in _ (by omega)]
          exact ⟨s.length - (i + 1), by omega, i + 1, rfl, by omega, nameUpto_succ ht hx hn, rfl, rfl⟩
        have bad : nameAt i (u8i c) = false → ¬ nameUpto s s.length := fun hn h => by rw [h i c hlt hx] at hn; cases hn
        have e : (c.toNat : Int) = u8i c := rfl
        simp only [e] at *
        generalize u8i c = z at *
        (repeat' (first | intro _ | apply And.intro)) <;> first | (refine good ?_; simp_all [nameAt, letterB, digitB]; done) | (refine Out.here (bad ?_); simp_all [nameAt, letterB, digitB]; done) | (refine Out.here (bad ?_); simp_all [nameAt, letterB, digitB]; omega)
      · refine WR1 (name_f s i 0 _ _) ⟨fun h => by simp at h; omega, fun _ => Out.next (Out.here ?_)⟩
        have : i = s.length := by omega
        subst this; exact ht) (j := s.length) ⟨0, by omega, by omega, fun k c hk => by omega, rfl, rfl⟩
theorem name_ok (s : Str) (hs : s.length ≤ 9223372036854775807) : Pu Tryd.prog gls 26 [.str s] (.bool (isName s)) :=
  Pu1 (nameF_f s _) (by
    refine ⟨fun h => ?_, fun h => ⟨fun h2 => ?_, fun h2 => ⟨words_ok, has_ok words s (by decide), fun h3 => ?_, fun h3 => ⟨name_loop s hs, fun h4 => ?_, fun h4 => ?_⟩⟩⟩⟩
    · have : s = [] := List.eq_nil_of_length_eq_zero (by simp at h; omega)
      subst this; rfl
    · have : ¬ s.length ≤ 16 := by simp at h2; omega
      simp only [isName, this]; simp
    · simp only [isName, h3]; simp
    all_goals
      have hne : s ≠ [] := fun e => by subst e; simp at h
      have hb : s.isEmpty = false := by cases s <;> first | rfl | exact absurd rfl hne
      have hl : s.length ≤ 16 := by simp at h2; omega
      rw [nameUpto_all hne] at h4
      simp only [isName, hb, h3, hl]
      generalize s.headD 0 = c0 at *
      simp
    · intro h5
      cases h6 : s.all (fun b => wordB (u8i b)) with
      | false => simpa using h6
      | true => exact absurd ⟨h5, h6⟩ h4
    · exact ⟨h4.1, by simpa using h4.2⟩)
end Go.Proofs.YtcphiogbjdehhaaDoor
