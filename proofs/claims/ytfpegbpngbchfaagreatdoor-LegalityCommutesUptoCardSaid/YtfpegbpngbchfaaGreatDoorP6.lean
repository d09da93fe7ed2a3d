/- Proved here: for every input within the second form's bound the law LegalityCommutes returns true and its arguments read afterwards as they read before; the listed package-level variables are tied to the program's text. -/
import Derived.Test.YtfpegbpngbchfaaGreatDoorP5
import Derived.ChangeArms
import Derived.Deep.DeepHandedRow
import Derived.HandedShaped
import Derived.Handy
import Derived.JoinedCond
import Derived.Lay
import Derived.OpenShut
import Derived.ProofKit
import Derived.SevenTiedAt
import Derived.Shelf.Vars
import Derived.Test.YtfpegbpngbchfaaGreatDoorCards
import Derived.Test.YtfpegbpngbchfaaGreatDoorTie
import Derived.WalkKit
set_option linter.unusedVariables false
set_option linter.unusedSimpArgs false
section
namespace Go.Proofs.YtfpegbpngbchfaaGreatDoor
open Go HY
set_option maxRecDepth 1000000
def e0 : Nat × List AV × AV × Tr Box × Nat := (74, [.str [97]], .bool true, .nil, 1)
theorem e0_ok : CallOk0 Tryz.prog gls e0.1 e0.2.1 e0.2.2.1 e0.2.2.2.1 e0.2.2.2.2 := memo_norm (xcallM_ok progOk xe0_ok memoKw_ok 60 (fl := 100000)) (by kernel_rfl)
def memo0 : MemoT := e0 :: memoKw
theorem memo0_ok : MemoOk Tryz.prog gls memo0 := fun e he => by
  rcases List.mem_cons.1 he with rfl | he
  · exact e0_ok
  · exact memoKw_ok e he
def e1 : Nat × List AV × AV × Tr Box × Nat := (74, [.str [115]], .bool true, .nil, 1)
theorem e1_ok : CallOk0 Tryz.prog gls e1.1 e1.2.1 e1.2.2.1 e1.2.2.2.1 e1.2.2.2.2 := memo_norm (xcallM_ok progOk xe0_ok memo0_ok 60 (fl := 100000)) (by kernel_rfl)
def memo1 : MemoT := e1 :: memo0
theorem memo1_ok : MemoOk Tryz.prog gls memo1 := fun e he => by
  rcases List.mem_cons.1 he with rfl | he
  · exact e1_ok
  · exact memo0_ok e he
def e2 : Nat × List AV × AV × Tr Box × Nat := (74, [.str [105]], .bool true, .nil, 1)
theorem e2_ok : CallOk0 Tryz.prog gls e2.1 e2.2.1 e2.2.2.1 e2.2.2.2.1 e2.2.2.2.2 := memo_norm (xcallM_ok progOk xe0_ok memo1_ok 60 (fl := 100000)) (by kernel_rfl)
def memo2 : MemoT := e2 :: memo1
theorem memo2_ok : MemoOk Tryz.prog gls memo2 := fun e he => by
  rcases List.mem_cons.1 he with rfl | he
  · exact e2_ok
  · exact memo1_ok e he
def e3 : Nat × List AV × AV × Tr Box × Nat := (41, [.agg [.sl 8 [.agg [.str [97], .int .i64 1, .int .i64 0, .int .i64 0, .int .i64 0, .int .i64 0, .sl 1 [.agg [.int .i64 3]], .int .i64 1], .agg [.str [115], .int .i64 1, .int .i64 0, .int .i64 0, .int .i64 0, .int .i64 0, .nil, .int .i64 2]], .sl 20 [.agg [.int .i64 1, .str [105], .int .i64 3, .int .i64 0, .int .i64 0, .nil, .int .i64 0, .str [], .int .i64 0, .int .i64 0, .int .i64 0, .int .i64 0, .int .i64 0, .int .i64 0, .int .i64 0, .int .i64 0, .nil, .nil, .nil, .sl 20 [.agg [.int .i64 3, .str [115], .int .i64 0, .int .i64 0, .int .i64 1, .nil, .int .i64 3, .str [97], .int .i64 0, .int .i64 0, .int .i64 0, .int .i64 0, .int .i64 0, .int .i64 0, .int .i64 0, .int .i64 0, .nil, .sl 4 [.agg [.int .i64 0, .sl 2 [.agg [.str [105], .int .i64 1]], .str [], .nil]], .nil, .nil]]]]]], .tup [.nil, .int .i64 0], .nil, 1)
theorem e3_ok : CallOk0 Tryz.prog gls e3.1 e3.2.1 e3.2.2.1 e3.2.2.2.1 e3.2.2.2.2 := memo_norm (xcallM_ok progOk xe0_ok memo2_ok 60 (fl := 100000)) (by kernel_rfl)
def memo3 : MemoT := e3 :: memo2
theorem memo3_ok : MemoOk Tryz.prog gls memo3 := fun e he => by
  rcases List.mem_cons.1 he with rfl | he
  · exact e3_ok
  · exact memo2_ok e he
def e4 : Nat × List AV × AV × Tr Box × Nat := (26, [.agg [.sl 8 [.agg [.str [97], .int .i64 1, .int .i64 0, .int .i64 0, .int .i64 0, .int .i64 0, .sl 1 [.agg [.int .i64 3]], .int .i64 1], .agg [.str [115], .int .i64 1, .int .i64 0, .int .i64 0, .int .i64 0, .int .i64 0, .nil, .int .i64 2]], .sl 20 [.agg [.int .i64 1, .str [105], .int .i64 3, .int .i64 0, .int .i64 0, .nil, .int .i64 0, .str [], .int .i64 0, .int .i64 0, .int .i64 0, .int .i64 0, .int .i64 0, .int .i64 0, .int .i64 0, .int .i64 0, .nil, .nil, .nil, .sl 20 [.agg [.int .i64 3, .str [115], .int .i64 0, .int .i64 0, .int .i64 1, .nil, .int .i64 3, .str [97], .int .i64 0, .int .i64 0, .int .i64 0, .int .i64 0, .int .i64 0, .int .i64 0, .int .i64 0, .int .i64 0, .nil, .sl 4 [.agg [.int .i64 0, .sl 2 [.agg [.str [105], .int .i64 1]], .str [], .nil]], .nil, .nil]]]]]], .tup [.sl 22 [.agg [.int .i64 0, .sl 1 [.agg [.int .i64 0]], .int .i64 3, .str [115], .int .i64 0, .int .i64 0, .int .i64 1, .nil, .int .i64 3, .str [97], .int .i64 0, .int .i64 0, .int .i64 0, .int .i64 0, .int .i64 0, .int .i64 0, .int .i64 0, .int .i64 0, .nil, .sl 4 [.agg [.int .i64 0, .nil, .str [], .nil]], .nil, .nil], .agg [.int .i64 0, .sl 1 [.agg [.int .i64 1]], .int .i64 3, .str [115], .int .i64 0, .int .i64 0, .int .i64 1, .nil, .int .i64 3, .str [97], .int .i64 0, .int .i64 0, .int .i64 0, .int .i64 0, .int .i64 0, .int .i64 0, .int .i64 0, .int .i64 0, .nil, .sl 4 [.agg [.int .i64 1, .nil, .str [], .nil]], .nil, .nil], .agg [.int .i64 0, .sl 1 [.agg [.int .i64 2]], .int .i64 3, .str [115], .int .i64 0, .int .i64 0, .int .i64 1, .nil, .int .i64 3, .str [97], .int .i64 0, .int .i64 0, .int .i64 0, .int .i64 0, .int .i64 0, .int .i64 0, .int .i64 0, .int .i64 0, .nil, .sl 4 [.agg [.int .i64 2, .nil, .str [], .nil]], .nil, .nil]], .int .i64 0], .nil, 1)
theorem e4_ok : CallOk0 Tryz.prog gls e4.1 e4.2.1 e4.2.2.1 e4.2.2.2.1 e4.2.2.2.2 := memo_norm (xcallM_ok progOk xe0_ok memo3_ok 60 (fl := 100000)) (by kernel_rfl)
def memo4 : MemoT := e4 :: memo3
theorem memo4_ok : MemoOk Tryz.prog gls memo4 := fun e he => by
  rcases List.mem_cons.1 he with rfl | he
  · exact e4_ok
  · exact memo3_ok e he
def e5 : Nat × List AV × AV × Tr Box × Nat := (41, [.agg [.sl 8 [.agg [.str [97], .int .i64 1, .int .i64 0, .int .i64 0, .int .i64 0, .int .i64 0, .sl 1 [.agg [.int .i64 3]], .int .i64 1], .agg [.str [115], .int .i64 1, .int .i64 0, .int .i64 0, .int .i64 0, .int .i64 0, .nil, .int .i64 2]], .sl 20 [.agg [.int .i64 1, .str [105], .int .i64 3, .int .i64 0, .int .i64 0, .nil, .int .i64 0, .str [], .int .i64 0, .int .i64 0, .int .i64 0, .int .i64 0, .int .i64 0, .int .i64 0, .int .i64 0, .int .i64 0, .nil, .nil, .nil, .sl 20 [.agg [.int .i64 3, .str [115], .int .i64 0, .int .i64 0, .int .i64 1, .nil, .int .i64 3, .str [97], .int .i64 0, .int .i64 0, .int .i64 0, .int .i64 0, .int .i64 0, .int .i64 0, .int .i64 0, .int .i64 0, .nil, .sl 4 [.agg [.int .i64 2, .sl 2 [.agg [.str [105], .int .i64 (-1)]], .str [], .nil]], .nil, .nil]]]]]], .tup [.nil, .int .i64 0], .nil, 1)
theorem e5_ok : CallOk0 Tryz.prog gls e5.1 e5.2.1 e5.2.2.1 e5.2.2.2.1 e5.2.2.2.2 := memo_norm (xcallM_ok progOk xe0_ok memo4_ok 60 (fl := 100000)) (by kernel_rfl)
def memo5 : MemoT := e5 :: memo4
theorem memo5_ok : MemoOk Tryz.prog gls memo5 := fun e he => by
  rcases List.mem_cons.1 he with rfl | he
  · exact e5_ok
  · exact memo4_ok e he
def e6 : Nat × List AV × AV × Tr Box × Nat := (26, [.agg [.sl 8 [.agg [.str [97], .int .i64 1, .int .i64 0, .int .i64 0, .int .i64 0, .int .i64 0, .sl 1 [.agg [.int .i64 3]], .int .i64 1], .agg [.str [115], .int .i64 1, .int .i64 0, .int .i64 0, .int .i64 0, .int .i64 0, .nil, .int .i64 2]], .sl 20 [.agg [.int .i64 1, .str [105], .int .i64 3, .int .i64 0, .int .i64 0, .nil, .int .i64 0, .str [], .int .i64 0, .int .i64 0, .int .i64 0, .int .i64 0, .int .i64 0, .int .i64 0, .int .i64 0, .int .i64 0, .nil, .nil, .nil, .sl 20 [.agg [.int .i64 3, .str [115], .int .i64 0, .int .i64 0, .int .i64 1, .nil, .int .i64 3, .str [97], .int .i64 0, .int .i64 0, .int .i64 0, .int .i64 0, .int .i64 0, .int .i64 0, .int .i64 0, .int .i64 0, .nil, .sl 4 [.agg [.int .i64 2, .sl 2 [.agg [.str [105], .int .i64 (-1)]], .str [], .nil]], .nil, .nil]]]]]], .tup [.sl 22 [.agg [.int .i64 0, .sl 1 [.agg [.int .i64 0]], .int .i64 3, .str [115], .int .i64 0, .int .i64 0, .int .i64 1, .nil, .int .i64 3, .str [97], .int .i64 0, .int .i64 0, .int .i64 0, .int .i64 0, .int .i64 0, .int .i64 0, .int .i64 0, .int .i64 0, .nil, .sl 4 [.agg [.int .i64 2, .nil, .str [], .nil]], .nil, .nil], .agg [.int .i64 0, .sl 1 [.agg [.int .i64 1]], .int .i64 3, .str [115], .int .i64 0, .int .i64 0, .int .i64 1, .nil, .int .i64 3, .str [97], .int .i64 0, .int .i64 0, .int .i64 0, .int .i64 0, .int .i64 0, .int .i64 0, .int .i64 0, .int .i64 0, .nil, .sl 4 [.agg [.int .i64 1, .nil, .str [], .nil]], .nil, .nil], .agg [.int .i64 0, .sl 1 [.agg [.int .i64 2]], .int .i64 3, .str [115], .int .i64 0, .int .i64 0, .int .i64 1, .nil, .int .i64 3, .str [97], .int .i64 0, .int .i64 0, .int .i64 0, .int .i64 0, .int .i64 0, .int .i64 0, .int .i64 0, .int .i64 0, .nil, .sl 4 [.agg [.int .i64 0, .nil, .str [], .nil]], .nil, .nil]], .int .i64 0], .nil, 1)
theorem e6_ok : CallOk0 Tryz.prog gls e6.1 e6.2.1 e6.2.2.1 e6.2.2.2.1 e6.2.2.2.2 := memo_norm (xcallM_ok progOk xe0_ok memo5_ok 60 (fl := 100000)) (by kernel_rfl)
def memo6 : MemoT := e6 :: memo5
theorem memo6_ok : MemoOk Tryz.prog gls memo6 := fun e he => by
  rcases List.mem_cons.1 he with rfl | he
  · exact e6_ok
  · exact memo5_ok e he
end Go.Proofs.YtfpegbpngbchfaaGreatDoor
end
section
namespace Go.Proofs.YtfpegbpngbchfaaGreatDoor
open Go HY
set_option maxRecDepth 1000000
def e7 : Nat × List AV × AV × Tr Box × Nat := (51, [.agg [.int .i64 3, .str [115], .int .i64 0, .int .i64 0, .int .i64 1, .nil, .int .i64 3, .str [97], .int .i64 0, .int .i64 0, .int .i64 0, .int .i64 0, .int .i64 0, .int .i64 0, .int .i64 0, .int .i64 0, .nil, .sl 4 [.agg [.int .i64 0, .nil, .str [], .nil]], .nil, .nil], .agg [.int .i64 3, .str [115], .int .i64 0, .int .i64 0, .int .i64 1, .nil, .int .i64 3, .str [97], .int .i64 0, .int .i64 0, .int .i64 0, .int .i64 0, .int .i64 0, .int .i64 0, .int .i64 0, .int .i64 0, .nil, .sl 4 [.agg [.int .i64 1, .nil, .str [], .nil]], .nil, .nil]], .bool false, .nil, 1)
theorem e7_ok : CallOk0 Tryz.prog gls e7.1 e7.2.1 e7.2.2.1 e7.2.2.2.1 e7.2.2.2.2 := memo_norm (xcallM_ok progOk xe0_ok memo6_ok 60 (fl := 100000)) (by kernel_rfl)
def memo7 : MemoT := e7 :: memo6
theorem memo7_ok : MemoOk Tryz.prog gls memo7 := fun e he => by
  rcases List.mem_cons.1 he with rfl | he
  · exact e7_ok
  · exact memo6_ok e he
def e8 : Nat × List AV × AV × Tr Box × Nat := (51, [.agg [.int .i64 3, .str [115], .int .i64 0, .int .i64 0, .int .i64 1, .nil, .int .i64 3, .str [97], .int .i64 0, .int .i64 0, .int .i64 0, .int .i64 0, .int .i64 0, .int .i64 0, .int .i64 0, .int .i64 0, .nil, .sl 4 [.agg [.int .i64 0, .nil, .str [], .nil]], .nil, .nil], .agg [.int .i64 3, .str [115], .int .i64 0, .int .i64 0, .int .i64 1, .nil, .int .i64 3, .str [97], .int .i64 0, .int .i64 0, .int .i64 0, .int .i64 0, .int .i64 0, .int .i64 0, .int .i64 0, .int .i64 0, .nil, .sl 4 [.agg [.int .i64 2, .nil, .str [], .nil]], .nil, .nil]], .bool false, .nil, 1)
theorem e8_ok : CallOk0 Tryz.prog gls e8.1 e8.2.1 e8.2.2.1 e8.2.2.2.1 e8.2.2.2.2 := memo_norm (xcallM_ok progOk xe0_ok memo7_ok 60 (fl := 100000)) (by kernel_rfl)
def memo8 : MemoT := e8 :: memo7
theorem memo8_ok : MemoOk Tryz.prog gls memo8 := fun e he => by
  rcases List.mem_cons.1 he with rfl | he
  · exact e8_ok
  · exact memo7_ok e he
def e9 : Nat × List AV × AV × Tr Box × Nat := (51, [.agg [.int .i64 3, .str [115], .int .i64 0, .int .i64 0, .int .i64 1, .nil, .int .i64 3, .str [97], .int .i64 0, .int .i64 0, .int .i64 0, .int .i64 0, .int .i64 0, .int .i64 0, .int .i64 0, .int .i64 0, .nil, .sl 4 [.agg [.int .i64 1, .nil, .str [], .nil]], .nil, .nil], .agg [.int .i64 3, .str [115], .int .i64 0, .int .i64 0, .int .i64 1, .nil, .int .i64 3, .str [97], .int .i64 0, .int .i64 0, .int .i64 0, .int .i64 0, .int .i64 0, .int .i64 0, .int .i64 0, .int .i64 0, .nil, .sl 4 [.agg [.int .i64 2, .nil, .str [], .nil]], .nil, .nil]], .bool false, .nil, 1)
theorem e9_ok : CallOk0 Tryz.prog gls e9.1 e9.2.1 e9.2.2.1 e9.2.2.2.1 e9.2.2.2.2 := memo_norm (xcallM_ok progOk xe0_ok memo8_ok 60 (fl := 100000)) (by kernel_rfl)
def memo9 : MemoT := e9 :: memo8
theorem memo9_ok : MemoOk Tryz.prog gls memo9 := fun e he => by
  rcases List.mem_cons.1 he with rfl | he
  · exact e9_ok
  · exact memo8_ok e he
def e10 : Nat × List AV × AV × Tr Box × Nat := (51, [.agg [.int .i64 3, .str [115], .int .i64 0, .int .i64 0, .int .i64 1, .nil, .int .i64 3, .str [97], .int .i64 0, .int .i64 0, .int .i64 0, .int .i64 0, .int .i64 0, .int .i64 0, .int .i64 0, .int .i64 0, .nil, .sl 4 [.agg [.int .i64 2, .nil, .str [], .nil]], .nil, .nil], .agg [.int .i64 3, .str [115], .int .i64 0, .int .i64 0, .int .i64 1, .nil, .int .i64 3, .str [97], .int .i64 0, .int .i64 0, .int .i64 0, .int .i64 0, .int .i64 0, .int .i64 0, .int .i64 0, .int .i64 0, .nil, .sl 4 [.agg [.int .i64 2, .nil, .str [], .nil]], .nil, .nil]], .bool true, .nil, 1)
theorem e10_ok : CallOk0 Tryz.prog gls e10.1 e10.2.1 e10.2.2.1 e10.2.2.2.1 e10.2.2.2.2 := memo_norm (xcallM_ok progOk xe0_ok memo9_ok 60 (fl := 100000)) (by kernel_rfl)
def memo10 : MemoT := e10 :: memo9
theorem memo10_ok : MemoOk Tryz.prog gls memo10 := fun e he => by
  rcases List.mem_cons.1 he with rfl | he
  · exact e10_ok
  · exact memo9_ok e he
def e11 : Nat × List AV × AV × Tr Box × Nat := (51, [.agg [.int .i64 3, .str [115], .int .i64 0, .int .i64 0, .int .i64 1, .nil, .int .i64 3, .str [97], .int .i64 0, .int .i64 0, .int .i64 0, .int .i64 0, .int .i64 0, .int .i64 0, .int .i64 0, .int .i64 0, .nil, .sl 4 [.agg [.int .i64 1, .nil, .str [], .nil]], .nil, .nil], .agg [.int .i64 3, .str [115], .int .i64 0, .int .i64 0, .int .i64 1, .nil, .int .i64 3, .str [97], .int .i64 0, .int .i64 0, .int .i64 0, .int .i64 0, .int .i64 0, .int .i64 0, .int .i64 0, .int .i64 0, .nil, .sl 4 [.agg [.int .i64 1, .nil, .str [], .nil]], .nil, .nil]], .bool true, .nil, 1)
theorem e11_ok : CallOk0 Tryz.prog gls e11.1 e11.2.1 e11.2.2.1 e11.2.2.2.1 e11.2.2.2.2 := memo_norm (xcallM_ok progOk xe0_ok memo10_ok 60 (fl := 100000)) (by kernel_rfl)
def memo11 : MemoT := e11 :: memo10
theorem memo11_ok : MemoOk Tryz.prog gls memo11 := fun e he => by
  rcases List.mem_cons.1 he with rfl | he
  · exact e11_ok
  · exact memo10_ok e he
def e12 : Nat × List AV × AV × Tr Box × Nat := (51, [.agg [.int .i64 3, .str [115], .int .i64 0, .int .i64 0, .int .i64 1, .nil, .int .i64 3, .str [97], .int .i64 0, .int .i64 0, .int .i64 0, .int .i64 0, .int .i64 0, .int .i64 0, .int .i64 0, .int .i64 0, .nil, .sl 4 [.agg [.int .i64 0, .nil, .str [], .nil]], .nil, .nil], .agg [.int .i64 3, .str [115], .int .i64 0, .int .i64 0, .int .i64 1, .nil, .int .i64 3, .str [97], .int .i64 0, .int .i64 0, .int .i64 0, .int .i64 0, .int .i64 0, .int .i64 0, .int .i64 0, .int .i64 0, .nil, .sl 4 [.agg [.int .i64 0, .nil, .str [], .nil]], .nil, .nil]], .bool true, .nil, 1)
theorem e12_ok : CallOk0 Tryz.prog gls e12.1 e12.2.1 e12.2.2.1 e12.2.2.2.1 e12.2.2.2.2 := memo_norm (xcallM_ok progOk xe0_ok memo11_ok 60 (fl := 100000)) (by kernel_rfl)
def memo12 : MemoT := e12 :: memo11
theorem memo12_ok : MemoOk Tryz.prog gls memo12 := fun e he => by
  rcases List.mem_cons.1 he with rfl | he
  · exact e12_ok
  · exact memo11_ok e he
def e13 : Nat × List AV × AV × Tr Box × Nat := (11, [.agg [.sl 8 [.agg [.str [97], .int .i64 1, .int .i64 0, .int .i64 0, .int .i64 0, .int .i64 0, .sl 1 [.agg [.int .i64 3]], .int .i64 1], .agg [.str [115], .int .i64 1, .int .i64 0, .int .i64 0, .int .i64 0, .int .i64 0, .nil, .int .i64 2]], .sl 20 [.agg [.int .i64 1, .str [105], .int .i64 3, .int .i64 0, .int .i64 0, .nil, .int .i64 0, .str [], .int .i64 0, .int .i64 0, .int .i64 0, .int .i64 0, .int .i64 0, .int .i64 0, .int .i64 0, .int .i64 0, .nil, .nil, .nil, .sl 20 [.agg [.int .i64 3, .str [115], .int .i64 0, .int .i64 0, .int .i64 1, .nil, .int .i64 3, .str [97], .int .i64 0, .int .i64 0, .int .i64 0, .int .i64 0, .int .i64 0, .int .i64 0, .int .i64 0, .int .i64 0, .nil, .sl 4 [.agg [.int .i64 0, .sl 2 [.agg [.str [105], .int .i64 1]], .str [], .nil]], .nil, .nil]]]]], .agg [.sl 8 [.agg [.str [97], .int .i64 1, .int .i64 0, .int .i64 0, .int .i64 0, .int .i64 0, .sl 1 [.agg [.int .i64 3]], .int .i64 1], .agg [.str [115], .int .i64 1, .int .i64 0, .int .i64 0, .int .i64 0, .int .i64 0, .nil, .int .i64 2]], .sl 20 [.agg [.int .i64 1, .str [105], .int .i64 3, .int .i64 0, .int .i64 0, .nil, .int .i64 0, .str [], .int .i64 0, .int .i64 0, .int .i64 0, .int .i64 0, .int .i64 0, .int .i64 0, .int .i64 0, .int .i64 0, .nil, .nil, .nil, .sl 20 [.agg [.int .i64 3, .str [115], .int .i64 0, .int .i64 0, .int .i64 1, .nil, .int .i64 3, .str [97], .int .i64 0, .int .i64 0, .int .i64 0, .int .i64 0, .int .i64 0, .int .i64 0, .int .i64 0, .int .i64 0, .nil, .sl 4 [.agg [.int .i64 2, .sl 2 [.agg [.str [105], .int .i64 (-1)]], .str [], .nil]], .nil, .nil]]]]]], .tup [.bool false, .int .i64 0], .nil, 1)
theorem e13_ok : CallOk0 Tryz.prog gls e13.1 e13.2.1 e13.2.2.1 e13.2.2.2.1 e13.2.2.2.2 := memo_norm (xcallM_ok progOk xe0_ok memo12_ok 60 (fl := 100000)) (by kernel_rfl)
def memo13 : MemoT := e13 :: memo12
theorem memo13_ok : MemoOk Tryz.prog gls memo13 := fun e he => by
  rcases List.mem_cons.1 he with rfl | he
  · exact e13_ok
  · exact memo12_ok e he
end Go.Proofs.YtfpegbpngbchfaaGreatDoor
end
section
namespace Go.Proofs.YtfpegbpngbchfaaGreatDoor
open Go HY
set_option maxRecDepth 1000000
def e14 : Nat × List AV × AV × Tr Box × Nat := (11, [.agg [.sl 8 [.agg [.str [97], .int .i64 1, .int .i64 0, .int .i64 0, .int .i64 0, .int .i64 0, .sl 1 [.agg [.int .i64 3]], .int .i64 1], .agg [.str [115], .int .i64 1, .int .i64 0, .int .i64 0, .int .i64 0, .int .i64 0, .nil, .int .i64 2]], .sl 20 [.agg [.int .i64 1, .str [105], .int .i64 3, .int .i64 0, .int .i64 0, .nil, .int .i64 0, .str [], .int .i64 0, .int .i64 0, .int .i64 0, .int .i64 0, .int .i64 0, .int .i64 0, .int .i64 0, .int .i64 0, .nil, .nil, .nil, .sl 20 [.agg [.int .i64 3, .str [115], .int .i64 0, .int .i64 0, .int .i64 1, .nil, .int .i64 3, .str [97], .int .i64 0, .int .i64 0, .int .i64 0, .int .i64 0, .int .i64 0, .int .i64 0, .int .i64 0, .int .i64 0, .nil, .sl 4 [.agg [.int .i64 0, .sl 2 [.agg [.str [105], .int .i64 1]], .str [], .nil]], .nil, .nil]]]]], .agg [.sl 8 [.agg [.str [97], .int .i64 1, .int .i64 0, .int .i64 0, .int .i64 0, .int .i64 0, .sl 1 [.agg [.int .i64 3]], .int .i64 1], .agg [.str [115], .int .i64 1, .int .i64 0, .int .i64 0, .int .i64 0, .int .i64 0, .nil, .int .i64 2]], .sl 20 [.agg [.int .i64 1, .str [105], .int .i64 3, .int .i64 0, .int .i64 0, .nil, .int .i64 0, .str [], .int .i64 0, .int .i64 0, .int .i64 0, .int .i64 0, .int .i64 0, .int .i64 0, .int .i64 0, .int .i64 0, .nil, .nil, .nil, .sl 20 [.agg [.int .i64 3, .str [115], .int .i64 0, .int .i64 0, .int .i64 1, .nil, .int .i64 3, .str [97], .int .i64 0, .int .i64 0, .int .i64 0, .int .i64 0, .int .i64 0, .int .i64 0, .int .i64 0, .int .i64 0, .nil, .sl 4 [.agg [.int .i64 0, .sl 2 [.agg [.str [105], .int .i64 1]], .str [], .nil]], .nil, .nil]]]]]], .tup [.bool true, .int .i64 0], .nil, 1)
theorem e14_ok : CallOk0 Tryz.prog gls e14.1 e14.2.1 e14.2.2.1 e14.2.2.2.1 e14.2.2.2.2 := memo_norm (xcallM_ok progOk xe0_ok memo13_ok 60 (fl := 100000)) (by kernel_rfl)
def memo14 : MemoT := e14 :: memo13
theorem memo14_ok : MemoOk Tryz.prog gls memo14 := fun e he => by
  rcases List.mem_cons.1 he with rfl | he
  · exact e14_ok
  · exact memo13_ok e he
def e15 : Nat × List AV × AV × Tr Box × Nat := (41, [.agg [.sl 8 [.agg [.str [97], .int .i64 2, .int .i64 8, .int .i64 2, .int .i64 1, .int .i64 1, .sl 1 [.agg [.int .i64 3]], .int .i64 1], .agg [.str [115], .int .i64 2, .int .i64 8, .int .i64 2, .int .i64 1, .int .i64 1, .nil, .int .i64 2]], .sl 20 [.agg [.int .i64 1, .str [105], .int .i64 3, .int .i64 0, .int .i64 0, .nil, .int .i64 0, .str [], .int .i64 0, .int .i64 0, .int .i64 0, .int .i64 0, .int .i64 0, .int .i64 0, .int .i64 0, .int .i64 0, .nil, .nil, .nil, .sl 20 [.agg [.int .i64 3, .str [115], .int .i64 0, .int .i64 0, .int .i64 1, .nil, .int .i64 3, .str [97], .int .i64 0, .int .i64 0, .int .i64 0, .int .i64 0, .int .i64 0, .int .i64 0, .int .i64 0, .int .i64 0, .nil, .sl 4 [.agg [.int .i64 0, .sl 2 [.agg [.str [105], .int .i64 1]], .str [], .nil]], .nil, .nil]]]]]], .tup [.nil, .int .i64 0], .nil, 1)
theorem e15_ok : CallOk0 Tryz.prog gls e15.1 e15.2.1 e15.2.2.1 e15.2.2.2.1 e15.2.2.2.2 := memo_norm (xcallM_ok progOk xe0_ok memo14_ok 60 (fl := 100000)) (by kernel_rfl)
def memo15 : MemoT := e15 :: memo14
theorem memo15_ok : MemoOk Tryz.prog gls memo15 := fun e he => by
  rcases List.mem_cons.1 he with rfl | he
  · exact e15_ok
  · exact memo14_ok e he
def e16 : Nat × List AV × AV × Tr Box × Nat := (26, [.agg [.sl 8 [.agg [.str [97], .int .i64 2, .int .i64 8, .int .i64 2, .int .i64 1, .int .i64 1, .sl 1 [.agg [.int .i64 3]], .int .i64 1], .agg [.str [115], .int .i64 2, .int .i64 8, .int .i64 2, .int .i64 1, .int .i64 1, .nil, .int .i64 2]], .sl 20 [.agg [.int .i64 1, .str [105], .int .i64 3, .int .i64 0, .int .i64 0, .nil, .int .i64 0, .str [], .int .i64 0, .int .i64 0, .int .i64 0, .int .i64 0, .int .i64 0, .int .i64 0, .int .i64 0, .int .i64 0, .nil, .nil, .nil, .sl 20 [.agg [.int .i64 3, .str [115], .int .i64 0, .int .i64 0, .int .i64 1, .nil, .int .i64 3, .str [97], .int .i64 0, .int .i64 0, .int .i64 0, .int .i64 0, .int .i64 0, .int .i64 0, .int .i64 0, .int .i64 0, .nil, .sl 4 [.agg [.int .i64 0, .sl 2 [.agg [.str [105], .int .i64 1]], .str [], .nil]], .nil, .nil]]]]]], .tup [.sl 22 [.agg [.int .i64 0, .sl 1 [.agg [.int .i64 0]], .int .i64 3, .str [115], .int .i64 0, .int .i64 0, .int .i64 1, .nil, .int .i64 3, .str [97], .int .i64 0, .int .i64 0, .int .i64 0, .int .i64 0, .int .i64 0, .int .i64 0, .int .i64 0, .int .i64 0, .nil, .sl 4 [.agg [.int .i64 0, .nil, .str [], .nil]], .nil, .nil], .agg [.int .i64 0, .sl 1 [.agg [.int .i64 1]], .int .i64 3, .str [115], .int .i64 0, .int .i64 0, .int .i64 1, .nil, .int .i64 3, .str [97], .int .i64 0, .int .i64 0, .int .i64 0, .int .i64 0, .int .i64 0, .int .i64 0, .int .i64 0, .int .i64 0, .nil, .sl 4 [.agg [.int .i64 1, .nil, .str [], .nil]], .nil, .nil], .agg [.int .i64 0, .sl 1 [.agg [.int .i64 2]], .int .i64 3, .str [115], .int .i64 0, .int .i64 0, .int .i64 1, .nil, .int .i64 3, .str [97], .int .i64 0, .int .i64 0, .int .i64 0, .int .i64 0, .int .i64 0, .int .i64 0, .int .i64 0, .int .i64 0, .nil, .sl 4 [.agg [.int .i64 2, .nil, .str [], .nil]], .nil, .nil]], .int .i64 0], .nil, 1)
theorem e16_ok : CallOk0 Tryz.prog gls e16.1 e16.2.1 e16.2.2.1 e16.2.2.2.1 e16.2.2.2.2 := memo_norm (xcallM_ok progOk xe0_ok memo15_ok 60 (fl := 100000)) (by kernel_rfl)
def memo16 : MemoT := e16 :: memo15
theorem memo16_ok : MemoOk Tryz.prog gls memo16 := fun e he => by
  rcases List.mem_cons.1 he with rfl | he
  · exact e16_ok
  · exact memo15_ok e he
def e17 : Nat × List AV × AV × Tr Box × Nat := (41, [.agg [.sl 8 [.agg [.str [97], .int .i64 2, .int .i64 8, .int .i64 2, .int .i64 1, .int .i64 1, .sl 1 [.agg [.int .i64 3]], .int .i64 1], .agg [.str [115], .int .i64 2, .int .i64 8, .int .i64 2, .int .i64 1, .int .i64 1, .nil, .int .i64 2]], .sl 20 [.agg [.int .i64 1, .str [105], .int .i64 3, .int .i64 0, .int .i64 0, .nil, .int .i64 0, .str [], .int .i64 0, .int .i64 0, .int .i64 0, .int .i64 0, .int .i64 0, .int .i64 0, .int .i64 0, .int .i64 0, .nil, .nil, .nil, .sl 20 [.agg [.int .i64 3, .str [115], .int .i64 0, .int .i64 0, .int .i64 1, .nil, .int .i64 3, .str [97], .int .i64 0, .int .i64 0, .int .i64 0, .int .i64 0, .int .i64 0, .int .i64 0, .int .i64 0, .int .i64 0, .nil, .sl 4 [.agg [.int .i64 2, .sl 2 [.agg [.str [105], .int .i64 (-1)]], .str [], .nil]], .nil, .nil]]]]]], .tup [.nil, .int .i64 0], .nil, 1)
theorem e17_ok : CallOk0 Tryz.prog gls e17.1 e17.2.1 e17.2.2.1 e17.2.2.2.1 e17.2.2.2.2 := memo_norm (xcallM_ok progOk xe0_ok memo16_ok 60 (fl := 100000)) (by kernel_rfl)
def memo17 : MemoT := e17 :: memo16
theorem memo17_ok : MemoOk Tryz.prog gls memo17 := fun e he => by
  rcases List.mem_cons.1 he with rfl | he
  · exact e17_ok
  · exact memo16_ok e he
def e18 : Nat × List AV × AV × Tr Box × Nat := (26, [.agg [.sl 8 [.agg [.str [97], .int .i64 2, .int .i64 8, .int .i64 2, .int .i64 1, .int .i64 1, .sl 1 [.agg [.int .i64 3]], .int .i64 1], .agg [.str [115], .int .i64 2, .int .i64 8, .int .i64 2, .int .i64 1, .int .i64 1, .nil, .int .i64 2]], .sl 20 [.agg [.int .i64 1, .str [105], .int .i64 3, .int .i64 0, .int .i64 0, .nil, .int .i64 0, .str [], .int .i64 0, .int .i64 0, .int .i64 0, .int .i64 0, .int .i64 0, .int .i64 0, .int .i64 0, .int .i64 0, .nil, .nil, .nil, .sl 20 [.agg [.int .i64 3, .str [115], .int .i64 0, .int .i64 0, .int .i64 1, .nil, .int .i64 3, .str [97], .int .i64 0, .int .i64 0, .int .i64 0, .int .i64 0, .int .i64 0, .int .i64 0, .int .i64 0, .int .i64 0, .nil, .sl 4 [.agg [.int .i64 2, .sl 2 [.agg [.str [105], .int .i64 (-1)]], .str [], .nil]], .nil, .nil]]]]]], .tup [.sl 22 [.agg [.int .i64 0, .sl 1 [.agg [.int .i64 0]], .int .i64 3, .str [115], .int .i64 0, .int .i64 0, .int .i64 1, .nil, .int .i64 3, .str [97], .int .i64 0, .int .i64 0, .int .i64 0, .int .i64 0, .int .i64 0, .int .i64 0, .int .i64 0, .int .i64 0, .nil, .sl 4 [.agg [.int .i64 2, .nil, .str [], .nil]], .nil, .nil], .agg [.int .i64 0, .sl 1 [.agg [.int .i64 1]], .int .i64 3, .str [115], .int .i64 0, .int .i64 0, .int .i64 1, .nil, .int .i64 3, .str [97], .int .i64 0, .int .i64 0, .int .i64 0, .int .i64 0, .int .i64 0, .int .i64 0, .int .i64 0, .int .i64 0, .nil, .sl 4 [.agg [.int .i64 1, .nil, .str [], .nil]], .nil, .nil], .agg [.int .i64 0, .sl 1 [.agg [.int .i64 2]], .int .i64 3, .str [115], .int .i64 0, .int .i64 0, .int .i64 1, .nil, .int .i64 3, .str [97], .int .i64 0, .int .i64 0, .int .i64 0, .int .i64 0, .int .i64 0, .int .i64 0, .int .i64 0, .int .i64 0, .nil, .sl 4 [.agg [.int .i64 0, .nil, .str [], .nil]], .nil, .nil]], .int .i64 0], .nil, 1)
theorem e18_ok : CallOk0 Tryz.prog gls e18.1 e18.2.1 e18.2.2.1 e18.2.2.2.1 e18.2.2.2.2 := memo_norm (xcallM_ok progOk xe0_ok memo17_ok 60 (fl := 100000)) (by kernel_rfl)
def memo18 : MemoT := e18 :: memo17
theorem memo18_ok : MemoOk Tryz.prog gls memo18 := fun e he => by
  rcases List.mem_cons.1 he with rfl | he
  · exact e18_ok
  · exact memo17_ok e he
def e19 : Nat × List AV × AV × Tr Box × Nat := (11, [.agg [.sl 8 [.agg [.str [97], .int .i64 2, .int .i64 8, .int .i64 2, .int .i64 1, .int .i64 1, .sl 1 [.agg [.int .i64 3]], .int .i64 1], .agg [.str [115], .int .i64 2, .int .i64 8, .int .i64 2, .int .i64 1, .int .i64 1, .nil, .int .i64 2]], .sl 20 [.agg [.int .i64 1, .str [105], .int .i64 3, .int .i64 0, .int .i64 0, .nil, .int .i64 0, .str [], .int .i64 0, .int .i64 0, .int .i64 0, .int .i64 0, .int .i64 0, .int .i64 0, .int .i64 0, .int .i64 0, .nil, .nil, .nil, .sl 20 [.agg [.int .i64 3, .str [115], .int .i64 0, .int .i64 0, .int .i64 1, .nil, .int .i64 3, .str [97], .int .i64 0, .int .i64 0, .int .i64 0, .int .i64 0, .int .i64 0, .int .i64 0, .int .i64 0, .int .i64 0, .nil, .sl 4 [.agg [.int .i64 0, .sl 2 [.agg [.str [105], .int .i64 1]], .str [], .nil]], .nil, .nil]]]]], .agg [.sl 8 [.agg [.str [97], .int .i64 2, .int .i64 8, .int .i64 2, .int .i64 1, .int .i64 1, .sl 1 [.agg [.int .i64 3]], .int .i64 1], .agg [.str [115], .int .i64 2, .int .i64 8, .int .i64 2, .int .i64 1, .int .i64 1, .nil, .int .i64 2]], .sl 20 [.agg [.int .i64 1, .str [105], .int .i64 3, .int .i64 0, .int .i64 0, .nil, .int .i64 0, .str [], .int .i64 0, .int .i64 0, .int .i64 0, .int .i64 0, .int .i64 0, .int .i64 0, .int .i64 0, .int .i64 0, .nil, .nil, .nil, .sl 20 [.agg [.int .i64 3, .str [115], .int .i64 0, .int .i64 0, .int .i64 1, .nil, .int .i64 3, .str [97], .int .i64 0, .int .i64 0, .int .i64 0, .int .i64 0, .int .i64 0, .int .i64 0, .int .i64 0, .int .i64 0, .nil, .sl 4 [.agg [.int .i64 2, .sl 2 [.agg [.str [105], .int .i64 (-1)]], .str [], .nil]], .nil, .nil]]]]]], .tup [.bool false, .int .i64 18], .nil, 1)
theorem e19_ok : CallOk0 Tryz.prog gls e19.1 e19.2.1 e19.2.2.1 e19.2.2.2.1 e19.2.2.2.2 := memo_norm (xcallM_ok progOk xe0_ok memo18_ok 60 (fl := 100000)) (by kernel_rfl)
def memo19 : MemoT := e19 :: memo18
theorem memo19_ok : MemoOk Tryz.prog gls memo19 := fun e he => by
  rcases List.mem_cons.1 he with rfl | he
  · exact e19_ok
  · exact memo18_ok e he
end Go.Proofs.YtfpegbpngbchfaaGreatDoor
end
section
namespace Go.Proofs.YtfpegbpngbchfaaGreatDoor
open Go HY
set_option maxRecDepth 1000000
theorem ex_run : HY.isTrue (xcallM Tryz.prog gls gds 100000 xe0 memo19 60 6 [] .nil 0) = true := by kernel_rfl
theorem ex_ok : Pu Tryz.prog gls 6 [] (.bool true) := by
  have h := ex_run
  unfold HY.isTrue at h
  split at h
  · rename_i r hr
    exact Pu.ofCall (xcallM_ok progOk xe0_ok memo19_ok 60 _ _ _ _ _ _ _ hr).zero rfl
  · cases h
end Go.Proofs.YtfpegbpngbchfaaGreatDoor
end
section
namespace Go.Proofs.YtfpegbpngbchfaaGreatDoor
open Go HY
noncomputable def F_law35_live : Option Bool := some true
theorem P_law35_live (r : Bool) (h : F_law35_live = some r) : PU 6 [] (.bool r) := by
  cases h
  exact ex_ok
end Go.Proofs.YtfpegbpngbchfaaGreatDoor
end
section
namespace Go.Proofs.YtfpegbpngbchfaaGreatDoor
open Go HY
set_option maxRecDepth 1000000
set_option linter.unusedVariables false
def A_law35_LegalityCommutes_J5000001 (s : (gNest × gStmtS × gStmtS)) (u : Unit) (o : Bool) : List Alt := [⟨fun (x : Unit) => true = o, .normal, fun x => [.ptr 0 0 0, .ptr 1 0 0, .ptr 2 0 0, .bool true], fun x => [.cells 0 (egNest (s.1)).cells, .cells 0 (hgStmt (s.2.1)).cells, .cells 0 (hgStmt (s.2.2)).cells]⟩, ⟨fun (x : Unit) => false = o, .normal, fun x => [.ptr 0 0 0, .ptr 1 0 0, .ptr 2 0 0, .bool false], fun x => [.cells 0 (egNest (s.1)).cells, .cells 0 (hgStmt (s.2.1)).cells, .cells 0 (hgStmt (s.2.2)).cells]⟩]
noncomputable def F_law35_LegalityCommutes (x0 : gNest) (x1 : gStmtS) (x2 : gStmtS) : Option Bool :=
 some () >>= fun v0 =>
 (F_law30_Few x0 (500 : Int) >>= fun v2 => if v2 then
 F_law30_FewStmts [(gStmt.mk x1), (gStmt.mk x2)] (100 : Int) >>= fun v3 => if v3 then
 some false
 else
 some true
 else
 some true) >>= fun v1 => if v1 then
 F_law35_live >>= fun v5 =>
 some v5
 else
 F_legality_Commutes x0 x1 x2 >>= fun v7 =>
 F_ref35_Commutes x0 x1 x2 >>= fun v8 =>
 if v7 == v8 then
 F_legality_Commutes x0 x2 x1 >>= fun v9 =>
 if v7 == v9 then
 F_law35_live >>= fun v10 =>
 some v10
 else
 some false
 else
 some false
theorem P_law35_LegalityCommutes (x0 : gNest) (x1 : gStmtS) (x2 : gStmtS) (r : Bool) (h : F_law35_LegalityCommutes x0 x1 x2 = some r) : PU 3 [egNest x0, hgStmt x1, hgStmt x2] (eB r) :=
  Pu1 (hs := [(9, .cb), (15, .cb), (18, .c eB), (22, .c eB), (27, .c eB), (28, .split), (34, .c eB), (35, .split), (38, .c eB), (5000001, .l [] [] [] [3, 4, 5, 17] [{ slot := 3 }, { slot := 4 }, { slot := 5 }] (A_law35_LegalityCommutes_J5000001 (x0, x1, x2)))]) (by kernel_rfl) ((kJb (id := 5000001) () (fun v0 ev0 v1 => (kCb (P_law30_Few x0 (500 : Int)) (kCb (fun y hy => Pu.le (P_law30_FewStmts [(gStmt.mk x1), (gStmt.mk x2)] (100 : Int) y hy) (.cons (LeT.sl (.cons (legStmt x1) (.cons (legStmt x2) .nil))) (.cons (LeT.refl (AV.int IntKind.i64 (100 : Int))) .nil)) (LeT.refl _)) (kXj (alts := A_law35_LegalityCommutes_J5000001 (x0, x1, x2)) ev0 false (.next (.here () rfl (.refl _) (.refl _))))
 (kXj (alts := A_law35_LegalityCommutes_J5000001 (x0, x1, x2)) ev0 true (.here () rfl (.refl _) (.refl _))))
 (kXj (alts := A_law35_LegalityCommutes_J5000001 (x0, x1, x2)) ev0 true (.here () rfl (.refl _) (.refl _)))))
 (fun v0 => (kC (sh := eB) (P_law35_live) fun v5 => (kEr (enc := eB) v5)))
 (fun v0 => (kC (sh := eB) (P_legality_Commutes x0 x1 x2) fun v7 => (kC (sh := eB) (P_ref35_Commutes x0 x1 x2) fun v8 => (kIf (c := v7 == v8) (kC (sh := eB) (P_legality_Commutes x0 x2 x1) fun v9 => (kIf (c := v7 == v9) (kC (sh := eB) (P_law35_live) fun v10 => (kEr (enc := eB) v10))
 (kEr (enc := eB) false)))
 (kEr (enc := eB) false)))))) h)
end Go.Proofs.YtfpegbpngbchfaaGreatDoor
end
section
namespace HY
open Go
section
variable {α β : Type}
theorem bS {a : α} {f : α → Option β} : (some a >>= f) = f a := rfl
theorem bN {f : α → Option β} : ((none : Option α) >>= f) = none := rfl
theorem omS {a : α} {f : α → β} : Option.map f (some a) = some (f a) := rfl
theorem ite_t {a b : α} : (if (true = true) then a else b) = a := rfl
theorem ite_f {a b : α} : (if (false = true) then a else b) = b := rfl
end
def ov (x y : gRegion) : Bool := x.fBuffer == y.fBuffer && decide (max x.fFrom y.fFrom < min x.fTo y.fTo)
def ovL (a b : List gRegion) : Bool := a.any fun x => b.any (ov x)
theorem ov_comm (x y : gRegion) : ov x y = ov y x := by
  unfold ov
  rw [Int.max_comm, Int.min_comm]
  congr 1
  rw [Bool.eq_iff_iff]; simp only [beq_iff_eq]; exact eq_comm
theorem ovL_comm (a b : List gRegion) : ovL a b = ovL b a := by
  unfold ovL
  rw [Bool.eq_iff_iff]
  simp only [List.any_eq_true]
  constructor
  · rintro ⟨x, hx, y, hy, h⟩; exact ⟨y, hy, x, hx, by rw [ov_comm]; exact h⟩
  · rintro ⟨x, hx, y, hy, h⟩; exact ⟨y, hy, x, hx, by rw [ov_comm]; exact h⟩
def szRun (n : Int) : List Int → Option Int
  | [] => some n
  | v :: t => if v < 1 ∨ 4096 < n * v then none else szRun (n * v) t
theorem szRun_bad {n v : Int} {t : List Int} (h : v < 1 ∨ 4096 < n * v) : szRun n (v :: t) = none := by rw [szRun, if_pos h]
theorem szRun_ok {n v : Int} {t : List Int} (h : ¬ (v < 1 ∨ 4096 < n * v)) : szRun n (v :: t) = szRun (n * v) t := by rw [szRun, if_neg h]
def shOf (d : List Int) : Option Int := if d.length ≤ 6 then szRun 1 d else none
theorem szRun_pos : ∀ {d : List Int} {n m : Int}, 1 ≤ n → szRun n d = some m → n ≤ m ∧ (n ≤ 4096 → m ≤ 4096) ∧ ∀ v ∈ d, 1 ≤ v
  | [], n, m, hn, h => by cases h; exact ⟨Int.le_refl _, id, by simp⟩
  | v :: t, n, m, hn, h => by
    simp only [szRun] at h
    split at h
    · cases h
    · rename_i hc
      have hv : 1 ≤ v := by omega
      have hnv : n ≤ n * v := by
        have := Int.mul_le_mul_of_nonneg_left hv (show 0 ≤ n by omega); rwa [Int.mul_one] at this
      obtain ⟨h1, h2, h3⟩ := szRun_pos (by omega) h
      refine ⟨by omega, fun _ => h2 (by omega), fun w hw => ?_⟩
      rcases List.mem_cons.1 hw with rfl | hw
      · exact hv
      · exact h3 w hw
theorem szRun_all : ∀ {d : List Int} {n : Int}, (∃ v ∈ d, v < 1) → szRun n d = none
  | [], n, h => by simp at h
  | v :: t, n, h => by
    simp only [szRun]
    split
    · rfl
    · rename_i hc
      obtain ⟨w, hw, h1⟩ := h
      rcases List.mem_cons.1 hw with rfl | hw
      · omega
      · exact szRun_all ⟨w, hw, h1⟩
def badIx (x : gIndex) (d : Int) : Prop := x.fFrom ≠ [] ∨ x.fLin.fL ≠ [] ∨ x.fLin.fK < 0 ∨ d ≤ x.fLin.fK
instance (x : gIndex) (d : Int) : Decidable (badIx x d) := by unfold badIx; infer_instance
def offs (at_ : Int) : List gIndex → List Int → Option Int
  | [], [] => some at_
  | x :: t, d :: e => if badIx x d then none else offs (at_ * d + x.fLin.fK) t e
  | _, _ => none
theorem offs_len : ∀ {idx : List gIndex} {d : List Int} {a b : Int}, offs a idx d = some b → idx.length = d.length
  | [], [], _, _, _ => rfl
  | x :: t, d :: e, a, b, h => by
    simp only [offs] at h
    split at h
    · cases h
    · simp [offs_len h]
  | [], _ :: _, _, _, h => by cases h
  | _ :: _, [], _, _, h => by cases h
def bufOf (bufs : List gBuffer) (name : Str) : Option gBuffer := bufs.find? fun b => b.fName == name
def regionS (n : gNest) (name : Str) (idx : List gIndex) : List gRegion := match bufOf n.fBufs name with
  | none => []
  | some b => match shOf b.fDims with
    | none => []
    | some m => match offs 0 idx b.fDims with
      | some a => [gRegion.mk name a (a + 1)]
      | none => [gRegion.mk name 0 m]
theorem regionS_len (n : gNest) (name : Str) (idx : List gIndex) : (regionS n name idx).length ≤ 1 := by
  unfold regionS
  split
  · simp
  · split
    · simp
    · split <;> simp
def gath1 (n : gNest) (x : gIndex) : List gRegion := if x.fFrom = [] then [] else regionS n x.fFrom (x.fAt.map fun l => gIndex.mk l [] [])
def gathersS (n : gNest) (idx : List gIndex) : List gRegion := (idx.map (gath1 n)).flatten
theorem gath1_len (n : gNest) (x : gIndex) : (gath1 n x).length ≤ 1 := by
  unfold gath1; split
  · simp
  · exact regionS_len _ _ _
theorem gathersS_len (n : gNest) : ∀ idx : List gIndex, (gathersS n idx).length ≤ idx.length
  | [] => by simp [gathersS]
  | x :: t => by
    have := gathersS_len n t
    have := gath1_len n x
    simp only [gathersS, List.map_cons, List.flatten_cons, List.length_append, List.length_cons] at *; omega
def read1 (n : gNest) (y : gExprS) : List gRegion := if y.fOp = 3 then gathersS n y.fIdx ++ regionS n y.fName y.fIdx else []
def readsL (n : gNest) (l : List gExpr) : List gRegion := (l.map fun y => read1 n y.f).flatten
def readsS (n : gNest) (e : gExprS) : List gRegion := readsL n (nodes (.mk e))
theorem readsL_cons (n : gNest) (e : gExpr) (l : List gExpr) : readsL n (e :: l) = read1 n e.f ++ readsL n l := by simp [readsL]
theorem readsL_app (n : gNest) (a b : List gExpr) : readsL n (a ++ b) = readsL n a ++ readsL n b := by simp [readsL]
theorem readsS_mk (n : gNest) (e : gExprS) : readsS n e = read1 n e ++ (e.fArgs.map fun a => readsS n a.f).flatten := by
  unfold readsS
  rw [nodes_mk, readsL_cons]
  congr 1
  induction e.fArgs with
  | nil => rfl
  | cons a l ih => simp only [List.map_cons, List.flatten_cons, readsL_app, ih, gExpr.mk_f]
theorem read1_len (n : gNest) (y : gExprS) : (read1 n y).length ≤ y.fIdx.length + 1 := by
  unfold read1; split
  · have := gathersS_len n y.fIdx; have := regionS_len n y.fName y.fIdx; rw [List.length_append]; omega
  · simp
theorem readsS_len (n : gNest) : ∀ e : gExpr, (readsS n e.f).length ≤ wExpr e := gExpr.ind fun x ih => by
  have h : ∀ l : List gExpr, (∀ a ∈ l, (readsS n a.f).length ≤ wExpr a) → ((l.map fun a => readsS n a.f).flatten).length ≤ wSum wExpr l := by
    intro l
    induction l with
    | nil => intro _; simp
    | cons a l ih => intro h; simp only [List.map_cons, List.flatten_cons, List.length_append, wSum_cons]; have := h a (by simp); have := ih fun b hb => h b (by simp [hb]); omega
  have h1 := h _ ih
  have h2 := read1_len n x
  have h3 := wSum_len (f := wIdx) (l := x.fIdx) wIdx1
  have h4 := wLin1 x.fLin
  rw [gExpr.f_mk, readsS_mk, wExpr_f, gExpr.f_mk, wExprS, List.length_append]; omega
theorem readsS_len' (n : gNest) (e : gExprS) : (readsS n e).length ≤ wExprS e := by have := readsS_len n (.mk e); rwa [wExpr_f, gExpr.f_mk] at this
def writesS (n : gNest) : gStmt → List gRegion
  | .mk x => if x.fOp = 2 ∨ x.fOp = 3 then regionS n x.fName x.fIdx else if x.fOp = 1 ∨ x.fOp = 4 then (x.fBody.attach.map fun a => writesS n a.1).flatten else []
 termination_by e => SizeOf.sizeOf e
 decreasing_by exact gStmt.lt a.2
theorem writesS_mk (n : gNest) (x : gStmtS) : writesS n (.mk x) = if x.fOp = 2 ∨ x.fOp = 3 then regionS n x.fName x.fIdx else if x.fOp = 1 ∨ x.fOp = 4 then (x.fBody.map (writesS n)).flatten else [] := by rw [writesS]; simp
def stReads (n : gNest) : gStmt → List gRegion
  | .mk x => if x.fOp = 2 ∨ x.fOp = 3 then gathersS n x.fIdx ++ readsS n x.fExpr else if x.fOp = 4 then readsS n x.fExpr ++ (x.fBody.attach.map fun a => stReads n a.1).flatten else if x.fOp = 1 then (x.fBody.attach.map fun a => stReads n a.1).flatten else []
 termination_by e => SizeOf.sizeOf e
 decreasing_by all_goals exact gStmt.lt a.2
theorem stReads_mk (n : gNest) (x : gStmtS) : stReads n (.mk x) = if x.fOp = 2 ∨ x.fOp = 3 then gathersS n x.fIdx ++ readsS n x.fExpr else if x.fOp = 4 then readsS n x.fExpr ++ (x.fBody.map (stReads n)).flatten else if x.fOp = 1 then (x.fBody.map (stReads n)).flatten else [] := by rw [stReads]; simp
def coreS : gStmt → gStmtS
  | .mk x => if h : x.fOp = 4 ∧ x.fBody.length = 1 then coreS (x.fBody[0]'(by omega)) else x
 termination_by e => SizeOf.sizeOf e
 decreasing_by exact gStmt.lt (List.getElem_mem _)
theorem flat_len2 {α : Type} {f : gStmt → List α} {l : List gStmt} (h : ∀ a ∈ l, (f a).length ≤ wStmt a) : ((l.map f).flatten).length ≤ wSum wStmt l := by
  induction l with
  | nil => simp
  | cons a l ih => simp only [List.map_cons, List.flatten_cons, List.length_append, wSum_cons]; have := h a (by simp); have := ih fun b hb => h b (by simp [hb]); omega
theorem writesS_len (n : gNest) : ∀ e : gStmt, (writesS n e).length ≤ wStmt e := gStmt.ind fun x ih => by
  have h1 := flat_len2 ih
  have h2 := regionS_len n x.fName x.fIdx
  have h3 := wStmt1 (.mk x)
  have h4 := wS_body x
  rw [writesS_mk]
  rw [wStmt_f, gStmt.f_mk] at *
  split
  · omega
  · split
    · omega
    · simp
theorem stReads_len (n : gNest) : ∀ e : gStmt, (stReads n e).length ≤ wStmt e := gStmt.ind fun x ih => by
  have h1 := flat_len2 ih
  have h2 := gathersS_len n x.fIdx
  have h5 := readsS_len' n x.fExpr
  have h6 := wSum_len (f := wIdx) (l := x.fIdx) wIdx1
  rw [stReads_mk, wStmt_f, gStmt.f_mk, wStmtS]
  split
  · rw [List.length_append]; omega
  · split
    · rw [List.length_append]; omega
    · split
      · omega
      · simp
def confS (n : gNest) (a b : gStmtS) : Int :=
  if ovL (writesS n (.mk a)) (stReads n (.mk b)) = true then 1 else if ovL (stReads n (.mk a)) (writesS n (.mk b)) = true then 2 else if ovL (writesS n (.mk a)) (writesS n (.mk b)) = true then (if (coreS (.mk a)).fOp = 3 ∧ (coreS (.mk b)).fOp = 3 then 4 else 3) else 0
theorem confS_zero (n : gNest) (a b : gStmtS) : (confS n a b = 0) ↔ (confS n b a = 0) := by
  unfold confS
  rw [ovL_comm (writesS n (.mk b)) (stReads n (.mk a)), ovL_comm (stReads n (.mk b)) (writesS n (.mk a)), ovL_comm (writesS n (.mk b)) (writesS n (.mk a))]
  cases ovL (writesS n (.mk a)) (stReads n (.mk b)) <;> cases ovL (stReads n (.mk a)) (writesS n (.mk b)) <;> cases ovL (writesS n (.mk a)) (writesS n (.mk b)) <;> simp
  split <;> split <;> simp
end HY
namespace HY
open Go
def plainL : List gIndex → List Int → Option (List Int)
  | [], _ => some []
  | _ :: _, [] => none
  | x :: t, d :: e => if badIx x d then none else (plainL t e).map (x.fLin.fK :: ·)
def offL (a : Int) : List Int → List Int → Int
  | p :: q, d :: e => offL (a * d + p) q e
  | _, _ => a
def inR : List Int → List Int → Prop
  | p :: q, d :: e => 0 ≤ p ∧ p < d ∧ inR q e
  | _, _ => True
theorem offs_bad {a : Int} {x : gIndex} {t : List gIndex} {d : Int} {e : List Int} (h : badIx x d) : offs a (x :: t) (d :: e) = none := by rw [offs, if_pos h]
theorem offs_ok {a : Int} {x : gIndex} {t : List gIndex} {d : Int} {e : List Int} (h : ¬ badIx x d) : offs a (x :: t) (d :: e) = offs (a * d + x.fLin.fK) t e := by rw [offs, if_neg h]
theorem plainL_none : ∀ {idx : List gIndex} {d : List Int} {a : Int}, plainL idx d = none → offs a idx d = none
  | [], _, _, h => by cases h
  | _ :: _, [], _, _ => rfl
  | x :: t, d :: e, a, h => by
    by_cases hb : badIx x d
    · exact offs_bad hb
    · rw [offs_ok hb]
      simp only [plainL, if_neg hb, Option.map_eq_none_iff] at h
      exact plainL_none h
theorem plainL_some : ∀ {idx : List gIndex} {d q : List Int}, plainL idx d = some q → q.length = idx.length ∧ inR q d ∧ ∀ a, (q.length = d.length → offs a idx d = some (offL a q d)) ∧ (q.length ≠ d.length → offs a idx d = none)
  | [], d, q, h => by
    cases h
    refine ⟨rfl, by cases d <;> trivial, fun a => ?_⟩
    cases d with
    | nil => exact ⟨fun _ => rfl, fun h => absurd rfl h⟩
    | cons d e => exact ⟨fun h => by simp at h, fun _ => rfl⟩
  | _ :: _, [], q, h => by cases h
  | x :: t, d :: e, q, h => by
    by_cases hb : badIx x d
    · simp only [plainL, if_pos hb] at h; cases h
    · simp only [plainL, if_neg hb, Option.map_eq_some_iff] at h
      obtain ⟨q', hq, rfl⟩ := h
      obtain ⟨h1, h2, h3⟩ := plainL_some hq
      have hb' : 0 ≤ x.fLin.fK ∧ x.fLin.fK < d := by unfold badIx at hb; omega
      refine ⟨by simp [h1], ⟨hb'.1, hb'.2, h2⟩, fun a => ?_⟩
      rw [offs_ok hb]
      obtain ⟨h4, h5⟩ := h3 (a * d + x.fLin.fK)
      exact ⟨fun h => h4 (by simpa using h), fun h => h5 (by simpa using h)⟩
end HY
end
section
namespace Go.Proofs.YtfpegbpngbchfaaGreatDoor
open Go HY
set_option linter.unusedVariables false
set_option linter.unusedSimpArgs false
theorem s_shape_Validate_L4 (d : List Int) (hl : d.length ≤ 1048576) : F_shape_Validate_L4 d d.length 0 = some (if d.any (fun v => decide (v < 1)) then .inr 1 else .inl ()) := by
  refine loopEq (F := fun i => F_shape_Validate_L4 d d.length i) (l := d) (fun t => if t.any (fun v => decide (v < 1)) then .inr 1 else .inl ()) ?_ ?_
  · rw [F_shape_Validate_L4]; simp
  · intro i y t h0 h1 hix ih
    rw [F_shape_Validate_L4, if_pos h1, hix]
    simp only [bS, wrapS h0 h1 (by omega), ih, List.any_cons]
    by_cases h2 : y < 1 <;> simp [h2]
theorem tdiv_lt {n v : Int} (hn : 1 ≤ n) : ((4096 : Int).tdiv n < v) ↔ 4096 < n * v := by
  rw [Int.tdiv_eq_ediv_of_nonneg (by omega), Int.ediv_lt_iff_lt_mul (by omega), Int.mul_comm]
theorem tdiv_le {n : Int} (hn : 1 ≤ n) : 0 ≤ (4096 : Int).tdiv n ∧ (4096 : Int).tdiv n ≤ 4096 := by
  rw [Int.tdiv_eq_ediv_of_nonneg (by omega)]
  exact ⟨Int.ediv_nonneg (by omega) (by omega), Int.ediv_le_self _ (by omega)⟩
theorem s_shape_Validate_L11 (d : List Int) (hl : d.length ≤ 1048576) (hd : ∀ v ∈ d, 1 ≤ v) : F_shape_Validate_L11 1 d d.length 0 = some (if (szRun 1 d).isSome then .inl () else .inr 2) := by
  refine loopEqI (F := fun n i => F_shape_Validate_L11 n d d.length i) (l := d) (fun n t => 1 ≤ n ∧ n ≤ 4096) (fun n t => if (szRun n t).isSome then .inl () else .inr 2) ?_ ?_ 1 (by omega)
  · intro n _
    rw [F_shape_Validate_L11]; simp [szRun]
  · intro i y t n h0 h1 hm hix hI ih
    have hy := hd y hm
    have h4 := tdiv_le hI.1
    rw [F_shape_Validate_L11, if_pos h1, hix]
    simp only [bS, wrapS h0 h1 (by omega)]
    rw [if_pos (show n ≠ 0 by omega), wrapId (by omega)]
    by_cases h2 : 4096 < n * y
    · rw [if_pos ((tdiv_lt hI.1).2 h2), szRun_bad (.inr h2)]; rfl
    · have hp : n ≤ n * y := by
        have := Int.mul_le_mul_of_nonneg_left hy (show 0 ≤ n by omega); rwa [Int.mul_one] at this
      rw [if_neg (fun h => h2 ((tdiv_lt hI.1).1 h)), szRun_ok (by omega), wrapId (by omega)]
      exact ih _ (by omega)
theorem s_shape_Validate (d : List Int) (hl : d.length ≤ 1048576) : ∃ v, F_shape_Validate d = some v ∧ (v = 0 ↔ (shOf d).isSome) := by
  unfold F_shape_Validate shOf
  simp only [bS]
  by_cases h6 : (6 : Int) < d.length
  · rw [if_pos h6, if_neg (by omega)]
    exact ⟨_, rfl, by simp⟩
  · rw [if_neg h6, if_pos (by omega), s_shape_Validate_L4 d hl]
    by_cases ha : d.any (fun v => decide (v < 1)) = true
    · rw [if_pos ha]
      refine ⟨1, rfl, ?_⟩
      rw [szRun_all (by simpa using ha)]; simp
    · rw [if_neg ha, bS]
      simp only
      rw [s_shape_Validate_L11 d hl (fun v hv => by
        have : ¬ v < 1 := fun h => ha (List.any_eq_true.2 ⟨v, hv, by simpa using h⟩)
        omega)]
      cases hs : (szRun 1 d).isSome <;> simp [bS]
theorem s_shape_Size (d : List Int) (m : Int) (hl : d.length ≤ 1048576) (h : shOf d = some m) : F_shape_Size d = some m := by
  obtain ⟨v, e1, e2⟩ := s_shape_Validate d hl
  have hv : v = 0 := e2.2 (by rw [h]; rfl)
  subst hv
  have hr : szRun 1 d = some m := by unfold shOf at h; split at h; exact h; cases h
  unfold F_shape_Size
  simp only [bS, e1]
  have L : F_shape_Size_L5 1 d d.length 0 = some ((szRun 1 d).getD 0) := by
    refine loopEqI (F := fun n i => F_shape_Size_L5 n d d.length i) (l := d) (fun n t => 1 ≤ n ∧ n ≤ 4096 ∧ (szRun n t).isSome) (fun n t => (szRun n t).getD 0) ?_ ?_ 1 ⟨by omega, by omega, by rw [hr]; rfl⟩
    · intro n _
      rw [F_shape_Size_L5]; simp [szRun]
    · intro i y t n h0 h1 hm hix hI ih
      obtain ⟨i1, i2, i3⟩ := hI
      simp only [szRun] at i3 ⊢
      split at i3
      · cases i3
      · rename_i hc
        rw [F_shape_Size_L5, if_pos h1, hix]
        have hp : n ≤ n * y := by
          have := Int.mul_le_mul_of_nonneg_left (show 1 ≤ y by omega) (show 0 ≤ n by omega); rwa [Int.mul_one] at this
        simp only [bS, wrapS h0 h1 (by omega), if_neg hc]
        rw [wrapId (by omega)]
        exact ih _ ⟨by omega, by omega, i3⟩
  rw [L, hr]; simp [bS]
theorem s_ref33_elements (d : List Int) (hl : d.length ≤ 1048576) : ∃ k, F_ref33_elements d = some (k, (shOf d).isSome) ∧ ∀ m, shOf d = some m → k = m := by
  have L : F_ref33_elements_L3 d 1 0 = some (match szRun 1 d with | some m => .inl m | none => .inr (0, false)) := by
    refine loopEqI (F := fun n i => F_ref33_elements_L3 d n i) (l := d) (fun n t => 1 ≤ n ∧ n ≤ 4096) (fun n t => match szRun n t with | some m => .inl m | none => .inr (0, false)) ?_ ?_ 1 (by omega)
    · intro n _
      rw [F_ref33_elements_L3]; simp [szRun, bS]
    · intro i y t n h0 h1 hm hix hI ih
      rw [F_ref33_elements_L3, bS, if_pos h1, hix]
      simp only [bS, wrapS h0 h1 (by omega), szRun]
      by_cases h2 : y < 1
      · rw [if_pos h2, if_pos (.inl h2)]; rfl
      · have hp : n ≤ n * y ∧ y ≤ n * y := by
          have a := Int.mul_le_mul_of_nonneg_left (show 1 ≤ y by omega) (show 0 ≤ n by omega)
          have b := Int.mul_le_mul_of_nonneg_right hI.1 (show 0 ≤ y by omega)
          rw [Int.mul_one] at a; rw [Int.one_mul] at b; exact ⟨a, b⟩
        rw [if_neg h2]
        by_cases h3 : 4096 < y
        · rw [if_pos h3, if_pos (.inr (by omega))]; rfl
        · have hu : n * y ≤ 4096 * 4096 := Int.mul_le_mul hI.2 (by omega) (by omega) (by omega)
          rw [if_neg h3]
          simp only [bS, ite_f, hix, Bool.false_eq_true, if_false]
          rw [wrapId (by omega)]
          by_cases h4 : 4096 < n * y
          · rw [if_pos h4, if_pos (.inr h4)]
          · rw [if_neg h4, if_neg (by omega)]
            exact ih _ (by omega)
  unfold F_ref33_elements
  simp only [bS, L]
  unfold shOf
  cases hs : szRun 1 d with
  | none => exact ⟨0, by simp [bS], by split <;> simp⟩
  | some m =>
    refine ⟨m, ?_, ?_⟩
    · simp only [bS]
      by_cases h6 : d.length ≤ 6
      · rw [if_pos h6]; simp; omega
      · rw [if_neg h6]; simp; omega
    · split
      · simp
      · simp
end Go.Proofs.YtfpegbpngbchfaaGreatDoor
end
section
namespace Go.Proofs.YtfpegbpngbchfaaGreatDoor
open Go HY
set_option linter.unusedVariables false
set_option linter.unusedSimpArgs false
theorem ix_app {α : Type} {l p : List α} {x : α} {t : List α} (h : l = p ++ x :: t) : ix l p.length = some x := by
  unfold ix
  rw [if_pos (by omega), Int.toNat_natCast, h, List.getElem?_append_right (Nat.le_refl _)]; simp
theorem wrapL {k : Nat} (h : k ≤ 1048576) : IntKind.i64.wrap ((k : Int) + 1) = ((k + 1 : Nat) : Int) := by rw [wrapId (by omega)]; omega
def zBuf : gBuffer := gBuffer.mk [] (gType.mk (0 : Int) (0 : Int) (0 : Int) (0 : Int) (0 : Int)) [] (0 : Int)
theorem s_loopnest_copyBuffer (b : gBuffer) (h : b.fDims.length ≤ 1048576) : F_loopnest_copyBuffer b = some b := by
  unfold F_loopnest_copyBuffer F_slices_Clone_int
  rw [if_pos (by omega)]; rfl
theorem s_loopnest_Buffer_L2 (name : Str) (n : gNest) (z : gBuffer) (hl : n.fBufs.length ≤ 1048576) (hd : ∀ b ∈ n.fBufs, b.fDims.length ≤ 1048576) : F_loopnest_Buffer_L2 name n z n.fBufs.length 0 = some (match bufOf n.fBufs name with | some b => .inr (b, true) | none => .inl z) := by
  refine loopEqI (F := fun (_ : Unit) i => F_loopnest_Buffer_L2 name n z n.fBufs.length i) (l := n.fBufs) (fun _ _ => True) (fun _ t => match bufOf t name with | some b => .inr (b, true) | none => .inl z) ?_ ?_ () trivial
  · intro _ _
    rw [F_loopnest_Buffer_L2]; simp [bufOf]
  · intro i y t _ h0 h1 hm hix _ ih
    rw [F_loopnest_Buffer_L2, if_pos h1, hix]
    simp only [bS, wrapS h0 h1 (by omega), bufOf, List.find?_cons]
    by_cases h2 : (y.fName == name) = true
    · rw [if_pos h2, h2, s_loopnest_copyBuffer y (hd y hm)]; rfl
    · rw [if_neg h2, show (y.fName == name) = false by simpa using h2]
      exact ih () trivial
theorem s_loopnest_Buffer (n : gNest) (name : Str) (hl : n.fBufs.length ≤ 1048576) (hd : ∀ b ∈ n.fBufs, b.fDims.length ≤ 1048576) : F_loopnest_Buffer n name = some (match bufOf n.fBufs name with | some b => (b, true) | none => (zBuf, false)) := by
  unfold F_loopnest_Buffer
  simp only [bS, s_loopnest_Buffer_L2 name n _ hl hd]
  cases bufOf n.fBufs name <;> rfl
theorem s_ref30_Buffer_L2 (name : Str) (n : gNest) (z : gBuffer) (hl : n.fBufs.length ≤ 1048576) : F_ref30_Buffer_L2 name n z 0 = some (match bufOf n.fBufs name with | some b => .inr (b, true) | none => .inl z) := by
  refine loopEq (F := fun i => F_ref30_Buffer_L2 name n z i) (l := n.fBufs) (fun t => match bufOf t name with | some b => .inr (b, true) | none => .inl z) ?_ ?_
  · rw [F_ref30_Buffer_L2]; simp [bufOf, bS]
  · intro i y t h0 h1 hix ih
    rw [F_ref30_Buffer_L2, bS, if_pos h1, hix]
    simp only [bS, wrapS h0 h1 (by omega), bufOf, List.find?_cons]
    by_cases h2 : (y.fName == name) = true
    · rw [if_pos h2, h2]
    · rw [if_neg h2, show (y.fName == name) = false by simpa using h2]
      exact ih
theorem s_ref30_Buffer (n : gNest) (name : Str) (hl : n.fBufs.length ≤ 1048576) : F_ref30_Buffer n name = some (match bufOf n.fBufs name with | some b => (b, true) | none => (zBuf, false)) := by
  unfold F_ref30_Buffer
  simp only [bS, s_ref30_Buffer_L2 name n _ hl]
  cases bufOf n.fBufs name <;> rfl
theorem bufOf_mem {l : List gBuffer} {name : Str} {b : gBuffer} (h : bufOf l name = some b) : b ∈ l := List.mem_of_find?_eq_some h
theorem s_Offset_go (d p : List Int) (hl : d.length ≤ 1048576) : ∀ (t q pre pq : List Int) (a n : Int), d = pre ++ t → p = pq ++ q → pre.length = pq.length → q.length = t.length → inR q t → 0 ≤ a → a < n → n ≤ 4096 → (szRun n t).isSome → F_shape_Offset_L5 p a d d.length pre.length = some (.inl (offL a q t))
  | [], [], pre, pq, a, n, hd, hp, _, _, _, _, _, _, _ => by
    rw [F_shape_Offset_L5, if_neg (by rw [hd]; simp)]; rfl
  | [], _ :: _, _, _, _, _, _, _, _, hq, _, _, _, _, _ => by simp at hq
  | _ :: _, [], _, _, _, _, _, _, _, hq, _, _, _, _, _ => by simp at hq
  | v :: t, k :: q, pre, pq, a, n, hd, hp, hpl, hq, hr, h0, h1, h2, hs => by
    have hlt : pre.length < d.length := by rw [hd]; simp
    have hc : ¬ (v < 1 ∨ 4096 < n * v) := fun hc => by rw [szRun_bad hc] at hs; cases hs
    rw [szRun_ok hc] at hs
    have e1 : n * v = (n - 1) * v + v := by rw [Int.sub_mul]; omega
    have e2 : a * v ≤ (n - 1) * v := Int.mul_le_mul_of_nonneg_right (by omega) (by omega)
    have e3 : 0 ≤ a * v := Int.mul_nonneg h0 (by omega)
    obtain ⟨r1, r2, r3⟩ := hr
    rw [F_shape_Offset_L5, if_pos (by omega), ix_app hd]
    have hix : ix p pre.length = some k := by rw [hpl]; exact ix_app hp
    simp only [bS, hix]
    rw [if_neg (by omega), if_neg (by omega)]
    simp only [bS, Bool.false_eq_true, if_false]
    rw [wrapId (n := a * v) (by omega), wrapId (n := a * v + k) (by omega), wrapL (by omega)]
    have := s_Offset_go d p hl t q (pre ++ [v]) (pq ++ [k]) (a * v + k) (n * v) (by rw [hd]; simp) (by rw [hp]; simp) (by simp [hpl]) (by simpa using hq) r3 (by omega) (by omega) (by omega) hs
    simp only [List.length_append, List.length_singleton] at this
    exact this
theorem s_shape_Offset (d q : List Int) (hl : d.length ≤ 1048576) (hv : (shOf d).isSome) (hq : q.length = d.length) (hr : inR q d) : F_shape_Offset d q = some (offL 0 q d, true) := by
  obtain ⟨v, e1, e2⟩ := s_shape_Validate d hl
  have := e2.2 hv
  subst this
  have hs : (szRun 1 d).isSome := by unfold shOf at hv; split at hv; exact hv; cases hv
  unfold F_shape_Offset
  simp only [bS, e1]
  have h := s_Offset_go d q hl d q [] [] 0 1 rfl rfl rfl hq hr (by omega) (by omega) (by omega) hs
  simp only [List.length_nil, Int.ofNat_zero, Int.cast_ofNat_Int] at h
  have e : ((0 : Int) != 0) = false := rfl
  have e' : ((q.length : Int) != (d.length : Int)) = false := by rw [hq]; simp
  simp only [e, e', Bool.false_eq_true, if_false, bS]
  rw [show F_shape_Offset_L5 q 0 d (↑d.length) 0 = some (.inl (offL 0 q d)) from h]
  rfl
theorem s_shape_Offset_no (d q : List Int) (hl : d.length ≤ 1048576) (hv : (shOf d).isSome) (hq : q.length ≠ d.length) : F_shape_Offset d q = some (0, false) := by
  obtain ⟨v, e1, e2⟩ := s_shape_Validate d hl
  have := e2.2 hv
  subst this
  unfold F_shape_Offset
  simp only [bS, e1]
  have e : ((0 : Int) != 0) = false := rfl
  have e' : ((q.length : Int) != (d.length : Int)) = true := by simp; omega
  simp only [e, e', Bool.false_eq_true, if_false, if_true, bS]
theorem s_region_go (b : gBuffer) (whole : List gRegion) (idx : List gIndex) (hl : idx.length ≤ 1048576) (hd : b.fDims.length ≤ 1048576) : ∀ (t pre : List gIndex) (e pd p : List Int), idx = pre ++ t → (b.fDims = pd ++ e) → (pre.length = pd.length) → p.length = pre.length →
    F_trace_region_L7 b whole p idx idx.length pre.length = some (match plainL t e with | some q => .inl (p ++ q) | none => .inr whole)
  | [], pre, e, pd, p, hi, _, _, _ => by
    rw [F_trace_region_L7, if_neg (by rw [hi]; simp)]
    simp [plainL]
  | x :: t, pre, [], pd, p, hi, hdd, hpl, hp => by
    have hlt : pre.length < idx.length := by rw [hi]; simp
    rw [F_trace_region_L7, if_pos (by omega), ix_app hi]
    have hle : (((b.fDims.map eI).length : Nat) : Int) ≤ (pre.length : Int) := by rw [List.length_map, hdd]; simp; omega
    simp only [bS, hle, if_true, ite_self, plainL]
  | x :: t, pre, v :: e, pd, p, hi, hdd, hpl, hp => by
    have hlt : pre.length < idx.length := by rw [hi]; simp
    have hlt2 : pd.length < b.fDims.length := by rw [hdd]; simp
    rw [F_trace_region_L7, if_pos (by omega), ix_app hi]
    have hix : ix b.fDims pre.length = some v := by rw [hpl]; exact ix_app hdd
    have hle : ¬ (((b.fDims.map eI).length : Nat) : Int) ≤ (pre.length : Int) := by rw [List.length_map]; omega
    have hL : ((0 : Int) < (((x.fLin.fL.map egMono).length : Nat) : Int)) ↔ x.fLin.fL ≠ [] := by
      rw [List.length_map]; cases x.fLin.fL <;> simp
    have hF : ((!x.fFrom == []) = true) ↔ x.fFrom ≠ [] := by simp
    simp only [bS, hix, hle, if_false]
    by_cases hb : badIx x v
    · have : (if (!x.fFrom == []) = true then some true else if (0 : Int) < (((x.fLin.fL.map egMono).length : Nat) : Int) then some true else if x.fLin.fK < 0 then some true else if v ≤ x.fLin.fK then some true else some false) = some true := by
        rcases hb with h | h | h | h
        · rw [if_pos (hF.2 h)]
        · rw [if_pos (hL.2 h), ite_self]
        · rw [if_pos h, ite_self, ite_self]
        · rw [if_pos h, ite_self, ite_self, ite_self]
      rw [this]
      simp only [bS, if_true, plainL, if_pos hb]
    · have hn : x.fFrom = [] ∧ x.fLin.fL = [] ∧ ¬ x.fLin.fK < 0 ∧ ¬ v ≤ x.fLin.fK := by
        unfold badIx at hb
        refine ⟨Classical.byContradiction fun h => hb (.inl h), Classical.byContradiction fun h => hb (.inr (.inl h)), fun h => hb (.inr (.inr (.inl h))), fun h => hb (.inr (.inr (.inr h)))⟩
      rw [if_neg (fun h => hF.1 h hn.1), if_neg (fun h => hL.1 h hn.2.1), if_neg hn.2.2.1, if_neg hn.2.2.2]
      simp only [bS, Bool.false_eq_true, if_false]
      rw [if_pos (by omega), wrapL (by omega)]
      have := s_region_go b whole idx hl hd t (pre ++ [x]) e (pd ++ [v]) (p ++ [x.fLin.fK]) (by rw [hi]; simp) (by rw [hdd]; simp) (by simp [hpl]) (by simp [hp])
      simp only [List.length_append, List.length_singleton] at this
      rw [this]
      simp only [plainL, if_neg hb]
      cases plainL t e <;> simp
theorem offL_lt : ∀ (q d : List Int) (a n : Int), inR q d → q.length = d.length → 0 ≤ a → a < n → n ≤ 4096 → (szRun n d).isSome → 0 ≤ offL a q d ∧ offL a q d < 4096
  | [], [], a, n, _, _, h0, h1, h2, _ => ⟨h0, by show a < 4096; omega⟩
  | [], _ :: _, _, _, _, hq, _, _, _, _ => by simp at hq
  | _ :: _, [], _, _, _, hq, _, _, _, _ => by simp at hq
  | k :: q, v :: t, a, n, hr, hq, h0, h1, h2, hs => by
    have hc : ¬ (v < 1 ∨ 4096 < n * v) := fun hc => by rw [szRun_bad hc] at hs; cases hs
    rw [szRun_ok hc] at hs
    have e1 : n * v = (n - 1) * v + v := by rw [Int.sub_mul]; omega
    have e2 : a * v ≤ (n - 1) * v := Int.mul_le_mul_of_nonneg_right (by omega) (by omega)
    have e3 : 0 ≤ a * v := Int.mul_nonneg h0 (by omega)
    obtain ⟨r1, r2, r3⟩ := hr
    exact offL_lt q t (a * v + k) (n * v) r3 (by simpa using hq) (by omega) (by omega) (by omega) hs
theorem s_trace_region (n : gNest) (name : Str) (idx : List gIndex) (hl : idx.length ≤ 1048576) (hb : n.fBufs.length ≤ 1048576) (hd : ∀ b ∈ n.fBufs, b.fDims.length ≤ 1048576) : F_trace_region n name idx = some (regionS n name idx) := by
  unfold F_trace_region regionS
  rw [s_loopnest_Buffer n name hb hd]
  cases hbo : bufOf n.fBufs name with
  | none => rfl
  | some b =>
    have hdl := hd b (bufOf_mem hbo)
    obtain ⟨v, e1, e2⟩ := s_shape_Validate b.fDims hdl
    simp only [bS, if_true, e1]
    cases hs : shOf b.fDims with
    | none =>
      have hv : (v != 0) = true := by rw [hs] at e2; simp at e2; simpa using e2
      rw [hv]; rfl
    | some m =>
      have hv : v = 0 := e2.2 (by rw [hs]; rfl)
      subst hv
      have e : ((0 : Int) != 0) = false := rfl
      simp only [e, Bool.false_eq_true, if_false, bS, s_shape_Size b.fDims m hdl hs]
      have hL := s_region_go b [gRegion.mk name 0 m] idx hl hdl idx [] b.fDims [] [] rfl rfl rfl rfl
      rw [show F_trace_region_L7 b [gRegion.mk name 0 m] [] idx (↑idx.length) 0 = _ from hL]
      cases hp : plainL idx b.fDims with
      | none => rw [plainL_none hp]; rfl
      | some q =>
        obtain ⟨h1, h2, h3⟩ := plainL_some hp
        obtain ⟨h4, h5⟩ := h3 0
        simp only [bS, List.nil_append]
        by_cases hq : q.length = b.fDims.length
        · have hsz : (szRun 1 b.fDims).isSome := by unfold shOf at hs; split at hs; rw [hs]; rfl; cases hs
          have hlt := offL_lt q b.fDims 0 1 h2 hq (by omega) (by omega) (by omega) hsz
          rw [s_shape_Offset b.fDims q hdl (by rw [hs]; rfl) hq h2, h4 hq]
          simp only [bS, if_true]
          rw [wrapId (by omega)]
        · rw [s_shape_Offset_no b.fDims q hdl (by rw [hs]; rfl) hq, h5 hq]
          simp only [bS, Bool.false_eq_true, if_false]
theorem s_ref_region_go (b : gBuffer) (idx : List gIndex) (hl : idx.length ≤ 1048576) : ∀ (t pre : List gIndex) (e pd : List Int) (a n : Int), idx = pre ++ t → b.fDims = pd ++ e → pre.length = pd.length → t.length = e.length → 0 ≤ a → a < n → n ≤ 4096 → (szRun n e).isSome →
    ∃ k, F_ref33_region_L9 idx b a true pre.length = some (k, (offs a t e).isSome) ∧ ∀ v, offs a t e = some v → k = v ∧ 0 ≤ k ∧ k < 4096
  | [], pre, [], pd, a, n, hi, _, _, _, h0, h1, h2, _ => by
    refine ⟨a, ?_, fun v hv => by cases hv; omega⟩
    rw [F_ref33_region_L9]
    simp only [bS]
    rw [if_neg (by rw [hi]; simp)]; rfl
  | [], _, _ :: _, _, _, _, _, _, _, hq, _, _, _, _ => by simp at hq
  | _ :: _, _, [], _, _, _, _, _, _, hq, _, _, _, _ => by simp at hq
  | x :: t, pre, v :: e, pd, a, n, hi, hdd, hpl, hq, h0, h1, h2, hs => by
    have hlt : pre.length < idx.length := by rw [hi]; simp
    have hc : ¬ (v < 1 ∨ 4096 < n * v) := fun hc => by rw [szRun_bad hc] at hs; cases hs
    rw [szRun_ok hc] at hs
    have e1 : n * v = (n - 1) * v + v := by rw [Int.sub_mul]; omega
    have e2 : a * v ≤ (n - 1) * v := Int.mul_le_mul_of_nonneg_right (by omega) (by omega)
    have e3 : 0 ≤ a * v := Int.mul_nonneg h0 (by omega)
    have hixd : ix b.fDims pre.length = some v := by rw [hpl]; exact ix_app hdd
    have hixi : ix idx pre.length = some x := ix_app hi
    have hL : ((0 : Int) < ((x.fLin.fL.length : Nat) : Int)) ↔ x.fLin.fL ≠ [] := by
      cases x.fLin.fL <;> simp
    have hF : ((!x.fFrom == []) = true) ↔ x.fFrom ≠ [] := by simp
    rw [F_ref33_region_L9]
    simp only [bS]
    rw [if_pos (show (pre.length : Int) < idx.length by omega)]
    simp only [bS, if_true, hixi, hixd]
    by_cases hb : badIx x v
    · have : (if (!x.fFrom == []) = true then some true else if (0 : Int) < ((x.fLin.fL.length : Nat) : Int) then some true else if x.fLin.fK < 0 then some true else if v ≤ x.fLin.fK then some true else some false) = some true := by
        rcases hb with h | h | h | h
        · rw [if_pos (hF.2 h)]
        · rw [if_pos (hL.2 h), ite_self]
        · rw [if_pos h, ite_self, ite_self]
        · rw [if_pos h, ite_self, ite_self, ite_self]
      rw [this]
      simp only [bS, if_true]
      rw [offs_bad hb]
      refine ⟨a, ?_, fun v hv => by cases hv⟩
      rw [F_ref33_region_L9]
      simp only [bS, Bool.false_eq_true, if_false, ite_self]
      rfl
    · have hn : x.fFrom = [] ∧ x.fLin.fL = [] ∧ ¬ x.fLin.fK < 0 ∧ ¬ v ≤ x.fLin.fK := by
        unfold badIx at hb
        refine ⟨Classical.byContradiction fun h => hb (.inl h), Classical.byContradiction fun h => hb (.inr (.inl h)), fun h => hb (.inr (.inr (.inl h))), fun h => hb (.inr (.inr (.inr h)))⟩
      rw [if_neg (fun h => hF.1 h hn.1), if_neg (fun h => hL.1 h hn.2.1), if_neg hn.2.2.1, if_neg hn.2.2.2]
      simp only [bS, Bool.false_eq_true, if_false]
      rw [wrapId (n := a * v) (by omega), wrapId (n := a * v + x.fLin.fK) (by omega), wrapL (by omega), offs_ok hb]
      have := s_ref_region_go b idx hl t (pre ++ [x]) e (pd ++ [v]) (a * v + x.fLin.fK) (n * v) (by rw [hi]; simp) (by rw [hdd]; simp) (by simp [hpl]) (by simpa using hq) (by omega) (by omega) (by omega) hs
      simp only [List.length_append, List.length_singleton] at this
      exact this
theorem s_ref33_region (n : gNest) (name : Str) (idx : List gIndex) (hl : idx.length ≤ 1048576) (hb : n.fBufs.length ≤ 1048576) (hd : ∀ b ∈ n.fBufs, b.fDims.length ≤ 1048576) : F_ref33_region n name idx = some (regionS n name idx) := by
  unfold F_ref33_region regionS
  rw [s_ref30_Buffer n name hb]
  cases hbo : bufOf n.fBufs name with
  | none => rfl
  | some b =>
    have hdl := hd b (bufOf_mem hbo)
    obtain ⟨k, e1, e2⟩ := s_ref33_elements b.fDims hdl
    simp only [bS, if_true, e1]
    cases hs : shOf b.fDims with
    | none => rfl
    | some m =>
      have hk := e2 m hs
      subst hk
      have hsz : (szRun 1 b.fDims).isSome := by unfold shOf at hs; split at hs; rw [hs]; rfl; cases hs
      simp only [Option.isSome_some, if_true, bS, List.length_map]
      by_cases hq : idx.length = b.fDims.length
      · obtain ⟨j, f1, f2⟩ := s_ref_region_go b idx hl idx [] b.fDims [] 0 1 rfl rfl rfl hq (by omega) (by omega) (by omega) hsz
        have e : ((idx.length : Int) == (b.fDims.length : Int)) = true := by rw [hq]; simp
        rw [e, show F_ref33_region_L9 idx b 0 true 0 = _ from f1]
        cases ho : offs 0 idx b.fDims with
        | none => rfl
        | some a =>
          obtain ⟨rfl, g1, g2⟩ := f2 a ho
          simp only [bS, Option.isSome_some, if_true]
          rw [wrapId (by omega)]
      · have e : ((idx.length : Int) == (b.fDims.length : Int)) = false := by simp; omega
        have hn : offs 0 idx b.fDims = none := by
          cases ho : offs 0 idx b.fDims with
          | none => rfl
          | some a => exact absurd (offs_len ho) hq
        have : F_ref33_region_L9 idx b 0 false 0 = some (0, false) := by
          rw [F_ref33_region_L9]
          simp only [bS, Bool.false_eq_true, if_false, ite_self]
        rw [e, this, hn]
        rfl
end Go.Proofs.YtfpegbpngbchfaaGreatDoor
end
section
namespace Go.Proofs.YtfpegbpngbchfaaGreatDoor
open Go HY
set_option linter.unusedVariables false
set_option linter.unusedSimpArgs false
theorem nodes_all {R : gExpr → Prop} (h : ∀ x : gExprS, R (.mk x) → ∀ a ∈ x.fArgs, R a) : ∀ e, R e → ∀ a ∈ nodes e, R a := gExpr.ind fun x ih hx a ha => by
  rw [nodes_mk, List.mem_cons, List.mem_flatten] at ha
  rcases ha with rfl | ⟨l, hl, ha⟩
  · exact hx
  · obtain ⟨b, hb, rfl⟩ := List.mem_map.1 hl
    exact ih b hb (h x hx b hb) a ha
theorem nodes_w (x : gExprS) (N : Nat) (hx : wExprS x ≤ N) : ∀ a ∈ nodes (.mk x), wExprS a.f ≤ N :=
  nodes_all (R := fun a => wExprS a.f ≤ N) (fun x h a ha => by have := wE_arg ha; simp only [gExpr.f_mk] at h; omega) (.mk x) hx
structure okN (n : gNest) : Prop where
  len : n.fBufs.length ≤ 1048576
  dims : ∀ b ∈ n.fBufs, b.fDims.length ≤ 1048576
theorem okN.of {n : gNest} (h : wNest n ≤ 1048576) : okN n := by
  have hn : wNest n = 1 + wSum wBuf n.fBufs + wSum wStmt n.fBody := rfl
  obtain ⟨h1, h2⟩ := B_facts (l := n.fBufs) (by omega)
  exact ⟨h1, fun b hb => (h2 b hb).2⟩
theorem s_gathers_L8 (l : List gLin) (hl : l.length ≤ 1048576) : F_trace_gathers_L8 [] l l.length 0 = some (l.map fun x => gIndex.mk x [] []) := by
  have := loopEqI (F := fun a i => F_trace_gathers_L8 a l l.length i) (l := l) (fun a t => a.length + t.length ≤ 1048576) (fun a t => a ++ t.map fun x => gIndex.mk x [] []) (by
    intro a _
    rw [F_trace_gathers_L8]; simp) (by
    intro i y t a h0 h1 hm hix hI ih
    simp only [List.length_cons] at hI
    rw [F_trace_gathers_L8, if_pos h1, hix]
    simp only [bS, wrapS h0 h1 (by omega)]
    rw [if_pos (by omega), ih _ (by simp; omega)]
    simp) [] (by simpa using hl)
  simpa using this
theorem s_ref_gathers_L8 (idx : List gIndex) (k : Int) (x : gIndex) (hk : ix idx k = some x) (hl : x.fAt.length ≤ 1048576) : F_ref33_gathers_L8 idx k [] 0 = some (x.fAt.map fun x => gIndex.mk x [] []) := by
  have := loopEqI (F := fun a i => F_ref33_gathers_L8 idx k a i) (l := x.fAt) (fun a t => a.length + t.length ≤ 1048576) (fun a t => a ++ t.map fun x => gIndex.mk x [] []) (by
    intro a _
    rw [F_ref33_gathers_L8, hk]; simp [bS]) (by
    intro i y t a h0 h1 hm hix hI ih
    simp only [List.length_cons] at hI
    rw [F_ref33_gathers_L8, hk, bS, bS, if_pos h1, bS, hix]
    simp only [bS, wrapS h0 h1 (by omega)]
    rw [if_pos (by omega), ih _ (by simp; omega)]
    simp) [] (by simpa using hl)
  simpa using this
theorem gath_from {n : gNest} {x : gIndex} (h : (x.fFrom == []) = true) : gath1 n x = [] := by
  unfold gath1; rw [if_pos (by simpa using h)]
theorem gath_no {n : gNest} {x : gIndex} (h : ¬ (x.fFrom == []) = true) : gath1 n x = regionS n x.fFrom (x.fAt.map fun l => gIndex.mk l [] []) := by
  unfold gath1; rw [if_neg (by simpa using h)]
theorem gathersS_cons (n : gNest) (x : gIndex) (t : List gIndex) : gathersS n (x :: t) = gath1 n x ++ gathersS n t := by simp [gathersS]
theorem s_trace_gathers (n : gNest) (idx : List gIndex) (hn : okN n) (hl : idx.length ≤ 1048576) (ha : ∀ x ∈ idx, x.fAt.length ≤ 1048576) : F_trace_gathers n idx = some (gathersS n idx) := by
  have L := loopEqI (F := fun a i => F_trace_gathers_L3 n a idx idx.length i) (l := idx) (fun a t => a.length + t.length ≤ 1048576) (fun a t => a ++ gathersS n t) (by
    intro a _
    rw [F_trace_gathers_L3]; simp [gathersS]) (by
    intro i y t a h0 h1 hm hix hI ih
    simp only [List.length_cons] at hI
    rw [F_trace_gathers_L3, if_pos h1, hix]
    simp only [bS, wrapS h0 h1 (by omega), gathersS_cons]
    by_cases h2 : (y.fFrom == []) = true
    · rw [if_pos h2, gath_from h2, ih _ (by omega)]; simp
    · rw [if_neg h2, s_gathers_L8 y.fAt (ha y hm), bS, s_trace_region n y.fFrom _ (by simpa using ha y hm) hn.len hn.dims, bS, ← gath_no h2]
      have := gath1_len n y
      rw [if_pos (by rw [List.length_map]; omega), ih _ (by rw [List.length_append]; omega)]; simp) [] (by simpa using hl)
  unfold F_trace_gathers
  simp only [bS]
  rw [show F_trace_gathers_L3 n [] idx (↑idx.length) 0 = _ from L]
  simp [bS]
theorem s_ref33_gathers (n : gNest) (idx : List gIndex) (hn : okN n) (hl : idx.length ≤ 1048576) (ha : ∀ x ∈ idx, x.fAt.length ≤ 1048576) : F_ref33_gathers n idx = some (gathersS n idx) := by
  have L := loopEqI (F := fun a i => F_ref33_gathers_L3 idx n a i) (l := idx) (fun a t => a.length + t.length ≤ 1048576) (fun a t => a ++ gathersS n t) (by
    intro a _
    rw [F_ref33_gathers_L3]; simp [gathersS, bS]) (by
    intro i y t a h0 h1 hm hix hI ih
    simp only [List.length_cons] at hI
    rw [F_ref33_gathers_L3, bS, if_pos h1, hix]
    simp only [bS, wrapS h0 h1 (by omega), gathersS_cons, hix]
    by_cases h2 : (y.fFrom == []) = true
    · rw [if_pos h2, gath_from h2, ih _ (by omega)]; simp
    · rw [if_neg h2, s_ref_gathers_L8 idx i y hix (ha y hm), bS, s_ref33_region n y.fFrom _ (by simpa using ha y hm) hn.len hn.dims, bS, ← gath_no h2]
      have := gath1_len n y
      rw [if_pos (by rw [List.length_map]; omega), ih _ (by rw [List.length_append]; omega)]; simp) [] (by simpa using hl)
  unfold F_ref33_gathers
  simp only [bS]
  rw [show F_ref33_gathers_L3 idx n [] 0 = _ from L]
  simp [bS]
theorem idx_at {l : List gIndex} (h : ∀ i ∈ l, wIdx i ≤ 1048576) : ∀ x ∈ l, x.fAt.length ≤ 1048576 := fun x hx => by have := wIdx_len x; have := h x hx; omega
theorem read1_is {n : gNest} {y : gExprS} (h : (y.fOp == (3 : Int)) = true) : read1 n y = gathersS n y.fIdx ++ regionS n y.fName y.fIdx := by unfold read1; rw [if_pos (by simpa using h)]
theorem read1_no {n : gNest} {y : gExprS} (h : ¬ (y.fOp == (3 : Int)) = true) : read1 n y = [] := by unfold read1; rw [if_neg (by simpa using h)]
theorem s_reads_R (n : gNest) (hn : okN n) : ∀ (l : List gExpr) (out : List gRegion), (∀ e ∈ l, wExprS e.f ≤ 1048576) → out.length + (readsL n l).length ≤ 1099511627776 → F_trace_reads_R n l out = some (out ++ readsL n l)
  | [], out, _, _ => by simp [F_trace_reads_R, readsL]
  | e :: t, out, he, hs => by
    rw [readsL_cons, List.length_append] at hs
    obtain ⟨e1, e2, e3, e4, e5, e6, e7⟩ := E_facts (he e (by simp))
    have ih := fun o => s_reads_R n hn t o fun a ha => he a (by simp [ha])
    rw [F_trace_reads_R, readsL_cons]
    by_cases h : (e.f.fOp == (3 : Int)) = true
    · rw [read1_is h] at hs ⊢
      rw [List.length_append] at hs
      rw [if_pos h, s_trace_gathers n e.f.fIdx hn e4 (idx_at e5), bS, if_pos (by omega), s_trace_region n _ _ e4 hn.len hn.dims, bS, if_pos (by omega), ih _ (by simp only [List.length_append]; omega)]
      simp
    · rw [read1_no h] at hs ⊢
      rw [if_neg h, ih _ (by simpa using hs)]
      simp
theorem aE_w : ∀ e : gExpr, wExpr e ≤ 1048576 → aE e := gExpr.ind fun x ih h => by
  rw [wExpr_f, gExpr.f_mk] at h
  obtain ⟨e1, e2, e3, e4, e5, e6, e7⟩ := E_facts h
  exact .mk x (by omega) fun a ha => ih a ha (by rw [wExpr_f]; exact e7 a ha)
theorem s_trace_reads (n : gNest) (x : gExprS) (hn : okN n) (hx : wExprS x ≤ 1048576) : F_trace_reads n x = some (readsS n x) := by
  unfold F_trace_reads F_expr_Walk
  rw [dif_pos (aE_w (.mk x) (by rw [wExpr_f]; exact hx)), bS]
  have hl := readsS_len' n x
  have h := s_reads_R n hn (nodes (.mk x)) [] (nodes_all (R := fun a => wExprS a.f ≤ 1048576) (fun y hy a ha => by have := wE_arg ha; simp only [gExpr.f_mk] at hy; omega) (.mk x) hx) (by
    have : (readsL n (nodes (.mk x))).length ≤ wExprS x := hl
    simp; omega)
  rw [h]; rfl
theorem s_ref33_read (n : gNest) (hn : okN n) : ∀ e : gExpr, wExprS e.f ≤ 1048576 → F_ref33_read n e.f = some (readsS n e.f) := gExpr.ind fun x ih hx => by
  rw [gExpr.f_mk] at hx ⊢
  obtain ⟨e1, e2, e3, e4, e5, e6, e7⟩ := E_facts hx
  have hxe : wExprS x = 1 + x.fName.length + wLin x.fLin + wSum wIdx x.fIdx + wSum wExpr x.fArgs := rfl
  have hr1 := read1_len n x
  have hil := wSum_len (f := wIdx) (l := x.fIdx) wIdx1
  have hll := wLin1 x.fLin
  have L : ∀ a : List gRegion, a.length + wSum wExpr x.fArgs ≤ 1048576 → F_ref33_read_L6 n x a 0 = some (a ++ (x.fArgs.map fun b => readsS n b.f).flatten) := fun a ha =>
    loopEqI (F := fun a i => F_ref33_read_L6 n x a i) (l := x.fArgs) (fun a t => a.length + wSum wExpr t ≤ 1048576) (fun a t => a ++ (t.map fun b => readsS n b.f).flatten) (by
      intro a _
      rw [F_ref33_read_L6]; simp [bS]) (by
      intro i y t a h0 h1 hm hix hI ih2
      rw [wSum_cons] at hI
      have hy := readsS_len n y
      rw [F_ref33_read_L6, bS, if_pos h1, hix, omS, bS, ih y hm (e7 y hm), bS]
      simp only [wrapS h0 h1 (by omega)]
      rw [if_pos (by rw [List.length_map]; omega), bS, ih2 _ (by rw [List.length_append]; omega)]
      simp) a ha
  rw [F_ref33_read, bS]
  have tail : ∀ a : List gRegion, a = read1 n x → ((some a >>= fun v6 => some () >>= fun v7 => F_ref33_read_L6 n x v6 (0 : Int) >>= fun v9 => some v9) : Option (List gRegion)) = some (readsS n x) := fun a ha => by
    subst ha
    rw [bS, bS, L _ (by omega), bS, readsS_mk]
  by_cases h : (x.fOp == (3 : Int)) = true
  · have hg := gathersS_len n x.fIdx
    have hr := regionS_len n x.fName x.fIdx
    rw [if_pos h, s_ref33_gathers n x.fIdx hn e4 (idx_at e5), bS, if_pos ⟨rfl, by rw [List.length_map]; omega⟩, bS, s_ref33_region n _ _ e4 hn.len hn.dims, bS, if_pos (by rw [List.length_map]; simp; omega), bS]
    exact tail _ (by rw [read1_is h]; rfl)
  · rw [if_neg h]
    exact tail _ (by rw [read1_no h])
theorem s_ref33_read' (n : gNest) (x : gExprS) (hn : okN n) (hx : wExprS x ≤ 1048576) : F_ref33_read n x = some (readsS n x) := s_ref33_read n hn (.mk x) hx
theorem op23 {x : gStmtS} : ((if x.fOp == (2 : Int) then some true else if x.fOp == (3 : Int) then some true else some false) : Option Bool) = some (decide (x.fOp = 2 ∨ x.fOp = 3)) := by
  by_cases h2 : x.fOp = 2 <;> by_cases h3 : x.fOp = 3 <;> simp [h2, h3]
theorem s_trace_store (x : gStmtS) : F_trace_store x = some (decide (x.fOp = 2 ∨ x.fOp = 3)) := by
  unfold F_trace_store
  by_cases h2 : x.fOp = 2 <;> by_cases h3 : x.fOp = 3 <;> simp [h2, h3]
theorem op14 {x : gStmtS} : ((if x.fOp == (1 : Int) then some true else if x.fOp == (4 : Int) then some true else some false) : Option Bool) = some (decide (x.fOp = 1 ∨ x.fOp = 4)) := by
  by_cases h2 : x.fOp = 1 <;> by_cases h3 : x.fOp = 4 <;> simp [h2, h3]
theorem s_trace_Writes (n : gNest) (hn : okN n) : ∀ e : gStmt, wStmtS e.f ≤ 1048576 → F_trace_Writes n e.f = some (writesS n e) := gStmt.ind fun x ih hx => by
  rw [gStmt.f_mk] at hx ⊢
  obtain ⟨e1, e2, e3, e4, e5, e6, e7⟩ := S_facts hx
  have L : F_trace_Writes_L6 n [] x.fBody x.fBody.length 0 = some ((x.fBody.map (writesS n)).flatten) := by
    have := loopEqI (F := fun a i => F_trace_Writes_L6 n a x.fBody x.fBody.length i) (l := x.fBody) (fun a t => a.length + wSum wStmt t ≤ 1048576) (fun a t => a ++ (t.map (writesS n)).flatten) (by
      intro a _
      rw [F_trace_Writes_L6]; simp) (by
      intro i y t a h0 h1 hm hix hI ih2
      rw [wSum_cons] at hI
      have hy := writesS_len n y
      rw [F_trace_Writes_L6, if_pos h1, hix, omS, bS, ih y hm (e7 y hm), bS]
      simp only [wrapS h0 h1 (by omega)]
      rw [if_pos (by rw [List.length_map]; omega), bS, ih2 _ (by rw [List.length_append]; omega)]
      simp) [] (by simpa using e6)
    simpa using this
  rw [F_trace_Writes, s_trace_store, bS, writesS_mk]
  by_cases h : x.fOp = 2 ∨ x.fOp = 3
  · rw [if_pos (by simpa using h), if_pos h, s_trace_region n _ _ e3 hn.len hn.dims, bS]
  · rw [if_neg (by simpa using h), if_neg h, bS, op14, bS]
    by_cases h2 : x.fOp = 1 ∨ x.fOp = 4
    · rw [if_pos (by simpa using h2), if_pos h2]
      simp only [bS, L]
    · rw [if_neg (by simpa using h2), if_neg h2]
theorem s_ref33_Writes (n : gNest) (hn : okN n) : ∀ e : gStmt, wStmtS e.f ≤ 1048576 → F_ref33_Writes n e.f = some (writesS n e) := gStmt.ind fun x ih hx => by
  rw [gStmt.f_mk] at hx ⊢
  obtain ⟨e1, e2, e3, e4, e5, e6, e7⟩ := S_facts hx
  have L : (x.fOp = 1 ∨ x.fOp = 4) → F_ref33_Writes_L5 n x [] 0 = some ((x.fBody.map (writesS n)).flatten) := fun ho => by
    have := loopEqI (F := fun a i => F_ref33_Writes_L5 n x a i) (l := x.fBody) (fun a t => a.length + wSum wStmt t ≤ 1048576) (fun a t => a ++ (t.map (writesS n)).flatten) (by
      intro a _
      rw [F_ref33_Writes_L5]; simp [bS]) (by
      intro i y t a h0 h1 hm hix hI ih2
      rw [wSum_cons] at hI
      have hy := writesS_len n y
      rw [F_ref33_Writes_L5, bS]
      simp only [bS]
      rw [if_pos h1, op14, bS, if_pos (by simpa using ho), hix, omS, bS, ih y hm (e7 y hm), bS]
      simp only [wrapS h0 h1 (by omega)]
      rw [if_pos (by rw [List.length_map]; omega), ih2 _ (by rw [List.length_append]; omega)]
      simp) [] (by simpa using e6)
    simpa using this
  rw [F_ref33_Writes, bS, op23, bS, writesS_mk]
  by_cases h : x.fOp = 2 ∨ x.fOp = 3
  · rw [if_pos (by simpa using h), if_pos h, s_ref33_region n _ _ e3 hn.len hn.dims, bS]
  · rw [if_neg (by simpa using h), if_neg h, bS]
    by_cases h2 : x.fOp = 1 ∨ x.fOp = 4
    · rw [if_pos h2, L h2, bS]
    · rw [if_neg h2, F_ref33_Writes_L5]
      simp only [bS]
      rw [op14]
      simp [h2, bS]
      try (split <;> simp [bS])
theorem s_trace_Reads (n : gNest) (hn : okN n) : ∀ e : gStmt, wStmtS e.f ≤ 1048576 → F_trace_Reads n e.f = some (stReads n e) := gStmt.ind fun x ih hx => by
  rw [gStmt.f_mk] at hx ⊢
  obtain ⟨e1, e2, e3, e4, e5, e6, e7⟩ := S_facts hx
  have hxe : wStmtS x = 1 + x.fName.length + wSum wIdx x.fIdx + wExprS x.fExpr + wSum wStmt x.fBody := rfl
  have L : ∀ a : List gRegion, a.length + wSum wStmt x.fBody ≤ 1048576 → F_trace_Reads_L9 n a x.fBody x.fBody.length 0 = some (a ++ (x.fBody.map (stReads n)).flatten) := fun a ha =>
    loopEqI (F := fun a i => F_trace_Reads_L9 n a x.fBody x.fBody.length i) (l := x.fBody) (fun a t => a.length + wSum wStmt t ≤ 1048576) (fun a t => a ++ (t.map (stReads n)).flatten) (by
      intro a _
      rw [F_trace_Reads_L9]; simp) (by
      intro i y t a h0 h1 hm hix hI ih2
      rw [wSum_cons] at hI
      have hy := stReads_len n y
      rw [F_trace_Reads_L9, if_pos h1, hix, omS, bS, ih y hm (e7 y hm), bS]
      simp only [wrapS h0 h1 (by omega)]
      rw [if_pos (by rw [List.length_map]; omega), bS, ih2 _ (by rw [List.length_append]; omega)]
      simp) a ha
  have hg := gathersS_len n x.fIdx
  have hr := readsS_len' n x.fExpr
  have hil := wSum_len (f := wIdx) (l := x.fIdx) wIdx1
  rw [F_trace_Reads, s_trace_store, bS, stReads_mk]
  by_cases h : x.fOp = 2 ∨ x.fOp = 3
  · rw [if_pos (by simpa using h), if_pos h, s_trace_gathers n _ hn e3 (idx_at e4), bS, s_trace_reads n _ hn e2, bS, if_pos (by rw [List.length_map]; omega), bS]
  · rw [if_neg (by simpa using h), if_neg h]
    by_cases h4 : x.fOp = 4
    · rw [if_pos (by simpa using h4), if_pos h4, s_trace_reads n _ hn e2]
      simp only [bS]
      rw [L _ (by omega), bS]
    · rw [if_neg (by simpa using h4), if_neg h4]
      by_cases h1 : x.fOp = 1
      · rw [if_neg (by simp [h1]), if_pos h1]
        simp only [bS]
        rw [L [] (by simp; omega), bS]; simp
      · rw [if_pos (by simpa using h1), if_neg h1]
theorem s_ref33_Reads (n : gNest) (hn : okN n) : ∀ e : gStmt, wStmtS e.f ≤ 1048576 → F_ref33_Reads n e.f = some (stReads n e) := gStmt.ind fun x ih hx => by
  rw [gStmt.f_mk] at hx ⊢
  obtain ⟨e1, e2, e3, e4, e5, e6, e7⟩ := S_facts hx
  have hxe : wStmtS x = 1 + x.fName.length + wSum wIdx x.fIdx + wExprS x.fExpr + wSum wStmt x.fBody := rfl
  have L : (x.fOp = 1 ∨ x.fOp = 4) → ∀ a : List gRegion, a.length + wSum wStmt x.fBody ≤ 1048576 → F_ref33_Reads_L7 n x a 0 = some (a ++ (x.fBody.map (stReads n)).flatten) := fun ho a ha =>
    loopEqI (F := fun a i => F_ref33_Reads_L7 n x a i) (l := x.fBody) (fun a t => a.length + wSum wStmt t ≤ 1048576) (fun a t => a ++ (t.map (stReads n)).flatten) (by
      intro a _
      rw [F_ref33_Reads_L7]; simp [bS]) (by
      intro i y t a h0 h1 hm hix hI ih2
      rw [wSum_cons] at hI
      have hy := stReads_len n y
      rw [F_ref33_Reads_L7, bS]
      simp only [bS]
      rw [if_pos h1, op14, bS, if_pos (by simpa using ho), hix, omS, bS, ih y hm (e7 y hm), bS]
      simp only [wrapS h0 h1 (by omega)]
      rw [if_pos (by rw [List.length_map]; omega), ih2 _ (by rw [List.length_append]; omega)]
      simp) a ha
  have hg := gathersS_len n x.fIdx
  have hr := readsS_len' n x.fExpr
  have hil := wSum_len (f := wIdx) (l := x.fIdx) wIdx1
  rw [F_ref33_Reads, bS, op23, bS, stReads_mk]
  by_cases h : x.fOp = 2 ∨ x.fOp = 3
  · rw [if_pos (by simpa using h), if_pos h, s_ref33_gathers n _ hn e3 (idx_at e4), bS, s_ref33_read' n _ hn e2, bS, if_pos (by rw [List.length_map]; omega), bS]
  · rw [if_neg (by simpa using h), if_neg h, bS]
    by_cases h4 : x.fOp = 4
    · rw [if_pos (by simpa using h4), if_pos h4, s_ref33_read' n _ hn e2]
      simp only [bS]
      rw [L (.inr h4) _ (by omega), bS]
    · rw [if_neg (by simpa using h4), if_neg h4]
      by_cases h1 : x.fOp = 1
      · rw [if_pos h1]
        simp only [bS]
        rw [L (.inl h1) [] (by simp; omega), bS]; simp
      · rw [if_neg h1]
        simp only [bS]
        rw [F_ref33_Reads_L7]
        simp only [bS]
        rw [op14]
        simp [h1, h4, bS]
        try (split <;> simp [bS])
end Go.Proofs.YtfpegbpngbchfaaGreatDoor
end
section
namespace Go.Proofs.YtfpegbpngbchfaaGreatDoor
open Go HY
set_option linter.unusedVariables false
set_option linter.unusedSimpArgs false
theorem s_depend_Overlap_L5 (x : gRegion) (b : List gRegion) (hl : b.length ≤ 1048576) : F_depend_Overlap_L5 x b b.length 0 = some (if b.any (ov x) then .inr true else .inl ()) := by
  refine loopEq (F := fun i => F_depend_Overlap_L5 x b b.length i) (l := b) (fun t => if t.any (ov x) then .inr true else .inl ()) ?_ ?_
  · rw [F_depend_Overlap_L5]; simp
  · intro i y t h0 h1 hix ih
    rw [F_depend_Overlap_L5, if_pos h1, hix]
    simp only [bS, wrapS h0 h1 (by omega), ih, List.any_cons]
    by_cases h2 : x.fBuffer == y.fBuffer
    · by_cases h3 : max x.fFrom y.fFrom < min x.fTo y.fTo
      · simp [ov, h2, h3, bS]
      · simp [ov, h2, h3, bS]
    · simp [ov, h2, bS]
theorem s_depend_Overlap_L2 (a b : List gRegion) (ha : a.length ≤ 1048576) (hl : b.length ≤ 1048576) : F_depend_Overlap_L2 b a a.length 0 = some (if ovL a b then .inr true else .inl ()) := by
  refine loopEq (F := fun i => F_depend_Overlap_L2 b a a.length i) (l := a) (fun t => if ovL t b then .inr true else .inl ()) ?_ ?_
  · rw [F_depend_Overlap_L2]; simp [ovL]
  · intro i y t h0 h1 hix ih
    rw [F_depend_Overlap_L2, if_pos h1, hix]
    simp only [bS, s_depend_Overlap_L5 y b hl, wrapS h0 h1 (by omega), ih, ovL, List.any_cons]
    by_cases hb : b.any (ov y) = true <;> simp [bS, hb]
theorem s_depend_Overlap (a b : List gRegion) (ha : a.length ≤ 1048576) (hl : b.length ≤ 1048576) : F_depend_Overlap a b = some (ovL a b) := by
  unfold F_depend_Overlap
  simp only [bS, s_depend_Overlap_L2 a b ha hl]
  cases ovL a b <;> simp [bS]
theorem s_ref34_Overlap_L5 (a : List gRegion) (x : gRegion) (k : Int) (b : List gRegion) (hk : ix a k = some x) (hl : b.length ≤ 1048576) : F_ref34_Overlap_L5 a b k 0 = some (if b.any (ov x) then .inr true else .inl ()) := by
  refine loopEq (F := fun i => F_ref34_Overlap_L5 a b k i) (l := b) (fun t => if t.any (ov x) then .inr true else .inl ()) ?_ ?_
  · rw [F_ref34_Overlap_L5]; simp [bS]
  · intro i y t h0 h1 hix ih
    rw [F_ref34_Overlap_L5, bS, if_pos h1, hix, hk]
    simp only [bS, wrapS h0 h1 (by omega), ih, List.any_cons]
    by_cases h2 : x.fBuffer == y.fBuffer
    · by_cases h3 : max x.fFrom y.fFrom < min x.fTo y.fTo
      · simp [ov, h2, h3, bS]
      · simp [ov, h2, h3, bS]
    · simp [ov, h2, bS]
theorem s_ref34_Overlap_L2 (a b : List gRegion) (ha : a.length ≤ 1048576) (hl : b.length ≤ 1048576) : F_ref34_Overlap_L2 a b 0 = some (if ovL a b then .inr true else .inl ()) := by
  refine loopEq (F := fun i => F_ref34_Overlap_L2 a b i) (l := a) (fun t => if ovL t b then .inr true else .inl ()) ?_ ?_
  · rw [F_ref34_Overlap_L2]; simp [ovL, bS]
  · intro i y t h0 h1 hix ih
    rw [F_ref34_Overlap_L2, bS, if_pos h1]
    simp only [bS, s_ref34_Overlap_L5 a y i b hix hl, wrapS h0 h1 (by omega), ih, ovL, List.any_cons]
    by_cases hb : b.any (ov y) = true <;> simp [bS, hb]
theorem s_ref34_Overlap (a b : List gRegion) (ha : a.length ≤ 1048576) (hl : b.length ≤ 1048576) : F_ref34_Overlap a b = some (ovL a b) := by
  unfold F_ref34_Overlap
  simp only [bS, s_ref34_Overlap_L2 a b ha hl]
  cases ovL a b <;> simp [bS]
theorem coreS_if (x : gStmtS) (y : gStmt) (h : x.fOp = 4) (hb : x.fBody = [y]) : coreS (.mk x) = coreS y := by
  rw [coreS, dif_pos ⟨h, by rw [hb]; rfl⟩]; simp [hb]
theorem coreS_no (x : gStmtS) (h : ¬ (x.fOp = 4 ∧ x.fBody.length = 1)) : coreS (.mk x) = x := by rw [coreS, dif_neg h]
theorem one_of {x : gStmtS} (h : x.fBody.length = 1) : ∃ y, x.fBody = [y] := List.length_eq_one_iff.1 h
theorem s_legality_core_L1 : ∀ e : gStmt, F_legality_core_L1 e.f = some (coreS e) := gStmt.ind fun x ih => by
  rw [gStmt.f_mk, F_legality_core_L1]
  simp only [bS]
  by_cases h : x.fOp = 4 ∧ x.fBody.length = 1
  · obtain ⟨y, hy⟩ := one_of h.2
    rw [coreS_if x y h.1 hy]
    simp only [h.1, hy, beq_self_eq_true, if_true, List.length_singleton, bS]
    have hz : ix [y] 0 = some y := rfl
    have := ih y (by rw [hy]; simp)
    simp [bS, hz, omS, this]
  · rw [coreS_no x h]
    by_cases h4 : x.fOp = 4
    · have h1 : ¬ x.fBody.length = 1 := fun e => h ⟨h4, e⟩
      have : ((x.fBody.length : Int) == 1) = false := by simp; omega
      simp [h4, this, bS]
    · simp [h4, bS]
theorem s_legality_core (x : gStmtS) : F_legality_core x = some (coreS (.mk x)) := by
  unfold F_legality_core
  have := s_legality_core_L1 (.mk x)
  rw [gStmt.f_mk] at this
  simp only [bS, this]
theorem s_ref35_Core_L1 : ∀ e : gStmt, F_ref35_Core_L1 e.f = some (coreS e) := gStmt.ind fun x ih => by
  rw [gStmt.f_mk, F_ref35_Core_L1]
  simp only [bS]
  by_cases h : x.fOp = 4 ∧ x.fBody.length = 1
  · obtain ⟨y, hy⟩ := one_of h.2
    rw [coreS_if x y h.1 hy]
    simp only [h.1, hy, beq_self_eq_true, if_true, List.length_singleton, bS]
    have hz : ix [y] 0 = some y := rfl
    have := ih y (by rw [hy]; simp)
    simp [bS, hz, omS, this]
  · rw [coreS_no x h]
    by_cases h4 : x.fOp = 4
    · have h1 : ¬ x.fBody.length = 1 := fun e => h ⟨h4, e⟩
      have : ((x.fBody.length : Int) == 1) = false := by simp; omega
      simp [h4, this, bS]
    · simp [h4, bS]
theorem s_ref35_Core (x : gStmtS) : F_ref35_Core x = some (coreS (.mk x)) := by
  unfold F_ref35_Core
  have := s_ref35_Core_L1 (.mk x)
  rw [gStmt.f_mk] at this
  simp only [bS, this]
def tyOK (t : gType) : Bool := if t.fKind = 1 ∨ t.fKind = 3 then t.fBits == 0 && (t.fFrac == 0 && (t.fRound == 0 && t.fOver == 0)) else decide (t.fKind = 2 ∧ 2 ≤ t.fBits ∧ t.fBits ≤ 31 ∧ 0 ≤ t.fFrac ∧ t.fFrac ≤ 30 ∧ 1 ≤ t.fRound ∧ t.fRound ≤ 4 ∧ (t.fOver = 1 ∨ t.fOver = 2))
theorem bI {α β : Type} {c : Prop} [Decidable c] {x y : Option α} {f : α → Option β} : ((if c then x else y) >>= f) = if c then x >>= f else y >>= f := by split <;> rfl
theorem p_ValidateType (t : gType) : F_value_ValidateType t = some (if tyOK t = true then 0 else 10) := by
  unfold F_value_ValidateType F_value_plain F_fixed_ValidateType tyOK
  simp only [bS, bI, ite_t, ite_f, beq_iff_eq, bne_iff_ne, Bool.and_eq_true, decide_eq_true_eq, Bool.true_and, Bool.and_true]
  grind
theorem r_Type (t : gType) : F_base_Type t = some (tyOK t) := by
  unfold F_base_Type tyOK
  simp only [bS, beq_iff_eq, bne_iff_ne, Bool.and_eq_true, decide_eq_true_eq, Bool.true_and, Bool.and_true]
  grind
def reS (f : Int) (t : gType) : Bool := tyOK t && (f == 3 || (f == 4 || (t.fKind != 2 && (f == 1 || f == 2))))
theorem p_re (f : Int) (t : gType) : F_value_Reorderable f t = some (reS f t) := by
  unfold F_value_Reorderable reS
  rw [p_ValidateType]
  cases tyOK t with
  | false => simp [bS]
  | true =>
    simp only [bS, if_true, bne_self_eq_false, Bool.false_eq_true, if_false, Bool.true_and]
    by_cases h3 : f = 3
    · simp [h3, bS]
    · by_cases h4 : f = 4
      · simp [h4, bS]
      · by_cases h1 : f = 1
        · by_cases hk : t.fKind = 2 <;> simp [h1, hk, bS]
        · by_cases h2 : f = 2
          · by_cases hk : t.fKind = 2 <;> simp [h2, hk, bS]
          · simp [h1, h2, h3, h4, bS, show (f == 3) = false by simpa using h3, show (f == 4) = false by simpa using h4, show (f == 1) = false by simpa using h1, show (f == 2) = false by simpa using h2]
theorem r_re (f : Int) (t : gType) : F_ref04_Reorderable f t = some (reS f t) := by
  unfold F_ref04_Reorderable reS
  rw [r_Type]
  cases tyOK t with
  | false => simp [bS]
  | true =>
    simp only [bS, if_true, Bool.true_and]
    by_cases h3 : f = 3
    · simp [h3]
    · by_cases h4 : f = 4
      · simp [h4]
      · by_cases hk : t.fKind = 2
        · simp [h3, h4, hk]
        · by_cases h1 : f = 1
          · simp [h1, hk]
          · simp [h1, h3, h4, hk, show (f == 3) = false by simpa using h3, show (f == 4) = false by simpa using h4, show (f == 1) = false by simpa using h1, show (t.fKind != 2) = true by simpa using hk]
def comS (n : gNest) (a b : gStmtS) : Bool :=
  (coreS (.mk a)).fOp == 3 && ((coreS (.mk b)).fOp == 3 && ((coreS (.mk a)).fName == (coreS (.mk b)).fName && ((coreS (.mk a)).fFold == (coreS (.mk b)).fFold &&
    ((match bufOf n.fBufs (coreS (.mk a)).fName with | some q => reS (coreS (.mk a)).fFold q.fType | none => false) && (!ovL (stReads n (.mk a)) (writesS n (.mk b)) && !ovL (stReads n (.mk b)) (writesS n (.mk a)))))))
theorem comS_comm (n : gNest) (a b : gStmtS) : comS n a b = comS n b a := by
  unfold comS
  generalize coreS (.mk a) = x, coreS (.mk b) = y
  have e1 : (y.fName == x.fName) = (x.fName == y.fName) := BEq.comm
  have e2 : (y.fFold == x.fFold) = (x.fFold == y.fFold) := BEq.comm
  rw [e1, e2]
  cases hx : x.fOp == 3 <;> cases hy : y.fOp == 3 <;> cases h3 : x.fName == y.fName <;> cases h4 : x.fFold == y.fFold <;> try rfl
  rw [eq_of_beq h3, eq_of_beq h4, Bool.and_comm (!ovL (stReads n (.mk a)) (writesS n (.mk b)))]
theorem ov_len {n : gNest} {a : gStmtS} (ha : wStmtS a ≤ 1048576) : (stReads n (.mk a)).length ≤ 1048576 ∧ (writesS n (.mk a)).length ≤ 1048576 := by
  have h1 := stReads_len n (.mk a)
  have h2 := writesS_len n (.mk a)
  rw [wStmt_f, gStmt.f_mk] at h1 h2
  omega
theorem p_com (n : gNest) (a b : gStmtS) (hn : okN n) (ha : wStmtS a ≤ 1048576) (hb : wStmtS b ≤ 1048576) : F_legality_Commutes n a b = some (comS n a b) := by
  obtain ⟨a1, a2⟩ := ov_len (n := n) ha
  obtain ⟨b1, b2⟩ := ov_len (n := n) hb
  have ra := s_trace_Reads n hn (.mk a) (by rw [gStmt.f_mk]; exact ha)
  have rb := s_trace_Reads n hn (.mk b) (by rw [gStmt.f_mk]; exact hb)
  have wa := s_trace_Writes n hn (.mk a) (by rw [gStmt.f_mk]; exact ha)
  have wb := s_trace_Writes n hn (.mk b) (by rw [gStmt.f_mk]; exact hb)
  rw [gStmt.f_mk] at ra rb wa wb
  unfold F_legality_Commutes comS
  rw [s_legality_core, bS, s_legality_core, bS, bS]
  generalize coreS (.mk a) = x, coreS (.mk b) = y
  rw [s_loopnest_Buffer n _ hn.len hn.dims]
  by_cases h1 : x.fOp = 3
  · by_cases h2 : y.fOp = 3
    · by_cases h3 : x.fName = y.fName
      · by_cases h4 : x.fFold = y.fFold
        · simp only [h1, h2, h3, h4, bne_self_eq_false, Bool.false_eq_true, if_false, bS, beq_self_eq_true, Bool.not_true, Bool.true_and]
          cases bufOf n.fBufs y.fName with
          | none => simp [bS]
          | some q =>
            simp only [if_true, p_re, bS]
            cases reS y.fFold q.fType with
            | false => simp [bS]
            | true =>
              simp only [if_true, Bool.false_eq_true, if_false, bS, ra, wb, s_depend_Overlap _ _ a1 b2, Bool.true_and]
              cases ovL (stReads n (.mk a)) (writesS n (.mk b)) with
              | true => simp
              | false => simp [bS, rb, wa, s_depend_Overlap _ _ b1 a2]
        · simp [h1, h2, h3, h4, bS]
      · simp [h1, h2, h3, bS]
    · simp [h1, h2, bS]
  · simp [h1, bS]
theorem r_com (n : gNest) (a b : gStmtS) (hn : okN n) (ha : wStmtS a ≤ 1048576) (hb : wStmtS b ≤ 1048576) : F_ref35_Commutes n a b = some (comS n a b) := by
  obtain ⟨a1, a2⟩ := ov_len (n := n) ha
  obtain ⟨b1, b2⟩ := ov_len (n := n) hb
  have ra := s_ref33_Reads n hn (.mk a) (by rw [gStmt.f_mk]; exact ha)
  have rb := s_ref33_Reads n hn (.mk b) (by rw [gStmt.f_mk]; exact hb)
  have wa := s_ref33_Writes n hn (.mk a) (by rw [gStmt.f_mk]; exact ha)
  have wb := s_ref33_Writes n hn (.mk b) (by rw [gStmt.f_mk]; exact hb)
  rw [gStmt.f_mk] at ra rb wa wb
  unfold F_ref35_Commutes comS
  rw [s_ref35_Core, bS, s_ref35_Core, bS, bS]
  generalize coreS (.mk a) = x, coreS (.mk b) = y
  rw [s_ref30_Buffer n _ hn.len]
  by_cases h1 : x.fOp = 3
  · by_cases h2 : y.fOp = 3
    · by_cases h3 : x.fName = y.fName
      · by_cases h4 : x.fFold = y.fFold
        · simp only [h1, h2, h3, h4, bne_self_eq_false, Bool.false_eq_true, if_false, bS, beq_self_eq_true, Bool.not_true, Bool.true_and]
          cases bufOf n.fBufs y.fName with
          | none => simp [bS]
          | some q =>
            simp only [if_true, r_re, bS]
            cases reS y.fFold q.fType with
            | false => simp [bS]
            | true =>
              simp only [if_true, Bool.false_eq_true, if_false, bS, ra, wb, s_ref34_Overlap _ _ a1 b2, Bool.true_and]
              cases ovL (stReads n (.mk a)) (writesS n (.mk b)) with
              | true => simp
              | false => simp [bS, rb, wa, s_ref34_Overlap _ _ b1 a2]
        · simp [h1, h2, h3, h4, bS]
      · simp [h1, h2, h3, bS]
    · simp [h1, h2, bS]
  · simp [h1, bS]
abbrev an {α : Type} (x : Option α) : Prop := wp x (fun _ => True)
theorem ix_ok {α : Type} {l : List α} {i : Int} (h0 : 0 ≤ i) (h1 : i < l.length) : ∃ x, ix l i = some x ∧ x ∈ l := by
  refine ⟨l[i.toNat]'(by omega), ?_, List.getElem_mem _⟩
  unfold ix
  rw [if_pos h0, List.getElem?_eq_getElem]
theorem wrapT {n : Int} {k : Nat} (h0 : 0 ≤ n) (h1 : n < k) (hk : k ≤ 4611686018427387904) : IntKind.i64.wrap (n + 1) = n + 1 := wrapId (by omega)
inductive okE : gExpr → Prop
  | mk (x : gExprS) (h2 : x.fIdx.length ≤ 1048576) (h3 : ∀ i ∈ x.fIdx, True ∧ i.fAt.length ≤ 1048576 ∧ True) (h4 : x.fArgs.length ≤ 1048576) (h5 : ∀ a ∈ x.fArgs, okE a) : okE (.mk x)
inductive okS : gStmt → Prop
  | mk (x : gStmtS) (h1 : x.fIdx.length ≤ 1048576) (h2 : ∀ i ∈ x.fIdx, True ∧ i.fAt.length ≤ 1048576 ∧ True) (h3 : okE (.mk x.fExpr)) (h4 : x.fBody.length ≤ 1048576) (h5 : ∀ a ∈ x.fBody, okS a) : okS (.mk x)
def okSs (l : List gStmt) : Prop := l.length ≤ 1048576 ∧ ∀ a ∈ l, okS a
theorem okE.of {x : gExprS} (h : okE (.mk x)) : True ∧ x.fIdx.length ≤ 1048576 ∧ (∀ i ∈ x.fIdx, True ∧ i.fAt.length ≤ 1048576 ∧ True) ∧ x.fArgs.length ≤ 1048576 ∧ ∀ a ∈ x.fArgs, okE a := by
  cases h with
  | mk _ h2 h3 h4 h5 => exact ⟨trivial, h2, h3, h4, h5⟩
theorem okS.of {x : gStmtS} (h : okS (.mk x)) : x.fIdx.length ≤ 1048576 ∧ (∀ i ∈ x.fIdx, True ∧ i.fAt.length ≤ 1048576 ∧ True) ∧ okE (.mk x.fExpr) ∧ okSs x.fBody := by
  cases h with
  | mk _ h1 h2 h3 h4 h5 => exact ⟨h1, h2, h3, h4, h5⟩
theorem body_ind {P : List gStmt → Prop} (h : ∀ l, okSs l → (∀ s ∈ l, P s.f.fBody) → P l) : ∀ l, okSs l → P l := by
  have key : ∀ s : gStmt, okS s → P s.f.fBody := gStmt.ind fun x ih hx => by
    have hb := hx.of.2.2.2
    exact h _ hb fun s hs => ih s hs (hb.2 s hs)
  exact fun l hl => h l hl fun s hs => key s (hl.2 s hs)
theorem okE_w : ∀ e : gExpr, wExprS e.f ≤ 1048576 → okE e := gExpr.ind fun x ih h => by
  rw [gExpr.f_mk] at h
  obtain ⟨e1, e2, e3, e4, e5, e6, e7⟩ := E_facts h
  exact .mk x e4 (fun i hi => ⟨trivial, idx_at e5 i hi, trivial⟩) e6 fun a ha => ih a ha (e7 a ha)
theorem okS_w : ∀ e : gStmt, wStmtS e.f ≤ 1048576 → okS e := gStmt.ind fun x ih h => by
  rw [gStmt.f_mk] at h
  obtain ⟨e1, e2, e3, e4, e5, e6, e7⟩ := S_facts h
  exact .mk x e3 (fun i hi => ⟨trivial, idx_at e4 i hi, trivial⟩) (okE_w _ (by rw [gExpr.f_mk]; exact e2)) e5 fun a ha => ih a ha (e7 a ha)
theorem okSs_w {l : List gStmt} (h : wSum wStmt l ≤ 1048576) : okSs l := by
  obtain ⟨h1, h2⟩ := L_facts h
  exact ⟨h1, fun a ha => okS_w a (h2 a ha)⟩
theorem a_Weigh_L7 (m : Int) (x : gExprS) (k : Int) (y : gIndex) (hy : ix x.fIdx k = some y) (hl : y.fAt.length ≤ 4611686018427387904) (a : Int) : an (F_base_Weigh_L7 m x a k 0) := by
  refine loopUp (F := fun a i => F_base_Weigh_L7 m x a k i) y.fAt.length (fun _ _ => True) ?_ ?_ 0 a (by omega) (by omega) trivial
  · intro a _
    rw [F_base_Weigh_L7, bS, hy, bS, bS, if_neg (by omega), bS, if_neg (by simp)]; exact wp_some.2 trivial
  · intro i a h0 h1 _ ih
    rw [F_base_Weigh_L7, bS, hy, bS, bS, if_pos h1]
    by_cases hc : a ≤ m
    · obtain ⟨z, hz, _⟩ := ix_ok h0 h1
      rw [if_pos hc, bS, if_pos rfl, bS]
      simp only [hz, bS]
      rw [wrapT h0 h1 hl]
      exact ih _ trivial
    · rw [if_neg hc, bS, if_neg (by simp)]; exact wp_some.2 trivial
theorem a_Weigh_L3 (m : Int) (x : gExprS) (hl : x.fIdx.length ≤ 4611686018427387904) (hi : ∀ i ∈ x.fIdx, i.fAt.length ≤ 4611686018427387904) (a : Int) : an (F_base_Weigh_L3 m x a 0) := by
  refine loopUp (F := fun a i => F_base_Weigh_L3 m x a i) x.fIdx.length (fun _ _ => True) ?_ ?_ 0 a (by omega) (by omega) trivial
  · intro a _
    rw [F_base_Weigh_L3, bS, bS, if_neg (by omega), bS, if_neg (by simp)]; exact wp_some.2 trivial
  · intro i a h0 h1 _ ih
    rw [F_base_Weigh_L3, bS, bS, if_pos h1]
    by_cases hc : a ≤ m
    · obtain ⟨z, hz, hzm⟩ := ix_ok h0 h1
      rw [if_pos hc, bS, if_pos rfl]
      simp only [hz, bS]
      obtain ⟨r, er, _⟩ := a_Weigh_L7 m x i z hz (hi z hzm) (IntKind.i64.wrap (IntKind.i64.wrap (a + (List.map egMono z.fLin.fL).length) + z.fAt.length))
      rw [er, bS, wrapT h0 h1 hl]
      exact ih _ trivial
    · rw [if_neg hc, bS, if_neg (by simp)]; exact wp_some.2 trivial
theorem a_Weigh : ∀ e : gExpr, okE e → ∀ m, an (F_base_Weigh e.f m) := gExpr.ind fun x ih hx m => by
  obtain ⟨_, h2, h3, h4, h5⟩ := hx.of
  obtain ⟨r, er, _⟩ := a_Weigh_L3 m x (by omega) (fun i hi => by have := (h3 i hi).2.1; omega) (IntKind.i64.wrap (IntKind.i64.wrap (1 + (x.fLin.fL.length : Int)) + x.fIdx.length))
  have hL : ∀ a, an (F_base_Weigh_L11 m x a 0) := fun a => by
    refine loopUp (F := fun a i => F_base_Weigh_L11 m x a i) x.fArgs.length (fun _ _ => True) ?_ ?_ 0 a (by omega) (by omega) trivial
    · intro a _
      rw [F_base_Weigh_L11, bS, bS, if_neg (by omega), bS, if_neg (by simp)]; exact wp_some.2 trivial
    · intro i a h0 h1 _ ih2
      rw [F_base_Weigh_L11, bS, bS, if_pos h1]
      by_cases hc : a ≤ m
      · obtain ⟨z, hz, hzm⟩ := ix_ok h0 h1
        obtain ⟨q, eq, _⟩ := ih z hzm (h5 z hzm) (IntKind.i64.wrap (m - a))
        rw [if_pos hc, bS, if_pos rfl]
        simp only [hz, omS, bS, eq]
        rw [wrapT h0 h1 (by omega)]
        exact ih2 _ trivial
      · rw [if_neg hc, bS, if_neg (by simp)]; exact wp_some.2 trivial
  obtain ⟨r2, er2, _⟩ := hL r
  rw [gExpr.f_mk, F_base_Weigh]
  simp only [bS, er, er2]
  exact wp_some.2 trivial
theorem a_WeighStmts : ∀ l, okSs l → ∀ m, an (F_base_WeighStmts l m) := body_ind fun l hl ih m => by
  have hlen := hl.1
  have hL : ∀ a, an (F_base_WeighStmts_L3 l m a 0) := fun a => by
    refine loopUp (F := fun a i => F_base_WeighStmts_L3 l m a i) l.length (fun _ _ => True) ?_ ?_ 0 a (by omega) (by omega) trivial
    · intro a _
      rw [F_base_WeighStmts_L3, bS, bS, if_neg (by omega), bS, if_neg (by simp)]; exact wp_some.2 trivial
    · intro i a h0 h1 _ ih2
      rw [F_base_WeighStmts_L3, bS, bS, if_pos h1]
      by_cases hc : a ≤ m
      · obtain ⟨z, hz, hzm⟩ := ix_ok h0 h1
        have hzS : okS (.mk z.f) := by rw [gStmt.mk_f]; exact hl.2 z hzm
        obtain ⟨i1, i2, hE, _⟩ := hzS.of
        obtain ⟨q1, eq1, _⟩ := a_Weigh (.mk z.f.fExpr) hE m
        obtain ⟨q2, eq2, _⟩ := a_Weigh (.mk (gExprF.mk (0 : Int) [] (gVal.mk (0 : Int) (0 : Int)) (gType.mk (0 : Int) (0 : Int) (0 : Int) (0 : Int) (0 : Int)) (gLin.mk (0 : Int) []) z.f.fIdx [])) (.mk _ i1 i2 (by simp) (by simp)) m
        obtain ⟨q3, eq3, _⟩ := ih z hzm (max (0 : Int) (IntKind.i64.wrap (m - a)))
        rw [gExpr.f_mk] at eq1 eq2
        rw [if_pos hc, bS, if_pos rfl]
        simp only [hz, omS, bS, eq1, eq2, if_true, eq3]
        rw [wrapT h0 h1 (by omega)]
        exact ih2 _ trivial
      · rw [if_neg hc, bS, if_neg (by simp)]; exact wp_some.2 trivial
  obtain ⟨r, er, _⟩ := hL l.length
  rw [F_base_WeighStmts]
  simp only [bS, er]
  exact wp_some.2 trivial
theorem a_short : ∀ l, okSs l → an (F_law30_short l) := body_ind fun l hl ih => by
  have hlen := hl.1
  have hL : an (F_law30_short_L2 l 0) := by
    refine loopUp (F := fun (_ : Unit) i => F_law30_short_L2 l i) l.length (fun _ _ => True) ?_ ?_ 0 () (by omega) (by omega) trivial
    · intro a _
      rw [F_law30_short_L2, bS, if_neg (by omega)]; exact wp_some.2 trivial
    · intro i a h0 h1 _ ih2
      obtain ⟨z, hz, hzm⟩ := ix_ok h0 h1
      obtain ⟨q, eq, _⟩ := ih z hzm
      rw [F_law30_short_L2, bS, if_pos h1]
      simp only [hz, omS, bS, eq]
      by_cases c1 : (100 : Int) < (z.f.fName.length : Int)
      · rw [if_pos c1, bS, if_pos rfl]; exact wp_some.2 trivial
      · rw [if_neg c1]
        by_cases c2 : (20 : Int) < (z.f.fIdx.length : Int)
        · rw [if_pos c2, bS, if_pos rfl]; exact wp_some.2 trivial
        · rw [if_neg c2]
          cases q with
          | false => rw [if_neg (by simp), bS, if_pos rfl]; exact wp_some.2 trivial
          | true =>
            rw [if_pos rfl, bS, if_neg (by simp), wrapT h0 h1 (by omega)]
            exact ih2 () trivial
  obtain ⟨r, er, _⟩ := hL
  rw [F_law30_short, bS, er, bS]
  cases r <;> exact wp_some.2 trivial
theorem a_Few (n : gNest) (hb : okN n) (hl : okSs n.fBody) : ∃ b, F_law30_Few n 500 = some b ∧ (b = true → n.fBufs.length ≤ 150) := by
  have hbl := hb.len
  unfold F_law30_Few
  rw [bS]
  by_cases h : (150 : Int) < (n.fBufs.length : Int)
  · rw [if_pos h]; exact ⟨_, rfl, fun e => by cases e⟩
  · rw [if_neg h, bS]
    have hL : an (F_law30_Few_L4 n 0) := by
      refine loopUp (F := fun (_ : Unit) i => F_law30_Few_L4 n i) n.fBufs.length (fun _ _ => True) ?_ ?_ 0 () (by omega) (by omega) trivial
      · intro a _
        rw [F_law30_Few_L4, bS, if_neg (by omega)]; exact wp_some.2 trivial
      · intro i a h0 h1 _ ih2
        obtain ⟨z, hz, hzm⟩ := ix_ok h0 h1
        rw [F_law30_Few_L4, bS, if_pos h1]
        simp only [hz, bS]
        by_cases c1 : (20 : Int) < (z.fDims.length : Int)
        · rw [if_pos c1, bS, if_pos rfl]; exact wp_some.2 trivial
        · rw [if_neg c1]
          by_cases c2 : (100 : Int) < (z.fName.length : Int)
          · rw [if_pos c2, bS, if_pos rfl]; exact wp_some.2 trivial
          · rw [if_neg c2, bS, if_neg (by simp), wrapT h0 h1 (by omega)]
            exact ih2 () trivial
    obtain ⟨r, er, _⟩ := hL
    rw [er, bS]
    cases r with
    | inl u =>
      obtain ⟨w, ew, _⟩ := a_WeighStmts _ hl 500
      obtain ⟨q, eq, _⟩ := a_short _ hl
      simp only [F_law30_FewStmts, ew, bS, eq]
      split
      · rw [bS]; exact ⟨_, rfl, fun _ => by omega⟩
      · rw [bS]; exact ⟨_, rfl, fun _ => by omega⟩
    | inr v => exact ⟨_, rfl, fun _ => by omega⟩
def badM (x : gNamed) : Bool := decide ((4200 : Int) < (x.fTensor.fVals.length : Int)) || (decide ((20 : Int) < (x.fTensor.fDims.length : Int)) || decide ((100 : Int) < (x.fName.length : Int)))
theorem a_FewS (l : List gStmt) (hl : okSs l) : ∃ b, F_law30_FewStmts l 100 = some b := by
  obtain ⟨w, ew, _⟩ := a_WeighStmts _ hl 100
  obtain ⟨q, eq, _⟩ := a_short _ hl
  simp only [F_law30_FewStmts, ew, bS, eq]
  split <;> exact ⟨_, rfl⟩
theorem s_law (n : gNest) (a b : gStmtS) (hn : wNest n ≤ 1048576) (ha : wStmtS a ≤ 1048576) (hb : wStmtS b ≤ 1048576) : F_law35_LegalityCommutes n a b = some true := by
  have hk := okN.of hn
  have hw : wNest n = 1 + wSum wBuf n.fBufs + wSum wStmt n.fBody := rfl
  obtain ⟨u, eu, _⟩ := a_Few n hk (okSs_w (by omega))
  obtain ⟨v, ev⟩ := a_FewS [.mk a, .mk b] ⟨by simp, fun s hs => by
    simp only [List.mem_cons, List.not_mem_nil, or_false] at hs
    rcases hs with rfl | rfl
    · exact okS_w _ (by rw [gStmt.f_mk]; exact ha)
    · exact okS_w _ (by rw [gStmt.f_mk]; exact hb)⟩
  unfold F_law35_LegalityCommutes
  rw [bS, eu, bS]
  have ex : F_law35_live = some true := rfl
  have tail : (F_legality_Commutes n a b >>= fun v7 => F_ref35_Commutes n a b >>= fun v8 => if (v7 == v8) = true then F_legality_Commutes n b a >>= fun v9 => if (v7 == v9) = true then F_law35_live >>= fun v10 => some v10 else some false else some false) = some true := by
    rw [p_com n a b hk ha hb, bS, r_com n a b hk ha hb, bS, p_com n b a hk hb ha, bS, comS_comm n b a, ex]
    simp [bS]
  cases u with
  | false => simp [bS, ex]
  | true =>
    rw [if_pos rfl, ev, bS]
    cases v with
    | false => simp [bS, ex]
    | true =>
      simp only [if_true, bS, Bool.false_eq_true, if_false]
      exact tail
end Go.Proofs.YtfpegbpngbchfaaGreatDoor
end
section
namespace HY
open Go Go.RowKit
def HV.full (w : World) : HV := fun b o => w.cell? ⟨b, o, none⟩
theorem full_sat (w : World) : HV.sat (HV.full w) w := fun _ _ _ h => h
def RelL (H : HV) (avs : List AV) (cs : List Value) : Prop := avs.length = cs.length ∧ ∀ (j : Nat) (a : AV) (v : Value), avs[j]? = some a → cs[j]? = some v → a.one = true ∧ RelI H a v
theorem RelL.nil {H : HV} : RelL H [] [] := ⟨rfl, fun j a v h => by simp at h⟩
theorem RelL.one {H : HV} {a : AV} {v : Value} (h1 : a.one = true) (h : RelI H a v) : RelL H [a] [v] := ⟨rfl, fun j x u hx hu => by
  cases j with
  | zero => simp at hx hu; subst hx; subst hu; exact ⟨h1, h⟩
  | succ j => simp at hx⟩
theorem RelL.append {H : HV} {a b : List AV} {c d : List Value} (h : RelL H a c) (k : RelL H b d) : RelL H (a ++ b) (c ++ d) := by
  refine ⟨by simp [h.1, k.1], fun j x u hx hu => ?_⟩
  rw [List.getElem?_append] at hx hu
  split at hx
  · rename_i hj; rw [if_pos (by rw [← h.1]; exact hj)] at hu; exact h.2 j x u hx hu
  · rename_i hj; rw [if_neg (by rw [← h.1]; exact hj), ← h.1] at hu; exact k.2 _ x u hx hu
section
variable {H : Type} {enc : TypeId × Value → H} {P : Program} {w : World} {base : Nat} {spare : Nat → Bool} {held : Bool}
def Reads (enc : TypeId × Value → H) (P : Program) (w : World) (base : Nat) (spare : Nat → Bool) (held : Bool) (n : Nat) (t : TypeId) {α : Type} (E : α → List AV) (I : α → DataW H → Prop) : Prop :=
  ∀ fuel cs d ps, fuel ≤ n → DataW.trod enc P w base spare held fuel t cs = some (d, ps) → ∃ a, I a d ∧ RelL (HV.full w) (E a) cs
theorem reads_int (n : Nat) {t : TypeId} {k : IntKind} (ht : P.underlying t = some (.int k)) :
    Reads enc P w base spare held n t (fun a : Int => [.int k a]) (fun a d => (Lit.int k a).wf = true ∧ d = .lit (.int k a)) := fun fuel cs d ps _ h => by
  obtain ⟨m, rfl, he, hw⟩ := DataW.trod_int ht h
  cases he
  exact ⟨m, ⟨hw, rfl⟩, .one rfl (.int k m)⟩
theorem reads_bool (n : Nat) {t : TypeId} (ht : P.underlying t = some .bool) :
    Reads enc P w base spare held n t (fun a : Bool => [.bool a]) (fun a d => d = .lit (.bool a)) := fun fuel cs d ps _ h => by
  obtain ⟨m, rfl, he⟩ := DataW.trod_bool ht h
  cases he
  exact ⟨m, rfl, .one rfl (.bool m)⟩
theorem reads_string (n : Nat) {t : TypeId} (ht : P.underlying t = some .string) :
    Reads enc P w base spare held n t (fun a : List UInt8 => [.str a]) (fun a d => a.length ≤ maxLen ∧ d = .lit (.string a)) := fun fuel cs d ps _ h => by
  obtain ⟨m, rfl, he, hl⟩ := DataW.trod_string ht h
  cases he
  refine ⟨m.data.toList, ⟨by rw [Array.length_toList]; exact hl, rfl⟩, .one rfl ?_⟩
  have := RelI.str (H := HV.full w) m.data.toList
  simpa using this
def SliceI {α : Type} (I : α → DataW H → Prop) (l : List α) (d : DataW H) : Prop :=
  l.length ≤ maxLen ∧ ((l = [] ∧ d = .nil) ∨ ∃ elems spare, d = .slice elems spare ∧ elems.length = l.length ∧ ∀ (i : Nat) (a : α) (e : DataW H), l[i]? = some a → elems[i]? = some e → I a e)
theorem choose_list {α β : Type} (R : Nat → α → β → Prop) : ∀ (l : List β) (k : Nat), (∀ i b, l[i]? = some b → ∃ a, R (k + i) a b) → ∃ azz : List α, azz.length = l.length ∧ ∀ i a b, azz[i]? = some a → l[i]? = some b → R (k + i) a b
  | [], k, _ => ⟨[], rfl, fun i a b h => by simp at h⟩
  | b :: l, k, h => by
    obtain ⟨a, ha⟩ := h 0 b rfl
    obtain ⟨azz, hl, has⟩ := choose_list R l (k + 1) (fun i b' hb => by
      have := h (i + 1) b' hb
      rw [show k + 1 + i = k + (i + 1) by omega]; exact this)
    refine ⟨a :: azz, by simp [hl], fun i x y hx hy => ?_⟩
    cases i with
    | zero => simp at hx hy; subst hx; subst hy; exact ha
    | succ i =>
      have := has i x y hx hy
      rw [show k + 1 + i = k + (i + 1) by omega] at this; exact this
theorem reads_slice {n : Nat} {t e : TypeId} {sz : Nat} {α : Type} {E : α → List AV} {I : α → DataW H → Prop} (F : α → AV) (ht : P.underlying t = some (.slice e)) (hc : P.cellsOf e = sz) (hpos : 0 < sz) (hF : ∀ a, (F a).cells = E a) (he : Reads enc P w base spare held n e E I) :
    Reads enc P w base spare held (n + 1) t (fun l : List α => [.sl sz (l.map F)]) (SliceI I) := fun fuel cs d ps hfu h => by
  rcases DataW.trod_slice ht h with ⟨rfl, hx⟩ | ⟨a, len, cap, elems, rest, m, rfl, rfl, hx, hb, hl, hm, hlen, hel, _, _⟩
  · cases hx
    exact ⟨[], ⟨Nat.zero_le _, .inl ⟨rfl, rfl⟩⟩, .one rfl (.sl0 _ _ _ (Nat.zero_le _))⟩
  · cases hx
    subst hc
    have hel' : ∀ i b, elems[i]? = some b → ∃ x : α, I x b.1 ∧ ∃ cs', w.cells? base (a.add ((0 + i) * P.cellsOf e)) (P.cellsOf e) = some cs' ∧ RelL (HV.full w) (E x) cs' := fun i b hb => by
      have hi : i < len := by rw [← hlen]; exact (List.getElem?_eq_some_iff.1 hb).1
      have := hel i hi
      rw [hb] at this
      obtain ⟨cs', h1, h2⟩ := Option.bind_eq_some_iff.1 this
      obtain ⟨x, hx, hr⟩ := he m cs' b.1 b.2 (by omega) h2
      exact ⟨x, hx, cs', by rw [Nat.zero_add]; exact h1, hr⟩
    obtain ⟨azz, hal, has⟩ := choose_list (fun i (x : α) (b : DataW H × List MemPlace) => I x b.1 ∧ ∃ cs', w.cells? base (a.add (i * P.cellsOf e)) (P.cellsOf e) = some cs' ∧ RelL (HV.full w) (E x) cs') elems 0 hel'
    have hget : ∀ i x, azz[i]? = some x → ∃ b, elems[i]? = some b := fun i x hx => by
      have : i < azz.length := (List.getElem?_eq_some_iff.1 hx).1
      exact ⟨_, List.getElem?_eq_getElem (by omega)⟩
    refine ⟨azz, ⟨by omega, .inr ⟨_, _, rfl, by simp [hal], fun i x e' hx he' => ?_⟩⟩, .one rfl ?_⟩
    · rw [List.getElem?_map, Option.map_eq_some_iff] at he'
      obtain ⟨b, hb', rfl⟩ := he'
      exact (has i x b hx hb').1
    · by_cases h0 : azz = []
      · subst h0
        have : len = 0 := by rw [← hlen, ← hal]; rfl
        subst this
        exact .sl0 _ _ _ hm
      · have hlen' : (azz.map F).length = len := by simp [hal, hlen]
        have h00 : 0 < azz.length := List.length_pos_iff.2 h0
        obtain ⟨b0, hb0⟩ := hget 0 azz[0] (List.getElem?_eq_getElem h00)
        obtain ⟨_, cs0, hc0, _⟩ := has 0 _ _ (List.getElem?_eq_getElem h00) hb0
        obtain ⟨_, hcl, hcell⟩ := World.cells?_some hc0
        have hspot : a.spot = none := by
          have := hcell 0 hpos
          rw [List.getElem?_eq_getElem (by omega)] at this
          have := World.cell?_spot this
          simpa [Addr.add] using this
        obtain ⟨ab, ao, asp⟩ := a
        simp only at hspot
        subst hspot
        rw [← hlen']
        refine .sl (P.cellsOf e) (azz.map F) ab ao cap (fun i j => (w.cell? ⟨ab, ao + i * P.cellsOf e + j, none⟩).getD Go.undef) hpos (by omega) hm (fun i x hx => ?_) (fun i x j c hx hj => ?_) (fun i x j c hx hj => ?_)
        all_goals
          rw [List.getElem?_map, Option.map_eq_some_iff] at hx
          obtain ⟨y, hy, rfl⟩ := hx
          obtain ⟨b, hb'⟩ := hget i y hy
          obtain ⟨_, cs', hc', hr⟩ := has i y b hy hb'
          obtain ⟨_, hcl', hcell'⟩ := World.cells?_some hc'
        · rw [hF, hr.1, hcl']
        all_goals
          rw [hF] at hj
          have hjl : j < P.cellsOf e := by
            have := (List.getElem?_eq_some_iff.1 hj).1
            rw [hr.1, hcl'] at this; exact this
          have hcj : cs'[j]? = some (cs'[j]'(by omega)) := List.getElem?_eq_getElem (by omega)
          have hw := hcell' j hjl
          rw [hcj] at hw
          have hadd : ((⟨ab, ao, none⟩ : Addr).add ((0 + i) * P.cellsOf e)).add j = ⟨ab, ao + i * P.cellsOf e + j, none⟩ := by
            rw [Nat.zero_add]
            unfold Addr.add
            split <;> split <;> simp_all
          rw [hadd] at hw
          obtain ⟨h1, h2⟩ := hr.2 j c _ hj hcj
        · simp only [HV.full, hw, Option.getD_some, true_and]
          exact h2.oneCell h1
        · simp only [hw, Option.getD_some]
          exact h2
def fieldsB (P : Program) : Nat → List Field → Nat → Bool
  | o, [], o' => o == o'
  | o, f :: fs, o' => f.offset == o && fieldsB P (o + P.cellsOf f.type) fs o'
def FReads (enc : TypeId × Value → H) (P : Program) (w : World) (base : Nat) (spare : Nat → Bool) (held : Bool) (n : Nat) (fs : List Field) {α : Type} (E : α → List AV) (I : α → List (DataW H) → Prop) : Prop :=
  ∀ (fuel o o' : Nat) (cs : List Value) (xs : List (DataW H × List MemPlace)), fuel ≤ n → xs.length = fs.length → fieldsB P o fs o' = true → cs.length = o' →
    (∀ (i : Nat) (f : Field), fs[i]? = some f → DataW.trod enc P w base spare held fuel f.type ((cs.drop f.offset).take (P.cellsOf f.type)) = xs[i]?) → ∃ a, I a (xs.map (·.1)) ∧ RelL (HV.full w) (E a) (cs.drop o)
theorem freads_nil (n : Nat) : FReads enc P w base spare held n [] (fun _ : Unit => []) (fun _ ds => ds = []) := fun fuel o o' cs xs _ hl hf hc _ => by
  simp only [fieldsB, beq_iff_eq] at hf
  have : xs = [] := List.length_eq_zero_iff.1 hl
  subst this
  refine ⟨(), rfl, ?_⟩
  rw [List.drop_of_length_le (by omega)]
  exact .nil
theorem freads_cons {n : Nat} {f : Field} {fs : List Field} {α β : Type} {E1 : α → List AV} {I1 : α → DataW H → Prop} {E2 : β → List AV} {I2 : β → List (DataW H) → Prop}
    (h1 : Reads enc P w base spare held n f.type E1 I1) (h2 : FReads enc P w base spare held n fs E2 I2) :
    FReads enc P w base spare held n (f :: fs) (fun x : α × β => E1 x.1 ++ E2 x.2) (fun x ds => ∃ d ds', ds = d :: ds' ∧ I1 x.1 d ∧ I2 x.2 ds') := fun fuel o o' cs xs hfu hl hf hc hx => by
  simp only [fieldsB, Bool.and_eq_true, beq_iff_eq] at hf
  obtain ⟨ho, hf⟩ := hf
  cases xs with
  | nil => simp at hl
  | cons x xs =>
    have h0 := hx 0 f rfl
    simp only [List.getElem?_cons_zero] at h0
    obtain ⟨a, ha, hra⟩ := h1 fuel _ x.1 x.2 hfu h0
    obtain ⟨b, hb, hrb⟩ := h2 fuel (o + P.cellsOf f.type) o' cs xs hfu (by simpa using hl) hf hc (fun i g hg => hx (i + 1) g hg)
    refine ⟨(a, b), ⟨x.1, xs.map (·.1), rfl, ha, hb⟩, ?_⟩
    have := hra.append hrb
    rw [ho, ← List.drop_drop, List.take_append_drop] at this
    exact this
theorem reads_struct {n : Nat} {t : TypeId} {fs : Array Field} {α : Type} {E : α → List AV} {I : α → List (DataW H) → Prop} (ht : P.underlying t = some (.struct fs)) (hf : fieldsB P 0 fs.toList (P.cellsOf t) = true)
    (h : FReads enc P w base spare held n fs.toList E I) : Reads enc P w base spare held (n + 1) t E (fun a d => ∃ ds, d = .agg ds ∧ I a ds) := fun fuel cs d ps hfu hh => by
  obtain ⟨xs, m, rfl, hx, hc, hl, hel⟩ := DataW.trod_struct ht hh
  cases hx
  obtain ⟨a, ha, hr⟩ := h m 0 _ cs xs (by omega) (by simpa using hl) hf hc (fun i f hfi => hel i f (by rw [← Array.getElem?_toList]; exact hfi))
  exact ⟨a, ⟨_, rfl, ha⟩, by simpa using hr⟩
theorem Reads.to {n : Nat} {t : TypeId} {α β : Type} {E : α → List AV} {I : α → DataW H → Prop} (h : Reads enc P w base spare held n t E I) (g : α → β) {E' : β → List AV} {I' : β → DataW H → Prop} (hE : ∀ a, E' (g a) = E a) (hI : ∀ a d, I a d → I' (g a) d) :
    Reads enc P w base spare held n t E' I' := fun fuel cs d ps hfu hh => by
  obtain ⟨a, ha, hr⟩ := h fuel cs d ps hfu hh
  exact ⟨g a, hI a d ha, by rw [hE]; exact hr⟩
theorem Reads.le {n m : Nat} {t : TypeId} {α : Type} {E : α → List AV} {I : α → DataW H → Prop} (h : Reads enc P w base spare held n t E I) (hm : m ≤ n) : Reads enc P w base spare held m t E I :=
  fun fuel cs d ps hfu hh => h fuel cs d ps (Nat.le_trans hfu hm) hh
theorem Reads.arg {t : TypeId} {α : Type} {E : α → List AV} {I : α → DataW H → Prop} (h : ∀ n, Reads enc P w base spare held n t E I) {v : Value} {d : DataW H} {ps : List MemPlace} (hd : DataW.Trod enc P w base spare held t v d ps) :
    ∃ a, I a d ∧ RelL (HV.full w) (E a) v.cells.toList := by
  obtain ⟨fuel, hf⟩ := hd
  exact h fuel fuel _ _ _ (Nat.le_refl _) hf
theorem RelL.val1 {K : HV} {a : AV} {v : Value} (h : RelL K [a] v.cells.toList) (hv : ∀ cs, v ≠ .agg cs) : RelI K a v := by
  have hc : v.cells = #[v] := by cases v <;> first | rfl | exact absurd rfl (hv _)
  rw [hc] at h
  exact (h.2 0 a v rfl rfl).2
end
end HY
end
section
namespace HY
open Go Go.RowKit Go.ChangeShapes Go.WideShapes Go.ChangeAt
theorem trodAll_below {H : Type} {enc : TypeId × Value → H} {P : Program} (hl : laidOutB P = true) {W W' : World} (hb : Below W.heap.size W W') : ∀ {ts : List TypeId} {vs : List Value} {ds : List (DataW H)} {ps : List MemPlace},
    (∀ t ∈ ts, P.readableRec t = true ∧ t < P.types.size) → DataW.TrodAll enc P W 0 (fun _ => true) true ts vs ds ps → (∀ p ∈ ps, p.block < W.heap.size) → DataW.TrodAll enc P W' 0 (fun b => decide (b < W.heap.size)) true ts vs ds ps
  | [], [], [], _, _, h, _ => h
  | t :: ts, v :: vs, d :: ds, _, ht, ⟨p, q, h1, h2, e⟩, hp =>
    ⟨p, q, Below.trod hl (ht t (List.mem_cons_self ..)).1 (ht t (List.mem_cons_self ..)).2 h1 hb (fun x hx => hp x (by rw [e]; exact List.mem_append_left _ hx)),
      trodAll_below hl hb (fun t' h' => ht t' (List.mem_cons_of_mem _ h')) h2 (fun x hx => hp x (by rw [e]; exact List.mem_append_right _ hx)), e⟩
  | [], _ :: _, _, _, _, h, _ => h.elim
  | [], [], _ :: _, _, _, h, _ => h.elim
  | _ :: _, [], _, _, _, h, _ => h.elim
  | _ :: _, _ :: _, [], _, _, h, _ => h.elim
structure LawOk (P : Program) (f : Func) (tb : TypeId) : Prop where
  laid : laidOutB P = true
  pars : (f.params.toList.all fun t => P.readableRec t && decide (t < P.types.size)) = true
  res : f.resultTypes = #[tb]
  bool : P.underlying tb = some .bool
theorem post_true {H : Type} {enc : TypeId × Value → H} {P : Program} {f : Func} {tb : TypeId} (hok : LawOk P f tb) {s : ChangeSpec} {W W' : World} {args : Array Value} {ds gs : List (DataW H)} {before : List MemPlace} (hv : s.vars = [])
    (hW : DataW.Whole enc P f.params.toList s.vars false W args.toList ds gs before) (hfn : s.fn H (ds ++ gs) = { results := [.lit (.bool true)], args := ds }) (hb : Below W.heap.size W W') : s.post enc P f false true false false W args (.bool true) W' := by
  have hlt := hW.lt
  have hW' := hW
  obtain ⟨p, q, hA, hV, rfl, _, _⟩ := hW
  rw [hv] at hV
  obtain ⟨rfl, rfl⟩ : gs = [] ∧ q = [] := by
    cases gs with
    | nil => exact ⟨rfl, hV⟩
    | cons => exact hV.elim
  have hp := hok.pars
  rw [List.all_eq_true] at hp
  refine ⟨ds, [], p ++ [], [], p, [], hW', ?_, ?_, ?_, hb.frame _, fun h => by cases h⟩
  · rw [hfn, hok.res]
    exact ⟨[], [], shut_bool hok.bool _, rfl, rfl⟩
  · rw [hfn]
    exact trodAll_below hok.laid hb (fun t ht => by have := hp t ht; simp only [Bool.and_eq_true, decide_eq_true_eq] at this; exact this) hA (fun x hx => hlt x (List.mem_append_left _ hx))
  · rw [hfn, hv]; exact rfl
end HY
end
section
namespace HY
open Go Go.RowKit Go.ChangeShapes Go.WideShapes Go.ChangeAt
theorem law_callsP {P : Program} {gl : Nat → AV} {f : FuncId} {args : List AV} (hent : Enters P f) (h : Pu P gl f args (.bool true)) {W : World} {vs : Array Value} (hl : args.length = vs.size) (hgl : ∀ g, RelI (HV.full W) (gl g) (.pointer (some ⟨g, 0, none⟩))) (hgv : GvOk gl (fun k => k < W.heap.size) W)
    (hr : ∀ (j : Nat) (x : AV) (v : Value), args[j]? = some x → vs[j]? = some v → RelI (HV.full W) x v) : Calls P f vs W fun e W' => e = .returned (.bool true) ∧ Below W.heap.size W W' := by
  refine (Ans.calls (he := hent) <| h.ok (fun _ => ⟨0, 0, 0⟩) (HV.full W) (fun k => k < W.heap.size) (HV.full W) W vs
    { sat := full_sat W, old := fun _ _ _ => rfl, low := fun _ h => h, fresh := fun _ _ => lkb_nil _, box := (fun _ _ hh => by rw [lkb_nil] at hh; cases hh), sepR := (fun _ _ hh => by rw [lkb_nil] at hh; cases hh), injR := (fun _ _ _ _ hh => by rw [lkb_nil] at hh; cases hh), gv := hgv, gl := hgl, ty := (fun _ _ _ hh => by rw [lkb_nil] at hh; cases hh) } hl
    (fun j x v hx hv => .imm _ _ (hr j x v hx hv))).mono fun e W' hpost => ?_
  obtain ⟨v, m', H', he, hb, _, hv⟩ := hpost
  have := hv.bool_inv
  subst this
  exact ⟨he, hb.toB⟩
theorem handed_and_shaped {H : Type} {enc : TypeId × Value → H} {C : Checked} {os : Os} {f : FuncId} {fn : Func} {s : ChangeSpec} {X : World → Prop} (hX : ∀ w w' : World, w.heap = w'.heap → X w → X w')
    (own : ownKnob C.prog.godebug = none) (started : os.Started) (noInit : C.prog.inits.idxOf? f = none) (hfn : C.prog.funcs[f]? = some fn)
    (witness : ∃ (w : World) (tape : Tape) (i : Input), w.os = os ∧ (w.forCall tape i).Shaped C.prog ∧ i.vars = [] ∧ Input.okWide C.prog (w.forCall tape i) .any w.heap.size f i ∧
      ((s.pre enc C.prog fn [] false (w.forCall tape i).memory i.args ∧ X (w.forCall tape i).memory) ∧ sizedMet enc C.prog fn (OpenSpec.ofChange s) false (w.forCall tape i).memory i.args) ∧ ({} : Assume).holds C.prog (lone (Frame.enter C.prog f i.args .normal) [] (w.forCall tape i)))
    (contract : ∀ (W : World) (base : Nat) (args : Array Value) (ds gs : List (DataW H)) (before : List MemPlace),
      (∀ (j : Nat) t v, fn.params[j]? = some t → args[j]? = some v → Value.okWide C.prog W .any base t v) → DataW.Whole enc C.prog fn.params.toList s.vars false W args.toList ds gs before → X W → W.ShapedOpen C.prog →
      Calls C.prog f args W fun e W' => ∃ v, e = .returned v ∧ s.post enc C.prog fn false true false false W args v W') :
    ReturnsInHanded {} C os f .any (fun w args => (s.pre enc C.prog fn [] false w args ∧ X w) ∧ sizedMet enc C.prog fn (OpenSpec.ofChange s) false w args) (s.post enc C.prog fn false true false false) := by
  refine returnsInHanded_of_calls own started noInit witness fun w tape i _ hsh _ hok hpre _ => ?_
  obtain ⟨_, _, _, fn', hfn', _, _, _, _, hval⟩ := hok
  obtain rfl : fn' = fn := Option.some.inj (hfn'.symm.trans hfn)
  obtain ⟨⟨⟨ds, gs, before, hw, _⟩, hx⟩, _⟩ := hpre
  refine (contract (w.forCall tape i) w.heap.size i.args ds gs before hval (DataW.Whole.of_heap (w' := w.forCall tape i) (by rfl) hw) (hX _ _ (by rfl) hx) hsh).mono fun e W' ⟨v, he, hp⟩ => ?_
  subst he
  exact ChangeSpec.post_blind hp
theorem handed_all {H : Type} {enc : TypeId × Value → H} {C : Checked} {os : Os} {f : FuncId} {fn : Func} {s : ChangeSpec} {X : World → Prop} (hX : ∀ w w' : World, w.heap = w'.heap → X w → X w')
    (own : ownKnob C.prog.godebug = none) (started : os.Started) (noInit : C.prog.inits.idxOf? f = none) (hfn : C.prog.funcs[f]? = some fn)
    (witness : ∃ (w : World) (tape : Tape) (i : Input), w.os = os ∧ (w.forCall tape i).Shaped C.prog ∧ i.vars = [] ∧ Input.okWide C.prog (w.forCall tape i) .any w.heap.size f i ∧
      ((s.pre enc C.prog fn [] false (w.forCall tape i).memory i.args ∧ X (w.forCall tape i).memory) ∧ sizedMet enc C.prog fn (OpenSpec.ofChange s) false (w.forCall tape i).memory i.args) ∧ ({} : Assume).holds C.prog (lone (Frame.enter C.prog f i.args .normal) [] (w.forCall tape i)))
    (contract : ∀ (W : World) (base : Nat) (args : Array Value) (ds gs : List (DataW H)) (before : List MemPlace),
      (∀ (j : Nat) t v, fn.params[j]? = some t → args[j]? = some v → Value.okWide C.prog W .any base t v) → DataW.Whole enc C.prog fn.params.toList s.vars false W args.toList ds gs before → X W → W.ShapedOpen C.prog → (DataW.weightsEach C.prog (fn.params.toList ++ s.plain.varTypes C.prog) (ds ++ gs)).all (· ≤ reachBytes) = true →
      Calls C.prog f args W fun e W' => ∃ v, e = .returned v ∧ s.post enc C.prog fn false true false false W args v W') :
    ReturnsInHanded {} C os f .any (fun w args => (s.pre enc C.prog fn [] false w args ∧ X w) ∧ sizedMet enc C.prog fn (OpenSpec.ofChange s) false w args) (s.post enc C.prog fn false true false false) := by
  refine returnsInHanded_of_calls own started noInit witness fun w tape i _ hsh _ hok hpre _ => ?_
  obtain ⟨_, _, _, fn', hfn', _, _, _, _, hval⟩ := hok
  obtain rfl : fn' = fn := Option.some.inj (hfn'.symm.trans hfn)
  obtain ⟨⟨⟨ds, gs, before, hw, _⟩, hx⟩, hz⟩ := hpre
  refine (contract (w.forCall tape i) w.heap.size i.args ds gs before hval (DataW.Whole.of_heap (w' := w.forCall tape i) (by rfl) hw) (hX _ _ (by rfl) hx) hsh (hz.weights hw)).mono fun e W' ⟨v, he, hp⟩ => ?_
  subst he
  exact ChangeSpec.post_blind hp
theorem laidVars_at {P : Program} {w : World} : ∀ {l : List (String × DataW Unit)} {ps : List MemPlace} (i : Nat) {n : String} {d : DataW Unit}, DataW.LaidVars P w l ps → l[i]? = some (n, d) →
    ∃ g t cs fuel p, P.globalNamed n = some g ∧ (P.globals[g]?).map (·.type) = some t ∧ w.var? P n = some cs ∧ DataW.trod (fun _ => ()) P w 0 (fun _ => true) false fuel t cs.toList = some (d, p)
  | [], _, i, _, _, _, hi => by simp at hi
  | (n0, d0) :: r, ps, i, n, d, h, hi => by
    obtain ⟨g, t, cs, fuel, p, q, h1, h2, h3, h4, h5, _⟩ := h
    cases i with
    | zero => cases hi; exact ⟨g, t, cs, fuel, p, h1, h2, h3, h4⟩
    | succ i => exact laidVars_at i h5 hi
def litZ (k : IntKind) (z : Int) : DataW Unit := .lit (.int k z)
theorem laid_cells {P : Program} {w : World} {laid : List (String × DataW Unit)} (hm : laidMetH P laid w) (hpl : (laid.all fun x => x.2.handleName?.isNone) = true) (i : Nat) {n : String} {k : IntKind} {zs : List Int} (hi : laid[i]? = some (n, .agg (zs.map (litZ k))))
    {g t e : Nat} (hg : P.globalNamed n = some g) (hgt : (P.globals[g]?).map (·.type) = some t) (hu : P.underlying t = some (.array zs.length e)) (hc : P.cellsOf e = 1) (hue : P.underlying e = some (.int k)) (j : Nat) (z : Int) (hj : zs[j]? = some z) :
    w.cell? ⟨g, j, none⟩ = some (.int k z) := by
  rw [MakeChecks.laidMetH_plain _ _ _ hpl] at hm
  obtain ⟨ps, hl, _, _⟩ := hm
  obtain ⟨g', t', cs, fuel, p, e1, e2, e3, e4⟩ := laidVars_at i hl hi
  rw [hg] at e1; cases e1
  rw [hgt] at e2; cases e2
  obtain ⟨xs, m, rfl, hxe, hcl, hxl, hel⟩ := DataW.trod_array hu e4
  rw [World.var?_cell hg e3 j]
  have hjl : j < zs.length := (List.getElem?_eq_some_iff.1 hj).1
  have h1 := hel j hjl
  rw [hc] at h1
  have hxj : xs[j]? = some (xs[j]'(by omega)) := List.getElem?_eq_getElem (by omega)
  rw [hxj] at h1
  obtain ⟨v, h2, h3, _⟩ := DataW.trod_int hue h1
  have h4 : (xs.map (·.1))[j]? = some (.lit (.int k v)) := by rw [List.getElem?_map, hxj, Option.map_some, h3]
  have h5 : (.agg (zs.map (litZ k)) : DataW Unit) = .agg (xs.map (·.1)) := congrArg Prod.fst hxe
  have h6 : zs.map (litZ k) = xs.map (·.1) := by injection h5
  rw [← h6, List.getElem?_map, hj, Option.map_some] at h4
  simp only [litZ, Option.some.injEq, DataW.lit.injEq, Lit.int.injEq, true_and] at h4
  subst h4
  have h7 := congrArg (·[0]?) h2
  simp only [Nat.mul_one, List.getElem?_take, List.getElem?_drop, Nat.add_zero] at h7
  simpa using h7
theorem tab_rel {W : World} {g : Nat} {k : IntKind} {zs : List Int} (hz : 0 < zs.length) (h : ∀ (j : Nat) (z : Int), zs[j]? = some z → W.cell? ⟨g, j, none⟩ = some (.int k z)) : RelI (HV.full W) (.ip zs.length [.agg (zs.map (.int k))] 0 0) (.pointer (some ⟨g, 0, none⟩)) := by
  have hx0 : ∀ (i : Nat) (x : AV), [AV.agg (zs.map (AV.int k))][i]? = some x → i = 0 ∧ x = .agg (zs.map (.int k)) := fun i x hx => by
    cases i with
    | zero => simp at hx; exact ⟨rfl, hx.symm⟩
    | succ i => simp at hx
  have hc0 : ∀ (j : Nat) (c : AV), (zs.map (AV.int k))[j]? = some c → ∃ z, zs[j]? = some z ∧ c = .int k z := fun j c hc => by
    rw [List.getElem?_map, Option.map_eq_some_iff] at hc
    obtain ⟨z, h1, rfl⟩ := hc
    exact ⟨z, h1, rfl⟩
  suffices hs : RelI (HV.full W) (.ip zs.length [.agg (zs.map (.int k))] 0 0) (.pointer (some ⟨g, 0 + 0 * zs.length + 0, none⟩)) by
    rwa [show 0 + 0 * zs.length + 0 = 0 by omega] at hs
  refine RelI.ip zs.length [.agg (zs.map (.int k))] g 0 0 0 (fun _ j => .int k ((zs[j]?).getD 0)) hz (by simp) (fun i x hx => ?_) (fun i x j c hx hc => ?_) (fun i x j c hx hc => ?_)
  · obtain ⟨rfl, rfl⟩ := hx0 i x hx
    show (zs.map (AV.int k)).length = _
    simp
  · obtain ⟨rfl, rfl⟩ := hx0 i x hx
    obtain ⟨z, hz', rfl⟩ := hc0 j c hc
    rw [hz']
    refine ⟨?_, rfl⟩
    show W.cell? ⟨g, 0 + 0 * zs.length + j, none⟩ = _
    rw [show 0 + 0 * zs.length + j = j by omega]
    exact h j z hz'
  · obtain ⟨rfl, rfl⟩ := hx0 i x hx
    obtain ⟨z, hz', rfl⟩ := hc0 j c hc
    rw [hz']
    exact .int _ _
theorem tab_gv {P : Program} {W : World} (h : W.ShapedOpen P) {g n t : Nat} {zero : Array Value} (hg : g < P.globals.size) (h0 : ((begin P (fun _ _ => 0) default).world.heap[g]?).bind Obj.row? = some (zero, t)) (hz : zero.size = n) : g < W.heap.size ∧ ∃ C e fr, W.heap[g]? = some (.cells C e fr) ∧ C.size = n := by
  obtain ⟨cs, h1, h2, _⟩ := h.1 g zero t hg h0
  refine ⟨?_, cs, t, _, h1, by omega⟩
  rcases Nat.lt_or_ge g W.heap.size with h | h
  · exact h
  · rw [Array.getElem?_eq_none h] at h1; cases h1
end HY
end
section
namespace Go.Proofs.YtfpegbpngbchfaaGreatDoor
open Go HY Go.RowKit Go.ChangeShapes Go.WideShapes Go.ChangeAt
set_option linter.unusedVariables false
set_option linter.unusedSimpArgs false
section
variable {H : Type} {enc : TypeId × Value → H} {P : Program} {w : World} {base : Nat} {spare : Nat → Bool} {held : Bool}
theorem wSum_one {α : Type} (l : List α) : wSum (fun _ => 1) l = l.length := by
  induction l with
  | nil => rfl
  | cons a l ih => rw [wSum_cons, ih, List.length_cons]; omega
theorem rwZero {α : Type} (t : TypeId) (E : α → List AV) {I : α → DataW H → Prop} : Reads enc P w base spare held 0 t E I := fun fuel cs d ps hf h => by
  obtain rfl : fuel = 0 := by omega
  simp [DataW.trod] at h
theorem rwInt (n : Nat) {t : TypeId} {k : IntKind} (ht : P.underlying t = some (.int k)) : Reads enc P w base spare held n t (fun a : Int => [.int k a]) (fun _ d => 1 ≤ Rows.uptoBulk d) :=
  (reads_int n ht).to id (fun _ => rfl) fun a d h => by obtain ⟨_, rfl⟩ := h; simp [Rows.uptoBulk]
theorem rwStr (n : Nat) {t : TypeId} (ht : P.underlying t = some .string) : Reads enc P w base spare held n t (fun a : Str => [.str a]) (fun a d => a.length + 1 ≤ Rows.uptoBulk d) :=
  (reads_string n ht).to id (fun _ => rfl) fun a d h => by obtain ⟨_, rfl⟩ := h; simp [Rows.uptoBulk]
theorem bulk_sum {α : Type} {f : α → Nat} : ∀ (l : List α) (ds : List (DataW H)), ds.length = l.length → (∀ (i : Nat) (a : α) (e : DataW H), l[i]? = some a → ds[i]? = some e → f a ≤ Rows.uptoBulk e) → wSum f l ≤ Rows.uptoBulkAll ds
  | [], _, _, _ => by rw [wSum_nil]; omega
  | a :: l, [], h, _ => by simp at h
  | a :: l, d :: ds, h, hi => by
    have h0 := hi 0 a d rfl rfl
    have := bulk_sum (f := f) l ds (by simpa using h) fun i b e hb he => hi (i + 1) b e (by simpa using hb) (by simpa using he)
    rw [wSum_cons]; simp only [Rows.uptoBulkAll]; omega
theorem rwSlice {n : Nat} {t e : TypeId} {sz : Nat} {α : Type} {E : α → List AV} {f : α → Nat} (F : α → AV) (ht : P.underlying t = some (.slice e)) (hc : P.cellsOf e = sz) (hpos : 0 < sz) (hF : ∀ a, (F a).cells = E a) (he : Reads enc P w base spare held n e E (fun a d => f a ≤ Rows.uptoBulk d)) :
    Reads enc P w base spare held (n + 1) t (fun l : List α => [.sl sz (l.map F)]) (fun l d => wSum f l + 1 ≤ Rows.uptoBulk d) :=
  (reads_slice F ht hc hpos hF he).to id (fun _ => rfl) fun l d h => by
    obtain ⟨_, ⟨rfl, rfl⟩ | ⟨elems, sp, rfl, hl, hi⟩⟩ := h
    · simp [Rows.uptoBulk, wSum_nil]
    · have := bulk_sum (f := f) l elems hl hi
      simp only [Rows.uptoBulk, id]; omega
theorem fwNil (n : Nat) : FReads enc P w base spare held n [] (fun _ : Unit => []) (fun _ ds => 0 ≤ Rows.uptoBulkAll ds) := fun fuel o o' cs xs hf hl hb hc hx => by
  obtain ⟨a, _, h⟩ := freads_nil n fuel o o' cs xs hf hl hb hc hx
  exact ⟨a, Nat.zero_le _, h⟩
theorem fwCons {n : Nat} {f : Field} {fs : List Field} {α β : Type} {E1 : α → List AV} {w1 : α → Nat} {E2 : β → List AV} {w2 : β → Nat}
    (h1 : Reads enc P w base spare held n f.type E1 (fun a d => w1 a ≤ Rows.uptoBulk d)) (h2 : FReads enc P w base spare held n fs E2 (fun a ds => w2 a ≤ Rows.uptoBulkAll ds)) :
    FReads enc P w base spare held n (f :: fs) (fun x : α × β => E1 x.1 ++ E2 x.2) (fun x ds => w1 x.1 + w2 x.2 ≤ Rows.uptoBulkAll ds) := fun fuel o o' cs xs hf hl hb hc hx => by
  obtain ⟨a, ⟨d, ds, e, i1, i2⟩, h⟩ := freads_cons h1 h2 fuel o o' cs xs hf hl hb hc hx
  exact ⟨a, by rw [e]; simp only [Rows.uptoBulkAll]; omega, h⟩
theorem rwStruct {n : Nat} {t : TypeId} {fs : Array Field} {α : Type} {E : α → List AV} {f : α → Nat} (ht : P.underlying t = some (.struct fs)) (hf : fieldsB P 0 fs.toList (P.cellsOf t) = true)
    (h : FReads enc P w base spare held n fs.toList E (fun a ds => f a ≤ Rows.uptoBulkAll ds)) : Reads enc P w base spare held (n + 1) t E (fun a d => f a + 1 ≤ Rows.uptoBulk d) :=
  (reads_struct ht hf h).to id (fun _ => rfl) fun a d hd => by
    obtain ⟨ds, rfl, h⟩ := hd
    simp only [Rows.uptoBulk, id]; omega
end
theorem u3 : Tryz.prog.underlying 3 = some (.int .i64) := by kernel_rfl
theorem u43 : Tryz.prog.underlying 43 = some (.slice 3) := by kernel_rfl
theorem c43 : Tryz.prog.cellsOf 3 = 1 := by kernel_rfl
theorem u9 : Tryz.prog.underlying 9 = some .string := by kernel_rfl
theorem u2 : Tryz.prog.underlying 2 = some (.int .i64) := by kernel_rfl
theorem u31 : Tryz.prog.underlying 31 = some (.slice 69) := by kernel_rfl
theorem c31 : Tryz.prog.cellsOf 69 = 2 := by kernel_rfl
theorem u70 : Tryz.prog.underlying 70 = some (.slice 33) := by kernel_rfl
theorem c70 : Tryz.prog.cellsOf 33 = 2 := by kernel_rfl
theorem u34 : Tryz.prog.underlying 34 = some (.slice 36) := by kernel_rfl
theorem c34 : Tryz.prog.cellsOf 36 = 13 := by kernel_rfl
theorem u26 : Tryz.prog.underlying 26 = some (.slice 72) := by kernel_rfl
theorem c26 : Tryz.prog.cellsOf 72 = 4 := by kernel_rfl
theorem u23 : Tryz.prog.underlying 23 = some (.slice 38) := by kernel_rfl
theorem c23 : Tryz.prog.cellsOf 38 = 20 := by kernel_rfl
theorem u22 : Tryz.prog.underlying 22 = some (.slice 45) := by kernel_rfl
theorem c22 : Tryz.prog.cellsOf 45 = 8 := by kernel_rfl
section
variable {H : Type} {enc : TypeId × Value → H} {w : World} {base : Nat} {spare : Nat → Bool} {held : Bool}
theorem rd_gType (n : Nat) : Reads enc Tryz.prog w base spare held n 30 (fun x : gType => (egType x).cells) (fun x d => 1 ≤ Rows.uptoBulk d) :=
  ((rwStruct Tryz.underlying30 (by kernel_rfl) (fwCons (rwInt n u3) (fwCons (rwInt n u3) (fwCons (rwInt n u3) (fwCons (rwInt n u3) (fwCons (rwInt n u3) (fwNil n))))))).to (fun x => gType.mk x.1 x.2.1 x.2.2.1 x.2.2.2.1 x.2.2.2.2.1) (fun _ => rfl) (fun a d h => by first | omega | (simp only [wMono, wLin, wIdx, wExprS, wStmtS, wBuf, wNest, wSum_one] at *; omega))).le (Nat.le_succ n)
theorem rd_gBuffer (n : Nat) : Reads enc Tryz.prog w base spare held n 45 (fun x : gBuffer => (egBuffer x).cells) (fun x d => wBuf x ≤ Rows.uptoBulk d) :=
  ((rwStruct Tryz.underlying45 (by kernel_rfl) (fwCons (rwStr n u9) (fwCons (rd_gType n) (fwCons ((rwSlice eI u43 c43 (by decide) (fun _ => rfl) (rwInt n u3)).le (Nat.le_succ _)) (fwCons (rwInt n u3) (fwNil n)))))).to (fun x => gBuffer.mk x.1 x.2.1 x.2.2.1 x.2.2.2.1) (fun _ => rfl) (fun a d h => by first | omega | (simp only [wMono, wLin, wIdx, wExprS, wStmtS, wBuf, wNest, wSum_one] at *; omega))).le (Nat.le_succ n)
theorem rd_gMono (n : Nat) : Reads enc Tryz.prog w base spare held n 69 (fun x : gMono => (egMono x).cells) (fun x d => wMono x ≤ Rows.uptoBulk d) :=
  ((rwStruct Tryz.underlying69 (by kernel_rfl) (fwCons (rwStr n u9) (fwCons (rwInt n u2) (fwNil n)))).to (fun x => gMono.mk x.1 x.2.1) (fun _ => rfl) (fun a d h => by first | omega | (simp only [wMono, wLin, wIdx, wExprS, wStmtS, wBuf, wNest, wSum_one] at *; omega))).le (Nat.le_succ n)
theorem rd_gLin (n : Nat) : Reads enc Tryz.prog w base spare held n 33 (fun x : gLin => (egLin x).cells) (fun x d => wLin x ≤ Rows.uptoBulk d) :=
  ((rwStruct Tryz.underlying33 (by kernel_rfl) (fwCons (rwInt n u2) (fwCons ((rwSlice egMono u31 c31 (by decide) (fun _ => rfl) (rd_gMono n)).le (Nat.le_succ _)) (fwNil n)))).to (fun x => gLin.mk x.1 x.2.1) (fun _ => rfl) (fun a d h => by first | omega | (simp only [wMono, wLin, wIdx, wExprS, wStmtS, wBuf, wNest, wSum_one] at *; omega))).le (Nat.le_succ n)
theorem rd_gIndex (n : Nat) : Reads enc Tryz.prog w base spare held n 72 (fun x : gIndex => (egIndex x).cells) (fun x d => wIdx x ≤ Rows.uptoBulk d) :=
  ((rwStruct Tryz.underlying72 (by kernel_rfl) (fwCons (rd_gLin n) (fwCons (rwStr n u9) (fwCons ((rwSlice egLin u70 c70 (by decide) (fun _ => rfl) (rd_gLin n)).le (Nat.le_succ _)) (fwNil n))))).to (fun x => gIndex.mk x.1 x.2.1 x.2.2.1) (fun _ => rfl) (fun a d h => by first | omega | (simp only [wMono, wLin, wIdx, wExprS, wStmtS, wBuf, wNest, wSum_one] at *; omega))).le (Nat.le_succ n)
theorem rd_gVal (n : Nat) : Reads enc Tryz.prog w base spare held n 28 (fun x : gVal => (egVal x).cells) (fun x d => 1 ≤ Rows.uptoBulk d) :=
  ((rwStruct Tryz.underlying28 (by kernel_rfl) (fwCons (rwInt n u2) (fwCons (rwInt n u2) (fwNil n)))).to (fun x => gVal.mk x.1 x.2.1) (fun _ => rfl) (fun a d h => by first | omega | (simp only [wMono, wLin, wIdx, wExprS, wStmtS, wBuf, wNest, wSum_one] at *; omega))).le (Nat.le_succ n)
theorem rd_gExpr : ∀ n, Reads enc Tryz.prog w base spare held n 36 (fun x : gExprS => (hgExpr x).cells) (fun x d => wExprS x ≤ Rows.uptoBulk d)
  | 0 => rwZero _ _
  | n + 1 => (rwStruct Tryz.underlying36 (by kernel_rfl) (fwCons (rwInt n u3) (fwCons (rwStr n u9) (fwCons (rd_gVal n) (fwCons (rd_gType n) (fwCons (rd_gLin n) (fwCons ((rwSlice egIndex u26 c26 (by decide) (fun _ => rfl) (rd_gIndex n)).le (Nat.le_succ _)) (fwCons ((rwSlice (f := wExpr) egExpr u34 c34 (by decide) (fun _ => rfl) ((rd_gExpr n).to gExpr.mk (fun x => by rw [egExpr_mk]) (fun x d h => by rw [wExpr_f]; exact h))).le (Nat.le_succ _)) (fwNil n))))))))).to (fun x => (gExprF.mk x.1 x.2.1 x.2.2.1 x.2.2.2.1 x.2.2.2.2.1 x.2.2.2.2.2.1 x.2.2.2.2.2.2.1 : gExprS)) (fun _ => rfl) (fun a d h => by first | omega | (simp only [wMono, wLin, wIdx, wExprS, wStmtS, wBuf, wNest, wSum_one] at *; omega))
theorem rd_gExpre (n : Nat) : Reads enc Tryz.prog w base spare held n 36 (fun x : gExpr => (egExpr x).cells) (fun x d => wExpr x ≤ Rows.uptoBulk d) := (rd_gExpr n).to gExpr.mk (fun x => by rw [egExpr_mk]) (fun x d h => by rw [wExpr_f]; exact h)
theorem rd_gStmt : ∀ n, Reads enc Tryz.prog w base spare held n 38 (fun x : gStmtS => (hgStmt x).cells) (fun x d => wStmtS x ≤ Rows.uptoBulk d)
  | 0 => rwZero _ _
  | n + 1 => (rwStruct Tryz.underlying38 (by kernel_rfl) (fwCons (rwInt n u3) (fwCons (rwStr n u9) (fwCons (rwInt n u3) (fwCons (rwInt n u3) (fwCons (rwInt n u3) (fwCons ((rwSlice egIndex u26 c26 (by decide) (fun _ => rfl) (rd_gIndex n)).le (Nat.le_succ _)) (fwCons (rd_gExpr n) (fwCons ((rwSlice (f := wStmt) egStmt u23 c23 (by decide) (fun _ => rfl) ((rd_gStmt n).to gStmt.mk (fun x => by rw [egStmt_mk]) (fun x d h => by rw [wStmt_f]; exact h))).le (Nat.le_succ _)) (fwNil n)))))))))).to (fun x => (gStmtF.mk x.1 x.2.1 x.2.2.1 x.2.2.2.1 x.2.2.2.2.1 x.2.2.2.2.2.1 x.2.2.2.2.2.2.1 x.2.2.2.2.2.2.2.1 : gStmtS)) (fun _ => rfl) (fun a d h => by first | omega | (simp only [wMono, wLin, wIdx, wExprS, wStmtS, wBuf, wNest, wSum_one] at *; omega))
theorem rd_gStmte (n : Nat) : Reads enc Tryz.prog w base spare held n 38 (fun x : gStmt => (egStmt x).cells) (fun x d => wStmt x ≤ Rows.uptoBulk d) := (rd_gStmt n).to gStmt.mk (fun x => by rw [egStmt_mk]) (fun x d h => by rw [wStmt_f]; exact h)
theorem rd_gNest (n : Nat) : Reads enc Tryz.prog w base spare held n 25 (fun x : gNest => (egNest x).cells) (fun x d => wNest x ≤ Rows.uptoBulk d) :=
  ((rwStruct Tryz.underlying25 (by kernel_rfl) (fwCons ((rwSlice egBuffer u22 c22 (by decide) (fun _ => rfl) (rd_gBuffer n)).le (Nat.le_succ _)) (fwCons ((rwSlice (f := wStmt) egStmt u23 c23 (by decide) (fun _ => rfl) (rd_gStmte n)).le (Nat.le_succ _)) (fwNil n)))).to (fun x => gNest.mk x.1 x.2.1) (fun _ => rfl) (fun a d h => by first | omega | (simp only [wMono, wLin, wIdx, wExprS, wStmtS, wBuf, wNest, wSum_one] at *; omega))).le (Nat.le_succ n)
end
end Go.Proofs.YtfpegbpngbchfaaGreatDoor
end
section
namespace Go.Proofs.YtfpegbpngbchfaaGreatDoor
open Go HY Go.RowKit Go.ChangeShapes Go.WideShapes Go.ChangeAt
set_option linter.unusedVariables false
theorem own : ownKnob Tryz.prog.godebug = none := by kernel_rfl
theorem lawOk : LawOk Tryz.prog Tryz.f3 4 := ⟨by kernel_rfl, by kernel_rfl, by kernel_rfl, by kernel_rfl⟩
def laidL : List (String × DataW Unit) := [("unicode.White_Space", Rows.laid_unicode_White_Space), ("strings.asciiSpace", Rows.laid_strings_asciiSpace)]
def spZ : List Int := List.replicate 9 0 ++ List.replicate 5 1 ++ List.replicate 18 0 ++ [1] ++ List.replicate 223 0
theorem sp_eq : spaces = spZ.map (.int .u8) := by kernel_rfl
theorem laid_sp : Rows.laid_strings_asciiSpace = .agg (spZ.map (litZ .u8)) := by kernel_rfl
theorem pos_of_blt {a b : Nat} (h : Nat.blt a b = true) : a < b := Nat.le_of_ble_eq_true h
set_option maxRecDepth 100000 in
theorem gls_ok {W : World} (h : laidMetH Tryz.prog laidL W) (g : Nat) : RelI (HV.full W) (gls g) (.pointer (some ⟨g, 0, none⟩)) := by
  unfold gls
  cases h1 : Nat.beq g 1 with
  | true =>
    obtain rfl := Nat.eq_of_beq_eq_true h1
    have := tab_rel (W := W) (g := 1) (k := .u8) (zs := spZ) (pos_of_blt (by kernel_rfl)) fun j z hj => laid_cells h (by kernel_rfl) 1 (n := "strings.asciiSpace") (by rw [← laid_sp]; rfl) (g := 1) (t := 237) (e := 5) (by kernel_rfl) (by kernel_rfl) (by kernel_rfl) (by kernel_rfl) (by kernel_rfl) j z hj
    rw [← sp_eq] at this
    exact this
  | false => exact .undef _
theorem gv_ok {W : World} (h : W.ShapedOpen Tryz.prog) : GvOk gls (fun k => k < W.heap.size) W := fun g sz cs hg => by
  unfold gls at hg
  cases h1 : Nat.beq g 1 with
  | true =>
    obtain rfl := Nat.eq_of_beq_eq_true h1
    cases hg
    exact tab_gv h (g := 1) (n := 256) (zero := Array.replicate 256 (.int .u8 0)) (t := 237) (of_decide_eq_true (by kernel_rfl)) (by kernel_rfl) (by kernel_rfl)
  | false => rw [h1] at hg; cases hg
theorem relAgg {K : HV} {ys : List AV} {cs : Array Value} (h : RelL K ys (Value.agg cs).cells.toList) : RelI K (.agg ys) (.agg cs) := by
  have hc : (Value.agg cs).cells = cs := rfl
  rw [hc] at h
  refine .agg ys cs (by rw [h.1]; simp) (fun v hv => ?_) fun j a v ha hv => (h.2 j a v ha (by simpa using hv)).2
  obtain ⟨j, hj, rfl⟩ := Array.mem_iff_getElem.1 hv
  have hl : j < ys.length := by have := h.1; simp at this; omega
  obtain ⟨h1, h2⟩ := h.2 j ys[j] cs[j] (List.getElem?_eq_getElem hl) (by simp [hj])
  exact h2.oneCell h1
set_option maxRecDepth 100000 in
theorem contract (H : Type) (enc : TypeId × Value → H) (W : World) (base : Nat) (args : Array Value) (ds gs : List (DataW H)) (before : List MemPlace)
    (hval : ∀ (j : Nat) t v, Tryz.f3.params[j]? = some t → args[j]? = some v → Value.okWide Tryz.prog W .any base t v)
    (hW : DataW.Whole enc Tryz.prog Tryz.f3.params.toList Rows.legalityCommutesSpec.vars false W args.toList ds gs before) (hk : Rows.uptoSmall H (ds ++ gs) = true)
    (hL : laidMetH Tryz.prog laidL W) (hS : W.ShapedOpen Tryz.prog) :
    Calls Tryz.prog 3 args W fun e W' => ∃ v, e = .returned v ∧ Rows.legalityCommutesSpec.post enc Tryz.prog Tryz.f3 false true false false W args v W' := by
  have hW' := hW
  obtain ⟨p, q, hA0, hV, rfl, hfz, hnd⟩ := hW
  have hA : DataW.TrodAll enc Tryz.prog W 0 (fun _ => true) true Tryz.f3.params.toList args.toList ds p := hA0
  rw [Tryz.params3] at hA hval
  obtain ⟨v0, vs0, d0, ds0, p0, q0, hargs0, rfl, rfl, h0, r0⟩ := trodAll_cons hA
  obtain ⟨v1, vs1, d1, ds1, p1, q1, hargs1, rfl, rfl, h1, r1⟩ := trodAll_cons r0
  obtain ⟨v2, vs2, d2, ds2, p2, q2, hargs2, rfl, rfl, h2, r2⟩ := trodAll_cons r1
  obtain ⟨rfl, rfl, rfl⟩ := trodAll_nil r2
  obtain rfl : args = #[v0, v1, v2] := by cases args; simp_all
  obtain ⟨rfl, rfl⟩ := trodVars_none hV
  have hk2 := of_decide_eq_true hk
  simp only [List.append_nil, Rows.uptoBulkAll] at hk2
  obtain ⟨c0, rfl, _⟩ := okWide_struct Tryz.underlying25 (hval 0 25 v0 rfl rfl)
  obtain ⟨c1, rfl, _⟩ := okWide_struct Tryz.underlying38 (hval 1 38 v1 rfl rfl)
  obtain ⟨c2, rfl, _⟩ := okWide_struct Tryz.underlying38 (hval 2 38 v2 rfl rfl)
  obtain ⟨x0, i0, x0r⟩ := Reads.arg (rd_gNest (enc := enc) (w := W) (base := 0) (spare := fun _ => true) (held := true)) h0
  obtain ⟨x1, i1, x1r⟩ := Reads.arg (rd_gStmt (enc := enc) (w := W) (base := 0) (spare := fun _ => true) (held := true)) h1
  obtain ⟨x2, i2, x2r⟩ := Reads.arg (rd_gStmt (enc := enc) (w := W) (base := 0) (spare := fun _ => true) (held := true)) h2
  refine (law_callsP (bodied_enters (by kernel_rfl)) (P_law35_LegalityCommutes x0 x1 x2 true (s_law x0 x1 x2 (by omega) (by omega) (by omega))) (W := W) rfl (gls_ok hL) (gv_ok hS) fun j t v ht hv => ?_).mono fun e W' ⟨he, hb⟩ => ⟨_, he, post_true lawOk rfl hW' rfl hb⟩
  match j with
  | 0 => cases ht; cases hv; exact relAgg x0r
  | 1 => cases ht; cases hv; exact relAgg x1r
  | 2 => cases ht; cases hv; exact relAgg x2r
  | j + 3 => cases ht
def wArgs : Array Value := #[.agg #[.slice none 0 0, .slice none 0 0], .agg #[.int .i64 0, .string ⟨#[]⟩, .int .i64 0, .int .i64 0, .int .i64 0, .slice none 0 0, .int .i64 0, .string ⟨#[]⟩, .int .i64 0, .int .i64 0, .int .i64 0, .int .i64 0, .int .i64 0, .int .i64 0, .int .i64 0, .int .i64 0, .slice none 0 0, .slice none 0 0, .slice none 0 0, .slice none 0 0], .agg #[.int .i64 0, .string ⟨#[]⟩, .int .i64 0, .int .i64 0, .int .i64 0, .slice none 0 0, .int .i64 0, .string ⟨#[]⟩, .int .i64 0, .int .i64 0, .int .i64 0, .int .i64 0, .int .i64 0, .int .i64 0, .int .i64 0, .int .i64 0, .slice none 0 0, .slice none 0 0, .slice none 0 0, .slice none 0 0]]
set_option maxRecDepth 100000 in
theorem witness (os : Os) (H : Type) (enc : TypeId × Value → H) : ∃ (w : World) (tape : Tape) (i : Input), w.os = os ∧ (w.forCall tape i).Shaped Tryz.checked.prog ∧ i.vars = [] ∧ Input.okWide Tryz.checked.prog (w.forCall tape i) .any w.heap.size 3 i ∧
      (Rows.OpenSpec.upto Rows.legalityCommutesSpec).preRow enc Tryz.checked.prog Tryz.f3 Rows.legalityCommutesUptoRow.domain false Rows.legalityCommutesUptoRow.laid (w.forCall tape i).memory i.args ∧ ({} : Assume).holds Tryz.checked.prog (lone (Frame.enter Tryz.checked.prog 3 i.args .normal) [] (w.forCall tape i)) := by
  have hx : ∃ x, DataW.whole enc Tryz.prog ((World.laidAll Tryz.prog os laidL).forCall (fun _ _ => 0) ⟨#[], wArgs, []⟩).memory Tryz.f3.params.toList Rows.legalityCommutesSpec.vars false wArgs.toList 8 = some x ∧ Rows.uptoSmall H (x.1 ++ x.2.1) = true :=
    ⟨([.agg [.nil, .nil], .agg [.lit (.int .i64 0), .lit (.string []), .lit (.int .i64 0), .lit (.int .i64 0), .lit (.int .i64 0), .nil, .agg [.lit (.int .i64 0), .lit (.string []), .agg [.lit (.int .i64 0), .lit (.int .i64 0)], .agg [.lit (.int .i64 0), .lit (.int .i64 0), .lit (.int .i64 0), .lit (.int .i64 0), .lit (.int .i64 0)], .agg [.lit (.int .i64 0), .nil], .nil, .nil], .nil], .agg [.lit (.int .i64 0), .lit (.string []), .lit (.int .i64 0), .lit (.int .i64 0), .lit (.int .i64 0), .nil, .agg [.lit (.int .i64 0), .lit (.string []), .agg [.lit (.int .i64 0), .lit (.int .i64 0)], .agg [.lit (.int .i64 0), .lit (.int .i64 0), .lit (.int .i64 0), .lit (.int .i64 0), .lit (.int .i64 0)], .agg [.lit (.int .i64 0), .nil], .nil, .nil], .nil]], [], []), by kernel_rfl, by kernel_rfl⟩
  obtain ⟨x, hx, hsm⟩ := hx
  have hl : laidMetH Tryz.prog laidL ((World.laidAll Tryz.prog os laidL).forCall (fun _ _ => 0) ⟨#[], wArgs, []⟩).memory := by
    rw [MakeChecks.laidMetH_plain _ _ _ (by kernel_rfl)]
    exact laidMet_laidAll _ (by kernel_rfl) (by kernel_rfl)
  have hp : (Rows.OpenSpec.upto Rows.legalityCommutesSpec).preRow enc Tryz.prog Tryz.f3 Rows.legalityCommutesUptoRow.domain false laidL ((World.laidAll Tryz.prog os laidL).forCall (fun _ _ => 0) ⟨#[], wArgs, []⟩).memory wArgs :=
    OpenSpec.preRow_of_cond 8 hx (by kernel_rfl) (fun k hk => by cases hk; exact hsm) (by kernel_rfl) hl
  have hok : Input.okWideB Tryz.prog ((World.laidAll Tryz.prog os laidL).forCall (fun _ _ => 0) ⟨#[], wArgs, []⟩) 3 ⟨#[], wArgs, []⟩ = true := by kernel_rfl
  exact ⟨World.laidAll Tryz.prog os laidL, fun _ _ => 0, ⟨#[], wArgs, []⟩, World.laidAll_os _ _ _, World.shaped_of_ZipB (by kernel_rfl) (by kernel_rfl), (Input.okWide_of_okWideB (base := 0) hok).1, (Input.okWide_of_okWideB hok).2, hp, by
    simp only [Assume.holds]
    exact ⟨by simp, by simp, fun _ => Modest.zero, by simp, by simp⟩⟩
set_option maxRecDepth 100000 in
theorem lifted (os : Os) (started : os.Started) (H : Type) (enc : TypeId × Value → H) (F : Stop.Interp) :
    ReturnsInHanded {} Tryz.checked os 3 .any ((Rows.OpenSpec.upto Rows.legalityCommutesSpec).preRow enc Tryz.prog Tryz.f3 Rows.legalityCommutesUptoRow.domain false Rows.legalityCommutesUptoRow.laid) (((Rows.OpenSpec.upto Rows.legalityCommutesSpec).at F).post enc Tryz.prog Tryz.f3 false true false false) := by
  refine returnsInHanded_of_row (C := Tryz.checked) (s := Rows.OpenSpec.upto Rows.legalityCommutesSpec) own started (by kernel_rfl) Tryz.func3 (witness os H enc) ?_
  intro W base args ds gs before hval hW _ hcond _ hL hS _
  exact contract H enc W base args ds gs before hval hW (hcond _ rfl) hL hS
theorem row_holds : Rows.LegalityCommutesUptoSaid :=
  OpenClaim.holds_of_cond 3 Tryz.f3 rfl rfl rfl rfl rfl rfl rfl ⟨rfl, rfl, rfl, rfl, rfl⟩ rfl rfl rfl rfl rfl (by kernel_rfl) Tryz.func3 (by kernel_rfl)
    (of_decide_eq_true (by kernel_rfl)) (by unfold Func.isWrapper; first | (rw [if_pos (by decide +kernel)]; kernel_rfl) | (rw [if_neg (by decide +kernel)]; exact ⟨rfl, rfl⟩))
    (fun os started H enc _ F => by rw [OpenClaim.pre_eq_preRow]; exact lifted os started H enc F)
theorem proved : Rows.LegalityCommutesUptoCardSaid :=
  Claim7.holds_tied_plain_at .later [] [.listed, .data] true (true, "9d653bcdffc6f886bfa2214762861ac27eb8974a41223d5afa85a98f1d6d0ffc") false row_holds (fun _ h => by cases h) (by kernel_rfl) (fun _ h => by cases h) legalityCommutesUpto_row_tie rfl ⟨rfl, rfl⟩ (by kernel_rfl) rfl
    (fun f fn hf hfn => by
      obtain rfl : f = 3 := Option.some.inj ((show Tryz.prog.funcNamed "brocade/brocadelaw35.LegalityCommutes" = some 3 by kernel_rfl).symm.trans hf) |>.symm
      obtain rfl : fn = Tryz.f3 := (Option.some.inj (Tryz.func3.symm.trans hfn)).symm
      exact ⟨by kernel_rfl, fun j t ht => by
        rw [Tryz.params3] at ht
        have hm : t ∈ [25, 38, 38] := by simpa using Array.mem_of_getElem? ht
        have hall : ([25, 38, 38].all fun u => !Tryz.prog.wantsStandIn u) = true := by kernel_rfl
        exact (show Tryz.prog.wantsStandIn t = false by simpa using List.all_eq_true.1 hall t hm)⟩)
    (by kernel_rfl)
#print axioms proved
end Go.Proofs.YtfpegbpngbchfaaGreatDoor
end
