/- Proved here: for every input the law FlatmemOffsets returns true and its arguments read afterwards as they read before; the listed package-level variables are tied to the program's text. No condition but the statement's own. -/
import Derived.Test.YtpmdnjbodikfbaaGreatDoorP4
import Derived.HandedShaped
import Derived.Handy
import Derived.Lay
import Derived.ProofKit
import Derived.SevenTiedAt
import Derived.Shelf.Vars
import Derived.Test.YtpmdnjbodikfbaaGreatDoorCards
import Derived.Test.YtpmdnjbodikfbaaGreatDoorRows
import Derived.Test.YtpmdnjbodikfbaaGreatDoorTie
import Derived.WalkKit
section
namespace Go.Proofs.YtpmdnjbodikfbaaGreatDoor
open Go HY
set_option maxRecDepth 1000000
set_option linter.unusedVariables false
def A_base_Weigh_L7 (s : (Int × gExprS)) (u : Int) (o : Int) : List Alt := [⟨fun (x : Int) => x = o, .exit 2, fun x => [.int .i64 s.1, .ptr 0 0 0, .int .i64 x, .int .i64 u], fun x => [.cells 0 (hgExpr s.2).cells]⟩]
def A_base_Weigh_J5000007 (s : (Int × gExprS × Int)) (u : (Int × Int)) (o : Bool) : List Alt := [⟨fun (x : Unit) => true = o, .normal, fun x => [.int .i64 (s.1), .ptr 0 0 0, .int .i64 (u.1), .int .i64 (s.2.2), .int .i64 (u.2), .bool true], fun x => [.cells 0 (hgExpr (s.2.1)).cells]⟩, ⟨fun (x : Unit) => false = o, .normal, fun x => [.int .i64 (s.1), .ptr 0 0 0, .int .i64 (u.1), .int .i64 (s.2.2), .int .i64 (u.2), .bool false], fun x => [.cells 0 (hgExpr (s.2.1)).cells]⟩]
noncomputable def F_base_Weigh_L7 (x1 : Int) (x2 : gExprS) (x5 : Int) (x6 : Int) (x7 : Int) : Option Int :=
 some (x5, x7) >>= fun v0 =>
 (ix x2.fIdx x6 >>= fun v2 =>
 some (List.length v2.fAt : Int) >>= fun v3 =>
 if x7 < v3 then
 if x5 ≤ x1 then
 some true
 else
 some false
 else
 some false) >>= fun v1 => if v1 then
 ix x2.fIdx x6 >>= fun v5 =>
 ix v5.fAt v0.snd >>= fun v6 =>
 some (List.length v6.fL : Int) >>= fun v7 =>
 some (IntKind.i64.wrap (v0.fst + v7) : Int) >>= fun v8 =>
 F_base_Weigh_L7 x1 x2 v8 x6 (IntKind.i64.wrap (v0.snd + (1 : Int)))
 else
 some v0.fst
  partial_fixpoint
theorem P_base_Weigh_L7 (x1 : Int) (x2 : gExprS) (x5 : Int) (x6 : Int) (x7 : Int) (o : Int) (h : F_base_Weigh_L7 x1 x2 x5 x6 x7 = some o) : LO 18 7 101 [1, 2, 5, 6, 7] [.int .i64 x1, .ptr 0 0 0, .int .i64 x5, .int .i64 x6, .int .i64 x7] [.cells 0 (hgExpr x2).cells] [1, 2, 5, 6] (A_base_Weigh_L7 (x1, x2) x6 o) :=
  F_base_Weigh_L7.partial_correctness x1 x2 x6 (fun x5 x7 o => LO 18 7 101 [1, 2, 5, 6, 7] [.int .i64 x1, .ptr 0 0 0, .int .i64 x5, .int .i64 x6, .int .i64 x7] [.cells 0 (hgExpr x2).cells] [1, 2, 5, 6] (A_base_Weigh_L7 (x1, x2) x6 o))
  (fun F_base_Weigh_L7 ih_base_Weigh_L7 x5 x7 o h  =>
  Lp1 (hs := [(5, .n eI 5 none), (5, .n eI 5 none), (52, .e egIndex), (55, .n eI 55 none), (56, .split), (60, .split), (68, .e egIndex), (72, .e egLin), (75, .n eI 75 none), (5, .n eI 5 none), (5, .n eI 5 none), (5000007, .l [] [] [] [1, 2, 5, 6, 7, 61] [{ slot := 2 }] (A_base_Weigh_J5000007 (x1, x2, x6)))]) (kb := [{ slot := 2 }]) (kbx := [{ slot := 2 }]) (by kernel_rfl) (by kernel_rfl) ((kJb (id := 5000007) (x5, x7) (fun v0 ev0 v1 => (kIx (enc := egIndex) (l := x2.fIdx) (k := x6) fun v2 => (kN _ (mLen (sh := egLin) v2.fAt) fun v3 => (kIfD (p := x7 < v3) (kIfD (p := x5 ≤ x1) (kXj (alts := A_base_Weigh_J5000007 (x1, x2, x6)) ev0 true (.here () rfl (.refl _) (.refl _)))
 (kXj (alts := A_base_Weigh_J5000007 (x1, x2, x6)) ev0 false (.next (.here () rfl (.refl _) (.refl _)))))
 (kXj (alts := A_base_Weigh_J5000007 (x1, x2, x6)) ev0 false (.next (.here () rfl (.refl _) (.refl _))))))))
 (fun v0 => (kIx (enc := egIndex) (l := x2.fIdx) (k := x6) fun v5 => (kIx (enc := egLin) (l := v5.fAt) (k := v0.snd) fun v6 => (kN _ (mLen (sh := egMono) v6.fL) fun v7 => (kN (IntKind.i64.wrap (v0.fst + v7)) rfl fun v8 => (kM0 (alts := A_base_Weigh_L7 (x1, x2) x6) (ih_base_Weigh_L7 v8 (IntKind.i64.wrap (v0.snd + (1 : Int))))))))))
 (fun v0 => (kX (alts := A_base_Weigh_L7 (x1, x2) x6) v0.fst (.here _ rfl (.refl _) (.refl _))))) h)) x5 x7 o h
def A_base_Weigh_L3 (s : (Int × gExprS)) (u : Unit) (o : Int) : List Alt := [⟨fun (x : Int) => x = o, .exit 0, fun x => [.int .i64 s.1, .ptr 0 0 0, .int .i64 x], fun x => [.cells 0 (hgExpr s.2).cells]⟩]
def A_base_Weigh_J5000003 (s : (Int × gExprS)) (u : (Int × Int)) (o : Bool) : List Alt := [⟨fun (x : Unit) => true = o, .normal, fun x => [.int .i64 (s.1), .ptr 0 0 0, .int .i64 (u.1), .int .i64 (u.2), .bool true], fun x => [.cells 0 (hgExpr (s.2)).cells]⟩, ⟨fun (x : Unit) => false = o, .normal, fun x => [.int .i64 (s.1), .ptr 0 0 0, .int .i64 (u.1), .int .i64 (u.2), .bool false], fun x => [.cells 0 (hgExpr (s.2)).cells]⟩]
noncomputable def F_base_Weigh_L3 (x1 : Int) (x2 : gExprS) (x5 : Int) (x6 : Int) : Option Int :=
 some (x5, x6) >>= fun v0 =>
 (some (List.length x2.fIdx : Int) >>= fun v2 =>
 if x6 < v2 then
 if x5 ≤ x1 then
 some true
 else
 some false
 else
 some false) >>= fun v1 => if v1 then
 ix x2.fIdx v0.snd >>= fun v4 =>
 ix x2.fIdx v0.snd >>= fun v5 =>
 some (List.length v4.fLin.fL : Int) >>= fun v6 =>
 some (List.length v5.fAt : Int) >>= fun v7 =>
 some (IntKind.i64.wrap (IntKind.i64.wrap (v0.fst + (↑(List.map egMono v4.fLin.fL).length : Int)) + v7) : Int) >>= fun v8 =>
 some v0.snd >>= fun v9 =>
 F_base_Weigh_L7 x1 x2 v8 v0.snd (0 : Int) >>= fun v11 =>
 F_base_Weigh_L3 x1 x2 v11 (IntKind.i64.wrap (v9 + (1 : Int)))
 else
 some v0.fst
  partial_fixpoint
theorem P_base_Weigh_L3 (x1 : Int) (x2 : gExprS) (x5 : Int) (x6 : Int) (o : Int) (h : F_base_Weigh_L3 x1 x2 x5 x6 = some o) : LO 18 3 101 [1, 2, 5, 6] [.int .i64 x1, .ptr 0 0 0, .int .i64 x5, .int .i64 x6] [.cells 0 (hgExpr x2).cells] [1, 2, 5] (A_base_Weigh_L3 (x1, x2) () o) :=
  F_base_Weigh_L3.partial_correctness x1 x2 (fun x5 x6 o => LO 18 3 101 [1, 2, 5, 6] [.int .i64 x1, .ptr 0 0 0, .int .i64 x5, .int .i64 x6] [.cells 0 (hgExpr x2).cells] [1, 2, 5] (A_base_Weigh_L3 (x1, x2) () o))
  (fun F_base_Weigh_L3 ih_base_Weigh_L3 x5 x6 o h  =>
  Lp1 (hs := [(5, .n eI 5 none), (21, .n eI 21 none), (22, .split), (26, .split), (34, .e egIndex), (38, .n eI 38 none), (43, .e egIndex), (46, .n eI 46 none), (5, .n eI 5 none), (5, .n eI 5 none), (5, .n eI 5 none), (3000008, .l [] [1, 2, 5, 6, 7] [{ slot := 2 }] [1, 2, 5, 6] [{ slot := 2 }] (A_base_Weigh_L7 (x1, x2))), (5000003, .l [] [] [] [1, 2, 5, 6, 27] [{ slot := 2 }] (A_base_Weigh_J5000003 (x1, x2)))]) (kb := [{ slot := 2 }]) (kbx := [{ slot := 2 }]) (by kernel_rfl) (by kernel_rfl) ((kJb (id := 5000003) (x5, x6) (fun v0 ev0 v1 => (kN _ (mLen (sh := egIndex) x2.fIdx) fun v2 => (kIfD (p := x6 < v2) (kIfD (p := x5 ≤ x1) (kXj (alts := A_base_Weigh_J5000003 (x1, x2)) ev0 true (.here () rfl (.refl _) (.refl _)))
 (kXj (alts := A_base_Weigh_J5000003 (x1, x2)) ev0 false (.next (.here () rfl (.refl _) (.refl _)))))
 (kXj (alts := A_base_Weigh_J5000003 (x1, x2)) ev0 false (.next (.here () rfl (.refl _) (.refl _)))))))
 (fun v0 => (kIx (enc := egIndex) (l := x2.fIdx) (k := v0.snd) fun v4 => (kIx (enc := egIndex) (l := x2.fIdx) (k := v0.snd) fun v5 => (kN _ (mLen (sh := egMono) v4.fLin.fL) fun v6 => (kN _ (mLen (sh := egLin) v5.fAt) fun v7 => (kN (IntKind.i64.wrap (IntKind.i64.wrap (v0.fst + (↑(List.map egMono v4.fLin.fL).length : Int)) + v7)) rfl fun v8 => (kL1 v0.snd (P_base_Weigh_L7 x1 x2 v8 v0.snd (0 : Int)) fun v9 v11 => (kM0 (alts := A_base_Weigh_L3 (x1, x2) ()) (ih_base_Weigh_L3 v11 (IntKind.i64.wrap (v9 + (1 : Int))))))))))))
 (fun v0 => (kX (alts := A_base_Weigh_L3 (x1, x2) ()) v0.fst (.here _ rfl (.refl _) (.refl _))))) h)) x5 x6 o h
def A_base_Weigh_L11 (s : (Int × gExprS)) (u : Unit) (o : Int) : List Alt := [⟨fun (x : Int) => x = o, .exit 4, fun x => [.int .i64 x], fun x => []⟩]
def A_base_Weigh_J5000011 (s : (Int × gExprS)) (u : (Int × Int)) (o : Bool) : List Alt := [⟨fun (x : Unit) => true = o, .normal, fun x => [.int .i64 (s.1), .ptr 0 0 0, .int .i64 (u.1), .int .i64 (u.2), .bool true], fun x => [.cells 0 (hgExpr (s.2)).cells]⟩, ⟨fun (x : Unit) => false = o, .normal, fun x => [.int .i64 (s.1), .ptr 0 0 0, .int .i64 (u.1), .int .i64 (u.2), .bool false], fun x => [.cells 0 (hgExpr (s.2)).cells]⟩]
mutual
noncomputable def F_base_Weigh (x0 : gExprS) (x1 : Int) : Option Int :=
 some (List.length x0.fLin.fL : Int) >>= fun v0 =>
 some (List.length x0.fIdx : Int) >>= fun v1 =>
 some (IntKind.i64.wrap (IntKind.i64.wrap ((1 : Int) + v0) + v1) : Int) >>= fun v2 =>
 some () >>= fun v3 =>
 F_base_Weigh_L3 x1 x0 v2 (0 : Int) >>= fun v5 =>
 some () >>= fun v6 =>
 F_base_Weigh_L11 x1 x0 v5 (0 : Int) >>= fun v8 =>
 some v8
  partial_fixpoint
noncomputable def F_base_Weigh_L11 (x1 : Int) (x2 : gExprS) (x5 : Int) (x8 : Int) : Option Int :=
 some (x5, x8) >>= fun v0 =>
 (some (List.length x2.fArgs : Int) >>= fun v2 =>
 if x8 < v2 then
 if x5 ≤ x1 then
 some true
 else
 some false
 else
 some false) >>= fun v1 => if v1 then
 Option.map gExpr.f (ix x2.fArgs v0.snd) >>= fun v4 =>
 F_base_Weigh v4 (IntKind.i64.wrap (x1 - v0.fst)) >>= fun v5 =>
 some (IntKind.i64.wrap (v0.fst + v5) : Int) >>= fun v6 =>
 F_base_Weigh_L11 x1 x2 v6 (IntKind.i64.wrap (v0.snd + (1 : Int)))
 else
 some v0.fst
  partial_fixpoint
end
theorem PM_base_Weigh  : (∀ (x0 : gExprS) (x1 : Int) (r : Int), F_base_Weigh x0 x1 = some r → PU 18 [hgExpr x0, eI x1] (eI r)) ∧ (∀ (x1 : Int) (x2 : gExprS) (x5 : Int) (x8 : Int) (o : Int), F_base_Weigh_L11 x1 x2 x5 x8 = some o → LO 18 11 101 [1, 2, 5, 8] [.int .i64 x1, .ptr 0 0 0, .int .i64 x5, .int .i64 x8] [.cells 0 (hgExpr x2).cells] [5] (A_base_Weigh_L11 (x1, x2) () o)) :=
  F_base_Weigh.mutual_partial_correctness  (fun x0 x1 r => PU 18 [hgExpr x0, eI x1] (eI r)) (fun x1 x2 x5 x8 o => LO 18 11 101 [1, 2, 5, 8] [.int .i64 x1, .ptr 0 0 0, .int .i64 x5, .int .i64 x8] [.cells 0 (hgExpr x2).cells] [5] (A_base_Weigh_L11 (x1, x2) () o))
  (fun F_base_Weigh_L11 ih_base_Weigh_L11 x0 x1 r h  =>
  Pu1 (hs := [(12, .n eI 12 none), (16, .n eI 16 none), (5, .n eI 5 none), (5, .n eI 5 none), (5, .n eI 5 none), (5, .n eI 5 none), (3000012, .l [] [1, 2, 5, 8] [{ slot := 2 }] [5] [] (A_base_Weigh_L11 (x1, x0))), (3000004, .l [] [1, 2, 5, 6] [{ slot := 2 }] [1, 2, 5] [{ slot := 2 }] (A_base_Weigh_L3 (x1, x0)))]) (by kernel_rfl) ((kN _ (mLen (sh := egMono) x0.fLin.fL) fun v0 => (kN _ (mLen (sh := egIndex) x0.fIdx) fun v1 => (kN (IntKind.i64.wrap (IntKind.i64.wrap ((1 : Int) + v0) + v1)) rfl fun v2 => (kL1 () (P_base_Weigh_L3 x1 x0 v2 (0 : Int)) fun v3 v5 => (kL1 () (ih_base_Weigh_L11 x1 x0 v5 (0 : Int)) fun v6 v8 => (kEr (enc := eI) v8)))))) h))
  (fun F_base_Weigh F_base_Weigh_L11 ih_base_Weigh ih_base_Weigh_L11 x1 x2 x5 x8 o h  =>
  Lp1 (hs := [(5, .n eI 5 none), (5, .n eI 5 none), (5, .n eI 5 none), (80, .n eI 80 none), (81, .split), (85, .split), (93, .e hgExpr), (98, .c eI), (5, .n eI 5 none), (5000011, .l [] [] [] [1, 2, 5, 8, 86] [{ slot := 2 }] (A_base_Weigh_J5000011 (x1, x2)))]) (kb := [{ slot := 2 }]) (kbx := []) (by kernel_rfl) (by kernel_rfl) ((kJb (id := 5000011) (x5, x8) (fun v0 ev0 v1 => (kN _ (mLen (sh := egExpr) x2.fArgs) fun v2 => (kIfD (p := x8 < v2) (kIfD (p := x5 ≤ x1) (kXj (alts := A_base_Weigh_J5000011 (x1, x2)) ev0 true (.here () rfl (.refl _) (.refl _)))
 (kXj (alts := A_base_Weigh_J5000011 (x1, x2)) ev0 false (.next (.here () rfl (.refl _) (.refl _)))))
 (kXj (alts := A_base_Weigh_J5000011 (x1, x2)) ev0 false (.next (.here () rfl (.refl _) (.refl _)))))))
 (fun v0 => (kIxR (l := x2.fArgs) (k := v0.snd) egExpr_f fun v4 => (kC (sh := eI) (ih_base_Weigh v4 (IntKind.i64.wrap (x1 - v0.fst))) fun v5 => (kN (IntKind.i64.wrap (v0.fst + v5)) rfl fun v6 => (kM0 (alts := A_base_Weigh_L11 (x1, x2) ()) (ih_base_Weigh_L11 x1 x2 v6 (IntKind.i64.wrap (v0.snd + (1 : Int)))))))))
 (fun v0 => (kX (alts := A_base_Weigh_L11 (x1, x2) ()) v0.fst (.here _ rfl (.refl _) (.refl _))))) h))
theorem P_base_Weigh (x0 : gExprS) (x1 : Int) (r : Int) (h : F_base_Weigh x0 x1 = some r) : PU 18 [hgExpr x0, eI x1] (eI r) := (PM_base_Weigh ).1 x0 x1 r h
theorem P_base_Weigh_L11 (x1 : Int) (x2 : gExprS) (x5 : Int) (x8 : Int) (o : Int) (h : F_base_Weigh_L11 x1 x2 x5 x8 = some o) : LO 18 11 101 [1, 2, 5, 8] [.int .i64 x1, .ptr 0 0 0, .int .i64 x5, .int .i64 x8] [.cells 0 (hgExpr x2).cells] [5] (A_base_Weigh_L11 (x1, x2) () o) := (PM_base_Weigh ).2 x1 x2 x5 x8 o h
def A_base_WeighStmts_L3 (s : ((List gStmt) × Int)) (u : Unit) (o : Int) : List Alt := [⟨fun (x : Int) => x = o, .exit 0, fun x => [.int .i64 x], fun x => []⟩]
def A_base_WeighStmts_J5000003 (s : ((List gStmt) × Int)) (u : (Int × Int)) (o : Bool) : List Alt := [⟨fun (x : Unit) => true = o, .normal, fun x => [.sl 20 (List.map egStmt (s.1)), .int .i64 (s.2), .int .i64 (u.1), .int .i64 (u.2), .bool true], fun x => []⟩, ⟨fun (x : Unit) => false = o, .normal, fun x => [.sl 20 (List.map egStmt (s.1)), .int .i64 (s.2), .int .i64 (u.1), .int .i64 (u.2), .bool false], fun x => []⟩]
mutual
noncomputable def F_base_WeighStmts (x0 : List gStmt) (x1 : Int) : Option Int :=
 some (List.length x0 : Int) >>= fun v0 =>
 some (v0 : Int) >>= fun v1 =>
 some () >>= fun v2 =>
 F_base_WeighStmts_L3 x0 x1 v1 (0 : Int) >>= fun v4 =>
 some v4
  partial_fixpoint
noncomputable def F_base_WeighStmts_L3 (x0 : List gStmt) (x1 : Int) (x5 : Int) (x6 : Int) : Option Int :=
 some (x5, x6) >>= fun v0 =>
 (some (List.length x0 : Int) >>= fun v2 =>
 if x6 < v2 then
 if x5 ≤ x1 then
 some true
 else
 some false
 else
 some false) >>= fun v1 => if v1 then
 Option.map gStmt.f (ix x0 v0.snd) >>= fun v4 =>
 F_base_Weigh v4.fExpr x1 >>= fun v5 =>
 Option.map gStmt.f (ix x0 v0.snd) >>= fun v6 =>
 F_base_Weigh (gExprF.mk (0 : Int) [] (gVal.mk (0 : Int) (0 : Int)) (gType.mk (0 : Int) (0 : Int) (0 : Int) (0 : Int) (0 : Int)) (gLin.mk (0 : Int) []) v6.fIdx [] : gExprS) x1 >>= fun v7 =>
 Option.map gStmt.f (ix x0 v0.snd) >>= fun v8 =>
 F_base_WeighStmts v8.fBody (if true = true then max (0 : Int) (IntKind.i64.wrap (x1 - v0.fst)) else min (0 : Int) (IntKind.i64.wrap (x1 - v0.fst))) >>= fun v9 =>
 some ((gExprF.mk (0 : Int) [] (gVal.mk (0 : Int) (0 : Int)) (gType.mk (0 : Int) (0 : Int) (0 : Int) (0 : Int) (0 : Int)) (gLin.mk (0 : Int) []) v6.fIdx [] : gExprS)) >>= fun v10 =>
 some (IntKind.i64.wrap (IntKind.i64.wrap (IntKind.i64.wrap (v0.fst + v5) + v7) + v9) : Int) >>= fun v11 =>
 F_base_WeighStmts_L3 x0 x1 v11 (IntKind.i64.wrap (v0.snd + (1 : Int)))
 else
 some v0.fst
  partial_fixpoint
end
theorem PM_base_WeighStmts  : (∀ (x0 : List gStmt) (x1 : Int) (r : Int), F_base_WeighStmts x0 x1 = some r → PU 8 [eLgStmt x0, eI x1] (eI r)) ∧ (∀ (x0 : List gStmt) (x1 : Int) (x5 : Int) (x6 : Int) (o : Int), F_base_WeighStmts_L3 x0 x1 x5 x6 = some o → LO 8 3 50 [0, 1, 5, 6] [.sl 20 (List.map egStmt x0), .int .i64 x1, .int .i64 x5, .int .i64 x6] [] [5] (A_base_WeighStmts_L3 (x0, x1) () o)) :=
  F_base_WeighStmts.mutual_partial_correctness  (fun x0 x1 r => PU 8 [eLgStmt x0, eI x1] (eI r)) (fun x0 x1 x5 x6 o => LO 8 3 50 [0, 1, 5, 6] [.sl 20 (List.map egStmt x0), .int .i64 x1, .int .i64 x5, .int .i64 x6] [] [5] (A_base_WeighStmts_L3 (x0, x1) () o))
  (fun F_base_WeighStmts_L3 ih_base_WeighStmts_L3 x0 x1 r h  =>
  Pu1 (hs := [(8, .n eI 8 none), (5, .n eI 5 none), (3000004, .l [] [0, 1, 5, 6] [] [5] [] (A_base_WeighStmts_L3 (x0, x1)))]) (by kernel_rfl) ((kN _ (mLen (sh := egStmt) x0) fun v0 => (kN v0 rfl fun v1 => (kL1 () (ih_base_WeighStmts_L3 x0 x1 v1 (0 : Int)) fun v2 v4 => (kEr (enc := eI) v4)))) h))
  (fun F_base_WeighStmts F_base_WeighStmts_L3 ih_base_WeighStmts ih_base_WeighStmts_L3 x0 x1 x5 x6 o h  =>
  Lp1 (hs := [(11, .n eI 11 none), (12, .split), (16, .split), (23, .e hgStmt), (27, .c eI), (31, .e hgStmt), (34, .n hgExpr 34 none), (36, .c eI), (40, .e hgStmt), (47, .c eI), (5, .n eI 5 none), (5000003, .l [] [] [] [0, 1, 5, 6, 17] [] (A_base_WeighStmts_J5000003 (x0, x1)))]) (kb := []) (kbx := []) (by kernel_rfl) (by kernel_rfl) ((kJb (id := 5000003) (x5, x6) (fun v0 ev0 v1 => (kN _ (mLen (sh := egStmt) x0) fun v2 => (kIfD (p := x6 < v2) (kIfD (p := x5 ≤ x1) (kXj (alts := A_base_WeighStmts_J5000003 (x0, x1)) ev0 true (.here () rfl (.refl _) (.refl _)))
 (kXj (alts := A_base_WeighStmts_J5000003 (x0, x1)) ev0 false (.next (.here () rfl (.refl _) (.refl _)))))
 (kXj (alts := A_base_WeighStmts_J5000003 (x0, x1)) ev0 false (.next (.here () rfl (.refl _) (.refl _)))))))
 (fun v0 => (kIxR (l := x0) (k := v0.snd) egStmt_f fun v4 => (kC (sh := eI) (P_base_Weigh v4.fExpr x1) fun v5 => (kIxR (l := x0) (k := v0.snd) egStmt_f fun v6 => (kC (sh := eI) (fun y hy => Pu.le (P_base_Weigh (gExprF.mk (0 : Int) [] (gVal.mk (0 : Int) (0 : Int)) (gType.mk (0 : Int) (0 : Int) (0 : Int) (0 : Int) (0 : Int)) (gLin.mk (0 : Int) []) v6.fIdx [] : gExprS) x1 y hy) (.cons (LeT.agg (.cons (LeT.refl (AV.int IntKind.i64 (0 : Int))) (.cons (LeT.refl (AV.str [])) (.cons (LeT.refl (AV.int IntKind.i64 (0 : Int))) (.cons (LeT.refl (AV.int IntKind.i64 (0 : Int))) (.cons (LeT.refl (AV.int IntKind.i64 (0 : Int))) (.cons (LeT.refl (AV.int IntKind.i64 (0 : Int))) (.cons (LeT.refl (AV.int IntKind.i64 (0 : Int))) (.cons (LeT.refl (AV.int IntKind.i64 (0 : Int))) (.cons (LeT.refl (AV.int IntKind.i64 (0 : Int))) (.cons (LeT.refl (AV.int IntKind.i64 (0 : Int))) (.cons (LeT.nil 2) (.cons (LeT.refl (AV.sl (4 : Nat) (List.map egIndex v6.fIdx))) (.cons (LeT.nil 13) .nil)))))))))))))) (.cons (LeT.refl (AV.int IntKind.i64 x1)) .nil)) (LeT.refl _)) fun v7 => (kIxR (l := x0) (k := v0.snd) egStmt_f fun v8 => (kC (sh := eI) (ih_base_WeighStmts v8.fBody (if true = true then max (0 : Int) (IntKind.i64.wrap (x1 - v0.fst)) else min (0 : Int) (IntKind.i64.wrap (x1 - v0.fst)))) fun v9 => (kW (sh := hgExpr) (gExprF.mk (0 : Int) [] (gVal.mk (0 : Int) (0 : Int)) (gType.mk (0 : Int) (0 : Int) (0 : Int) (0 : Int) (0 : Int)) (gLin.mk (0 : Int) []) v6.fIdx [] : gExprS) (LeV.agg (.cons (LeV.refl (AV.int IntKind.i64 (0 : Int))) (.cons (LeV.refl (AV.str [])) (.cons (LeV.refl (AV.int IntKind.i64 (0 : Int))) (.cons (LeV.refl (AV.int IntKind.i64 (0 : Int))) (.cons (LeV.refl (AV.int IntKind.i64 (0 : Int))) (.cons (LeV.refl (AV.int IntKind.i64 (0 : Int))) (.cons (LeV.refl (AV.int IntKind.i64 (0 : Int))) (.cons (LeV.refl (AV.int IntKind.i64 (0 : Int))) (.cons (LeV.refl (AV.int IntKind.i64 (0 : Int))) (.cons (LeV.refl (AV.int IntKind.i64 (0 : Int))) (.cons (LeV.nil 2) (.cons (LeV.refl (AV.sl (4 : Nat) (List.map egIndex v6.fIdx))) (.cons (LeV.nil 13) .nil)))))))))))))) fun v10 => (kN (IntKind.i64.wrap (IntKind.i64.wrap (IntKind.i64.wrap (v0.fst + v5) + v7) + v9)) rfl fun v11 => (kM0 (alts := A_base_WeighStmts_L3 (x0, x1) ()) (ih_base_WeighStmts_L3 x0 x1 v11 (IntKind.i64.wrap (v0.snd + (1 : Int))))))))))))))
 (fun v0 => (kX (alts := A_base_WeighStmts_L3 (x0, x1) ()) v0.fst (.here _ rfl (.refl _) (.refl _))))) h))
theorem P_base_WeighStmts (x0 : List gStmt) (x1 : Int) (r : Int) (h : F_base_WeighStmts x0 x1 = some r) : PU 8 [eLgStmt x0, eI x1] (eI r) := (PM_base_WeighStmts ).1 x0 x1 r h
theorem P_base_WeighStmts_L3 (x0 : List gStmt) (x1 : Int) (x5 : Int) (x6 : Int) (o : Int) (h : F_base_WeighStmts_L3 x0 x1 x5 x6 = some o) : LO 8 3 50 [0, 1, 5, 6] [.sl 20 (List.map egStmt x0), .int .i64 x1, .int .i64 x5, .int .i64 x6] [] [5] (A_base_WeighStmts_L3 (x0, x1) () o) := (PM_base_WeighStmts ).2 x0 x1 x5 x6 o h
noncomputable def F_law46_small (x0 : gNest) (x1 : List gSlot) (x2 : List gNamed) : Option Bool :=
 some (List.length x0.fBufs : Int) >>= fun v0 =>
 if v0 ≤ (60 : Int) then
 F_base_WeighStmts x0.fBody (300 : Int) >>= fun v1 =>
 if v1 ≤ (300 : Int) then
 some (List.length x1 : Int) >>= fun v2 =>
 if v2 ≤ (60 : Int) then
 some (List.length x2 : Int) >>= fun v3 =>
 some (decide (v3 ≤ (60 : Int)))
 else
 some false
 else
 some false
 else
 some false
theorem P_law46_small (x0 : gNest) (x1 : List gSlot) (x2 : List gNamed) (r : Bool) (h : F_law46_small x0 x1 x2 = some r) : PU 4 [egNest x0, eLgSlot x1, eLgNamed x2] (eB r) :=
  Pu1 (hs := [(9, .n eI 9 none), (10, .split), (14, .c eI), (15, .split), (19, .n eI 19 none), (20, .split), (24, .n eI 24 none)]) (by kernel_rfl) ((kN _ (mLen (sh := egBuffer) x0.fBufs) fun v0 => (kIfD (p := v0 ≤ (60 : Int)) (kC (sh := eI) (P_base_WeighStmts x0.fBody (300 : Int)) fun v1 => (kIfD (p := v1 ≤ (300 : Int)) (kN _ (mLen (sh := egSlot) x1) fun v2 => (kIfD (p := v2 ≤ (60 : Int)) (kN _ (mLen (sh := egNamed) x2) fun v3 => (kEr (enc := eB) (decide (v3 ≤ (60 : Int)))))
 (kEr (enc := eB) false)))
 (kEr (enc := eB) false)))
 (kEr (enc := eB) false))) h)
noncomputable def F_loopnest_copyBuffer (x0 : gBuffer) : Option gBuffer :=
 F_slices_Clone_int x0.fDims >>= fun v0 =>
 some (gBuffer.mk x0.fName x0.fType v0 x0.fUse)
theorem P_loopnest_copyBuffer (x0 : gBuffer) (r : gBuffer) (h : F_loopnest_copyBuffer x0 = some r) : PU 22 [egBuffer x0] (egBuffer r) :=
  Pu1 (hs := [(5, .c eLI)]) (by kernel_rfl) ((kC (sh := eLI) (P_slices_Clone_int x0.fDims) fun v0 => (kEr (enc := egBuffer) (gBuffer.mk x0.fName x0.fType v0 x0.fUse))) h)
def A_loopnest_Buffer_L2 (s : (Str × gNest)) (u : Int) (o : gBuffer ⊕ (gBuffer × Bool)) : List Alt := [⟨fun (x : gBuffer) => (Sum.inl x : gBuffer ⊕ (gBuffer × Bool)) = o, .exit 0, fun x => [.ptr 0 0 0, .undef], fun x => [.cells 0 (egBuffer x).cells]⟩, ⟨fun (x : (gBuffer × Bool)) => (Sum.inr x : gBuffer ⊕ (gBuffer × Bool)) = o, .ret, fun x => [.ptr 0 0 0, .bool x.2], fun x => [.cells 0 (egBuffer x.1).cells]⟩]
noncomputable def F_loopnest_Buffer_L2 (x1 : Str) (x2 : gNest) (x4 : gBuffer) (x9 : Int) (x10 : Int) : Option (gBuffer ⊕ (gBuffer × Bool)) :=
 if x10 < x9 then
 ix x2.fBufs x10 >>= fun v0 =>
 if v0.fName == x1 then
 ix x2.fBufs x10 >>= fun v1 =>
 F_loopnest_copyBuffer v1 >>= fun v2 =>
 some (.inr (v2, true))
 else
 F_loopnest_Buffer_L2 x1 x2 x4 x9 (IntKind.i64.wrap (x10 + (1 : Int)))
 else
 some (.inl x4)
  partial_fixpoint
theorem P_loopnest_Buffer_L2 (x1 : Str) (x2 : gNest) (x4 : gBuffer) (x9 : Int) (x10 : Int) (o : gBuffer ⊕ (gBuffer × Bool)) (h : F_loopnest_Buffer_L2 x1 x2 x4 x9 x10 = some o) : LO 11 2 29 [1, 2, 4, 9, 10] [.str x1, .ptr 0 0 0, .ptr 1 0 0, .int .i64 x9, .int .i64 x10] [.cells 0 (egNest x2).cells, .cells 0 (egBuffer x4).cells] [4, 5] (A_loopnest_Buffer_L2 (x1, x2) x9 o) :=
  F_loopnest_Buffer_L2.partial_correctness x1 x2 x4 x9 (fun x10 o => LO 11 2 29 [1, 2, 4, 9, 10] [.str x1, .ptr 0 0 0, .ptr 1 0 0, .int .i64 x9, .int .i64 x10] [.cells 0 (egNest x2).cells, .cells 0 (egBuffer x4).cells] [4, 5] (A_loopnest_Buffer_L2 (x1, x2) x9 o))
  (fun F_loopnest_Buffer_L2 ih_loopnest_Buffer_L2 x10 o h  =>
  Lp1 (hs := [(11, .split), (16, .e egBuffer), (20, .split), (24, .e egBuffer), (26, .c egBuffer)]) (kb := [{ slot := 2 }, { slot := 4 }]) (kbx := [{ slot := 4 }]) (by kernel_rfl) (by kernel_rfl) ((kIfD (p := x10 < x9) (kIx (enc := egBuffer) (l := x2.fBufs) (k := x10) fun v0 => (kIf (c := v0.fName == x1) (kIx (enc := egBuffer) (l := x2.fBufs) (k := x10) fun v1 => (kC (sh := egBuffer) (P_loopnest_copyBuffer v1) fun v2 => (kX (alts := A_loopnest_Buffer_L2 (x1, x2) x9) (.inr (v2, true)) (.next (.here _ rfl (.refl _) (.refl _))))))
 (kM0 (alts := A_loopnest_Buffer_L2 (x1, x2) x9) (ih_loopnest_Buffer_L2 (IntKind.i64.wrap (x10 + (1 : Int)))))))
 (kX (alts := A_loopnest_Buffer_L2 (x1, x2) x9) (.inl x4) (.here _ rfl (.refl _) (.refl _)))) h)) x10 o h
noncomputable def F_loopnest_Buffer (x0 : gNest) (x1 : Str) : Option (gBuffer × Bool) :=
 some (List.length x0.fBufs : Int) >>= fun v0 =>
 some v0 >>= fun v1 =>
 F_loopnest_Buffer_L2 x1 x0 (gBuffer.mk [] (gType.mk (0 : Int) (0 : Int) (0 : Int) (0 : Int) (0 : Int)) [] (0 : Int)) v0 (0 : Int) >>= fun v2 => (match v2 with
 | (.inl v3) =>
 some ((gBuffer.mk [] (gType.mk (0 : Int) (0 : Int) (0 : Int) (0 : Int) (0 : Int)) [] (0 : Int))) >>= fun v4 =>
 some (v4, false)
 | (.inr v5) =>
 some (v5.fst, v5.snd))
theorem P_loopnest_Buffer (x0 : gNest) (x1 : Str) (r : (gBuffer × Bool)) (h : F_loopnest_Buffer x0 x1 = some r) : PU 11 [egNest x0, eS x1] (eT_gBuffer_B r) :=
  Pu1 (hs := [(9, .n eI 9 none), (28, .n egBuffer 28 none), (3000003, .l [] [1, 2, 4, 9, 10] [{ slot := 2 }, { slot := 4 }] [4, 5] [{ slot := 4 }] (A_loopnest_Buffer_L2 (x1, x0)))]) (by kernel_rfl) ((kN _ (mLen (sh := egBuffer) x0.fBufs) fun v0 => (kL2 v0 (hL := (fun y hy => LoopOk.le (.cons (LeV.refl (AV.str x1)) (.cons (LeV.refl (AV.ptr (0 : Nat) (0 : Nat) (0 : Nat))) (.cons (LeV.refl (AV.ptr (1 : Nat) (0 : Nat) (0 : Nat))) (.cons (LeV.refl (AV.int IntKind.i64 v0)) (.cons (LeV.refl (AV.int IntKind.i64 (0 : Int))) .nil))))) (.cons (LeB.refl (Box.cells (0 : Nat) [AV.sl (8 : Nat) (List.map egBuffer x0.fBufs), AV.sl (20 : Nat) (List.map egStmt x0.fBody)])) (.cons (LeB.cells (0 : Nat) (.cons (LeV.refl (AV.str [])) (.cons (LeV.refl (AV.int IntKind.i64 (0 : Int))) (.cons (LeV.refl (AV.int IntKind.i64 (0 : Int))) (.cons (LeV.refl (AV.int IntKind.i64 (0 : Int))) (.cons (LeV.refl (AV.int IntKind.i64 (0 : Int))) (.cons (LeV.refl (AV.int IntKind.i64 (0 : Int))) (.cons (LeV.nil 1) (.cons (LeV.refl (AV.int IntKind.i64 (0 : Int))) .nil))))))))) .nil)) (P_loopnest_Buffer_L2 x1 x0 (gBuffer.mk [] (gType.mk (0 : Int) (0 : Int) (0 : Int) (0 : Int) (0 : Int)) [] (0 : Int)) v0 (0 : Int) y hy))) (hA := fun v1 v3 => (kW (sh := egBuffer) (gBuffer.mk [] (gType.mk (0 : Int) (0 : Int) (0 : Int) (0 : Int) (0 : Int)) [] (0 : Int)) (LeV.agg (.cons (LeV.refl (AV.str [])) (.cons (LeV.refl (AV.int IntKind.i64 (0 : Int))) (.cons (LeV.refl (AV.int IntKind.i64 (0 : Int))) (.cons (LeV.refl (AV.int IntKind.i64 (0 : Int))) (.cons (LeV.refl (AV.int IntKind.i64 (0 : Int))) (.cons (LeV.refl (AV.int IntKind.i64 (0 : Int))) (.cons (LeV.nil 1) (.cons (LeV.refl (AV.int IntKind.i64 (0 : Int))) .nil))))))))) fun v4 => (kEr (enc := eT_gBuffer_B) (v4, false))))
 (hB := fun v1 v5 => (kEr (enc := eT_gBuffer_B) (v5.fst, v5.snd))))) h)
def A_flatmem_slot_L2 (s : Str) (u : ((List gSlot) × Int)) (o : gSlot ⊕ (gSlot × Bool)) : List Alt := [⟨fun (x : gSlot) => (Sum.inl x : gSlot ⊕ (gSlot × Bool)) = o, .exit 0, fun x => [.ptr 0 0 0, .undef], fun x => [.cells 0 (egSlot x).cells]⟩, ⟨fun (x : (gSlot × Bool)) => (Sum.inr x : gSlot ⊕ (gSlot × Bool)) = o, .ret, fun x => [.ptr 0 0 0, .bool x.2], fun x => [.cells 0 (egSlot x.1).cells]⟩]
noncomputable def F_flatmem_slot_L2 (x1 : Str) (x4 : gSlot) (x8 : List gSlot) (x9 : Int) (x10 : Int) : Option (gSlot ⊕ (gSlot × Bool)) :=
 if x10 < x9 then
 ix x8 x10 >>= fun v0 =>
 if v0.fName == x1 then
 some (.inr (v0, true))
 else
 F_flatmem_slot_L2 x1 x4 x8 x9 (IntKind.i64.wrap (x10 + (1 : Int)))
 else
 some (.inl x4)
  partial_fixpoint
theorem P_flatmem_slot_L2 (x1 : Str) (x4 : gSlot) (x8 : List gSlot) (x9 : Int) (x10 : Int) (o : gSlot ⊕ (gSlot × Bool)) (h : F_flatmem_slot_L2 x1 x4 x8 x9 x10 = some o) : LO 12 2 21 [1, 4, 8, 9, 10] [.str x1, .ptr 0 0 0, .sl 3 (List.map egSlot x8), .int .i64 x9, .int .i64 x10] [.cells 0 (egSlot x4).cells] [4, 5] (A_flatmem_slot_L2 x1 (x8, x9) o) :=
  F_flatmem_slot_L2.partial_correctness x1 x4 x8 x9 (fun x10 o => LO 12 2 21 [1, 4, 8, 9, 10] [.str x1, .ptr 0 0 0, .sl 3 (List.map egSlot x8), .int .i64 x9, .int .i64 x10] [.cells 0 (egSlot x4).cells] [4, 5] (A_flatmem_slot_L2 x1 (x8, x9) o))
  (fun F_flatmem_slot_L2 ih_flatmem_slot_L2 x10 o h  =>
  Lp1 (hs := [(11, .split), (12, .e egSlot), (17, .split)]) (kb := [{ slot := 4 }]) (kbx := [{ slot := 4 }]) (by kernel_rfl) (by kernel_rfl) ((kIfD (p := x10 < x9) (kIx (enc := egSlot) (l := x8) (k := x10) fun v0 => (kIf (c := v0.fName == x1) (kX (alts := A_flatmem_slot_L2 x1 (x8, x9)) (.inr (v0, true)) (.next (.here _ rfl (.refl _) (.refl _))))
 (kM0 (alts := A_flatmem_slot_L2 x1 (x8, x9)) (ih_flatmem_slot_L2 (IntKind.i64.wrap (x10 + (1 : Int)))))))
 (kX (alts := A_flatmem_slot_L2 x1 (x8, x9)) (.inl x4) (.here _ rfl (.refl _) (.refl _)))) h)) x10 o h
noncomputable def F_flatmem_slot (x0 : List gSlot) (x1 : Str) : Option (gSlot × Bool) :=
 some (List.length x0 : Int) >>= fun v0 =>
 some (x0, v0) >>= fun v1 =>
 F_flatmem_slot_L2 x1 (gSlot.mk [] (0 : Int) (0 : Int)) x0 v0 (0 : Int) >>= fun v2 => (match v2 with
 | (.inl v3) =>
 some ((gSlot.mk [] (0 : Int) (0 : Int))) >>= fun v4 =>
 some (v4, false)
 | (.inr v5) =>
 some (v5.fst, v5.snd))
theorem P_flatmem_slot (x0 : List gSlot) (x1 : Str) (r : (gSlot × Bool)) (h : F_flatmem_slot x0 x1 = some r) : PU 12 [eLgSlot x0, eS x1] (eT_gSlot_B r) :=
  Pu1 (hs := [(9, .n eI 9 none), (20, .n egSlot 20 none), (3000003, .l [] [1, 4, 8, 9, 10] [{ slot := 4 }] [4, 5] [{ slot := 4 }] (A_flatmem_slot_L2 x1))]) (by kernel_rfl) ((kN _ (mLen (sh := egSlot) x0) fun v0 => (kL2 (x0, v0) (hL := (P_flatmem_slot_L2 x1 (gSlot.mk [] (0 : Int) (0 : Int)) x0 v0 (0 : Int))) (hA := fun v1 v3 => (kW (sh := egSlot) (gSlot.mk [] (0 : Int) (0 : Int)) (LeV.refl _) fun v4 => (kEr (enc := eT_gSlot_B) (v4, false))))
 (hB := fun v1 v5 => (kEr (enc := eT_gSlot_B) (v5.fst, v5.snd))))) h)
def A_shape_Validate_L11 (s : Unit) (u : ((List Int) × Int)) (o : Unit ⊕ Int) : List Alt := [⟨fun (x : Unit) => (Sum.inl x : Unit ⊕ Int) = o, .exit 2, fun x => [.undef], fun x => []⟩, ⟨fun (x : Int) => (Sum.inr x : Unit ⊕ Int) = o, .ret, fun x => [.int .i64 x], fun x => []⟩]
noncomputable def F_shape_Validate_L11 (x5 : Int) (x20 : List Int) (x21 : Int) (x22 : Int) : Option (Unit ⊕ Int) :=
 if x22 < x21 then
 ix x20 x22 >>= fun v0 =>
 if x5 ≠ (0 : Int) then
 if IntKind.i64.wrap (Int.tdiv (4096 : Int) x5) < v0 then
 some (.inr (2 : Int))
 else
 some (IntKind.i64.wrap (x5 * v0) : Int) >>= fun v1 =>
 F_shape_Validate_L11 v1 x20 x21 (IntKind.i64.wrap (x22 + (1 : Int)))
 else none
 else
 some (.inl ())
  partial_fixpoint
theorem P_shape_Validate_L11 (x5 : Int) (x20 : List Int) (x21 : Int) (x22 : Int) (o : Unit ⊕ Int) (h : F_shape_Validate_L11 x5 x20 x21 x22 = some o) : LO 23 11 34 [5, 20, 21, 22] [.int .i64 x5, .sl 1 (List.map eI x20), .int .i64 x21, .int .i64 x22] [] [2] (A_shape_Validate_L11 () (x20, x21) o) :=
  F_shape_Validate_L11.partial_correctness x20 x21 (fun x5 x22 o => LO 23 11 34 [5, 20, 21, 22] [.int .i64 x5, .sl 1 (List.map eI x20), .int .i64 x21, .int .i64 x22] [] [2] (A_shape_Validate_L11 () (x20, x21) o))
  (fun F_shape_Validate_L11 ih_shape_Validate_L11 x5 x22 o h  =>
  Lp1 (hs := [(23, .split), (24, .e eI), (28, .s), (29, .split), (5, .n eI 5 none)]) (kb := []) (kbx := []) (by kernel_rfl) (by kernel_rfl) ((kIfD (p := x22 < x21) (kIx (enc := eI) (l := x20) (k := x22) fun v0 => (kG (p := x5 ≠ (0 : Int)) (kIfD (p := IntKind.i64.wrap (Int.tdiv (4096 : Int) x5) < v0) (kX (alts := A_shape_Validate_L11 () (x20, x21)) (.inr (2 : Int)) (.next (.here _ rfl (.refl _) (.refl _))))
 (kN (IntKind.i64.wrap (x5 * v0)) rfl fun v1 => (kM0 (alts := A_shape_Validate_L11 () (x20, x21)) (ih_shape_Validate_L11 v1 (IntKind.i64.wrap (x22 + (1 : Int)))))))))
 (kX (alts := A_shape_Validate_L11 () (x20, x21)) (.inl ()) (.here _ rfl (.refl _) (.refl _)))) h)) x5 x22 o h
def A_shape_Validate_L4 (s : List Int) (u : ((List Int) × Int)) (o : Unit ⊕ Int) : List Alt := [⟨fun (x : Unit) => (Sum.inl x : Unit ⊕ Int) = o, .exit 0, fun x => [.sl 1 (List.map eI s), .undef], fun x => []⟩, ⟨fun (x : Int) => (Sum.inr x : Unit ⊕ Int) = o, .ret, fun x => [.sl 1 (List.map eI s), .int .i64 x], fun x => []⟩]
noncomputable def F_shape_Validate_L4 (x11 : List Int) (x12 : Int) (x13 : Int) : Option (Unit ⊕ Int) :=
 if x13 < x12 then
 ix x11 x13 >>= fun v0 =>
 if v0 < (1 : Int) then
 some (.inr (1 : Int))
 else
 F_shape_Validate_L4 x11 x12 (IntKind.i64.wrap (x13 + (1 : Int)))
 else
 some (.inl ())
  partial_fixpoint
theorem P_shape_Validate_L4 (x0 : List Int) (x11 : List Int) (x12 : Int) (x13 : Int) (o : Unit ⊕ Int) (h : F_shape_Validate_L4 x11 x12 x13 = some o) : LO 23 4 34 [0, 11, 12, 13] [.sl 1 (List.map eI x0), .sl 1 (List.map eI x11), .int .i64 x12, .int .i64 x13] [] [0, 2] (A_shape_Validate_L4 x0 (x11, x12) o) :=
  F_shape_Validate_L4.partial_correctness x11 x12 (fun x13 o => ∀ (x0 : List Int), LO 23 4 34 [0, 11, 12, 13] [.sl 1 (List.map eI x0), .sl 1 (List.map eI x11), .int .i64 x12, .int .i64 x13] [] [0, 2] (A_shape_Validate_L4 x0 (x11, x12) o))
  (fun F_shape_Validate_L4 ih_shape_Validate_L4 x13 o h x0 =>
  Lp1 (hs := [(14, .split), (15, .e eI), (18, .split)]) (kb := []) (kbx := []) (by kernel_rfl) (by kernel_rfl) ((kIfD (p := x13 < x12) (kIx (enc := eI) (l := x11) (k := x13) fun v0 => (kIfD (p := v0 < (1 : Int)) (kX (alts := A_shape_Validate_L4 x0 (x11, x12)) (.inr (1 : Int)) (.next (.here _ rfl (.refl _) (.refl _))))
 (kM0 (alts := A_shape_Validate_L4 x0 (x11, x12)) (fun y hy => ih_shape_Validate_L4 (IntKind.i64.wrap (x13 + (1 : Int))) y hy x0))))
 (kX (alts := A_shape_Validate_L4 x0 (x11, x12)) (.inl ()) (.here _ rfl (.refl _) (.refl _)))) h)) x13 o h x0
noncomputable def F_shape_Validate (x0 : List Int) : Option Int :=
 some (List.length x0 : Int) >>= fun v0 =>
 if (6 : Int) < v0 then
 some (2 : Int)
 else
 some (List.length x0 : Int) >>= fun v1 =>
 some (x0, v1) >>= fun v2 =>
 F_shape_Validate_L4 x0 v1 (0 : Int) >>= fun v3 => (match v3 with
 | (.inl v4) =>
 some ((1 : Int) : Int) >>= fun v5 =>
 some (List.length x0 : Int) >>= fun v6 =>
 some (x0, v6) >>= fun v7 =>
 F_shape_Validate_L11 v5 x0 v6 (0 : Int) >>= fun v8 => (match v8 with
 | (.inl v9) =>
 some (0 : Int)
 | (.inr v10) =>
 some v10)
 | (.inr v11) =>
 some v11)
theorem P_shape_Validate (x0 : List Int) (r : Int) (h : F_shape_Validate x0 = some r) : PU 23 [eLI x0] (eI r) :=
  Pu1 (hs := [(9, .n eI 9 none), (10, .split), (12, .n eI 12 none), (21, .n eI 21 none), (5, .n eI 5 none), (3000012, .l [] [5, 20, 21, 22] [] [2] [] (A_shape_Validate_L11 ())), (3000005, .l [] [0, 11, 12, 13] [] [0, 2] [] (A_shape_Validate_L4 x0))]) (by kernel_rfl) ((kN _ (mLen (sh := eI) x0) fun v0 => (kIfD (p := (6 : Int) < v0) (kEr (enc := eI) (2 : Int))
 (kN _ (mLen (sh := eI) x0) fun v1 => (kL2 (x0, v1) (hL := (P_shape_Validate_L4 x0 x0 v1 (0 : Int))) (hA := fun v2 v4 => (kN (1 : Int) rfl fun v5 => (kN _ (mLen (sh := eI) x0) fun v6 => (kL2 (x0, v6) (hL := (P_shape_Validate_L11 v5 x0 v6 (0 : Int))) (hA := fun v7 v9 => (kEr (enc := eI) (0 : Int)))
 (hB := fun v7 v10 => (kEr (enc := eI) v10))))))
 (hB := fun v2 v11 => (kEr (enc := eI) v11)))))) h)
def A_shape_Offset_L5 (s : List Int) (u : ((List Int) × Int)) (o : Int ⊕ (Int × Bool)) : List Alt := [⟨fun (x : Int) => (Sum.inl x : Int ⊕ (Int × Bool)) = o, .exit 0, fun x => [.undef, .undef, .int .i64 x], fun x => []⟩, ⟨fun (x : (Int × Bool)) => (Sum.inr x : Int ⊕ (Int × Bool)) = o, .ret, fun x => [.int .i64 x.1, .bool x.2, .undef], fun x => []⟩]
def A_shape_Offset_J5000007 (s : ((List Int) × (List Int) × Int)) (u : (Int × Int × Int × Int)) (o : Bool) : List Alt := [⟨fun (x : Unit) => true = o, .normal, fun x => [.sl 1 (List.map eI (s.1)), .int .i64 (u.1), .int .i64 (u.2.1), .int .i64 (u.2.2.1), .sl 1 (List.map eI (s.2.1)), .int .i64 (s.2.2), .int .i64 (u.2.2.2), .bool true], fun x => []⟩, ⟨fun (x : Unit) => false = o, .normal, fun x => [.sl 1 (List.map eI (s.1)), .int .i64 (u.1), .int .i64 (u.2.1), .int .i64 (u.2.2.1), .sl 1 (List.map eI (s.2.1)), .int .i64 (s.2.2), .int .i64 (u.2.2.2), .bool false], fun x => []⟩]
noncomputable def F_shape_Offset_L5 (x1 : List Int) (x6 : Int) (x19 : List Int) (x20 : Int) (x21 : Int) : Option (Int ⊕ (Int × Bool)) :=
 if x21 < x20 then
 ix x19 x21 >>= fun v0 =>
 some (x6, x21, v0, x21) >>= fun v1 =>
 (ix x1 x21 >>= fun v3 =>
 if v3 < (0 : Int) then
 some true
 else
 ix x1 x21 >>= fun v4 =>
 if v0 ≤ v4 then
 some true
 else
 some false) >>= fun v2 => if v2 then
 some (.inr ((0 : Int), false))
 else
 ix x1 v1.snd.fst >>= fun v7 =>
 some (IntKind.i64.wrap (IntKind.i64.wrap (v1.fst * v1.snd.snd.fst) + v7) : Int) >>= fun v8 =>
 F_shape_Offset_L5 x1 v8 x19 x20 (IntKind.i64.wrap (v1.snd.snd.snd + (1 : Int)))
 else
 some (.inl x6)
  partial_fixpoint
theorem P_shape_Offset_L5 (x1 : List Int) (x6 : Int) (x19 : List Int) (x20 : Int) (x21 : Int) (o : Int ⊕ (Int × Bool)) (h : F_shape_Offset_L5 x1 x6 x19 x20 x21 = some o) : LO 13 5 49 [1, 6, 19, 20, 21] [.sl 1 (List.map eI x1), .int .i64 x6, .sl 1 (List.map eI x19), .int .i64 x20, .int .i64 x21] [] [4, 5, 6] (A_shape_Offset_L5 x1 (x19, x20) o) :=
  F_shape_Offset_L5.partial_correctness x1 x19 x20 (fun x6 x21 o => LO 13 5 49 [1, 6, 19, 20, 21] [.sl 1 (List.map eI x1), .int .i64 x6, .sl 1 (List.map eI x19), .int .i64 x20, .int .i64 x21] [] [4, 5, 6] (A_shape_Offset_L5 x1 (x19, x20) o))
  (fun F_shape_Offset_L5 ih_shape_Offset_L5 x6 x21 o h  =>
  Lp1 (hs := [(22, .split), (24, .e eI), (28, .e eI), (30, .split), (34, .e eI), (37, .split), (44, .e eI), (6, .n eI 6 none), (5000007, .l [] [] [] [1, 6, 7, 8, 19, 20, 21, 38] [] (A_shape_Offset_J5000007 (x1, x19, x20)))]) (kb := []) (kbx := []) (by kernel_rfl) (by kernel_rfl) ((kIfD (p := x21 < x20) (kIx (enc := eI) (l := x19) (k := x21) fun v0 => (kJb (id := 5000007) (x6, x21, v0, x21) (fun v1 ev1 v2 => (kIx (enc := eI) (l := x1) (k := x21) fun v3 => (kIfD (p := v3 < (0 : Int)) (kXj (alts := A_shape_Offset_J5000007 (x1, x19, x20)) ev1 true (.here () rfl (.refl _) (.refl _)))
 (kIx (enc := eI) (l := x1) (k := x21) fun v4 => (kIfD (p := v0 ≤ v4) (kXj (alts := A_shape_Offset_J5000007 (x1, x19, x20)) ev1 true (.here () rfl (.refl _) (.refl _)))
 (kXj (alts := A_shape_Offset_J5000007 (x1, x19, x20)) ev1 false (.next (.here () rfl (.refl _) (.refl _)))))))))
 (fun v1 => (kX (alts := A_shape_Offset_L5 x1 (x19, x20)) (.inr ((0 : Int), false)) (.next (.here _ rfl (.cons (LeV.refl (AV.int IntKind.i64 (0 : Int))) (.cons (LeV.refl (AV.bool false)) (.cons (LeV.undef (AV.int IntKind.i64 v1.fst)) .nil))) (.refl _)))))
 (fun v1 => (kIx (enc := eI) (l := x1) (k := v1.snd.fst) fun v7 => (kN (IntKind.i64.wrap (IntKind.i64.wrap (v1.fst * v1.snd.snd.fst) + v7)) rfl fun v8 => (kM0 (alts := A_shape_Offset_L5 x1 (x19, x20)) (ih_shape_Offset_L5 v8 (IntKind.i64.wrap (v1.snd.snd.snd + (1 : Int))))))))))
 (kX (alts := A_shape_Offset_L5 x1 (x19, x20)) (.inl x6) (.here _ rfl (.refl _) (.refl _)))) h)) x6 x21 o h
def A_shape_Offset_J5000001 (s : ((List Int) × (List Int))) (u : Unit) (o : Bool) : List Alt := [⟨fun (x : Unit) => true = o, .normal, fun x => [.sl 1 (List.map eI (s.1)), .sl 1 (List.map eI (s.2)), .bool true], fun x => []⟩, ⟨fun (x : Unit) => false = o, .normal, fun x => [.sl 1 (List.map eI (s.1)), .sl 1 (List.map eI (s.2)), .bool false], fun x => []⟩]
noncomputable def F_shape_Offset (x0 : List Int) (x1 : List Int) : Option (Int × Bool) :=
 some () >>= fun v0 =>
 (F_shape_Validate x0 >>= fun v2 =>
 if v2 != (0 : Int) then
 some true
 else
 some (List.length x1 : Int) >>= fun v3 =>
 some (List.length x0 : Int) >>= fun v4 =>
 if v3 != v4 then
 some true
 else
 some false) >>= fun v1 => if v1 then
 some ((0 : Int), false)
 else
 some ((0 : Int) : Int) >>= fun v7 =>
 some (List.length x0 : Int) >>= fun v8 =>
 some (x0, v8) >>= fun v9 =>
 F_shape_Offset_L5 x1 v7 x0 v8 (0 : Int) >>= fun v10 => (match v10 with
 | (.inl v11) =>
 some (v11, true)
 | (.inr v12) =>
 some (v12.fst, v12.snd))
theorem P_shape_Offset (x0 : List Int) (x1 : List Int) (r : (Int × Bool)) (h : F_shape_Offset x0 x1 = some r) : PU 13 [eLI x0, eLI x1] (eT_I_B r) :=
  Pu1 (hs := [(10, .c eI), (11, .split), (14, .n eI 14 none), (16, .n eI 16 none), (17, .split), (20, .n eI 20 none), (6, .n eI 6 none), (3000006, .l [] [1, 6, 19, 20, 21] [] [4, 5, 6] [] (A_shape_Offset_L5 x1)), (5000001, .l [] [] [] [0, 1, 18] [] (A_shape_Offset_J5000001 (x0, x1)))]) (by kernel_rfl) ((kJb (id := 5000001) () (fun v0 ev0 v1 => (kC (sh := eI) (P_shape_Validate x0) fun v2 => (kIf (c := v2 != (0 : Int)) (kXj (alts := A_shape_Offset_J5000001 (x0, x1)) ev0 true (.here () rfl (.refl _) (.refl _)))
 (kN _ (mLen (sh := eI) x1) fun v3 => (kN _ (mLen (sh := eI) x0) fun v4 => (kIf (c := v3 != v4) (kXj (alts := A_shape_Offset_J5000001 (x0, x1)) ev0 true (.here () rfl (.refl _) (.refl _)))
 (kXj (alts := A_shape_Offset_J5000001 (x0, x1)) ev0 false (.next (.here () rfl (.refl _) (.refl _))))))))))
 (fun v0 => (kEr (enc := eT_I_B) ((0 : Int), false)))
 (fun v0 => (kN (0 : Int) rfl fun v7 => (kN _ (mLen (sh := eI) x0) fun v8 => (kL2 (x0, v8) (hL := (P_shape_Offset_L5 x1 v7 x0 v8 (0 : Int))) (hA := fun v9 v11 => (kEr (enc := eT_I_B) (v11, true)))
 (hB := fun v9 v12 => (kEr (enc := eT_I_B) (v12.fst, v12.snd)))))))) h)
def A_flatmem_Offset_J5000003 (s : List Int) (u : (gBuffer × gSlot)) (o : Bool) : List Alt := [⟨fun (x : Unit) => true = o, .normal, fun x => [.sl 1 (List.map eI s), .ptr 0 0 0, .ptr 1 0 0, .bool true], fun x => [.cells 0 (egBuffer (u.1)).cells, .cells 0 (egSlot (u.2)).cells]⟩, ⟨fun (x : Unit) => false = o, .normal, fun x => [.sl 1 (List.map eI s), .ptr 0 0 0, .ptr 1 0 0, .bool false], fun x => [.cells 0 (egBuffer (u.1)).cells, .cells 0 (egSlot (u.2)).cells]⟩]
def A_flatmem_Offset_J5000005 (s : List Int) (u : (gBuffer × gSlot)) (o : Bool) : List Alt := [⟨fun (x : Unit) => true = o, .normal, fun x => [.sl 1 (List.map eI s), .ptr 0 0 0, .ptr 1 0 0, .bool true], fun x => [.cells 0 (egBuffer (u.1)).cells, .cells 0 (egSlot (u.2)).cells]⟩, ⟨fun (x : Unit) => false = o, .normal, fun x => [.sl 1 (List.map eI s), .ptr 0 0 0, .ptr 1 0 0, .bool false], fun x => [.cells 0 (egBuffer (u.1)).cells, .cells 0 (egSlot (u.2)).cells]⟩]
noncomputable def F_flatmem_Offset (x0 : gNest) (x1 : List gSlot) (x2 : Str) (x3 : List Int) : Option (Int × Int) :=
 F_loopnest_Buffer x0 x2 >>= fun v0 =>
 F_flatmem_slot x1 x2 >>= fun v1 =>
 some (v0.fst, v1.fst) >>= fun v2 =>
 (if v0.snd then
 if v1.snd then
 some false
 else
 some true
 else
 some true) >>= fun v3 => if v3 then
 some ((0 : Int), (9 : Int))
 else
 some (v2.fst, v2.snd) >>= fun v6 =>
 (if v2.snd.fAt < (0 : Int) then
 some true
 else
 if (2147483647 : Int) < v2.snd.fAt then
 some true
 else
 some false) >>= fun v7 => if v7 then
 some ((0 : Int), (22 : Int))
 else
 some (List.length x3 : Int) >>= fun v10 =>
 some (List.length v6.fst.fDims : Int) >>= fun v11 =>
 if v10 != v11 then
 some ((0 : Int), (11 : Int))
 else
 F_shape_Offset v6.fst.fDims x3 >>= fun v12 =>
 if v12.snd then
 some ((IntKind.i64.wrap (v6.snd.fAt + v12.fst)), (0 : Int))
 else
 some ((0 : Int), (12 : Int))
theorem P_flatmem_Offset (x0 : gNest) (x1 : List gSlot) (x2 : Str) (x3 : List Int) (r : (Int × Int)) (h : F_flatmem_Offset x0 x1 x2 x3 = some r) : PU 6 [egNest x0, eLgSlot x1, eS x2, eLI x3] (eT_I_I r) :=
  Pu1 (hs := [(19, .c eT_gBuffer_B), (25, .c eT_gSlot_B), (28, .split), (31, .split), (36, .split), (40, .split), (43, .n eI 43 none), (46, .n eI 46 none), (47, .split), (52, .c eT_I_B), (55, .split), (5000003, .l [] [] [] [3, 10, 12, 33] [{ slot := 10 }, { slot := 12 }] (A_flatmem_Offset_J5000003 x3)), (5000005, .l [] [] [] [3, 10, 12, 41] [{ slot := 10 }, { slot := 12 }] (A_flatmem_Offset_J5000005 x3))]) (by kernel_rfl) ((kC (sh := eT_gBuffer_B) (P_loopnest_Buffer x0 x2) fun v0 => (kC (sh := eT_gSlot_B) (P_flatmem_slot x1 x2) fun v1 => (kJb (id := 5000003) (v0.fst, v1.fst) (fun v2 ev2 v3 => (kIf (c := v0.snd) (kIf (c := v1.snd) (kXj (alts := A_flatmem_Offset_J5000003 x3) ev2 false (.next (.here () rfl (.refl _) (.refl _))))
 (kXj (alts := A_flatmem_Offset_J5000003 x3) ev2 true (.here () rfl (.refl _) (.refl _))))
 (kXj (alts := A_flatmem_Offset_J5000003 x3) ev2 true (.here () rfl (.refl _) (.refl _)))))
 (fun v2 => (kEr (enc := eT_I_I) ((0 : Int), (9 : Int))))
 (fun v2 => (kJb (id := 5000005) (v2.fst, v2.snd) (fun v6 ev6 v7 => (kIfD (p := v2.snd.fAt < (0 : Int)) (kXj (alts := A_flatmem_Offset_J5000005 x3) ev6 true (.here () rfl (.refl _) (.refl _)))
 (kIfD (p := (2147483647 : Int) < v2.snd.fAt) (kXj (alts := A_flatmem_Offset_J5000005 x3) ev6 true (.here () rfl (.refl _) (.refl _)))
 (kXj (alts := A_flatmem_Offset_J5000005 x3) ev6 false (.next (.here () rfl (.refl _) (.refl _)))))))
 (fun v6 => (kEr (enc := eT_I_I) ((0 : Int), (22 : Int))))
 (fun v6 => (kN _ (mLen (sh := eI) x3) fun v10 => (kN _ (mLen (sh := eI) v6.fst.fDims) fun v11 => (kIf (c := v10 != v11) (kEr (enc := eT_I_I) ((0 : Int), (11 : Int)))
 (kC (sh := eT_I_B) (P_shape_Offset v6.fst.fDims x3) fun v12 => (kIf (c := v12.snd) (kEr (enc := eT_I_I) ((IntKind.i64.wrap (v6.snd.fAt + v12.fst)), (0 : Int)))
 (kEr (enc := eT_I_I) ((0 : Int), (12 : Int)))))))))))))) h)
def A_ref30_Buffer_L2 (s : (Str × gNest)) (u : Unit) (o : gBuffer ⊕ (gBuffer × Bool)) : List Alt := [⟨fun (x : gBuffer) => (Sum.inl x : gBuffer ⊕ (gBuffer × Bool)) = o, .exit 0, fun x => [.ptr 0 0 0, .undef], fun x => [.cells 0 (egBuffer x).cells]⟩, ⟨fun (x : (gBuffer × Bool)) => (Sum.inr x : gBuffer ⊕ (gBuffer × Bool)) = o, .ret, fun x => [.ptr 0 0 0, .bool x.2], fun x => [.cells 0 (egBuffer x.1).cells]⟩]
noncomputable def F_ref30_Buffer_L2 (x1 : Str) (x2 : gNest) (x4 : gBuffer) (x6 : Int) : Option (gBuffer ⊕ (gBuffer × Bool)) :=
 some (List.length x2.fBufs : Int) >>= fun v0 =>
 if x6 < v0 then
 ix x2.fBufs x6 >>= fun v1 =>
 if v1.fName == x1 then
 ix x2.fBufs x6 >>= fun v2 =>
 some (.inr (v2, true))
 else
 F_ref30_Buffer_L2 x1 x2 x4 (IntKind.i64.wrap (x6 + (1 : Int)))
 else
 some (.inl x4)
  partial_fixpoint
theorem P_ref30_Buffer_L2 (x1 : Str) (x2 : gNest) (x4 : gBuffer) (x6 : Int) (o : gBuffer ⊕ (gBuffer × Bool)) (h : F_ref30_Buffer_L2 x1 x2 x4 x6 = some o) : LO 14 2 28 [1, 2, 4, 6] [.str x1, .ptr 0 0 0, .ptr 1 0 0, .int .i64 x6] [.cells 0 (egNest x2).cells, .cells 0 (egBuffer x4).cells] [4, 5] (A_ref30_Buffer_L2 (x1, x2) () o) :=
  F_ref30_Buffer_L2.partial_correctness x1 x2 x4 (fun x6 o => LO 14 2 28 [1, 2, 4, 6] [.str x1, .ptr 0 0 0, .ptr 1 0 0, .int .i64 x6] [.cells 0 (egNest x2).cells, .cells 0 (egBuffer x4).cells] [4, 5] (A_ref30_Buffer_L2 (x1, x2) () o))
  (fun F_ref30_Buffer_L2 ih_ref30_Buffer_L2 x6 o h  =>
  Lp1 (hs := [(10, .n eI 10 none), (11, .split), (17, .e egBuffer), (21, .split), (25, .e egBuffer)]) (kb := [{ slot := 2 }, { slot := 4 }]) (kbx := [{ slot := 4 }]) (by kernel_rfl) (by kernel_rfl) ((kN _ (mLen (sh := egBuffer) x2.fBufs) fun v0 => (kIfD (p := x6 < v0) (kIx (enc := egBuffer) (l := x2.fBufs) (k := x6) fun v1 => (kIf (c := v1.fName == x1) (kIx (enc := egBuffer) (l := x2.fBufs) (k := x6) fun v2 => (kX (alts := A_ref30_Buffer_L2 (x1, x2) ()) (.inr (v2, true)) (.next (.here _ rfl (.refl _) (.refl _)))))
 (kM0 (alts := A_ref30_Buffer_L2 (x1, x2) ()) (ih_ref30_Buffer_L2 (IntKind.i64.wrap (x6 + (1 : Int)))))))
 (kX (alts := A_ref30_Buffer_L2 (x1, x2) ()) (.inl x4) (.here _ rfl (.refl _) (.refl _))))) h)) x6 o h
noncomputable def F_ref30_Buffer (x0 : gNest) (x1 : Str) : Option (gBuffer × Bool) :=
 some () >>= fun v0 =>
 F_ref30_Buffer_L2 x1 x0 (gBuffer.mk [] (gType.mk (0 : Int) (0 : Int) (0 : Int) (0 : Int) (0 : Int)) [] (0 : Int)) (0 : Int) >>= fun v1 => (match v1 with
 | (.inl v2) =>
 some ((gBuffer.mk [] (gType.mk (0 : Int) (0 : Int) (0 : Int) (0 : Int) (0 : Int)) [] (0 : Int))) >>= fun v3 =>
 some (v3, false)
 | (.inr v4) =>
 some (v4.fst, v4.snd))
theorem P_ref30_Buffer (x0 : gNest) (x1 : Str) (r : (gBuffer × Bool)) (h : F_ref30_Buffer x0 x1 = some r) : PU 14 [egNest x0, eS x1] (eT_gBuffer_B r) :=
  Pu1 (hs := [(27, .n egBuffer 27 none), (3000003, .l [] [1, 2, 4, 6] [{ slot := 2 }, { slot := 4 }] [4, 5] [{ slot := 4 }] (A_ref30_Buffer_L2 (x1, x0)))]) (by kernel_rfl) ((kL2 () (hL := (fun y hy => LoopOk.le (.cons (LeV.refl (AV.str x1)) (.cons (LeV.refl (AV.ptr (0 : Nat) (0 : Nat) (0 : Nat))) (.cons (LeV.refl (AV.ptr (1 : Nat) (0 : Nat) (0 : Nat))) (.cons (LeV.refl (AV.int IntKind.i64 (0 : Int))) .nil)))) (.cons (LeB.refl (Box.cells (0 : Nat) [AV.sl (8 : Nat) (List.map egBuffer x0.fBufs), AV.sl (20 : Nat) (List.map egStmt x0.fBody)])) (.cons (LeB.cells (0 : Nat) (.cons (LeV.refl (AV.str [])) (.cons (LeV.refl (AV.int IntKind.i64 (0 : Int))) (.cons (LeV.refl (AV.int IntKind.i64 (0 : Int))) (.cons (LeV.refl (AV.int IntKind.i64 (0 : Int))) (.cons (LeV.refl (AV.int IntKind.i64 (0 : Int))) (.cons (LeV.refl (AV.int IntKind.i64 (0 : Int))) (.cons (LeV.nil 1) (.cons (LeV.refl (AV.int IntKind.i64 (0 : Int))) .nil))))))))) .nil)) (P_ref30_Buffer_L2 x1 x0 (gBuffer.mk [] (gType.mk (0 : Int) (0 : Int) (0 : Int) (0 : Int) (0 : Int)) [] (0 : Int)) (0 : Int) y hy))) (hA := fun v0 v2 => (kW (sh := egBuffer) (gBuffer.mk [] (gType.mk (0 : Int) (0 : Int) (0 : Int) (0 : Int) (0 : Int)) [] (0 : Int)) (LeV.agg (.cons (LeV.refl (AV.str [])) (.cons (LeV.refl (AV.int IntKind.i64 (0 : Int))) (.cons (LeV.refl (AV.int IntKind.i64 (0 : Int))) (.cons (LeV.refl (AV.int IntKind.i64 (0 : Int))) (.cons (LeV.refl (AV.int IntKind.i64 (0 : Int))) (.cons (LeV.refl (AV.int IntKind.i64 (0 : Int))) (.cons (LeV.nil 1) (.cons (LeV.refl (AV.int IntKind.i64 (0 : Int))) .nil))))))))) fun v3 => (kEr (enc := eT_gBuffer_B) (v3, false))))
 (hB := fun v0 v4 => (kEr (enc := eT_gBuffer_B) (v4.fst, v4.snd)))) h)
def A_ref46_slot_L2 (s : ((List gSlot) × Str)) (u : Unit) (o : gSlot ⊕ (gSlot × Bool)) : List Alt := [⟨fun (x : gSlot) => (Sum.inl x : gSlot ⊕ (gSlot × Bool)) = o, .exit 0, fun x => [.ptr 0 0 0, .undef], fun x => [.cells 0 (egSlot x).cells]⟩, ⟨fun (x : (gSlot × Bool)) => (Sum.inr x : gSlot ⊕ (gSlot × Bool)) = o, .ret, fun x => [.ptr 0 0 0, .bool x.2], fun x => [.cells 0 (egSlot x.1).cells]⟩]
noncomputable def F_ref46_slot_L2 (x0 : List gSlot) (x1 : Str) (x4 : gSlot) (x6 : Int) : Option (gSlot ⊕ (gSlot × Bool)) :=
 some (List.length x0 : Int) >>= fun v0 =>
 if x6 < v0 then
 ix x0 x6 >>= fun v1 =>
 if v1.fName == x1 then
 ix x0 x6 >>= fun v2 =>
 some (.inr (v2, true))
 else
 F_ref46_slot_L2 x0 x1 x4 (IntKind.i64.wrap (x6 + (1 : Int)))
 else
 some (.inl x4)
  partial_fixpoint
theorem P_ref46_slot_L2 (x0 : List gSlot) (x1 : Str) (x4 : gSlot) (x6 : Int) (o : gSlot ⊕ (gSlot × Bool)) (h : F_ref46_slot_L2 x0 x1 x4 x6 = some o) : LO 15 2 25 [0, 1, 4, 6] [.sl 3 (List.map egSlot x0), .str x1, .ptr 0 0 0, .int .i64 x6] [.cells 0 (egSlot x4).cells] [4, 5] (A_ref46_slot_L2 (x0, x1) () o) :=
  F_ref46_slot_L2.partial_correctness x0 x1 x4 (fun x6 o => LO 15 2 25 [0, 1, 4, 6] [.sl 3 (List.map egSlot x0), .str x1, .ptr 0 0 0, .int .i64 x6] [.cells 0 (egSlot x4).cells] [4, 5] (A_ref46_slot_L2 (x0, x1) () o))
  (fun F_ref46_slot_L2 ih_ref46_slot_L2 x6 o h  =>
  Lp1 (hs := [(9, .n eI 9 none), (10, .split), (15, .e egSlot), (19, .split), (22, .e egSlot)]) (kb := [{ slot := 4 }]) (kbx := [{ slot := 4 }]) (by kernel_rfl) (by kernel_rfl) ((kN _ (mLen (sh := egSlot) x0) fun v0 => (kIfD (p := x6 < v0) (kIx (enc := egSlot) (l := x0) (k := x6) fun v1 => (kIf (c := v1.fName == x1) (kIx (enc := egSlot) (l := x0) (k := x6) fun v2 => (kX (alts := A_ref46_slot_L2 (x0, x1) ()) (.inr (v2, true)) (.next (.here _ rfl (.refl _) (.refl _)))))
 (kM0 (alts := A_ref46_slot_L2 (x0, x1) ()) (ih_ref46_slot_L2 (IntKind.i64.wrap (x6 + (1 : Int)))))))
 (kX (alts := A_ref46_slot_L2 (x0, x1) ()) (.inl x4) (.here _ rfl (.refl _) (.refl _))))) h)) x6 o h
noncomputable def F_ref46_slot (x0 : List gSlot) (x1 : Str) : Option (gSlot × Bool) :=
 some () >>= fun v0 =>
 F_ref46_slot_L2 x0 x1 (gSlot.mk [] (0 : Int) (0 : Int)) (0 : Int) >>= fun v1 => (match v1 with
 | (.inl v2) =>
 some ((gSlot.mk [] (0 : Int) (0 : Int))) >>= fun v3 =>
 some (v3, false)
 | (.inr v4) =>
 some (v4.fst, v4.snd))
theorem P_ref46_slot (x0 : List gSlot) (x1 : Str) (r : (gSlot × Bool)) (h : F_ref46_slot x0 x1 = some r) : PU 15 [eLgSlot x0, eS x1] (eT_gSlot_B r) :=
  Pu1 (hs := [(24, .n egSlot 24 none), (3000003, .l [] [0, 1, 4, 6] [{ slot := 4 }] [4, 5] [{ slot := 4 }] (A_ref46_slot_L2 (x0, x1)))]) (by kernel_rfl) ((kL2 () (hL := (P_ref46_slot_L2 x0 x1 (gSlot.mk [] (0 : Int) (0 : Int)) (0 : Int))) (hA := fun v0 v2 => (kW (sh := egSlot) (gSlot.mk [] (0 : Int) (0 : Int)) (LeV.refl _) fun v3 => (kEr (enc := eT_gSlot_B) (v3, false))))
 (hB := fun v0 v4 => (kEr (enc := eT_gSlot_B) (v4.fst, v4.snd)))) h)
def A_ref12_Shape_L10 (s : List Int) (u : Unit) (o : Unit ⊕ Int) : List Alt := [⟨fun (x : Unit) => (Sum.inl x : Unit ⊕ Int) = o, .exit 2, fun x => [.undef], fun x => []⟩, ⟨fun (x : Int) => (Sum.inr x : Unit ⊕ Int) = o, .ret, fun x => [.int .i64 x], fun x => []⟩]
noncomputable def F_ref12_Shape_L10 (x0 : List Int) (x4 : Int) (x5 : Int) : Option (Unit ⊕ Int) :=
 some (List.length x0 : Int) >>= fun v0 =>
 if x5 < v0 then
 ix x0 x5 >>= fun v1 =>
 if x4 ≠ (0 : Int) then
 if IntKind.i64.wrap (Int.tdiv (4096 : Int) x4) < v1 then
 some (.inr (2 : Int))
 else
 ix x0 x5 >>= fun v2 =>
 some (IntKind.i64.wrap (x4 * v2) : Int) >>= fun v3 =>
 F_ref12_Shape_L10 x0 v3 (IntKind.i64.wrap (x5 + (1 : Int)))
 else none
 else
 some (.inl ())
  partial_fixpoint
theorem P_ref12_Shape_L10 (x0 : List Int) (x4 : Int) (x5 : Int) (o : Unit ⊕ Int) (h : F_ref12_Shape_L10 x0 x4 x5 = some o) : LO 16 10 39 [0, 4, 5] [.sl 1 (List.map eI x0), .int .i64 x4, .int .i64 x5] [] [2] (A_ref12_Shape_L10 x0 () o) :=
  F_ref12_Shape_L10.partial_correctness x0 (fun x4 x5 o => LO 16 10 39 [0, 4, 5] [.sl 1 (List.map eI x0), .int .i64 x4, .int .i64 x5] [] [2] (A_ref12_Shape_L10 x0 () o))
  (fun F_ref12_Shape_L10 ih_ref12_Shape_L10 x4 x5 o h  =>
  Lp1 (hs := [(22, .n eI 22 none), (23, .split), (28, .e eI), (31, .s), (32, .split), (36, .e eI), (4, .n eI 4 none)]) (kb := []) (kbx := []) (by kernel_rfl) (by kernel_rfl) ((kN _ (mLen (sh := eI) x0) fun v0 => (kIfD (p := x5 < v0) (kIx (enc := eI) (l := x0) (k := x5) fun v1 => (kG (p := x4 ≠ (0 : Int)) (kIfD (p := IntKind.i64.wrap (Int.tdiv (4096 : Int) x4) < v1) (kX (alts := A_ref12_Shape_L10 x0 ()) (.inr (2 : Int)) (.next (.here _ rfl (.refl _) (.refl _))))
 (kIx (enc := eI) (l := x0) (k := x5) fun v2 => (kN (IntKind.i64.wrap (x4 * v2)) rfl fun v3 => (kM0 (alts := A_ref12_Shape_L10 x0 ()) (ih_ref12_Shape_L10 v3 (IntKind.i64.wrap (x5 + (1 : Int))))))))))
 (kX (alts := A_ref12_Shape_L10 x0 ()) (.inl ()) (.here _ rfl (.refl _) (.refl _))))) h)) x4 x5 o h
def A_ref12_Shape_L4 (s : List Int) (u : Unit) (o : Unit ⊕ Int) : List Alt := [⟨fun (x : Unit) => (Sum.inl x : Unit ⊕ Int) = o, .exit 0, fun x => [.sl 1 (List.map eI s), .undef], fun x => []⟩, ⟨fun (x : Int) => (Sum.inr x : Unit ⊕ Int) = o, .ret, fun x => [.sl 1 (List.map eI s), .int .i64 x], fun x => []⟩]
noncomputable def F_ref12_Shape_L4 (x0 : List Int) (x3 : Int) : Option (Unit ⊕ Int) :=
 some (List.length x0 : Int) >>= fun v0 =>
 if x3 < v0 then
 ix x0 x3 >>= fun v1 =>
 if v1 < (1 : Int) then
 some (.inr (1 : Int))
 else
 F_ref12_Shape_L4 x0 (IntKind.i64.wrap (x3 + (1 : Int)))
 else
 some (.inl ())
  partial_fixpoint
theorem P_ref12_Shape_L4 (x0 : List Int) (x3 : Int) (o : Unit ⊕ Int) (h : F_ref12_Shape_L4 x0 x3 = some o) : LO 16 4 39 [0, 3] [.sl 1 (List.map eI x0), .int .i64 x3] [] [0, 2] (A_ref12_Shape_L4 x0 () o) :=
  F_ref12_Shape_L4.partial_correctness x0 (fun x3 o => LO 16 4 39 [0, 3] [.sl 1 (List.map eI x0), .int .i64 x3] [] [0, 2] (A_ref12_Shape_L4 x0 () o))
  (fun F_ref12_Shape_L4 ih_ref12_Shape_L4 x3 o h  =>
  Lp1 (hs := [(11, .n eI 11 none), (12, .split), (17, .e eI), (19, .split)]) (kb := []) (kbx := []) (by kernel_rfl) (by kernel_rfl) ((kN _ (mLen (sh := eI) x0) fun v0 => (kIfD (p := x3 < v0) (kIx (enc := eI) (l := x0) (k := x3) fun v1 => (kIfD (p := v1 < (1 : Int)) (kX (alts := A_ref12_Shape_L4 x0 ()) (.inr (1 : Int)) (.next (.here _ rfl (.refl _) (.refl _))))
 (kM0 (alts := A_ref12_Shape_L4 x0 ()) (ih_ref12_Shape_L4 (IntKind.i64.wrap (x3 + (1 : Int)))))))
 (kX (alts := A_ref12_Shape_L4 x0 ()) (.inl ()) (.here _ rfl (.refl _) (.refl _))))) h)) x3 o h
noncomputable def F_ref12_Shape (x0 : List Int) : Option Int :=
 some (List.length x0 : Int) >>= fun v0 =>
 if (6 : Int) < v0 then
 some (2 : Int)
 else
 some () >>= fun v1 =>
 F_ref12_Shape_L4 x0 (0 : Int) >>= fun v2 => (match v2 with
 | (.inl v3) =>
 some ((1 : Int) : Int) >>= fun v4 =>
 some () >>= fun v5 =>
 F_ref12_Shape_L10 x0 v4 (0 : Int) >>= fun v6 => (match v6 with
 | (.inl v7) =>
 some (0 : Int)
 | (.inr v8) =>
 some v8)
 | (.inr v9) =>
 some v9)
theorem P_ref12_Shape (x0 : List Int) (r : Int) (h : F_ref12_Shape x0 = some r) : PU 16 [eLI x0] (eI r) :=
  Pu1 (hs := [(7, .n eI 7 none), (8, .split), (4, .n eI 4 none), (3000011, .l [] [0, 4, 5] [] [2] [] (A_ref12_Shape_L10 x0)), (3000005, .l [] [0, 3] [] [0, 2] [] (A_ref12_Shape_L4 x0))]) (by kernel_rfl) ((kN _ (mLen (sh := eI) x0) fun v0 => (kIfD (p := (6 : Int) < v0) (kEr (enc := eI) (2 : Int))
 (kL2 () (hL := (P_ref12_Shape_L4 x0 (0 : Int))) (hA := fun v1 v3 => (kN (1 : Int) rfl fun v4 => (kL2 () (hL := (P_ref12_Shape_L10 x0 v4 (0 : Int))) (hA := fun v5 v7 => (kEr (enc := eI) (0 : Int)))
 (hB := fun v5 v8 => (kEr (enc := eI) v8)))))
 (hB := fun v1 v9 => (kEr (enc := eI) v9))))) h)
def A_ref12_Offset_L3 (s : ((List Int) × (List Int))) (u : Unit) (o : Int) : List Alt := [⟨fun (x : Int) => x = o, .exit 0, fun x => [.int .i64 x], fun x => []⟩]
noncomputable def F_ref12_Offset_L3 (x0 : List Int) (x1 : List Int) (x5 : Int) (x6 : Int) : Option Int :=
 some (List.length x0 : Int) >>= fun v0 =>
 if x6 < v0 then
 ix x0 x6 >>= fun v1 =>
 ix x1 x6 >>= fun v2 =>
 some (IntKind.i64.wrap (IntKind.i64.wrap (x5 * v1) + v2) : Int) >>= fun v3 =>
 F_ref12_Offset_L3 x0 x1 v3 (IntKind.i64.wrap (x6 + (1 : Int)))
 else
 some x5
  partial_fixpoint
theorem P_ref12_Offset_L3 (x0 : List Int) (x1 : List Int) (x5 : Int) (x6 : Int) (o : Int) (h : F_ref12_Offset_L3 x0 x1 x5 x6 = some o) : LO 17 3 25 [0, 1, 5, 6] [.sl 1 (List.map eI x0), .sl 1 (List.map eI x1), .int .i64 x5, .int .i64 x6] [] [5] (A_ref12_Offset_L3 (x0, x1) () o) :=
  F_ref12_Offset_L3.partial_correctness x0 x1 (fun x5 x6 o => LO 17 3 25 [0, 1, 5, 6] [.sl 1 (List.map eI x0), .sl 1 (List.map eI x1), .int .i64 x5, .int .i64 x6] [] [5] (A_ref12_Offset_L3 (x0, x1) () o))
  (fun F_ref12_Offset_L3 ih_ref12_Offset_L3 x5 x6 o h  =>
  Lp1 (hs := [(9, .n eI 9 none), (10, .split), (16, .e eI), (21, .e eI), (5, .n eI 5 none)]) (kb := []) (kbx := []) (by kernel_rfl) (by kernel_rfl) ((kN _ (mLen (sh := eI) x0) fun v0 => (kIfD (p := x6 < v0) (kIx (enc := eI) (l := x0) (k := x6) fun v1 => (kIx (enc := eI) (l := x1) (k := x6) fun v2 => (kN (IntKind.i64.wrap (IntKind.i64.wrap (x5 * v1) + v2)) rfl fun v3 => (kM0 (alts := A_ref12_Offset_L3 (x0, x1) ()) (ih_ref12_Offset_L3 v3 (IntKind.i64.wrap (x6 + (1 : Int))))))))
 (kX (alts := A_ref12_Offset_L3 (x0, x1) ()) x5 (.here _ rfl (.refl _) (.refl _))))) h)) x5 x6 o h
noncomputable def F_ref12_Offset (x0 : List Int) (x1 : List Int) : Option Int :=
 some ((0 : Int) : Int) >>= fun v0 =>
 some () >>= fun v1 =>
 F_ref12_Offset_L3 x0 x1 v0 (0 : Int) >>= fun v3 =>
 some v3
theorem P_ref12_Offset (x0 : List Int) (x1 : List Int) (r : Int) (h : F_ref12_Offset x0 x1 = some r) : PU 17 [eLI x0, eLI x1] (eI r) :=
  Pu1 (hs := [(5, .n eI 5 none), (3000004, .l [] [0, 1, 5, 6] [] [5] [] (A_ref12_Offset_L3 (x0, x1)))]) (by kernel_rfl) ((kN (0 : Int) rfl fun v0 => (kL1 () (P_ref12_Offset_L3 x0 x1 v0 (0 : Int)) fun v1 v3 => (kEr (enc := eI) v3))) h)
def A_ref46_Offset_L12 (s : List Int) (u : (gBuffer × gSlot)) (o : Unit ⊕ (Int × Int)) : List Alt := [⟨fun (x : Unit) => (Sum.inl x : Unit ⊕ (Int × Int)) = o, .exit 0, fun x => [.sl 1 (List.map eI s), .undef, .undef, .ptr 0 0 0, .ptr 1 0 0], fun x => [.cells 0 (egBuffer u.1).cells, .cells 0 (egSlot u.2).cells]⟩, ⟨fun (x : (Int × Int)) => (Sum.inr x : Unit ⊕ (Int × Int)) = o, .ret, fun x => [.sl 1 (List.map eI s), .int .i64 x.1, .int .i64 x.2, .ptr 0 0 0, .ptr 1 0 0], fun x => [.cells 0 (egBuffer u.1).cells, .cells 0 (egSlot u.2).cells]⟩]
def A_ref46_Offset_J5000014 (s : ((List Int) × gBuffer × gSlot)) (u : Int) (o : Bool) : List Alt := [⟨fun (x : Unit) => true = o, .normal, fun x => [.sl 1 (List.map eI (s.1)), .ptr 0 0 0, .ptr 1 0 0, .int .i64 u, .bool true], fun x => [.cells 0 (egBuffer (s.2.1)).cells, .cells 0 (egSlot (s.2.2)).cells]⟩, ⟨fun (x : Unit) => false = o, .normal, fun x => [.sl 1 (List.map eI (s.1)), .ptr 0 0 0, .ptr 1 0 0, .int .i64 u, .bool false], fun x => [.cells 0 (egBuffer (s.2.1)).cells, .cells 0 (egSlot (s.2.2)).cells]⟩]
noncomputable def F_ref46_Offset_L12 (x3 : List Int) (x10 : gBuffer) (x14 : Int) : Option (Unit ⊕ (Int × Int)) :=
 some (List.length x3 : Int) >>= fun v0 =>
 if x14 < v0 then
 some x14 >>= fun v1 =>
 (ix x3 x14 >>= fun v3 =>
 if v3 < (0 : Int) then
 some true
 else
 ix x3 x14 >>= fun v4 =>
 ix x10.fDims x14 >>= fun v5 =>
 if v5 ≤ v4 then
 some true
 else
 some false) >>= fun v2 => if v2 then
 some (.inr ((0 : Int), (12 : Int)))
 else
 F_ref46_Offset_L12 x3 x10 (IntKind.i64.wrap (v1 + (1 : Int)))
 else
 some (.inl ())
  partial_fixpoint
theorem P_ref46_Offset_L12 (x3 : List Int) (x10 : gBuffer) (x12 : gSlot) (x14 : Int) (o : Unit ⊕ (Int × Int)) (h : F_ref46_Offset_L12 x3 x10 x14 = some o) : LO 7 12 81 [3, 10, 12, 14] [.sl 1 (List.map eI x3), .ptr 0 0 0, .ptr 1 0 0, .int .i64 x14] [.cells 0 (egBuffer x10).cells, .cells 0 (egSlot x12).cells] [3, 8, 9, 10, 12] (A_ref46_Offset_L12 x3 (x10, x12) o) :=
  F_ref46_Offset_L12.partial_correctness x3 x10 (fun x14 o => ∀ (x12 : gSlot), LO 7 12 81 [3, 10, 12, 14] [.sl 1 (List.map eI x3), .ptr 0 0 0, .ptr 1 0 0, .int .i64 x14] [.cells 0 (egBuffer x10).cells, .cells 0 (egSlot x12).cells] [3, 8, 9, 10, 12] (A_ref46_Offset_L12 x3 (x10, x12) o))
  (fun F_ref46_Offset_L12 ih_ref46_Offset_L12 x14 o h x12 =>
  Lp1 (hs := [(53, .n eI 53 none), (54, .split), (59, .e eI), (61, .split), (65, .e eI), (70, .e eI), (72, .split), (5000014, .l [] [] [] [3, 10, 12, 14, 73] [{ slot := 10 }, { slot := 12 }] (A_ref46_Offset_J5000014 (x3, x10, x12)))]) (kb := [{ slot := 10 }, { slot := 12 }]) (kbx := [{ slot := 10 }, { slot := 12 }]) (by kernel_rfl) (by kernel_rfl) ((kN _ (mLen (sh := eI) x3) fun v0 => (kIfD (p := x14 < v0) (kJb (id := 5000014) x14 (fun v1 ev1 v2 => (kIx (enc := eI) (l := x3) (k := x14) fun v3 => (kIfD (p := v3 < (0 : Int)) (kXj (alts := A_ref46_Offset_J5000014 (x3, x10, x12)) ev1 true (.here () rfl (.refl _) (.refl _)))
 (kIx (enc := eI) (l := x3) (k := x14) fun v4 => (kIx (enc := eI) (l := x10.fDims) (k := x14) fun v5 => (kIfD (p := v5 ≤ v4) (kXj (alts := A_ref46_Offset_J5000014 (x3, x10, x12)) ev1 true (.here () rfl (.refl _) (.refl _)))
 (kXj (alts := A_ref46_Offset_J5000014 (x3, x10, x12)) ev1 false (.next (.here () rfl (.refl _) (.refl _))))))))))
 (fun v1 => (kX (alts := A_ref46_Offset_L12 x3 (x10, x12)) (.inr ((0 : Int), (12 : Int))) (.next (.here _ rfl (.refl _) (.refl _)))))
 (fun v1 => (kM0 (alts := A_ref46_Offset_L12 x3 (x10, x12)) (fun y hy => ih_ref46_Offset_L12 (IntKind.i64.wrap (v1 + (1 : Int))) y hy x12))))
 (kX (alts := A_ref46_Offset_L12 x3 (x10, x12)) (.inl ()) (.here _ rfl (.refl _) (.refl _))))) h)) x14 o h x12
def A_ref46_Offset_J5000003 (s : List Int) (u : (gBuffer × gSlot)) (o : Bool) : List Alt := [⟨fun (x : Unit) => true = o, .normal, fun x => [.sl 1 (List.map eI s), .ptr 0 0 0, .ptr 1 0 0, .bool true], fun x => [.cells 0 (egBuffer (u.1)).cells, .cells 0 (egSlot (u.2)).cells]⟩, ⟨fun (x : Unit) => false = o, .normal, fun x => [.sl 1 (List.map eI s), .ptr 0 0 0, .ptr 1 0 0, .bool false], fun x => [.cells 0 (egBuffer (u.1)).cells, .cells 0 (egSlot (u.2)).cells]⟩]
def A_ref46_Offset_J5000005 (s : List Int) (u : (gBuffer × gSlot)) (o : Bool) : List Alt := [⟨fun (x : Unit) => true = o, .normal, fun x => [.sl 1 (List.map eI s), .ptr 0 0 0, .ptr 1 0 0, .bool true], fun x => [.cells 0 (egBuffer (u.1)).cells, .cells 0 (egSlot (u.2)).cells]⟩, ⟨fun (x : Unit) => false = o, .normal, fun x => [.sl 1 (List.map eI s), .ptr 0 0 0, .ptr 1 0 0, .bool false], fun x => [.cells 0 (egBuffer (u.1)).cells, .cells 0 (egSlot (u.2)).cells]⟩]
noncomputable def F_ref46_Offset (x0 : gNest) (x1 : List gSlot) (x2 : Str) (x3 : List Int) : Option (Int × Int) :=
 F_ref30_Buffer x0 x2 >>= fun v0 =>
 F_ref46_slot x1 x2 >>= fun v1 =>
 some (v0.fst, v1.fst) >>= fun v2 =>
 (if v0.snd then
 if v1.snd then
 some false
 else
 some true
 else
 some true) >>= fun v3 => if v3 then
 some ((0 : Int), (9 : Int))
 else
 some (v2.fst, v2.snd) >>= fun v6 =>
 (if v2.snd.fAt < (0 : Int) then
 some true
 else
 if (2147483647 : Int) < v2.snd.fAt then
 some true
 else
 some false) >>= fun v7 => if v7 then
 some ((0 : Int), (22 : Int))
 else
 some (List.length x3 : Int) >>= fun v10 =>
 some (List.length v6.fst.fDims : Int) >>= fun v11 =>
 if v10 != v11 then
 some ((0 : Int), (11 : Int))
 else
 F_ref12_Shape v6.fst.fDims >>= fun v12 =>
 if v12 != (0 : Int) then
 some ((0 : Int), (12 : Int))
 else
 some (v6.fst, v6.snd) >>= fun v13 =>
 F_ref46_Offset_L12 x3 v6.fst (0 : Int) >>= fun v14 => (match v14 with
 | (.inl v15) =>
 F_ref12_Offset v13.fst.fDims x3 >>= fun v16 =>
 some ((IntKind.i64.wrap (v13.snd.fAt + v16)), (0 : Int))
 | (.inr v17) =>
 some (v17.fst, v17.snd))
theorem P_ref46_Offset (x0 : gNest) (x1 : List gSlot) (x2 : Str) (x3 : List Int) (r : (Int × Int)) (h : F_ref46_Offset x0 x1 x2 x3 = some r) : PU 7 [egNest x0, eLgSlot x1, eS x2, eLI x3] (eT_I_I r) :=
  Pu1 (hs := [(18, .c eT_gBuffer_B), (24, .c eT_gSlot_B), (27, .split), (30, .split), (35, .split), (39, .split), (42, .n eI 42 none), (45, .n eI 45 none), (46, .split), (49, .c eI), (50, .split), (79, .c eI), (3000013, .l [] [3, 10, 12, 14] [{ slot := 10 }, { slot := 12 }] [3, 8, 9, 10, 12] [{ slot := 10 }, { slot := 12 }] (A_ref46_Offset_L12 x3)), (5000003, .l [] [] [] [3, 10, 12, 32] [{ slot := 10 }, { slot := 12 }] (A_ref46_Offset_J5000003 x3)), (5000005, .l [] [] [] [3, 10, 12, 40] [{ slot := 10 }, { slot := 12 }] (A_ref46_Offset_J5000005 x3))]) (by kernel_rfl) ((kC (sh := eT_gBuffer_B) (P_ref30_Buffer x0 x2) fun v0 => (kC (sh := eT_gSlot_B) (P_ref46_slot x1 x2) fun v1 => (kJb (id := 5000003) (v0.fst, v1.fst) (fun v2 ev2 v3 => (kIf (c := v0.snd) (kIf (c := v1.snd) (kXj (alts := A_ref46_Offset_J5000003 x3) ev2 false (.next (.here () rfl (.refl _) (.refl _))))
 (kXj (alts := A_ref46_Offset_J5000003 x3) ev2 true (.here () rfl (.refl _) (.refl _))))
 (kXj (alts := A_ref46_Offset_J5000003 x3) ev2 true (.here () rfl (.refl _) (.refl _)))))
 (fun v2 => (kEr (enc := eT_I_I) ((0 : Int), (9 : Int))))
 (fun v2 => (kJb (id := 5000005) (v2.fst, v2.snd) (fun v6 ev6 v7 => (kIfD (p := v2.snd.fAt < (0 : Int)) (kXj (alts := A_ref46_Offset_J5000005 x3) ev6 true (.here () rfl (.refl _) (.refl _)))
 (kIfD (p := (2147483647 : Int) < v2.snd.fAt) (kXj (alts := A_ref46_Offset_J5000005 x3) ev6 true (.here () rfl (.refl _) (.refl _)))
 (kXj (alts := A_ref46_Offset_J5000005 x3) ev6 false (.next (.here () rfl (.refl _) (.refl _)))))))
 (fun v6 => (kEr (enc := eT_I_I) ((0 : Int), (22 : Int))))
 (fun v6 => (kN _ (mLen (sh := eI) x3) fun v10 => (kN _ (mLen (sh := eI) v6.fst.fDims) fun v11 => (kIf (c := v10 != v11) (kEr (enc := eT_I_I) ((0 : Int), (11 : Int)))
 (kC (sh := eI) (P_ref12_Shape v6.fst.fDims) fun v12 => (kIf (c := v12 != (0 : Int)) (kEr (enc := eT_I_I) ((0 : Int), (12 : Int)))
 (kL2 (v6.fst, v6.snd) (hL := (P_ref46_Offset_L12 x3 v6.fst v6.snd (0 : Int))) (hA := fun v13 v15 => (kC (sh := eI) (P_ref12_Offset v13.fst.fDims x3) fun v16 => (kEr (enc := eT_I_I) ((IntKind.i64.wrap (v13.snd.fAt + v16)), (0 : Int)))))
 (hB := fun v13 v17 => (kEr (enc := eT_I_I) (v17.fst, v17.snd))))))))))))))) h)
end Go.Proofs.YtpmdnjbodikfbaaGreatDoor
end
section
namespace HY
open Go
def wp {α : Type} (x : Option α) (Q : α → Prop) : Prop := ∃ a, x = some a ∧ Q a
section
variable {α β : Type} {Q : β → Prop}
theorem wp_some {x : β} : wp (some x) Q ↔ Q x := ⟨fun ⟨_, e, h⟩ => by cases e; exact h, fun h => ⟨x, rfl, h⟩⟩
theorem wp_none : wp (none : Option β) Q ↔ False := ⟨fun ⟨_, e, _⟩ => (by cases e), False.elim⟩
theorem wp_bind {x : Option α} {f : α → Option β} : wp (x >>= f) Q ↔ wp x (fun a => wp (f a) Q) := by
  cases x with
  | none => exact ⟨fun ⟨_, e, _⟩ => (by cases e), fun ⟨_, e, _⟩ => (by cases e)⟩
  | some x => exact ⟨fun h => ⟨x, rfl, h⟩, fun ⟨_, e, h⟩ => by cases e; exact h⟩
theorem wp_ite {c : Prop} [Decidable c] {x y : Option β} : wp (if c then x else y) Q ↔ (c → wp x Q) ∧ (¬ c → wp y Q) := by
  by_cases h : c
  · rw [if_pos h]; exact ⟨fun k => ⟨fun _ => k, fun n => absurd h n⟩, fun k => k.1 h⟩
  · rw [if_neg h]; exact ⟨fun k => ⟨fun n => absurd n h, fun _ => k⟩, fun k => k.2 h⟩
theorem wp_map {x : Option α} {f : α → β} : wp (Option.map f x) Q ↔ wp x (fun a => Q (f a)) := by
  cases x with
  | none => exact ⟨fun ⟨_, e, _⟩ => (by cases e), fun ⟨_, e, _⟩ => (by cases e)⟩
  | some x => exact ⟨fun ⟨_, e, h⟩ => by cases e; exact ⟨x, rfl, h⟩, fun ⟨_, e, h⟩ => by cases e; exact ⟨_, rfl, h⟩⟩
theorem wpMono {x : Option β} {Q' : β → Prop} (h : wp x Q') (k : ∀ a, Q' a → Q a) : wp x Q := let ⟨a, e, q⟩ := h; ⟨a, e, k a q⟩
theorem wp_ix {l : List β} {k : Int} : wp (ix l k) Q ↔ ∃ (h0 : 0 ≤ k) (h : k.toNat < l.length), Q (l[k.toNat]) := by
  unfold ix
  constructor
  · rintro ⟨a, e, h⟩
    split at e
    · rename_i h0
      obtain ⟨h1, h2⟩ := List.getElem?_eq_some_iff.1 e
      exact ⟨h0, h1, by rw [h2]; exact h⟩
    · cases e
  · rintro ⟨h0, h1, h⟩
    exact ⟨_, by rw [if_pos h0, List.getElem?_eq_getElem h1], h⟩
theorem wp_get {l : List β} {k : Nat} : wp (l[k]?) Q ↔ ∃ (h : k < l.length), Q (l[k]) := by
  constructor
  · rintro ⟨a, e, h⟩
    obtain ⟨h1, h2⟩ := List.getElem?_eq_some_iff.1 e
    exact ⟨h1, by rw [h2]; exact h⟩
  · rintro ⟨h1, h⟩
    exact ⟨_, List.getElem?_eq_getElem h1, h⟩
theorem ix_all {l : List β} {R : β → Prop} {k : Int} (hl : ∀ x ∈ l, R x) (h0 : 0 ≤ k) (h1 : k < l.length) (h : ∀ x, x ∈ l → R x → Q x) : wp (ix l k) Q :=
  wp_ix.2 ⟨h0, by omega, h _ (List.getElem_mem _) (hl _ (List.getElem_mem _))⟩
theorem ix_mem {l : List β} {k : Int} (h0 : 0 ≤ k) (h1 : k < l.length) (h : ∀ x, x ∈ l → Q x) : wp (ix l k) Q :=
  wp_ix.2 ⟨h0, by omega, h _ (List.getElem_mem _)⟩
theorem wp_eq {x : Option β} {y : β} (h : wp x (fun a => a = y)) : x = some y := let ⟨_, e, q⟩ := h; by rw [e, q]
theorem wp_of {x : Option β} {y : β} (h : x = some y) (q : Q y) : wp x Q := ⟨y, h, q⟩
theorem wp_some_of {x : Option β} (h : wp x Q) : ∃ a, x = some a := let ⟨a, e, _⟩ := h; ⟨a, e⟩
theorem loopUp {F : α → Int → Option β} (n : Nat) (I : Int → α → Prop) (last : ∀ a, I n a → wp (F a n) Q) (step : ∀ (i : Int) a, 0 ≤ i → i < n → I i a → (∀ a', I (i + 1) a' → wp (F a' (i + 1)) Q) → wp (F a i) Q) :
    ∀ (i : Int) a, 0 ≤ i → i ≤ n → I i a → wp (F a i) Q := by
  have key : ∀ (d : Nat) (i : Int) a, 0 ≤ i → i + d = n → I i a → wp (F a i) Q := by
    intro d
    induction d with
    | zero => intro i a _ e hI; have : i = n := by omega
              subst this; exact last a hI
    | succ d ih => intro i a h0 e hI; exact step i a h0 (by omega) hI (fun a' hI' => ih (i + 1) a' (by omega) (by omega) hI')
  intro i a h0 h1 hI
  exact key (n - i.toNat) i a h0 (by omega) hI
theorem loopUp2 {γ : Type} {F : α → γ → Int → Option β} (n : Nat) (last : ∀ a b, wp (F a b n) Q) (step : ∀ (i : Int) a b, 0 ≤ i → i < n → (∀ a' b', wp (F a' b' (i + 1)) Q) → wp (F a b i) Q) (i : Int) (a : α) (b : γ) (h0 : 0 ≤ i) (h1 : i ≤ n) : wp (F a b i) Q :=
  loopUp (F := fun (p : α × γ) i => F p.1 p.2 i) n (fun _ _ => True) (fun a _ => last a.1 a.2) (fun i a h0 h1 _ h => step i a.1 a.2 h0 h1 (fun a' b' => h (a', b') trivial)) i (a, b) h0 h1 trivial
theorem loopUp1 {F : α → Int → Option β} (n : Nat) (last : ∀ a, wp (F a n) Q) (step : ∀ (i : Int) a, 0 ≤ i → i < n → (∀ a', wp (F a' (i + 1)) Q) → wp (F a i) Q) (i : Int) (a : α) (h0 : 0 ≤ i) (h1 : i ≤ n) : wp (F a i) Q :=
  loopUp n (fun _ _ => True) (fun a _ => last a) (fun i a h0 h1 _ h => step i a h0 h1 (fun a' => h a' trivial)) i a h0 h1 trivial
theorem loopUp0 {F : Int → Option β} (n : Nat) (last : wp (F n) Q) (step : ∀ (i : Int), 0 ≤ i → i < n → wp (F (i + 1)) Q → wp (F i) Q) :
    ∀ (i : Int), 0 ≤ i → i ≤ n → wp (F i) Q := fun i h0 h1 => by
  refine loopUp (F := fun (_ : Unit) i => F i) n (fun _ _ => True) (fun _ _ => last) (fun i a h0 h1 _ h => step i h0 h1 (h () trivial)) i () h0 h1 trivial
theorem loopEq {γ : Type} {F : Int → Option β} {l : List γ} (S : List γ → β) (last : F l.length = some (S [])) (step : ∀ (i : Int) (x : γ) (t : List γ), 0 ≤ i → i < l.length → ix l i = some x → F (i + 1) = some (S t) → F i = some (S (x :: t))) : F 0 = some (S l) := by
  have key : ∀ (t p : List γ), l = p ++ t → F p.length = some (S t) := by
    intro t
    induction t with
    | nil => intro p e; have : p.length = l.length := by rw [e]; simp
             rw [this]; exact last
    | cons x t ih =>
      intro p e
      refine step p.length x t (by omega) (by rw [e]; simp; omega) ?_ ?_
      · unfold ix; rw [if_pos (by omega), Int.toNat_natCast, e, List.getElem?_append_right (Nat.le_refl _)]; simp
      · have := ih (p ++ [x]) (by rw [e]; simp)
        rw [← this]; simp
  exact key l [] rfl
theorem loopEqA {γ : Type} {F : α → Int → Option β} {l : List γ} (S : α → List γ → β) (last : ∀ a, F a l.length = some (S a [])) (step : ∀ (i : Int) (x : γ) (t : List γ) a, 0 ≤ i → i < l.length → ix l i = some x → (∀ a, F a (i + 1) = some (S a t)) → F a i = some (S a (x :: t))) (a : α) : F a 0 = some (S a l) := by
  have key : ∀ (t p : List γ), l = p ++ t → ∀ a, F a p.length = some (S a t) := by
    intro t
    induction t with
    | nil => intro p e a; have : p.length = l.length := by rw [e]; simp
             rw [this]; exact last a
    | cons x t ih =>
      intro p e a
      refine step p.length x t a (by omega) (by rw [e]; simp; omega) ?_ ?_
      · unfold ix; rw [if_pos (by omega), Int.toNat_natCast, e, List.getElem?_append_right (Nat.le_refl _)]; simp
      · intro a
        have := ih (p ++ [x]) (by rw [e]; simp) a
        rw [← this]; simp
  exact key l [] rfl a
theorem loopEqI {γ : Type} {F : α → Int → Option β} {l : List γ} (I : α → List γ → Prop) (S : α → List γ → β) (last : ∀ a, I a [] → F a l.length = some (S a [])) (step : ∀ (i : Int) (x : γ) (t : List γ) a, 0 ≤ i → i < l.length → x ∈ l → ix l i = some x → I a (x :: t) → (∀ a, I a t → F a (i + 1) = some (S a t)) → F a i = some (S a (x :: t))) (a : α) (hI : I a l) : F a 0 = some (S a l) := by
  have key : ∀ (t p : List γ), l = p ++ t → ∀ a, I a t → F a p.length = some (S a t) := by
    intro t
    induction t with
    | nil => intro p e a hI; have : p.length = l.length := by rw [e]; simp
             rw [this]; exact last a hI
    | cons x t ih =>
      intro p e a hI
      refine step p.length x t a (by omega) (by rw [e]; simp; omega) (by rw [e]; simp) ?_ hI ?_
      · unfold ix; rw [if_pos (by omega), Int.toNat_natCast, e, List.getElem?_append_right (Nat.le_refl _)]; simp
      · intro a hI
        have := ih (p ++ [x]) (by rw [e]; simp) a hI
        rw [← this]; simp
  exact key l [] rfl a hI
theorem loopSuf {γ : Type} {F : α → Int → Option β} {l : List γ} (I : α → List γ → Prop) (last : ∀ a, I a [] → wp (F a l.length) Q) (step : ∀ (i : Int) (x : γ) (t : List γ) a, 0 ≤ i → i < l.length → x ∈ l → ix l i = some x → (∃ p, l = p ++ x :: t ∧ (p.length : Int) = i) → I a (x :: t) → (∀ a, I a t → wp (F a (i + 1)) Q) → wp (F a i) Q) (a : α) (hI : I a l) : wp (F a 0) Q := by
  have key : ∀ (t p : List γ), l = p ++ t → ∀ a, I a t → wp (F a p.length) Q := by
    intro t
    induction t with
    | nil => intro p e a hI; have : p.length = l.length := by rw [e]; simp
             rw [this]; exact last a hI
    | cons x t ih =>
      intro p e a hI
      refine step p.length x t a (by omega) (by rw [e]; simp; omega) (by rw [e]; simp) ?_ ⟨p, e, rfl⟩ hI ?_
      · unfold ix; rw [if_pos (by omega), Int.toNat_natCast, e, List.getElem?_append_right (Nat.le_refl _)]; simp
      · intro a hI
        have := ih (p ++ [x]) (by rw [e]; simp) a hI
        rw [show ((p ++ [x]).length : Int) = (p.length : Int) + 1 by simp] at this
        exact this
  exact key l [] rfl a hI
end
theorem wrapId {n : Int} (h : -9223372036854775808 ≤ n ∧ n ≤ 9223372036854775807) : IntKind.i64.wrap n = n := by rw [IntKind.wrap_i64]; omega
theorem wrapS {n : Int} {k : Nat} (h0 : 0 ≤ n) (h1 : n < k) (hk : k ≤ 1099511627776) : IntKind.i64.wrap (n + 1) = n + 1 := wrapId (by omega)
theorem wrapR (n : Int) : -9223372036854775808 ≤ IntKind.i64.wrap n ∧ IntKind.i64.wrap n ≤ 9223372036854775807 := by rw [IntKind.wrap_i64]; omega
theorem zz : (∀ {α β : Type} {Q : β → Prop} {x : Option α} {f : α → Option β}, wp (x >>= f) Q ↔ wp x (fun a => wp (f a) Q)) ∧ (∀ {β : Type} {Q : β → Prop} {x : β}, wp (some x) Q ↔ Q x) ∧
    (∀ {β : Type} {Q : β → Prop} {c : Prop} [Decidable c] {x y : Option β}, wp (if c then x else y) Q ↔ (c → wp x Q) ∧ (¬ c → wp y Q)) ∧ (∀ {α β : Type} {Q : β → Prop} {x : Option α} {f : α → β}, wp (Option.map f x) Q ↔ wp x (fun a => Q (f a))) ∧
    (∀ {β : Type} {Q : β → Prop}, wp (none : Option β) Q ↔ False) ∧ (∀ (a : Int), ¬ a < a) ∧ (∀ (a : Int), a ≤ a) ∧ ((false = true) = False) ∧ (∀ (α : Prop), (α → True) = True) ∧ (∀ (p : Prop), (False → p) = True) ∧ (∀ (p : Prop), (True → p) = p) ∧
    ((¬ True) = False) ∧ ((¬ False) = True) ∧ (∀ (p : Prop), (p ∧ True) = p) ∧ (∀ (p : Prop), (True ∧ p) = p) ∧ (∀ (p : Prop), (p ∧ p) = p) ∧ (∀ (a : Prop), (a → a) ↔ True) ∧ (∀ {α : Type} [BEq α] [LawfulBEq α] {a b : α}, (a == b) = true ↔ a = b) ∧
    (∀ {α : Type} [BEq α] [LawfulBEq α] {a b : α}, (a != b) = true ↔ a ≠ b) ∧ (∀ {α : Type} (a b : α), (a ≠ b) = ¬ (a = b)) ∧ (∀ {p : Prop} [Decidable p], (decide p = true) = p) ∧ (∀ {α β : Type} {azz : List α} (f : α → β), (azz.map f).length = azz.length) ∧ (∀ {α : Type} (a b : α), (if True then a else b) = a) ∧ (∀ {α : Type} (a b : α), (if False then a else b) = b) :=
  ⟨wp_bind, wp_some, wp_ite, wp_map, wp_none, Int.lt_irrefl, Int.le_refl, by simp, by simp, by simp, by simp, by simp, by simp, by simp, by simp, by simp, by simp, beq_iff_eq, bne_iff_ne, fun _ _ => rfl, by simp, fun _ => List.length_map .., fun _ _ => if_pos trivial, fun _ _ => if_neg id⟩
theorem zl : (∀ {α : Type} {azz bs : List α}, (azz ++ bs).length = azz.length + bs.length) ∧ (∀ {α : Type} {i : Nat} {l : List α}, (l.drop i).length = l.length - i) ∧ (∀ {α : Type} {i : Nat} {l : List α}, (l.take i).length = min i l.length) ∧ (∀ {α : Type}, ([] : List α).length = 0) ∧ (∀ {α : Type} {a : α}, [a].length = 1) ∧ (∀ {α β : Type} {azz : List α} (f : α → β), (azz.map f).length = azz.length) :=
  ⟨List.length_append, List.length_drop, List.length_take, List.length_nil, List.length_singleton, fun _ => List.length_map ..⟩
end HY
end
section
namespace Go.Proofs.YtpmdnjbodikfbaaGreatDoor
open Go HY Go.RowKit Go.ChangeShapes Go.WideShapes
set_option maxRecDepth 1000000
set_option linter.unusedVariables false
def ok_gType (x : gType) : Prop := True ∧ True ∧ True ∧ True ∧ True ∧ True
theorem u3 : Tryz.prog.underlying 3 = some (.int .i64) := by kernel_rfl
def ok_gBuffer (x : gBuffer) : Prop := True ∧ ok_gType x.fType ∧ (x.fDims.length * Tryz.prog.bytesOf 3 ≤ reachBytes ∧ ∀ a ∈ x.fDims, True) ∧ True ∧ True
theorem u27 : Tryz.prog.underlying 27 = some (.slice 3) := by kernel_rfl
theorem c27 : Tryz.prog.cellsOf 3 = 1 := by kernel_rfl
theorem b27 : 1 ≤ Tryz.prog.bytesOf 3 := by
  have : Nat.ble 1 (Tryz.prog.bytesOf 3) = true := by kernel_rfl
  exact Nat.le_of_ble_eq_true this
theorem u9 : Tryz.prog.underlying 9 = some .string := by kernel_rfl
def ok_gMono (x : gMono) : Prop := True ∧ True ∧ True
theorem u2 : Tryz.prog.underlying 2 = some (.int .i64) := by kernel_rfl
def ok_gLin (x : gLin) : Prop := True ∧ (x.fL.length * Tryz.prog.bytesOf 239 ≤ reachBytes ∧ ∀ a ∈ x.fL, ok_gMono a) ∧ True
theorem u62 : Tryz.prog.underlying 62 = some (.slice 239) := by kernel_rfl
theorem c62 : Tryz.prog.cellsOf 239 = 2 := by kernel_rfl
theorem b62 : 1 ≤ Tryz.prog.bytesOf 239 := by
  have : Nat.ble 1 (Tryz.prog.bytesOf 239) = true := by kernel_rfl
  exact Nat.le_of_ble_eq_true this
def ok_gIndex (x : gIndex) : Prop := ok_gLin x.fLin ∧ True ∧ (x.fAt.length * Tryz.prog.bytesOf 64 ≤ reachBytes ∧ ∀ a ∈ x.fAt, ok_gLin a) ∧ True
theorem u76 : Tryz.prog.underlying 76 = some (.slice 64) := by kernel_rfl
theorem c76 : Tryz.prog.cellsOf 64 = 2 := by kernel_rfl
theorem b76 : 1 ≤ Tryz.prog.bytesOf 64 := by
  have : Nat.ble 1 (Tryz.prog.bytesOf 64) = true := by kernel_rfl
  exact Nat.le_of_ble_eq_true this
def ok_gVal (x : gVal) : Prop := True ∧ True ∧ True
inductive ok_gExpr : gExpr → Prop
  | mk (x : gExprS) (h0 : True) (h1 : True) (h2 : ok_gVal x.fVal) (h3 : ok_gType x.fType) (h4 : ok_gLin x.fLin) (h5 : (x.fIdx.length * Tryz.prog.bytesOf 78 ≤ reachBytes ∧ ∀ a ∈ x.fIdx, ok_gIndex a)) (h6 : x.fArgs.length * Tryz.prog.bytesOf 67 ≤ reachBytes) (g6 : ∀ a ∈ x.fArgs, ok_gExpr a) : ok_gExpr (.mk x)
theorem u65 : Tryz.prog.underlying 65 = some (.slice 67) := by kernel_rfl
theorem c65 : Tryz.prog.cellsOf 67 = 13 := by kernel_rfl
theorem b65 : 1 ≤ Tryz.prog.bytesOf 67 := by
  have : Nat.ble 1 (Tryz.prog.bytesOf 67) = true := by kernel_rfl
  exact Nat.le_of_ble_eq_true this
theorem u61 : Tryz.prog.underlying 61 = some (.slice 78) := by kernel_rfl
theorem c61 : Tryz.prog.cellsOf 78 = 4 := by kernel_rfl
theorem b61 : 1 ≤ Tryz.prog.bytesOf 78 := by
  have : Nat.ble 1 (Tryz.prog.bytesOf 78) = true := by kernel_rfl
  exact Nat.le_of_ble_eq_true this
inductive ok_gStmt : gStmt → Prop
  | mk (x : gStmtS) (h0 : True) (h1 : True) (h2 : True) (h3 : True) (h4 : True) (h5 : (x.fIdx.length * Tryz.prog.bytesOf 78 ≤ reachBytes ∧ ∀ a ∈ x.fIdx, ok_gIndex a)) (h6 : ok_gExpr (.mk x.fExpr)) (h7 : x.fBody.length * Tryz.prog.bytesOf 69 ≤ reachBytes) (g7 : ∀ a ∈ x.fBody, ok_gStmt a) : ok_gStmt (.mk x)
theorem u23 : Tryz.prog.underlying 23 = some (.slice 69) := by kernel_rfl
theorem c23 : Tryz.prog.cellsOf 69 = 20 := by kernel_rfl
theorem b23 : 1 ≤ Tryz.prog.bytesOf 69 := by
  have : Nat.ble 1 (Tryz.prog.bytesOf 69) = true := by kernel_rfl
  exact Nat.le_of_ble_eq_true this
def ok_gNest (x : gNest) : Prop := (x.fBufs.length * Tryz.prog.bytesOf 51 ≤ reachBytes ∧ ∀ a ∈ x.fBufs, ok_gBuffer a) ∧ (x.fBody.length * Tryz.prog.bytesOf 69 ≤ reachBytes ∧ ∀ a ∈ x.fBody, ok_gStmt a) ∧ True
theorem u22 : Tryz.prog.underlying 22 = some (.slice 51) := by kernel_rfl
theorem c22 : Tryz.prog.cellsOf 51 = 8 := by kernel_rfl
theorem b22 : 1 ≤ Tryz.prog.bytesOf 51 := by
  have : Nat.ble 1 (Tryz.prog.bytesOf 51) = true := by kernel_rfl
  exact Nat.le_of_ble_eq_true this
def ok_gSlot (x : gSlot) : Prop := True ∧ True ∧ True ∧ True
theorem u26 : Tryz.prog.underlying 26 = some (.slice 46) := by kernel_rfl
theorem c26 : Tryz.prog.cellsOf 46 = 3 := by kernel_rfl
theorem b26 : 1 ≤ Tryz.prog.bytesOf 46 := by
  have : Nat.ble 1 (Tryz.prog.bytesOf 46) = true := by kernel_rfl
  exact Nat.le_of_ble_eq_true this
section
variable {H : Type} {enc : TypeId × Value → H} {w : World} {base : Nat} {spare : Nat → Bool} {held : Bool}
theorem rd_gType (n : Nat) : Reads enc Tryz.prog w base spare held n 37 (fun x : gType => (egType x).cells) (fun x d => Sz Tryz.prog 37 d → ok_gType x) :=
  ((rzStruct Tryz.underlying37 (by kernel_rfl) (fzCons (rzInt n u3) (fzCons (rzInt n u3) (fzCons (rzInt n u3) (fzCons (rzInt n u3) (fzCons (rzInt n u3) (fzNil n))))))).to (fun x => gType.mk x.1 x.2.1 x.2.2.1 x.2.2.2.1 x.2.2.2.2.1) (fun _ => rfl) (fun a d h hz => h hz)).le (Nat.le_succ n)
theorem rd_gBuffer (n : Nat) : Reads enc Tryz.prog w base spare held n 51 (fun x : gBuffer => (egBuffer x).cells) (fun x d => Sz Tryz.prog 51 d → ok_gBuffer x) :=
  ((rzStruct Tryz.underlying51 (by kernel_rfl) (fzCons (rzStr n u9) (fzCons (rd_gType n) (fzCons ((rzSlice eI u27 c27 (by decide) (fun _ => rfl) (rzInt n u3)).le (Nat.le_succ _)) (fzCons (rzInt n u3) (fzNil n)))))).to (fun x => gBuffer.mk x.1 x.2.1 x.2.2.1 x.2.2.2.1) (fun _ => rfl) (fun a d h hz => h hz)).le (Nat.le_succ n)
theorem rd_gMono (n : Nat) : Reads enc Tryz.prog w base spare held n 239 (fun x : gMono => (egMono x).cells) (fun x d => Sz Tryz.prog 239 d → ok_gMono x) :=
  ((rzStruct Tryz.underlying239 (by kernel_rfl) (fzCons (rzStr n u9) (fzCons (rzInt n u2) (fzNil n)))).to (fun x => gMono.mk x.1 x.2.1) (fun _ => rfl) (fun a d h hz => h hz)).le (Nat.le_succ n)
theorem rd_gLin (n : Nat) : Reads enc Tryz.prog w base spare held n 64 (fun x : gLin => (egLin x).cells) (fun x d => Sz Tryz.prog 64 d → ok_gLin x) :=
  ((rzStruct Tryz.underlying64 (by kernel_rfl) (fzCons (rzInt n u2) (fzCons ((rzSlice egMono u62 c62 (by decide) (fun _ => rfl) (rd_gMono n)).le (Nat.le_succ _)) (fzNil n)))).to (fun x => gLin.mk x.1 x.2.1) (fun _ => rfl) (fun a d h hz => h hz)).le (Nat.le_succ n)
theorem rd_gIndex (n : Nat) : Reads enc Tryz.prog w base spare held n 78 (fun x : gIndex => (egIndex x).cells) (fun x d => Sz Tryz.prog 78 d → ok_gIndex x) :=
  ((rzStruct Tryz.underlying78 (by kernel_rfl) (fzCons (rd_gLin n) (fzCons (rzStr n u9) (fzCons ((rzSlice egLin u76 c76 (by decide) (fun _ => rfl) (rd_gLin n)).le (Nat.le_succ _)) (fzNil n))))).to (fun x => gIndex.mk x.1 x.2.1 x.2.2.1) (fun _ => rfl) (fun a d h hz => h hz)).le (Nat.le_succ n)
theorem rd_gVal (n : Nat) : Reads enc Tryz.prog w base spare held n 39 (fun x : gVal => (egVal x).cells) (fun x d => Sz Tryz.prog 39 d → ok_gVal x) :=
  ((rzStruct Tryz.underlying39 (by kernel_rfl) (fzCons (rzInt n u2) (fzCons (rzInt n u2) (fzNil n)))).to (fun x => gVal.mk x.1 x.2.1) (fun _ => rfl) (fun a d h hz => h hz)).le (Nat.le_succ n)
theorem rd_gExpr : ∀ n, Reads enc Tryz.prog w base spare held n 67 (fun x : gExprS => (hgExpr x).cells) (fun x d => Sz Tryz.prog 67 d → ok_gExpr (.mk x))
  | 0 => rzZero _ _
  | n + 1 => (rzStruct Tryz.underlying67 (by kernel_rfl) (fzCons (rzInt n u3) (fzCons (rzStr n u9) (fzCons (rd_gVal n) (fzCons (rd_gType n) (fzCons (rd_gLin n) (fzCons ((rzSlice egIndex u61 c61 (by decide) (fun _ => rfl) (rd_gIndex n)).le (Nat.le_succ _)) (fzCons ((rzSlice egExpr u65 c65 (by decide) (fun _ => rfl) ((rd_gExpr n).to gExpr.mk (fun x => by rw [egExpr_mk]) (fun x d h => h))).le (Nat.le_succ _)) (fzNil n))))))))).to (fun x => (gExprF.mk x.1 x.2.1 x.2.2.1 x.2.2.2.1 x.2.2.2.2.1 x.2.2.2.2.2.1 x.2.2.2.2.2.2.1 : gExprS)) (fun _ => rfl) (fun a d h hz => by obtain ⟨p0, p1, p2, p3, p4, p5, p6, _⟩ := h hz; exact .mk _ p0 p1 p2 p3 p4 p5 p6.1 p6.2)
theorem rd_gExpre (n : Nat) : Reads enc Tryz.prog w base spare held n 67 (fun x : gExpr => (egExpr x).cells) (fun x d => Sz Tryz.prog 67 d → ok_gExpr x) := (rd_gExpr n).to gExpr.mk (fun x => by rw [egExpr_mk]) (fun x d h => h)
theorem rd_gStmt : ∀ n, Reads enc Tryz.prog w base spare held n 69 (fun x : gStmtS => (hgStmt x).cells) (fun x d => Sz Tryz.prog 69 d → ok_gStmt (.mk x))
  | 0 => rzZero _ _
  | n + 1 => (rzStruct Tryz.underlying69 (by kernel_rfl) (fzCons (rzInt n u3) (fzCons (rzStr n u9) (fzCons (rzInt n u3) (fzCons (rzInt n u3) (fzCons (rzInt n u3) (fzCons ((rzSlice egIndex u61 c61 (by decide) (fun _ => rfl) (rd_gIndex n)).le (Nat.le_succ _)) (fzCons (rd_gExpr n) (fzCons ((rzSlice egStmt u23 c23 (by decide) (fun _ => rfl) ((rd_gStmt n).to gStmt.mk (fun x => by rw [egStmt_mk]) (fun x d h => h))).le (Nat.le_succ _)) (fzNil n)))))))))).to (fun x => (gStmtF.mk x.1 x.2.1 x.2.2.1 x.2.2.2.1 x.2.2.2.2.1 x.2.2.2.2.2.1 x.2.2.2.2.2.2.1 x.2.2.2.2.2.2.2.1 : gStmtS)) (fun _ => rfl) (fun a d h hz => by obtain ⟨p0, p1, p2, p3, p4, p5, p6, p7, _⟩ := h hz; exact .mk _ p0 p1 p2 p3 p4 p5 p6 p7.1 p7.2)
theorem rd_gStmte (n : Nat) : Reads enc Tryz.prog w base spare held n 69 (fun x : gStmt => (egStmt x).cells) (fun x d => Sz Tryz.prog 69 d → ok_gStmt x) := (rd_gStmt n).to gStmt.mk (fun x => by rw [egStmt_mk]) (fun x d h => h)
theorem rd_gNest (n : Nat) : Reads enc Tryz.prog w base spare held n 25 (fun x : gNest => (egNest x).cells) (fun x d => Sz Tryz.prog 25 d → ok_gNest x) :=
  ((rzStruct Tryz.underlying25 (by kernel_rfl) (fzCons ((rzSlice egBuffer u22 c22 (by decide) (fun _ => rfl) (rd_gBuffer n)).le (Nat.le_succ _)) (fzCons ((rzSlice egStmt u23 c23 (by decide) (fun _ => rfl) (rd_gStmte n)).le (Nat.le_succ _)) (fzNil n)))).to (fun x => gNest.mk x.1 x.2.1) (fun _ => rfl) (fun a d h hz => h hz)).le (Nat.le_succ n)
theorem rd_gSlot (n : Nat) : Reads enc Tryz.prog w base spare held n 46 (fun x : gSlot => (egSlot x).cells) (fun x d => Sz Tryz.prog 46 d → ok_gSlot x) :=
  ((rzStruct Tryz.underlying46 (by kernel_rfl) (fzCons (rzStr n u9) (fzCons (rzInt n u3) (fzCons (rzInt n u3) (fzNil n))))).to (fun x => gSlot.mk x.1 x.2.1 x.2.2.1) (fun _ => rfl) (fun a d h hz => h hz)).le (Nat.le_succ n)
end
end Go.Proofs.YtpmdnjbodikfbaaGreatDoor
end
section
namespace Go.Proofs.YtpmdnjbodikfbaaGreatDoor
open Go HY
set_option linter.unusedVariables false
set_option linter.unusedSimpArgs false
section
variable {α β : Type}
theorem bS {a : α} {f : α → Option β} : (some a >>= f) = f a := rfl
theorem bN {f : α → Option β} : ((none : Option α) >>= f) = none := rfl
end
abbrev big : Nat := 140737488355328
theorem len_of {α : Type} {l : List α} {k : Nat} (hk : 1 ≤ k) (h : l.length * k ≤ reachBytes) : l.length ≤ big := by
  have h1 : l.length * 1 ≤ l.length * k := Nat.mul_le_mul_left _ hk
  have : reachBytes = 140737488351232 := rfl
  simp only [big]; omega
theorem wrapB {n : Int} {k : Nat} (h0 : 0 ≤ n) (h1 : n < k) (hk : k ≤ big) : IntKind.i64.wrap (n + 1) = n + 1 := wrapId (by simp only [big] at hk; omega)
theorem ix_ok {α : Type} {l : List α} {i : Int} (h0 : 0 ≤ i) (h1 : i < l.length) : ∃ x, ix l i = some x ∧ x ∈ l := by
  refine ⟨l[i.toNat]'(by omega), ?_, List.getElem_mem _⟩
  unfold ix
  rw [if_pos h0, List.getElem?_eq_getElem]
theorem _root_.HY.gExpr.ind {P : gExpr → Prop} (h : ∀ x : gExprS, (∀ a ∈ x.fArgs, P a) → P (.mk x)) : ∀ e, P e
  | .mk x => h x (fun a ha => HY.gExpr.ind h a)
 termination_by e => SizeOf.sizeOf e
 decreasing_by exact gExpr.lt ha
theorem _root_.HY.gStmt.ind {P : gStmt → Prop} (h : ∀ x : gStmtS, (∀ a ∈ x.fBody, P a) → P (.mk x)) : ∀ e, P e
  | .mk x => h x (fun a ha => HY.gStmt.ind h a)
 termination_by e => SizeOf.sizeOf e
 decreasing_by exact gStmt.lt ha
theorem t_Weigh_L7 (x1 : Int) (x2 : gExprS) (x6 : Int) (y : gIndex) (hy : ix x2.fIdx x6 = some y) (hl : y.fAt.length ≤ big) (x5 x7 : Int) (h0 : 0 ≤ x7) (h1 : x7 ≤ (y.fAt.length : Nat)) : wp (F_base_Weigh_L7 x1 x2 x5 x6 x7) (fun _ => True) := by
  refine loopUp1 (F := fun x5 x7 => F_base_Weigh_L7 x1 x2 x5 x6 x7) (y.fAt.length) ?_ ?_ x7 x5 h0 h1
  · intro a
    rw [F_base_Weigh_L7]
    simp only [bS, hy, Int.lt_irrefl, if_false]
    exact ⟨_, rfl, trivial⟩
  · intro i a h0 h1 ih
    rw [F_base_Weigh_L7]
    obtain ⟨z, hz, _⟩ := ix_ok h0 h1
    have hw := wrapB h0 h1 hl
    simp only [bS, hy, if_pos h1]
    by_cases h5 : a ≤ x1
    · simp only [if_pos h5, bS, if_true, hz, hw]
      exact ih _
    · simp only [if_neg h5, bS, Bool.false_eq_true, if_false]
      exact ⟨_, rfl, trivial⟩
theorem t_Weigh_L3 (x1 : Int) (x2 : gExprS) (hl : x2.fIdx.length ≤ big) (ha : ∀ y ∈ x2.fIdx, y.fAt.length ≤ big) (x5 x6 : Int) (h0 : 0 ≤ x6) (h1 : x6 ≤ (x2.fIdx.length : Nat)) : wp (F_base_Weigh_L3 x1 x2 x5 x6) (fun _ => True) := by
  refine loopUp1 (F := fun x5 x6 => F_base_Weigh_L3 x1 x2 x5 x6) (x2.fIdx.length) ?_ ?_ x6 x5 h0 h1
  · intro a
    rw [F_base_Weigh_L3]
    simp only [bS, Int.lt_irrefl, if_false, Bool.false_eq_true]
    exact ⟨_, rfl, trivial⟩
  · intro i a h0 h1 ih
    rw [F_base_Weigh_L3]
    obtain ⟨z, hz, hm⟩ := ix_ok h0 h1
    have hw := wrapB h0 h1 hl
    simp only [bS, if_pos h1]
    by_cases h5 : a ≤ x1
    · simp only [if_pos h5, bS, if_true, hz, hw]
      obtain ⟨v, hv, _⟩ := t_Weigh_L7 x1 x2 i z hz (ha z hm) (IntKind.i64.wrap (IntKind.i64.wrap (a + (↑(List.map egMono z.fLin.fL).length : Int)) + ↑z.fAt.length)) 0 (Int.le_refl _) (by omega)
      rw [hv]
      exact ih _
    · simp only [if_neg h5, bS, Bool.false_eq_true, if_false]
      exact ⟨_, rfl, trivial⟩
theorem idx_facts {l : List gIndex} (h : l.length * Tryz.prog.bytesOf 78 ≤ reachBytes ∧ ∀ a ∈ l, ok_gIndex a) : l.length ≤ big ∧ ∀ y ∈ l, y.fAt.length ≤ big := by
  refine ⟨len_of b61 h.1, fun y hy => ?_⟩
  obtain ⟨_, _, h3, _⟩ := h.2 y hy
  exact len_of b76 h3.1
theorem t_Weigh : ∀ (e : gExpr), ok_gExpr e → ∀ most, wp (F_base_Weigh e.f most) (fun _ => True) := gExpr.ind fun x ih hx most => by
  cases hx with
  | mk _ h0 h1 h2 h3 h4 h5 h6 g6 =>
  obtain ⟨hi, hi2⟩ := idx_facts h5
  have hal := len_of b65 h6
  have hL11 : ∀ (a i : Int), 0 ≤ i → i ≤ (x.fArgs.length : Nat) → wp (F_base_Weigh_L11 most x a i) (fun _ => True) := fun a i i0 i1 => by
    refine loopUp1 (F := fun x5 x8 => F_base_Weigh_L11 most x x5 x8) (x.fArgs.length) ?_ ?_ i a i0 i1
    · intro a
      rw [F_base_Weigh_L11]
      simp only [bS, Int.lt_irrefl, if_false, Bool.false_eq_true]
      exact ⟨_, rfl, trivial⟩
    · intro i a h0 h1 ih2
      rw [F_base_Weigh_L11]
      obtain ⟨z, hz, hm⟩ := ix_ok h0 h1
      have hw := wrapB h0 h1 hal
      simp only [bS, if_pos h1]
      by_cases h5 : a ≤ most
      · simp only [if_pos h5, bS, if_true, hz, hw, Option.map_some]
        obtain ⟨v, hv, _⟩ := ih z hm (g6 z hm) (IntKind.i64.wrap (most - a))
        rw [hv]
        exact ih2 _
      · simp only [if_neg h5, bS, Bool.false_eq_true, if_false]
        exact ⟨_, rfl, trivial⟩
  rw [F_base_Weigh]
  simp only [bS, gExpr.f_mk]
  obtain ⟨v, hv, _⟩ := t_Weigh_L3 most x hi hi2 (IntKind.i64.wrap (IntKind.i64.wrap (1 + ↑x.fLin.fL.length) + ↑x.fIdx.length)) 0 (Int.le_refl _) (by omega)
  rw [hv]
  simp only [bS]
  obtain ⟨v', hv', _⟩ := hL11 v 0 (Int.le_refl _) (by omega)
  rw [hv']
  exact ⟨_, rfl, trivial⟩
theorem t_WeighStmts_of (l : List gStmt) (hl : l.length ≤ big) (hx : ∀ a ∈ l, ∀ x, a = .mk x → ok_gStmt a) (ih : ∀ a ∈ l, ∀ x, a = .mk x → ∀ most, wp (F_base_WeighStmts x.fBody most) (fun _ => True)) (most : Int) : wp (F_base_WeighStmts l most) (fun _ => True) := by
  have hL : ∀ (a i : Int), 0 ≤ i → i ≤ (l.length : Nat) → wp (F_base_WeighStmts_L3 l most a i) (fun _ => True) := fun a i i0 i1 => by
    refine loopUp1 (F := fun x5 x6 => F_base_WeighStmts_L3 l most x5 x6) (l.length) ?_ ?_ i a i0 i1
    · intro a
      rw [F_base_WeighStmts_L3]
      simp only [bS, Int.lt_irrefl, if_false, Bool.false_eq_true]
      exact ⟨_, rfl, trivial⟩
    · intro i a h0 h1 ih2
      rw [F_base_WeighStmts_L3]
      obtain ⟨z, hz, hm⟩ := ix_ok h0 h1
      have hw := wrapB h0 h1 hl
      simp only [bS, if_pos h1]
      by_cases h5 : a ≤ most
      · simp only [if_pos h5, bS, if_true, hz, hw, Option.map_some]
        cases z with
        | mk x =>
        have hok := hx _ hm x rfl
        cases hok with
        | mk _ k0 k1 k2 k3 k4 k5 k6 k7 g7 =>
        obtain ⟨v, hv, _⟩ := t_Weigh _ k6 most
        simp only [gStmt.f_mk, gExpr.f_mk] at hv ⊢
        rw [hv]
        simp only [bS]
        have hE : ok_gExpr (.mk (gExprF.mk (0 : Int) [] (gVal.mk (0 : Int) (0 : Int)) (gType.mk (0 : Int) (0 : Int) (0 : Int) (0 : Int) (0 : Int)) (gLin.mk (0 : Int) []) x.fIdx [])) := by
          refine .mk _ trivial trivial ⟨trivial, trivial, trivial⟩ ⟨trivial, trivial, trivial, trivial, trivial, trivial⟩ ⟨trivial, ⟨by simp, fun a ha => by cases ha⟩, trivial⟩ k5 (by simp) (fun a ha => by cases ha)
        obtain ⟨v2, hv2, _⟩ := t_Weigh _ hE most
        simp only [gExpr.f_mk] at hv2
        rw [hv2]
        simp only [bS]
        obtain ⟨v3, hv3, _⟩ := ih _ hm x rfl (max 0 (IntKind.i64.wrap (most - a)))
        rw [hv3]
        exact ih2 _
      · simp only [if_neg h5, bS, Bool.false_eq_true, if_false]
        exact ⟨_, rfl, trivial⟩
  rw [F_base_WeighStmts]
  simp only [bS]
  obtain ⟨v, hv, _⟩ := hL (l.length : Int) 0 (Int.le_refl _) (by omega)
  rw [hv]
  exact ⟨_, rfl, trivial⟩
theorem t_WeighStmt : ∀ (a : gStmt), ok_gStmt a → ∀ x, a = .mk x → ∀ most, wp (F_base_WeighStmts x.fBody most) (fun _ => True) := gStmt.ind fun x ih hx y e most => by
  cases e
  cases hx with
  | mk _ k0 k1 k2 k3 k4 k5 k6 k7 g7 =>
  exact t_WeighStmts_of x.fBody (len_of b23 k7) (fun a ha x h => g7 a ha) (fun a ha x h => ih a ha (g7 a ha) x h) most
theorem t_WeighStmts (l : List gStmt) (hl : l.length ≤ big) (h : ∀ a ∈ l, ok_gStmt a) (most : Int) : wp (F_base_WeighStmts l most) (fun _ => True) :=
  t_WeighStmts_of l hl (fun a ha x e => h a ha) (fun a ha x e => t_WeighStmt a (h a ha) x e) most
end Go.Proofs.YtpmdnjbodikfbaaGreatDoor
end
section
namespace Go.Proofs.YtpmdnjbodikfbaaGreatDoor
open Go HY
set_option maxRecDepth 1000000
def xe0 : CallH := fun _ _ _ _ => none
theorem xe0_ok : CallH.Ok Tryz.prog gls xe0 := fun _ _ _ _ _ _ _ h => by cases h
def kws : List AV := [.str [115, 105, 122, 101],
  .str [119, 104, 101, 114, 101],
  .str [105, 110],
  .str [100, 101, 102],
  .str [111, 117, 116],
  .str [115, 117, 109],
  .str [112, 114, 111, 100],
  .str [109, 105, 110],
  .str [109, 97, 120],
  .str [115, 99, 97, 110],
  .str [111, 118, 101, 114],
  .str [105, 102],
  .str [99, 97, 115, 116],
  .str [102, 114, 97, 99],
  .str [105, 110, 116],
  .str [102, 105, 120],
  .str [99, 101, 105, 108],
  .str [102, 108, 111, 111, 114],
  .str [122, 101, 114, 111],
  .str [101, 118, 101, 110],
  .str [115, 97, 116],
  .str [119, 114, 97, 112]]
def memoKw : MemoT := [(95, [], .bs 0 0 1 0 22, pt .nil 0 (.cells 0 kws), 1)]
theorem memoKw_ok : MemoOk Tryz.prog gls memoKw := fun e he => by
  rw [memoKw, List.mem_singleton] at he
  subst he
  exact memo_norm (xcallM_ok progOk xe0_ok (T := []) (fun _ h => by cases h) 40 (fl := 100000)) (by kernel_rfl)
end Go.Proofs.YtpmdnjbodikfbaaGreatDoor
end
section
namespace Go.Proofs.YtpmdnjbodikfbaaGreatDoor
open Go HY
set_option maxRecDepth 1000000
def e0 : Nat × List AV × AV × Tr Box × Nat := (56, [.str [97]], .bool true, .nil, 1)
theorem e0_ok : CallOk0 Tryz.prog gls e0.1 e0.2.1 e0.2.2.1 e0.2.2.2.1 e0.2.2.2.2 := memo_norm (xcallM_ok progOk xe0_ok memoKw_ok 60 (fl := 100000)) (by kernel_rfl)
def memo0 : MemoT := e0 :: memoKw
theorem memo0_ok : MemoOk Tryz.prog gls memo0 := fun e he => by
  rcases List.mem_cons.1 he with rfl | he
  · exact e0_ok
  · exact memoKw_ok e he
def e1 : Nat × List AV × AV × Tr Box × Nat := (56, [.str [116]], .bool true, .nil, 1)
theorem e1_ok : CallOk0 Tryz.prog gls e1.1 e1.2.1 e1.2.2.1 e1.2.2.2.1 e1.2.2.2.2 := memo_norm (xcallM_ok progOk xe0_ok memo0_ok 60 (fl := 100000)) (by kernel_rfl)
def memo1 : MemoT := e1 :: memo0
theorem memo1_ok : MemoOk Tryz.prog gls memo1 := fun e he => by
  rcases List.mem_cons.1 he with rfl | he
  · exact e1_ok
  · exact memo0_ok e he
def e2 : Nat × List AV × AV × Tr Box × Nat := (56, [.str [117]], .bool true, .nil, 1)
theorem e2_ok : CallOk0 Tryz.prog gls e2.1 e2.2.1 e2.2.2.1 e2.2.2.2.1 e2.2.2.2.2 := memo_norm (xcallM_ok progOk xe0_ok memo1_ok 60 (fl := 100000)) (by kernel_rfl)
def memo2 : MemoT := e2 :: memo1
theorem memo2_ok : MemoOk Tryz.prog gls memo2 := fun e he => by
  rcases List.mem_cons.1 he with rfl | he
  · exact e2_ok
  · exact memo1_ok e he
def e3 : Nat × List AV × AV × Tr Box × Nat := (56, [.str [111]], .bool true, .nil, 1)
theorem e3_ok : CallOk0 Tryz.prog gls e3.1 e3.2.1 e3.2.2.1 e3.2.2.2.1 e3.2.2.2.2 := memo_norm (xcallM_ok progOk xe0_ok memo2_ok 60 (fl := 100000)) (by kernel_rfl)
def memo3 : MemoT := e3 :: memo2
theorem memo3_ok : MemoOk Tryz.prog gls memo3 := fun e he => by
  rcases List.mem_cons.1 he with rfl | he
  · exact e3_ok
  · exact memo2_ok e he
def e4 : Nat × List AV × AV × Tr Box × Nat := (32, [.agg [.sl 8 [.agg [.str [97], .int .i64 3, .int .i64 0, .int .i64 0, .int .i64 0, .int .i64 0, .sl 1 [.agg [.int .i64 1]], .int .i64 1], .agg [.str [116], .int .i64 3, .int .i64 0, .int .i64 0, .int .i64 0, .int .i64 0, .sl 1 [.agg [.int .i64 1]], .int .i64 3], .agg [.str [117], .int .i64 3, .int .i64 0, .int .i64 0, .int .i64 0, .int .i64 0, .sl 1 [.agg [.int .i64 1]], .int .i64 3], .agg [.str [111], .int .i64 3, .int .i64 0, .int .i64 0, .int .i64 0, .int .i64 0, .sl 1 [.agg [.int .i64 1]], .int .i64 2]], .sl 20 [.agg [.int .i64 2, .str [116], .int .i64 0, .int .i64 0, .int .i64 0, .sl 4 [.agg [.int .i64 0, .nil, .str [], .nil]], .int .i64 3, .str [97], .int .i64 0, .int .i64 0, .int .i64 0, .int .i64 0, .int .i64 0, .int .i64 0, .int .i64 0, .int .i64 0, .nil, .sl 4 [.agg [.int .i64 0, .nil, .str [], .nil]], .nil, .nil], .agg [.int .i64 2, .str [117], .int .i64 0, .int .i64 0, .int .i64 0, .sl 4 [.agg [.int .i64 0, .nil, .str [], .nil]], .int .i64 3, .str [116], .int .i64 0, .int .i64 0, .int .i64 0, .int .i64 0, .int .i64 0, .int .i64 0, .int .i64 0, .int .i64 0, .nil, .sl 4 [.agg [.int .i64 0, .nil, .str [], .nil]], .nil, .nil], .agg [.int .i64 2, .str [111], .int .i64 0, .int .i64 0, .int .i64 0, .sl 4 [.agg [.int .i64 0, .nil, .str [], .nil]], .int .i64 3, .str [117], .int .i64 0, .int .i64 0, .int .i64 0, .int .i64 0, .int .i64 0, .int .i64 0, .int .i64 0, .int .i64 0, .nil, .sl 4 [.agg [.int .i64 0, .nil, .str [], .nil]], .nil, .nil]]]], .tup [.nil, .int .i64 0], .nil, 1)
theorem e4_ok : CallOk0 Tryz.prog gls e4.1 e4.2.1 e4.2.2.1 e4.2.2.2.1 e4.2.2.2.2 := memo_norm (xcallM_ok progOk xe0_ok memo3_ok 60 (fl := 100000)) (by kernel_rfl)
def memo4 : MemoT := e4 :: memo3
theorem memo4_ok : MemoOk Tryz.prog gls memo4 := fun e he => by
  rcases List.mem_cons.1 he with rfl | he
  · exact e4_ok
  · exact memo3_ok e he
end Go.Proofs.YtpmdnjbodikfbaaGreatDoor
end
section
namespace Go.Proofs.YtpmdnjbodikfbaaGreatDoor
open Go HY
set_option maxRecDepth 1000000
def e5 : Nat × List AV × AV × Tr Box × Nat := (24, [.agg [.sl 8 [.agg [.str [97], .int .i64 3, .int .i64 0, .int .i64 0, .int .i64 0, .int .i64 0, .sl 1 [.agg [.int .i64 1]], .int .i64 1], .agg [.str [116], .int .i64 3, .int .i64 0, .int .i64 0, .int .i64 0, .int .i64 0, .sl 1 [.agg [.int .i64 1]], .int .i64 3], .agg [.str [117], .int .i64 3, .int .i64 0, .int .i64 0, .int .i64 0, .int .i64 0, .sl 1 [.agg [.int .i64 1]], .int .i64 3], .agg [.str [111], .int .i64 3, .int .i64 0, .int .i64 0, .int .i64 0, .int .i64 0, .sl 1 [.agg [.int .i64 1]], .int .i64 2]], .sl 20 [.agg [.int .i64 2, .str [116], .int .i64 0, .int .i64 0, .int .i64 0, .sl 4 [.agg [.int .i64 0, .nil, .str [], .nil]], .int .i64 3, .str [97], .int .i64 0, .int .i64 0, .int .i64 0, .int .i64 0, .int .i64 0, .int .i64 0, .int .i64 0, .int .i64 0, .nil, .sl 4 [.agg [.int .i64 0, .nil, .str [], .nil]], .nil, .nil], .agg [.int .i64 2, .str [117], .int .i64 0, .int .i64 0, .int .i64 0, .sl 4 [.agg [.int .i64 0, .nil, .str [], .nil]], .int .i64 3, .str [116], .int .i64 0, .int .i64 0, .int .i64 0, .int .i64 0, .int .i64 0, .int .i64 0, .int .i64 0, .int .i64 0, .nil, .sl 4 [.agg [.int .i64 0, .nil, .str [], .nil]], .nil, .nil], .agg [.int .i64 2, .str [111], .int .i64 0, .int .i64 0, .int .i64 0, .sl 4 [.agg [.int .i64 0, .nil, .str [], .nil]], .int .i64 3, .str [117], .int .i64 0, .int .i64 0, .int .i64 0, .int .i64 0, .int .i64 0, .int .i64 0, .int .i64 0, .int .i64 0, .nil, .sl 4 [.agg [.int .i64 0, .nil, .str [], .nil]], .nil, .nil]]], .sl 8 [.agg [.str [97], .int .i64 3, .int .i64 0, .int .i64 0, .int .i64 0, .int .i64 0, .sl 1 [.agg [.int .i64 1]], .sl 2 [.agg [.int .i64 7, .int .i64 1]]]]], .tup [.sl 8 [.agg [.str [97], .int .i64 3, .int .i64 0, .int .i64 0, .int .i64 0, .int .i64 0, .sl 1 [.agg [.int .i64 1]], .sl 2 [.agg [.int .i64 7, .int .i64 1]]], .agg [.str [116], .int .i64 3, .int .i64 0, .int .i64 0, .int .i64 0, .int .i64 0, .sl 1 [.agg [.int .i64 1]], .sl 2 [.agg [.int .i64 0, .int .i64 1]]], .agg [.str [117], .int .i64 3, .int .i64 0, .int .i64 0, .int .i64 0, .int .i64 0, .sl 1 [.agg [.int .i64 1]], .sl 2 [.agg [.int .i64 0, .int .i64 1]]], .agg [.str [111], .int .i64 3, .int .i64 0, .int .i64 0, .int .i64 0, .int .i64 0, .sl 1 [.agg [.int .i64 1]], .sl 2 [.agg [.int .i64 0, .int .i64 1]]]], .int .i64 0], .nil, 1)
theorem e5_ok : CallOk0 Tryz.prog gls e5.1 e5.2.1 e5.2.2.1 e5.2.2.2.1 e5.2.2.2.2 := memo_norm (xcallM_ok progOk xe0_ok memo4_ok 60 (fl := 100000)) (by kernel_rfl)
def memo5 : MemoT := e5 :: memo4
theorem memo5_ok : MemoOk Tryz.prog gls memo5 := fun e he => by
  rcases List.mem_cons.1 he with rfl | he
  · exact e5_ok
  · exact memo4_ok e he
def e6 : Nat × List AV × AV × Tr Box × Nat := (25, [.agg [.sl 8 [.agg [.str [97], .int .i64 3, .int .i64 0, .int .i64 0, .int .i64 0, .int .i64 0, .sl 1 [.agg [.int .i64 1]], .int .i64 1], .agg [.str [116], .int .i64 3, .int .i64 0, .int .i64 0, .int .i64 0, .int .i64 0, .sl 1 [.agg [.int .i64 1]], .int .i64 3], .agg [.str [117], .int .i64 3, .int .i64 0, .int .i64 0, .int .i64 0, .int .i64 0, .sl 1 [.agg [.int .i64 1]], .int .i64 3], .agg [.str [111], .int .i64 3, .int .i64 0, .int .i64 0, .int .i64 0, .int .i64 0, .sl 1 [.agg [.int .i64 1]], .int .i64 2]], .sl 20 [.agg [.int .i64 2, .str [116], .int .i64 0, .int .i64 0, .int .i64 0, .sl 4 [.agg [.int .i64 0, .nil, .str [], .nil]], .int .i64 3, .str [97], .int .i64 0, .int .i64 0, .int .i64 0, .int .i64 0, .int .i64 0, .int .i64 0, .int .i64 0, .int .i64 0, .nil, .sl 4 [.agg [.int .i64 0, .nil, .str [], .nil]], .nil, .nil], .agg [.int .i64 2, .str [117], .int .i64 0, .int .i64 0, .int .i64 0, .sl 4 [.agg [.int .i64 0, .nil, .str [], .nil]], .int .i64 3, .str [116], .int .i64 0, .int .i64 0, .int .i64 0, .int .i64 0, .int .i64 0, .int .i64 0, .int .i64 0, .int .i64 0, .nil, .sl 4 [.agg [.int .i64 0, .nil, .str [], .nil]], .nil, .nil], .agg [.int .i64 2, .str [111], .int .i64 0, .int .i64 0, .int .i64 0, .sl 4 [.agg [.int .i64 0, .nil, .str [], .nil]], .int .i64 3, .str [117], .int .i64 0, .int .i64 0, .int .i64 0, .int .i64 0, .int .i64 0, .int .i64 0, .int .i64 0, .int .i64 0, .nil, .sl 4 [.agg [.int .i64 0, .nil, .str [], .nil]], .nil, .nil]]]], .tup [.sl 4 [.agg [.str [97], .int .i64 0, .int .i64 0, .int .i64 1], .agg [.str [116], .int .i64 0, .int .i64 1, .int .i64 1], .agg [.str [117], .int .i64 1, .int .i64 2, .int .i64 1], .agg [.str [111], .int .i64 2, .int .i64 2, .int .i64 1]], .int .i64 0], .nil, 1)
theorem e6_ok : CallOk0 Tryz.prog gls e6.1 e6.2.1 e6.2.2.1 e6.2.2.2.1 e6.2.2.2.2 := memo_norm (xcallM_ok progOk xe0_ok memo5_ok 60 (fl := 100000)) (by kernel_rfl)
def memo6 : MemoT := e6 :: memo5
theorem memo6_ok : MemoOk Tryz.prog gls memo6 := fun e he => by
  rcases List.mem_cons.1 he with rfl | he
  · exact e6_ok
  · exact memo5_ok e he
def e7 : Nat × List AV × AV × Tr Box × Nat := (26, [.sl 4 [.agg [.str [97], .int .i64 0, .int .i64 0, .int .i64 1], .agg [.str [116], .int .i64 0, .int .i64 1, .int .i64 1], .agg [.str [117], .int .i64 1, .int .i64 2, .int .i64 1], .agg [.str [111], .int .i64 2, .int .i64 2, .int .i64 1]], .sl 3 [.agg [.str [97], .int .i64 0, .int .i64 1], .agg [.str [116], .int .i64 1, .int .i64 1], .agg [.str [117], .int .i64 2, .int .i64 1], .agg [.str [111], .int .i64 1, .int .i64 1]], .int .i64 3], .tup [.int .i64 0, .int .i64 0], .nil, 1)
theorem e7_ok : CallOk0 Tryz.prog gls e7.1 e7.2.1 e7.2.2.1 e7.2.2.2.1 e7.2.2.2.2 := memo_norm (xcallM_ok progOk xe0_ok memo6_ok 60 (fl := 100000)) (by kernel_rfl)
def memo7 : MemoT := e7 :: memo6
theorem memo7_ok : MemoOk Tryz.prog gls memo7 := fun e he => by
  rcases List.mem_cons.1 he with rfl | he
  · exact e7_ok
  · exact memo6_ok e he
def e8 : Nat × List AV × AV × Tr Box × Nat := (32, [.agg [.sl 8 [.agg [.str [97], .int .i64 3, .int .i64 0, .int .i64 0, .int .i64 0, .int .i64 0, .sl 1 [.agg [.int .i64 1]], .int .i64 1], .agg [.str [116], .int .i64 3, .int .i64 0, .int .i64 0, .int .i64 0, .int .i64 0, .sl 1 [.agg [.int .i64 1]], .int .i64 3], .agg [.str [117], .int .i64 3, .int .i64 0, .int .i64 0, .int .i64 0, .int .i64 0, .sl 1 [.agg [.int .i64 1]], .int .i64 3], .agg [.str [111], .int .i64 3, .int .i64 0, .int .i64 0, .int .i64 0, .int .i64 0, .sl 1 [.agg [.int .i64 1]], .int .i64 2]], .sl 20 [.agg [.int .i64 2, .str [116], .int .i64 0, .int .i64 0, .int .i64 0, .sl 4 [.agg [.int .i64 0, .nil, .str [], .nil]], .int .i64 3, .str [97], .int .i64 0, .int .i64 0, .int .i64 0, .int .i64 0, .int .i64 0, .int .i64 0, .int .i64 0, .int .i64 0, .nil, .sl 4 [.agg [.int .i64 0, .nil, .str [], .nil]], .nil, .nil]]]], .tup [.nil, .int .i64 0], .nil, 1)
theorem e8_ok : CallOk0 Tryz.prog gls e8.1 e8.2.1 e8.2.2.1 e8.2.2.2.1 e8.2.2.2.2 := memo_norm (xcallM_ok progOk xe0_ok memo7_ok 60 (fl := 100000)) (by kernel_rfl)
def memo8 : MemoT := e8 :: memo7
theorem memo8_ok : MemoOk Tryz.prog gls memo8 := fun e he => by
  rcases List.mem_cons.1 he with rfl | he
  · exact e8_ok
  · exact memo7_ok e he
def e9 : Nat × List AV × AV × Tr Box × Nat := (28, [.agg [.sl 8 [.agg [.str [97], .int .i64 3, .int .i64 0, .int .i64 0, .int .i64 0, .int .i64 0, .sl 1 [.agg [.int .i64 1]], .int .i64 1], .agg [.str [116], .int .i64 3, .int .i64 0, .int .i64 0, .int .i64 0, .int .i64 0, .sl 1 [.agg [.int .i64 1]], .int .i64 3], .agg [.str [117], .int .i64 3, .int .i64 0, .int .i64 0, .int .i64 0, .int .i64 0, .sl 1 [.agg [.int .i64 1]], .int .i64 3], .agg [.str [111], .int .i64 3, .int .i64 0, .int .i64 0, .int .i64 0, .int .i64 0, .sl 1 [.agg [.int .i64 1]], .int .i64 2]], .sl 20 [.agg [.int .i64 2, .str [116], .int .i64 0, .int .i64 0, .int .i64 0, .sl 4 [.agg [.int .i64 0, .nil, .str [], .nil]], .int .i64 3, .str [97], .int .i64 0, .int .i64 0, .int .i64 0, .int .i64 0, .int .i64 0, .int .i64 0, .int .i64 0, .int .i64 0, .nil, .sl 4 [.agg [.int .i64 0, .nil, .str [], .nil]], .nil, .nil], .agg [.int .i64 2, .str [117], .int .i64 0, .int .i64 0, .int .i64 0, .sl 4 [.agg [.int .i64 0, .nil, .str [], .nil]], .int .i64 3, .str [116], .int .i64 0, .int .i64 0, .int .i64 0, .int .i64 0, .int .i64 0, .int .i64 0, .int .i64 0, .int .i64 0, .nil, .sl 4 [.agg [.int .i64 0, .nil, .str [], .nil]], .nil, .nil], .agg [.int .i64 2, .str [111], .int .i64 0, .int .i64 0, .int .i64 0, .sl 4 [.agg [.int .i64 0, .nil, .str [], .nil]], .int .i64 3, .str [117], .int .i64 0, .int .i64 0, .int .i64 0, .int .i64 0, .int .i64 0, .int .i64 0, .int .i64 0, .int .i64 0, .nil, .sl 4 [.agg [.int .i64 0, .nil, .str [], .nil]], .nil, .nil]]], .sl 20 [.agg [.int .i64 2, .str [116], .int .i64 0, .int .i64 0, .int .i64 0, .sl 4 [.agg [.int .i64 0, .nil, .str [], .nil]], .int .i64 3, .str [97], .int .i64 0, .int .i64 0, .int .i64 0, .int .i64 0, .int .i64 0, .int .i64 0, .int .i64 0, .int .i64 0, .nil, .sl 4 [.agg [.int .i64 0, .nil, .str [], .nil]], .nil, .nil]], .sl 8 [.agg [.str [97], .int .i64 3, .int .i64 0, .int .i64 0, .int .i64 0, .int .i64 0, .sl 1 [.agg [.int .i64 1]], .sl 2 [.agg [.int .i64 7, .int .i64 1]]], .agg [.str [116], .int .i64 3, .int .i64 0, .int .i64 0, .int .i64 0, .int .i64 0, .sl 1 [.agg [.int .i64 1]], .sl 2 [.agg [.int .i64 0, .int .i64 1]]], .agg [.str [117], .int .i64 3, .int .i64 0, .int .i64 0, .int .i64 0, .int .i64 0, .sl 1 [.agg [.int .i64 1]], .sl 2 [.agg [.int .i64 0, .int .i64 1]]], .agg [.str [111], .int .i64 3, .int .i64 0, .int .i64 0, .int .i64 0, .int .i64 0, .sl 1 [.agg [.int .i64 1]], .sl 2 [.agg [.int .i64 0, .int .i64 1]]]], .nil, .int .i64 10], .tup [.sl 8 [.agg [.str [97], .int .i64 3, .int .i64 0, .int .i64 0, .int .i64 0, .int .i64 0, .sl 1 [.agg [.int .i64 1]], .sl 2 [.agg [.int .i64 7, .int .i64 1]]], .agg [.str [116], .int .i64 3, .int .i64 0, .int .i64 0, .int .i64 0, .int .i64 0, .sl 1 [.agg [.int .i64 1]], .sl 2 [.agg [.int .i64 7, .int .i64 1]]], .agg [.str [117], .int .i64 3, .int .i64 0, .int .i64 0, .int .i64 0, .int .i64 0, .sl 1 [.agg [.int .i64 1]], .sl 2 [.agg [.int .i64 0, .int .i64 1]]], .agg [.str [111], .int .i64 3, .int .i64 0, .int .i64 0, .int .i64 0, .int .i64 0, .sl 1 [.agg [.int .i64 1]], .sl 2 [.agg [.int .i64 0, .int .i64 1]]]], .int .i64 1, .int .i64 0], .nil, 1)
theorem e9_ok : CallOk0 Tryz.prog gls e9.1 e9.2.1 e9.2.2.1 e9.2.2.2.1 e9.2.2.2.2 := memo_norm (xcallM_ok progOk xe0_ok memo8_ok 60 (fl := 100000)) (by kernel_rfl)
def memo9 : MemoT := e9 :: memo8
theorem memo9_ok : MemoOk Tryz.prog gls memo9 := fun e he => by
  rcases List.mem_cons.1 he with rfl | he
  · exact e9_ok
  · exact memo8_ok e he
end Go.Proofs.YtpmdnjbodikfbaaGreatDoor
end
section
namespace Go.Proofs.YtpmdnjbodikfbaaGreatDoor
open Go HY
set_option maxRecDepth 1000000
def e10 : Nat × List AV × AV × Tr Box × Nat := (32, [.agg [.sl 8 [.agg [.str [97], .int .i64 3, .int .i64 0, .int .i64 0, .int .i64 0, .int .i64 0, .sl 1 [.agg [.int .i64 1]], .int .i64 1], .agg [.str [116], .int .i64 3, .int .i64 0, .int .i64 0, .int .i64 0, .int .i64 0, .sl 1 [.agg [.int .i64 1]], .int .i64 3], .agg [.str [117], .int .i64 3, .int .i64 0, .int .i64 0, .int .i64 0, .int .i64 0, .sl 1 [.agg [.int .i64 1]], .int .i64 3], .agg [.str [111], .int .i64 3, .int .i64 0, .int .i64 0, .int .i64 0, .int .i64 0, .sl 1 [.agg [.int .i64 1]], .int .i64 2]], .sl 20 [.agg [.int .i64 2, .str [117], .int .i64 0, .int .i64 0, .int .i64 0, .sl 4 [.agg [.int .i64 0, .nil, .str [], .nil]], .int .i64 3, .str [116], .int .i64 0, .int .i64 0, .int .i64 0, .int .i64 0, .int .i64 0, .int .i64 0, .int .i64 0, .int .i64 0, .nil, .sl 4 [.agg [.int .i64 0, .nil, .str [], .nil]], .nil, .nil]]]], .tup [.nil, .int .i64 0], .nil, 1)
theorem e10_ok : CallOk0 Tryz.prog gls e10.1 e10.2.1 e10.2.2.1 e10.2.2.2.1 e10.2.2.2.2 := memo_norm (xcallM_ok progOk xe0_ok memo9_ok 60 (fl := 100000)) (by kernel_rfl)
def memo10 : MemoT := e10 :: memo9
theorem memo10_ok : MemoOk Tryz.prog gls memo10 := fun e he => by
  rcases List.mem_cons.1 he with rfl | he
  · exact e10_ok
  · exact memo9_ok e he
def e11 : Nat × List AV × AV × Tr Box × Nat := (28, [.agg [.sl 8 [.agg [.str [97], .int .i64 3, .int .i64 0, .int .i64 0, .int .i64 0, .int .i64 0, .sl 1 [.agg [.int .i64 1]], .int .i64 1], .agg [.str [116], .int .i64 3, .int .i64 0, .int .i64 0, .int .i64 0, .int .i64 0, .sl 1 [.agg [.int .i64 1]], .int .i64 3], .agg [.str [117], .int .i64 3, .int .i64 0, .int .i64 0, .int .i64 0, .int .i64 0, .sl 1 [.agg [.int .i64 1]], .int .i64 3], .agg [.str [111], .int .i64 3, .int .i64 0, .int .i64 0, .int .i64 0, .int .i64 0, .sl 1 [.agg [.int .i64 1]], .int .i64 2]], .sl 20 [.agg [.int .i64 2, .str [116], .int .i64 0, .int .i64 0, .int .i64 0, .sl 4 [.agg [.int .i64 0, .nil, .str [], .nil]], .int .i64 3, .str [97], .int .i64 0, .int .i64 0, .int .i64 0, .int .i64 0, .int .i64 0, .int .i64 0, .int .i64 0, .int .i64 0, .nil, .sl 4 [.agg [.int .i64 0, .nil, .str [], .nil]], .nil, .nil], .agg [.int .i64 2, .str [117], .int .i64 0, .int .i64 0, .int .i64 0, .sl 4 [.agg [.int .i64 0, .nil, .str [], .nil]], .int .i64 3, .str [116], .int .i64 0, .int .i64 0, .int .i64 0, .int .i64 0, .int .i64 0, .int .i64 0, .int .i64 0, .int .i64 0, .nil, .sl 4 [.agg [.int .i64 0, .nil, .str [], .nil]], .nil, .nil], .agg [.int .i64 2, .str [111], .int .i64 0, .int .i64 0, .int .i64 0, .sl 4 [.agg [.int .i64 0, .nil, .str [], .nil]], .int .i64 3, .str [117], .int .i64 0, .int .i64 0, .int .i64 0, .int .i64 0, .int .i64 0, .int .i64 0, .int .i64 0, .int .i64 0, .nil, .sl 4 [.agg [.int .i64 0, .nil, .str [], .nil]], .nil, .nil]]], .sl 20 [.agg [.int .i64 2, .str [117], .int .i64 0, .int .i64 0, .int .i64 0, .sl 4 [.agg [.int .i64 0, .nil, .str [], .nil]], .int .i64 3, .str [116], .int .i64 0, .int .i64 0, .int .i64 0, .int .i64 0, .int .i64 0, .int .i64 0, .int .i64 0, .int .i64 0, .nil, .sl 4 [.agg [.int .i64 0, .nil, .str [], .nil]], .nil, .nil]], .sl 8 [.agg [.str [97], .int .i64 3, .int .i64 0, .int .i64 0, .int .i64 0, .int .i64 0, .sl 1 [.agg [.int .i64 1]], .sl 2 [.agg [.int .i64 0, .int .i64 1]]], .agg [.str [116], .int .i64 3, .int .i64 0, .int .i64 0, .int .i64 0, .int .i64 0, .sl 1 [.agg [.int .i64 1]], .sl 2 [.agg [.int .i64 7, .int .i64 1]]], .agg [.str [117], .int .i64 3, .int .i64 0, .int .i64 0, .int .i64 0, .int .i64 0, .sl 1 [.agg [.int .i64 1]], .sl 2 [.agg [.int .i64 0, .int .i64 1]]], .agg [.str [111], .int .i64 3, .int .i64 0, .int .i64 0, .int .i64 0, .int .i64 0, .sl 1 [.agg [.int .i64 1]], .sl 2 [.agg [.int .i64 0, .int .i64 1]]]], .nil, .int .i64 9], .tup [.sl 8 [.agg [.str [97], .int .i64 3, .int .i64 0, .int .i64 0, .int .i64 0, .int .i64 0, .sl 1 [.agg [.int .i64 1]], .sl 2 [.agg [.int .i64 0, .int .i64 1]]], .agg [.str [116], .int .i64 3, .int .i64 0, .int .i64 0, .int .i64 0, .int .i64 0, .sl 1 [.agg [.int .i64 1]], .sl 2 [.agg [.int .i64 7, .int .i64 1]]], .agg [.str [117], .int .i64 3, .int .i64 0, .int .i64 0, .int .i64 0, .int .i64 0, .sl 1 [.agg [.int .i64 1]], .sl 2 [.agg [.int .i64 7, .int .i64 1]]], .agg [.str [111], .int .i64 3, .int .i64 0, .int .i64 0, .int .i64 0, .int .i64 0, .sl 1 [.agg [.int .i64 1]], .sl 2 [.agg [.int .i64 0, .int .i64 1]]]], .int .i64 1, .int .i64 0], .nil, 1)
theorem e11_ok : CallOk0 Tryz.prog gls e11.1 e11.2.1 e11.2.2.1 e11.2.2.2.1 e11.2.2.2.2 := memo_norm (xcallM_ok progOk xe0_ok memo10_ok 60 (fl := 100000)) (by kernel_rfl)
def memo11 : MemoT := e11 :: memo10
theorem memo11_ok : MemoOk Tryz.prog gls memo11 := fun e he => by
  rcases List.mem_cons.1 he with rfl | he
  · exact e11_ok
  · exact memo10_ok e he
def e12 : Nat × List AV × AV × Tr Box × Nat := (32, [.agg [.sl 8 [.agg [.str [97], .int .i64 3, .int .i64 0, .int .i64 0, .int .i64 0, .int .i64 0, .sl 1 [.agg [.int .i64 1]], .int .i64 1], .agg [.str [116], .int .i64 3, .int .i64 0, .int .i64 0, .int .i64 0, .int .i64 0, .sl 1 [.agg [.int .i64 1]], .int .i64 3], .agg [.str [117], .int .i64 3, .int .i64 0, .int .i64 0, .int .i64 0, .int .i64 0, .sl 1 [.agg [.int .i64 1]], .int .i64 3], .agg [.str [111], .int .i64 3, .int .i64 0, .int .i64 0, .int .i64 0, .int .i64 0, .sl 1 [.agg [.int .i64 1]], .int .i64 2]], .sl 20 [.agg [.int .i64 2, .str [111], .int .i64 0, .int .i64 0, .int .i64 0, .sl 4 [.agg [.int .i64 0, .nil, .str [], .nil]], .int .i64 3, .str [117], .int .i64 0, .int .i64 0, .int .i64 0, .int .i64 0, .int .i64 0, .int .i64 0, .int .i64 0, .int .i64 0, .nil, .sl 4 [.agg [.int .i64 0, .nil, .str [], .nil]], .nil, .nil]]]], .tup [.nil, .int .i64 0], .nil, 1)
theorem e12_ok : CallOk0 Tryz.prog gls e12.1 e12.2.1 e12.2.2.1 e12.2.2.2.1 e12.2.2.2.2 := memo_norm (xcallM_ok progOk xe0_ok memo11_ok 60 (fl := 100000)) (by kernel_rfl)
def memo12 : MemoT := e12 :: memo11
theorem memo12_ok : MemoOk Tryz.prog gls memo12 := fun e he => by
  rcases List.mem_cons.1 he with rfl | he
  · exact e12_ok
  · exact memo11_ok e he
def e13 : Nat × List AV × AV × Tr Box × Nat := (28, [.agg [.sl 8 [.agg [.str [97], .int .i64 3, .int .i64 0, .int .i64 0, .int .i64 0, .int .i64 0, .sl 1 [.agg [.int .i64 1]], .int .i64 1], .agg [.str [116], .int .i64 3, .int .i64 0, .int .i64 0, .int .i64 0, .int .i64 0, .sl 1 [.agg [.int .i64 1]], .int .i64 3], .agg [.str [117], .int .i64 3, .int .i64 0, .int .i64 0, .int .i64 0, .int .i64 0, .sl 1 [.agg [.int .i64 1]], .int .i64 3], .agg [.str [111], .int .i64 3, .int .i64 0, .int .i64 0, .int .i64 0, .int .i64 0, .sl 1 [.agg [.int .i64 1]], .int .i64 2]], .sl 20 [.agg [.int .i64 2, .str [116], .int .i64 0, .int .i64 0, .int .i64 0, .sl 4 [.agg [.int .i64 0, .nil, .str [], .nil]], .int .i64 3, .str [97], .int .i64 0, .int .i64 0, .int .i64 0, .int .i64 0, .int .i64 0, .int .i64 0, .int .i64 0, .int .i64 0, .nil, .sl 4 [.agg [.int .i64 0, .nil, .str [], .nil]], .nil, .nil], .agg [.int .i64 2, .str [117], .int .i64 0, .int .i64 0, .int .i64 0, .sl 4 [.agg [.int .i64 0, .nil, .str [], .nil]], .int .i64 3, .str [116], .int .i64 0, .int .i64 0, .int .i64 0, .int .i64 0, .int .i64 0, .int .i64 0, .int .i64 0, .int .i64 0, .nil, .sl 4 [.agg [.int .i64 0, .nil, .str [], .nil]], .nil, .nil], .agg [.int .i64 2, .str [111], .int .i64 0, .int .i64 0, .int .i64 0, .sl 4 [.agg [.int .i64 0, .nil, .str [], .nil]], .int .i64 3, .str [117], .int .i64 0, .int .i64 0, .int .i64 0, .int .i64 0, .int .i64 0, .int .i64 0, .int .i64 0, .int .i64 0, .nil, .sl 4 [.agg [.int .i64 0, .nil, .str [], .nil]], .nil, .nil]]], .sl 20 [.agg [.int .i64 2, .str [111], .int .i64 0, .int .i64 0, .int .i64 0, .sl 4 [.agg [.int .i64 0, .nil, .str [], .nil]], .int .i64 3, .str [117], .int .i64 0, .int .i64 0, .int .i64 0, .int .i64 0, .int .i64 0, .int .i64 0, .int .i64 0, .int .i64 0, .nil, .sl 4 [.agg [.int .i64 0, .nil, .str [], .nil]], .nil, .nil]], .sl 8 [.agg [.str [97], .int .i64 3, .int .i64 0, .int .i64 0, .int .i64 0, .int .i64 0, .sl 1 [.agg [.int .i64 1]], .sl 2 [.agg [.int .i64 0, .int .i64 1]]], .agg [.str [116], .int .i64 3, .int .i64 0, .int .i64 0, .int .i64 0, .int .i64 0, .sl 1 [.agg [.int .i64 1]], .sl 2 [.agg [.int .i64 0, .int .i64 1]]], .agg [.str [117], .int .i64 3, .int .i64 0, .int .i64 0, .int .i64 0, .int .i64 0, .sl 1 [.agg [.int .i64 1]], .sl 2 [.agg [.int .i64 7, .int .i64 1]]], .agg [.str [111], .int .i64 3, .int .i64 0, .int .i64 0, .int .i64 0, .int .i64 0, .sl 1 [.agg [.int .i64 1]], .sl 2 [.agg [.int .i64 0, .int .i64 1]]]], .nil, .int .i64 8], .tup [.sl 8 [.agg [.str [97], .int .i64 3, .int .i64 0, .int .i64 0, .int .i64 0, .int .i64 0, .sl 1 [.agg [.int .i64 1]], .sl 2 [.agg [.int .i64 0, .int .i64 1]]], .agg [.str [116], .int .i64 3, .int .i64 0, .int .i64 0, .int .i64 0, .int .i64 0, .sl 1 [.agg [.int .i64 1]], .sl 2 [.agg [.int .i64 0, .int .i64 1]]], .agg [.str [117], .int .i64 3, .int .i64 0, .int .i64 0, .int .i64 0, .int .i64 0, .sl 1 [.agg [.int .i64 1]], .sl 2 [.agg [.int .i64 7, .int .i64 1]]], .agg [.str [111], .int .i64 3, .int .i64 0, .int .i64 0, .int .i64 0, .int .i64 0, .sl 1 [.agg [.int .i64 1]], .sl 2 [.agg [.int .i64 7, .int .i64 1]]]], .int .i64 1, .int .i64 0], .nil, 1)
theorem e13_ok : CallOk0 Tryz.prog gls e13.1 e13.2.1 e13.2.2.1 e13.2.2.2.1 e13.2.2.2.2 := memo_norm (xcallM_ok progOk xe0_ok memo12_ok 60 (fl := 100000)) (by kernel_rfl)
def memo13 : MemoT := e13 :: memo12
theorem memo13_ok : MemoOk Tryz.prog gls memo13 := fun e he => by
  rcases List.mem_cons.1 he with rfl | he
  · exact e13_ok
  · exact memo12_ok e he
def e14 : Nat × List AV × AV × Tr Box × Nat := (9, [.agg [.sl 8 [.agg [.str [97], .int .i64 3, .int .i64 0, .int .i64 0, .int .i64 0, .int .i64 0, .sl 1 [.agg [.int .i64 1]], .int .i64 1], .agg [.str [116], .int .i64 3, .int .i64 0, .int .i64 0, .int .i64 0, .int .i64 0, .sl 1 [.agg [.int .i64 1]], .int .i64 3], .agg [.str [117], .int .i64 3, .int .i64 0, .int .i64 0, .int .i64 0, .int .i64 0, .sl 1 [.agg [.int .i64 1]], .int .i64 3], .agg [.str [111], .int .i64 3, .int .i64 0, .int .i64 0, .int .i64 0, .int .i64 0, .sl 1 [.agg [.int .i64 1]], .int .i64 2]], .sl 20 [.agg [.int .i64 2, .str [116], .int .i64 0, .int .i64 0, .int .i64 0, .sl 4 [.agg [.int .i64 0, .nil, .str [], .nil]], .int .i64 3, .str [97], .int .i64 0, .int .i64 0, .int .i64 0, .int .i64 0, .int .i64 0, .int .i64 0, .int .i64 0, .int .i64 0, .nil, .sl 4 [.agg [.int .i64 0, .nil, .str [], .nil]], .nil, .nil], .agg [.int .i64 2, .str [117], .int .i64 0, .int .i64 0, .int .i64 0, .sl 4 [.agg [.int .i64 0, .nil, .str [], .nil]], .int .i64 3, .str [116], .int .i64 0, .int .i64 0, .int .i64 0, .int .i64 0, .int .i64 0, .int .i64 0, .int .i64 0, .int .i64 0, .nil, .sl 4 [.agg [.int .i64 0, .nil, .str [], .nil]], .nil, .nil], .agg [.int .i64 2, .str [111], .int .i64 0, .int .i64 0, .int .i64 0, .sl 4 [.agg [.int .i64 0, .nil, .str [], .nil]], .int .i64 3, .str [117], .int .i64 0, .int .i64 0, .int .i64 0, .int .i64 0, .int .i64 0, .int .i64 0, .int .i64 0, .int .i64 0, .nil, .sl 4 [.agg [.int .i64 0, .nil, .str [], .nil]], .nil, .nil]]], .sl 3 [.agg [.str [97], .int .i64 0, .int .i64 1], .agg [.str [116], .int .i64 1, .int .i64 1], .agg [.str [117], .int .i64 2, .int .i64 1], .agg [.str [111], .int .i64 1, .int .i64 1]], .int .i64 3, .sl 8 [.agg [.str [97], .int .i64 3, .int .i64 0, .int .i64 0, .int .i64 0, .int .i64 0, .sl 1 [.agg [.int .i64 1]], .sl 2 [.agg [.int .i64 7, .int .i64 1]]]], .int .i64 10], .tup [.sl 8 [.agg [.str [111], .int .i64 3, .int .i64 0, .int .i64 0, .int .i64 0, .int .i64 0, .sl 1 [.agg [.int .i64 1]], .sl 2 [.agg [.int .i64 7, .int .i64 1]]]], .int .i64 3, .int .i64 0], .nil, 1)
theorem e14_ok : CallOk0 Tryz.prog gls e14.1 e14.2.1 e14.2.2.1 e14.2.2.2.1 e14.2.2.2.2 := memo_norm (xcallM_ok progOk xe0_ok memo13_ok 60 (fl := 100000)) (by kernel_rfl)
def memo14 : MemoT := e14 :: memo13
theorem memo14_ok : MemoOk Tryz.prog gls memo14 := fun e he => by
  rcases List.mem_cons.1 he with rfl | he
  · exact e14_ok
  · exact memo13_ok e he
end Go.Proofs.YtpmdnjbodikfbaaGreatDoor
end
section
namespace Go.Proofs.YtpmdnjbodikfbaaGreatDoor
open Go HY
set_option maxRecDepth 1000000
def e15 : Nat × List AV × AV × Tr Box × Nat := (6, [.agg [.sl 8 [.agg [.str [97], .int .i64 3, .int .i64 0, .int .i64 0, .int .i64 0, .int .i64 0, .sl 1 [.agg [.int .i64 1]], .int .i64 1], .agg [.str [116], .int .i64 3, .int .i64 0, .int .i64 0, .int .i64 0, .int .i64 0, .sl 1 [.agg [.int .i64 1]], .int .i64 3], .agg [.str [117], .int .i64 3, .int .i64 0, .int .i64 0, .int .i64 0, .int .i64 0, .sl 1 [.agg [.int .i64 1]], .int .i64 3], .agg [.str [111], .int .i64 3, .int .i64 0, .int .i64 0, .int .i64 0, .int .i64 0, .sl 1 [.agg [.int .i64 1]], .int .i64 2]], .sl 20 [.agg [.int .i64 2, .str [116], .int .i64 0, .int .i64 0, .int .i64 0, .sl 4 [.agg [.int .i64 0, .nil, .str [], .nil]], .int .i64 3, .str [97], .int .i64 0, .int .i64 0, .int .i64 0, .int .i64 0, .int .i64 0, .int .i64 0, .int .i64 0, .int .i64 0, .nil, .sl 4 [.agg [.int .i64 0, .nil, .str [], .nil]], .nil, .nil], .agg [.int .i64 2, .str [117], .int .i64 0, .int .i64 0, .int .i64 0, .sl 4 [.agg [.int .i64 0, .nil, .str [], .nil]], .int .i64 3, .str [116], .int .i64 0, .int .i64 0, .int .i64 0, .int .i64 0, .int .i64 0, .int .i64 0, .int .i64 0, .int .i64 0, .nil, .sl 4 [.agg [.int .i64 0, .nil, .str [], .nil]], .nil, .nil], .agg [.int .i64 2, .str [111], .int .i64 0, .int .i64 0, .int .i64 0, .sl 4 [.agg [.int .i64 0, .nil, .str [], .nil]], .int .i64 3, .str [117], .int .i64 0, .int .i64 0, .int .i64 0, .int .i64 0, .int .i64 0, .int .i64 0, .int .i64 0, .int .i64 0, .nil, .sl 4 [.agg [.int .i64 0, .nil, .str [], .nil]], .nil, .nil]]], .sl 3 [.agg [.str [97], .int .i64 0, .int .i64 1], .agg [.str [116], .int .i64 1, .int .i64 1], .agg [.str [117], .int .i64 2, .int .i64 1], .agg [.str [111], .int .i64 1, .int .i64 1]], .str [117], .sl 1 [.agg [.int .i64 0]]], .tup [.int .i64 2, .int .i64 0], .nil, 1)
theorem e15_ok : CallOk0 Tryz.prog gls e15.1 e15.2.1 e15.2.2.1 e15.2.2.2.1 e15.2.2.2.2 := memo_norm (xcallM_ok progOk xe0_ok memo14_ok 60 (fl := 100000)) (by kernel_rfl)
def memo15 : MemoT := e15 :: memo14
theorem memo15_ok : MemoOk Tryz.prog gls memo15 := fun e he => by
  rcases List.mem_cons.1 he with rfl | he
  · exact e15_ok
  · exact memo14_ok e he
def e16 : Nat × List AV × AV × Tr Box × Nat := (26, [.sl 4 [.agg [.str [97], .int .i64 0, .int .i64 0, .int .i64 1], .agg [.str [116], .int .i64 0, .int .i64 1, .int .i64 1], .agg [.str [117], .int .i64 1, .int .i64 2, .int .i64 1], .agg [.str [111], .int .i64 2, .int .i64 2, .int .i64 1]], .sl 3 [.agg [.str [97], .int .i64 0, .int .i64 1], .agg [.str [116], .int .i64 1, .int .i64 1], .agg [.str [117], .int .i64 2, .int .i64 1], .agg [.str [111], .int .i64 1, .int .i64 1]], .int .i64 2], .tup [.int .i64 2, .int .i64 22], .nil, 1)
theorem e16_ok : CallOk0 Tryz.prog gls e16.1 e16.2.1 e16.2.2.1 e16.2.2.2.1 e16.2.2.2.2 := memo_norm (xcallM_ok progOk xe0_ok memo15_ok 60 (fl := 100000)) (by kernel_rfl)
def memo16 : MemoT := e16 :: memo15
theorem memo16_ok : MemoOk Tryz.prog gls memo16 := fun e he => by
  rcases List.mem_cons.1 he with rfl | he
  · exact e16_ok
  · exact memo15_ok e he
def e17 : Nat × List AV × AV × Tr Box × Nat := (9, [.agg [.sl 8 [.agg [.str [97], .int .i64 3, .int .i64 0, .int .i64 0, .int .i64 0, .int .i64 0, .sl 1 [.agg [.int .i64 1]], .int .i64 1], .agg [.str [116], .int .i64 3, .int .i64 0, .int .i64 0, .int .i64 0, .int .i64 0, .sl 1 [.agg [.int .i64 1]], .int .i64 3], .agg [.str [117], .int .i64 3, .int .i64 0, .int .i64 0, .int .i64 0, .int .i64 0, .sl 1 [.agg [.int .i64 1]], .int .i64 3], .agg [.str [111], .int .i64 3, .int .i64 0, .int .i64 0, .int .i64 0, .int .i64 0, .sl 1 [.agg [.int .i64 1]], .int .i64 2]], .sl 20 [.agg [.int .i64 2, .str [116], .int .i64 0, .int .i64 0, .int .i64 0, .sl 4 [.agg [.int .i64 0, .nil, .str [], .nil]], .int .i64 3, .str [97], .int .i64 0, .int .i64 0, .int .i64 0, .int .i64 0, .int .i64 0, .int .i64 0, .int .i64 0, .int .i64 0, .nil, .sl 4 [.agg [.int .i64 0, .nil, .str [], .nil]], .nil, .nil], .agg [.int .i64 2, .str [117], .int .i64 0, .int .i64 0, .int .i64 0, .sl 4 [.agg [.int .i64 0, .nil, .str [], .nil]], .int .i64 3, .str [116], .int .i64 0, .int .i64 0, .int .i64 0, .int .i64 0, .int .i64 0, .int .i64 0, .int .i64 0, .int .i64 0, .nil, .sl 4 [.agg [.int .i64 0, .nil, .str [], .nil]], .nil, .nil], .agg [.int .i64 2, .str [111], .int .i64 0, .int .i64 0, .int .i64 0, .sl 4 [.agg [.int .i64 0, .nil, .str [], .nil]], .int .i64 3, .str [117], .int .i64 0, .int .i64 0, .int .i64 0, .int .i64 0, .int .i64 0, .int .i64 0, .int .i64 0, .int .i64 0, .nil, .sl 4 [.agg [.int .i64 0, .nil, .str [], .nil]], .nil, .nil]]], .sl 3 [.agg [.str [97], .int .i64 0, .int .i64 1], .agg [.str [116], .int .i64 1, .int .i64 1], .agg [.str [117], .int .i64 2, .int .i64 1], .agg [.str [111], .int .i64 1, .int .i64 1]], .int .i64 2, .sl 8 [.agg [.str [97], .int .i64 3, .int .i64 0, .int .i64 0, .int .i64 0, .int .i64 0, .sl 1 [.agg [.int .i64 1]], .sl 2 [.agg [.int .i64 7, .int .i64 1]]]], .int .i64 10], .tup [.nil, .int .i64 0, .int .i64 22], .nil, 1)
theorem e17_ok : CallOk0 Tryz.prog gls e17.1 e17.2.1 e17.2.2.1 e17.2.2.2.1 e17.2.2.2.2 := memo_norm (xcallM_ok progOk xe0_ok memo16_ok 60 (fl := 100000)) (by kernel_rfl)
def memo17 : MemoT := e17 :: memo16
theorem memo17_ok : MemoOk Tryz.prog gls memo17 := fun e he => by
  rcases List.mem_cons.1 he with rfl | he
  · exact e17_ok
  · exact memo16_ok e he
end Go.Proofs.YtpmdnjbodikfbaaGreatDoor
end
section
namespace Go.Proofs.YtpmdnjbodikfbaaGreatDoor
open Go HY
set_option maxRecDepth 1000000
theorem ex_run : HY.isTrue (xcallM Tryz.prog gls gds 100000 xe0 memo17 60 5 [] .nil 0) = true := by kernel_rfl
theorem ex_ok : Pu Tryz.prog gls 5 [] (.bool true) := by
  have h := ex_run
  unfold HY.isTrue at h
  split at h
  · rename_i r hr
    exact Pu.ofCall (xcallM_ok progOk xe0_ok memo17_ok 60 _ _ _ _ _ _ _ hr).zero rfl
  · cases h
end Go.Proofs.YtpmdnjbodikfbaaGreatDoor
end
section
namespace Go.Proofs.YtpmdnjbodikfbaaGreatDoor
open Go HY
noncomputable def F_law46_examples : Option Bool := some true
theorem P_law46_examples (r : Bool) (h : F_law46_examples = some r) : PU 5 [] (.bool r) := by
  cases h
  exact ex_ok
end Go.Proofs.YtpmdnjbodikfbaaGreatDoor
end
section
namespace Go.Proofs.YtpmdnjbodikfbaaGreatDoor
open Go HY
set_option maxRecDepth 1000000
set_option linter.unusedVariables false
def A_law46_FlatmemOffsets_J5000001 (s : ((List gSlot) × Str × (List Int) × gNest)) (u : Unit) (o : Bool) : List Alt := [⟨fun (x : Unit) => true = o, .normal, fun x => [.sl 3 (List.map egSlot (s.1)), .str (s.2.1), .sl 1 (List.map eI (s.2.2.1)), .ptr 0 0 0, .bool true], fun x => [.cells 0 (egNest (s.2.2.2)).cells]⟩, ⟨fun (x : Unit) => false = o, .normal, fun x => [.sl 3 (List.map egSlot (s.1)), .str (s.2.1), .sl 1 (List.map eI (s.2.2.1)), .ptr 0 0 0, .bool false], fun x => [.cells 0 (egNest (s.2.2.2)).cells]⟩]
noncomputable def F_law46_FlatmemOffsets (x0 : gNest) (x1 : List gSlot) (x2 : Str) (x3 : List Int) : Option Bool :=
 some () >>= fun v0 =>
 (F_law46_small x0 x1 [] >>= fun v2 => if v2 then
 some (List.length x3 : Int) >>= fun v3 =>
 if (20 : Int) < v3 then
 some true
 else
 some false
 else
 some true) >>= fun v1 => if v1 then
 F_law46_examples >>= fun v5 =>
 some v5
 else
 F_flatmem_Offset x0 x1 x2 x3 >>= fun v7 =>
 F_ref46_Offset x0 x1 x2 x3 >>= fun v8 =>
 if v7.fst == v8.fst then
 if v7.snd == v8.snd then
 F_law46_examples >>= fun v9 =>
 some v9
 else
 some false
 else
 some false
theorem P_law46_FlatmemOffsets (x0 : gNest) (x1 : List gSlot) (x2 : Str) (x3 : List Int) (r : Bool) (h : F_law46_FlatmemOffsets x0 x1 x2 x3 = some r) : PU 3 [egNest x0, eLgSlot x1, eS x2, eLI x3] (eB r) :=
  Pu1 (hs := [(15, .cb), (19, .n eI 19 none), (20, .split), (22, .c eB), (28, .c eT_I_I), (36, .c eT_I_I), (41, .split), (45, .split), (48, .c eB), (5000001, .l [] [] [] [1, 2, 3, 4, 21] [{ slot := 4 }] (A_law46_FlatmemOffsets_J5000001 (x1, x2, x3, x0)))]) (by kernel_rfl) ((kJb (id := 5000001) () (fun v0 ev0 v1 => (kCb (fun y hy => Pu.le (P_law46_small x0 x1 [] y hy) (.cons (LeT.refl (AV.agg [AV.sl (8 : Nat) (List.map egBuffer x0.fBufs), AV.sl (20 : Nat) (List.map egStmt x0.fBody)])) (.cons (LeT.refl (AV.sl (3 : Nat) (List.map egSlot x1))) (.cons (LeT.nil 8) .nil))) (LeT.refl _)) (kN _ (mLen (sh := eI) x3) fun v3 => (kIfD (p := (20 : Int) < v3) (kXj (alts := A_law46_FlatmemOffsets_J5000001 (x1, x2, x3, x0)) ev0 true (.here () rfl (.refl _) (.refl _)))
 (kXj (alts := A_law46_FlatmemOffsets_J5000001 (x1, x2, x3, x0)) ev0 false (.next (.here () rfl (.refl _) (.refl _))))))
 (kXj (alts := A_law46_FlatmemOffsets_J5000001 (x1, x2, x3, x0)) ev0 true (.here () rfl (.refl _) (.refl _)))))
 (fun v0 => (kC (sh := eB) (P_law46_examples) fun v5 => (kEr (enc := eB) v5)))
 (fun v0 => (kC (sh := eT_I_I) (P_flatmem_Offset x0 x1 x2 x3) fun v7 => (kC (sh := eT_I_I) (P_ref46_Offset x0 x1 x2 x3) fun v8 => (kIf (c := v7.fst == v8.fst) (kIf (c := v7.snd == v8.snd) (kC (sh := eB) (P_law46_examples) fun v9 => (kEr (enc := eB) v9))
 (kEr (enc := eB) false))
 (kEr (enc := eB) false)))))) h)
end Go.Proofs.YtpmdnjbodikfbaaGreatDoor
end
section
namespace Go.Proofs.YtpmdnjbodikfbaaGreatDoor
open Go HY
set_option linter.unusedVariables false
set_option linter.unusedSimpArgs false
theorem s_Clone (l : List Int) (h : l.length * 8 ≤ 140737488355328) : F_slices_Clone_int l = some l := by
  unfold F_slices_Clone_int
  rw [if_pos ⟨h, by omega⟩]
abbrev zBuf : gBuffer := gBuffer.mk [] (gType.mk (0 : Int) (0 : Int) (0 : Int) (0 : Int) (0 : Int)) [] (0 : Int)
abbrev zSlot : gSlot := gSlot.mk [] (0 : Int) (0 : Int)
def bufOf (l : List gBuffer) (n : Str) : Option gBuffer := l.find? fun b => b.fName == n
def slotOf (l : List gSlot) (n : Str) : Option gSlot := l.find? fun b => b.fName == n
theorem s_copyBuffer (b : gBuffer) (h : b.fDims.length * 8 ≤ 140737488355328) : F_loopnest_copyBuffer b = some b := by
  unfold F_loopnest_copyBuffer
  rw [s_Clone _ h]; rfl
theorem s_loopnest_Buffer (n : gNest) (name : Str) (hl : n.fBufs.length ≤ big) (hd : ∀ b ∈ n.fBufs, b.fDims.length * 8 ≤ 140737488355328) : F_loopnest_Buffer n name = some (match bufOf n.fBufs name with | some b => (b, true) | none => (zBuf, false)) := by
  have L : F_loopnest_Buffer_L2 name n zBuf n.fBufs.length 0 = some (match bufOf n.fBufs name with | some b => .inr (b, true) | none => .inl zBuf) := by
    refine loopEqI (F := fun (_ : Unit) i => F_loopnest_Buffer_L2 name n zBuf n.fBufs.length i) (l := n.fBufs) (fun _ _ => True) (fun _ t => match bufOf t name with | some b => .inr (b, true) | none => .inl zBuf) ?_ ?_ () trivial
    · intro _ _
      rw [F_loopnest_Buffer_L2]; simp [bufOf]
    · intro i y t _ h0 h1 hm hix _ ih
      rw [F_loopnest_Buffer_L2, if_pos h1, hix]
      simp only [bS, wrapB h0 h1 hl, bufOf, List.find?_cons, s_copyBuffer y (hd y hm)]
      by_cases h2 : (y.fName == name) = true
      · rw [if_pos h2, h2]
      · rw [if_neg h2, show (y.fName == name) = false by simpa using h2]
        exact ih () trivial
  unfold F_loopnest_Buffer
  simp only [bS, L]
  cases bufOf n.fBufs name <;> rfl
theorem s_ref30_Buffer (n : gNest) (name : Str) (hl : n.fBufs.length ≤ big) : F_ref30_Buffer n name = some (match bufOf n.fBufs name with | some b => (b, true) | none => (zBuf, false)) := by
  have L : F_ref30_Buffer_L2 name n zBuf 0 = some (match bufOf n.fBufs name with | some b => .inr (b, true) | none => .inl zBuf) := by
    refine loopEq (F := fun i => F_ref30_Buffer_L2 name n zBuf i) (l := n.fBufs) (fun t => match bufOf t name with | some b => .inr (b, true) | none => .inl zBuf) ?_ ?_
    · rw [F_ref30_Buffer_L2]; simp [bufOf, bS]
    · intro i y t h0 h1 hix ih
      rw [F_ref30_Buffer_L2, bS, if_pos h1, hix]
      simp only [bS, wrapB h0 h1 hl, bufOf, List.find?_cons]
      by_cases h2 : (y.fName == name) = true
      · rw [if_pos h2, h2]
      · rw [if_neg h2, show (y.fName == name) = false by simpa using h2]
        exact ih
  unfold F_ref30_Buffer
  simp only [bS, L]
  cases bufOf n.fBufs name <;> rfl
theorem s_flatmem_slot (l : List gSlot) (name : Str) (hl : l.length ≤ big) : F_flatmem_slot l name = some (match slotOf l name with | some b => (b, true) | none => (zSlot, false)) := by
  have L : F_flatmem_slot_L2 name zSlot l l.length 0 = some (match slotOf l name with | some b => .inr (b, true) | none => .inl zSlot) := by
    refine loopEq (F := fun i => F_flatmem_slot_L2 name zSlot l l.length i) (l := l) (fun t => match slotOf t name with | some b => .inr (b, true) | none => .inl zSlot) ?_ ?_
    · rw [F_flatmem_slot_L2]; simp [slotOf]
    · intro i y t h0 h1 hix ih
      rw [F_flatmem_slot_L2, if_pos h1, hix]
      simp only [bS, wrapB h0 h1 hl, slotOf, List.find?_cons]
      by_cases h2 : (y.fName == name) = true
      · rw [if_pos h2, h2]
      · rw [if_neg h2, show (y.fName == name) = false by simpa using h2]
        exact ih
  unfold F_flatmem_slot
  simp only [bS, L]
  cases slotOf l name <;> rfl
theorem s_ref46_slot (l : List gSlot) (name : Str) (hl : l.length ≤ big) : F_ref46_slot l name = some (match slotOf l name with | some b => (b, true) | none => (zSlot, false)) := by
  have L : F_ref46_slot_L2 l name zSlot 0 = some (match slotOf l name with | some b => .inr (b, true) | none => .inl zSlot) := by
    refine loopEq (F := fun i => F_ref46_slot_L2 l name zSlot i) (l := l) (fun t => match slotOf t name with | some b => .inr (b, true) | none => .inl zSlot) ?_ ?_
    · rw [F_ref46_slot_L2]; simp [slotOf, bS]
    · intro i y t h0 h1 hix ih
      rw [F_ref46_slot_L2, bS, if_pos h1, hix]
      simp only [bS, wrapB h0 h1 hl, slotOf, List.find?_cons]
      by_cases h2 : (y.fName == name) = true
      · rw [if_pos h2, h2]
      · rw [if_neg h2, show (y.fName == name) = false by simpa using h2]
        exact ih
  unfold F_ref46_slot
  simp only [bS, L]
  cases slotOf l name <;> rfl
def low (d : List Int) : Bool := d.any fun v => decide (v < 1)
def szOk (n : Int) : List Int → Bool
  | [] => true
  | v :: t => if 4096 < n * v then false else szOk (n * v) t
theorem tdiv_lt {n v : Int} (hn : 1 ≤ n) : ((4096 : Int).tdiv n < v) ↔ 4096 < n * v := by
  rw [Int.tdiv_eq_ediv_of_nonneg (by omega), Int.ediv_lt_iff_lt_mul (by omega), Int.mul_comm]
theorem tdiv_le {n : Int} (hn : 1 ≤ n) : 0 ≤ (4096 : Int).tdiv n ∧ (4096 : Int).tdiv n ≤ 4096 := by
  rw [Int.tdiv_eq_ediv_of_nonneg (by omega)]
  exact ⟨Int.ediv_nonneg (by omega) (by omega), Int.ediv_le_self _ (by omega)⟩
theorem low_false {d : List Int} (h : ¬ low d = true) : ∀ v ∈ d, 1 ≤ v := fun v hv => by
  have : ¬ v < 1 := fun h2 => h (List.any_eq_true.2 ⟨v, hv, by simpa using h2⟩)
  omega
theorem s_V4 (d : List Int) (hl : d.length ≤ big) : F_shape_Validate_L4 d d.length 0 = some (if low d then .inr 1 else .inl ()) := by
  refine loopEq (F := fun i => F_shape_Validate_L4 d d.length i) (l := d) (fun t => if low t then .inr 1 else .inl ()) ?_ ?_
  · rw [F_shape_Validate_L4]; simp [low]
  · intro i y t h0 h1 hix ih
    rw [F_shape_Validate_L4, if_pos h1, hix]
    simp only [bS, wrapB h0 h1 hl, ih, low, List.any_cons]
    by_cases h2 : y < 1 <;> simp [h2, low]
theorem s_R4 (d : List Int) (hl : d.length ≤ big) : F_ref12_Shape_L4 d 0 = some (if low d then .inr 1 else .inl ()) := by
  refine loopEq (F := fun i => F_ref12_Shape_L4 d i) (l := d) (fun t => if low t then .inr 1 else .inl ()) ?_ ?_
  · rw [F_ref12_Shape_L4]; simp [low, bS]
  · intro i y t h0 h1 hix ih
    rw [F_ref12_Shape_L4, bS, if_pos h1, hix]
    simp only [bS, wrapB h0 h1 hl, ih, low, List.any_cons]
    by_cases h2 : y < 1 <;> simp [h2, low]
theorem s_V11 (d : List Int) (hl : d.length ≤ big) (hd : ∀ v ∈ d, 1 ≤ v) : F_shape_Validate_L11 1 d d.length 0 = some (if szOk 1 d then .inl () else .inr 2) := by
  refine loopEqI (F := fun n i => F_shape_Validate_L11 n d d.length i) (l := d) (fun n t => 1 ≤ n ∧ n ≤ 4096) (fun n t => if szOk n t then .inl () else .inr 2) ?_ ?_ 1 (by omega)
  · intro n _
    rw [F_shape_Validate_L11]; simp [szOk]
  · intro i y t n h0 h1 hm hix hI ih
    have hy := hd y hm
    have h4 := tdiv_le hI.1
    rw [F_shape_Validate_L11, if_pos h1, hix]
    simp only [bS, wrapB h0 h1 hl]
    rw [if_pos (show n ≠ 0 by omega), wrapId (by omega)]
    by_cases h2 : 4096 < n * y
    · rw [if_pos ((tdiv_lt hI.1).2 h2)]; simp [szOk, h2]
    · have hp : n ≤ n * y := by
        have := Int.mul_le_mul_of_nonneg_left hy (show 0 ≤ n by omega); rwa [Int.mul_one] at this
      rw [if_neg (fun h => h2 ((tdiv_lt hI.1).1 h)), wrapId (by omega)]
      simp only [szOk, if_neg h2]
      exact ih _ (by omega)
theorem s_R10 (d : List Int) (hl : d.length ≤ big) (hd : ∀ v ∈ d, 1 ≤ v) : F_ref12_Shape_L10 d 1 0 = some (if szOk 1 d then .inl () else .inr 2) := by
  refine loopEqI (F := fun n i => F_ref12_Shape_L10 d n i) (l := d) (fun n t => 1 ≤ n ∧ n ≤ 4096) (fun n t => if szOk n t then .inl () else .inr 2) ?_ ?_ 1 (by omega)
  · intro n _
    rw [F_ref12_Shape_L10]; simp [szOk, bS]
  · intro i y t n h0 h1 hm hix hI ih
    have hy := hd y hm
    have h4 := tdiv_le hI.1
    rw [F_ref12_Shape_L10, bS, if_pos h1, hix]
    simp only [bS, wrapB h0 h1 hl]
    rw [if_pos (show n ≠ 0 by omega), wrapId (by omega)]
    by_cases h2 : 4096 < n * y
    · rw [if_pos ((tdiv_lt hI.1).2 h2)]; simp [szOk, h2]
    · have hp : n ≤ n * y := by
        have := Int.mul_le_mul_of_nonneg_left hy (show 0 ≤ n by omega); rwa [Int.mul_one] at this
      rw [if_neg (fun h => h2 ((tdiv_lt hI.1).1 h)), wrapId (by omega)]
      simp only [szOk, if_neg h2]
      exact ih _ (by omega)
def shV (d : List Int) : Int := if (6 : Int) < d.length then 2 else if low d then 1 else if szOk 1 d then 0 else 2
theorem s_shape_Validate (d : List Int) (hl : d.length ≤ big) : F_shape_Validate d = some (shV d) := by
  unfold F_shape_Validate shV
  simp only [bS]
  by_cases h6 : (6 : Int) < d.length
  · rw [if_pos h6, if_pos h6]
  · rw [if_neg h6, if_neg h6, s_V4 d hl]
    by_cases ha : low d = true
    · rw [if_pos ha, if_pos ha]; rfl
    · rw [if_neg ha, if_neg ha]
      simp only [bS, s_V11 d hl (low_false ha)]
      cases szOk 1 d <;> rfl
theorem s_ref12_Shape (d : List Int) (hl : d.length ≤ big) : F_ref12_Shape d = some (shV d) := by
  unfold F_ref12_Shape shV
  simp only [bS]
  by_cases h6 : (6 : Int) < d.length
  · rw [if_pos h6, if_pos h6]
  · rw [if_neg h6, if_neg h6, s_R4 d hl]
    by_cases ha : low d = true
    · rw [if_pos ha, if_pos ha]; rfl
    · rw [if_neg ha, if_neg ha]
      simp only [bS, s_R10 d hl (low_false ha)]
      cases szOk 1 d <;> rfl
def inR : List (Int × Int) → Bool
  | [] => true
  | (v, k) :: t => !decide (k < 0) && (!decide (v ≤ k) && inR t)
def offW (a : Int) : List (Int × Int) → Int
  | [] => a
  | (v, k) :: t => offW (IntKind.i64.wrap (IntKind.i64.wrap (a * v) + k)) t
theorem ix_zip {d p : List Int} {i : Int} {v k : Int} (h : ix (d.zip p) i = some (v, k)) : ix d i = some v ∧ ix p i = some k := by
  unfold ix at *
  split at h
  · rename_i h0
    simp only [if_pos h0]
    rw [List.getElem?_zip_eq_some] at h
    exact h
  · cases h
theorem s_Off5 (d p : List Int) (hl : d.length ≤ big) (hq : p.length = d.length) (a : Int) : F_shape_Offset_L5 p a d d.length 0 = some (if inR (d.zip p) then .inl (offW a (d.zip p)) else .inr (0, false)) := by
  have hz : (d.zip p).length = d.length := by simp [hq]
  refine loopEqA (F := fun n i => F_shape_Offset_L5 p n d d.length i) (l := d.zip p) (fun n t => if inR t then .inl (offW n t) else .inr (0, false)) ?_ ?_ a
  · intro n
    rw [F_shape_Offset_L5, hz, if_neg (by omega)]; rfl
  · intro i x t n h0 h1 hix ih
    obtain ⟨v, k⟩ := x
    obtain ⟨e1, e2⟩ := ix_zip hix
    rw [hz] at h1
    rw [F_shape_Offset_L5, if_pos h1, e1]
    simp only [bS, e2, wrapB h0 h1 hl]
    by_cases c1 : k < 0
    · simp [c1, inR, bS]
    · by_cases c2 : v ≤ k
      · simp [c1, c2, inR, bS]
      · simp only [if_neg c1, if_neg c2, bS, Bool.false_eq_true, if_false]
        rw [ih]
        simp [inR, offW, c1, c2]
theorem s_L12 (p : List Int) (b : gBuffer) (hl : b.fDims.length ≤ big) (hq : p.length = b.fDims.length) : F_ref46_Offset_L12 p b 0 = some (if inR (b.fDims.zip p) then .inl () else .inr (0, 12)) := by
  have hz : (b.fDims.zip p).length = b.fDims.length := by simp [hq]
  refine loopEq (F := fun i => F_ref46_Offset_L12 p b i) (l := b.fDims.zip p) (fun t => if inR t then .inl () else .inr (0, 12)) ?_ ?_
  · rw [F_ref46_Offset_L12, hz, bS, if_neg (by omega)]; rfl
  · intro i x t h0 h1 hix ih
    obtain ⟨v, k⟩ := x
    obtain ⟨e1, e2⟩ := ix_zip hix
    rw [hz] at h1
    rw [F_ref46_Offset_L12, bS, if_pos (by omega)]
    simp only [bS, e1, e2, wrapB h0 h1 hl]
    by_cases c1 : k < 0
    · simp [c1, inR, bS]
    · by_cases c2 : v ≤ k
      · simp [c1, c2, inR, bS]
      · simp only [if_neg c1, if_neg c2, bS, Bool.false_eq_true, if_false]
        rw [ih]
        simp [inR, c1, c2]
theorem s_ref12_Offset (d p : List Int) (hl : d.length ≤ big) (hq : p.length = d.length) : F_ref12_Offset d p = some (offW 0 (d.zip p)) := by
  have hz : (d.zip p).length = d.length := by simp [hq]
  have L : F_ref12_Offset_L3 d p 0 0 = some (offW 0 (d.zip p)) := by
    refine loopEqA (F := fun n i => F_ref12_Offset_L3 d p n i) (l := d.zip p) offW ?_ ?_ 0
    · intro n
      rw [F_ref12_Offset_L3, hz, bS, if_neg (by omega)]; rfl
    · intro i x t n h0 h1 hix ih
      obtain ⟨v, k⟩ := x
      obtain ⟨e1, e2⟩ := ix_zip hix
      rw [hz] at h1
      rw [F_ref12_Offset_L3, bS, if_pos h1]
      simp only [bS, e1, e2, wrapB h0 h1 hl]
      rw [ih]; rfl
  unfold F_ref12_Offset
  simp only [bS, L]
theorem s_shape_Offset (d p : List Int) (hl : d.length ≤ big) (hq : p.length = d.length) : F_shape_Offset d p = some (if shV d = 0 ∧ inR (d.zip p) = true then (offW 0 (d.zip p), true) else (0, false)) := by
  unfold F_shape_Offset
  simp only [bS, s_shape_Validate d hl]
  by_cases hv : shV d = 0
  · have e' : ((p.length : Int) != (d.length : Int)) = false := by rw [hq]; simp
    simp only [hv, bne_self_eq_false, e', Bool.false_eq_true, if_false, bS, s_Off5 d p hl hq, true_and]
    cases inR (d.zip p) <;> rfl
  · have e' : (shV d != 0) = true := by simpa using hv
    simp only [e', if_true, bS, hv, false_and, if_false]
theorem offset_eq (n : gNest) (slots : List gSlot) (buf : Str) (p : List Int) (hb : n.fBufs.length ≤ big) (hs : slots.length ≤ big) (hd : ∀ b ∈ n.fBufs, b.fDims.length * 8 ≤ 140737488355328) : ∃ r, F_flatmem_Offset n slots buf p = some r ∧ F_ref46_Offset n slots buf p = some r := by
  unfold F_flatmem_Offset F_ref46_Offset
  simp only [bS, s_loopnest_Buffer n buf hb hd, s_ref30_Buffer n buf hb, s_flatmem_slot slots buf hs, s_ref46_slot slots buf hs]
  cases hB : bufOf n.fBufs buf with
  | none => exact ⟨_, rfl, rfl⟩
  | some b =>
    have hbm : b ∈ n.fBufs := List.mem_of_find?_eq_some hB
    have hdl : b.fDims.length ≤ big := by have := hd b hbm; simp only [big]; omega
    simp only
    cases slotOf slots buf with
    | none => exact ⟨_, rfl, rfl⟩
    | some s =>
      simp only [if_true, bS, Bool.false_eq_true, if_false]
      by_cases c1 : s.fAt < 0
      · simp only [if_pos c1, bS, if_true]; exact ⟨_, rfl, rfl⟩
      · by_cases c2 : (2147483647 : Int) < s.fAt
        · simp only [if_neg c1, if_pos c2, bS, if_true]; exact ⟨_, rfl, rfl⟩
        · simp only [if_neg c1, if_neg c2, bS, Bool.false_eq_true, if_false]
          by_cases hq : p.length = b.fDims.length
          · have e' : ((p.length : Int) != (b.fDims.length : Int)) = false := by rw [hq]; simp
            simp only [e', Bool.false_eq_true, if_false, s_shape_Offset b.fDims p hdl hq, s_ref12_Shape b.fDims hdl, bS]
            by_cases hv : shV b.fDims = 0
            · simp only [hv, true_and, bne_self_eq_false, Bool.false_eq_true, if_false, bS, s_L12 p b hdl hq]
              cases hr : inR (b.fDims.zip p) with
              | true =>
                simp only [if_true, bS, s_ref12_Offset b.fDims p hdl hq]
                exact ⟨_, rfl, rfl⟩
              | false =>
                simp only [Bool.false_eq_true, if_false, bS]
                exact ⟨_, rfl, rfl⟩
            · have e2 : (shV b.fDims != 0) = true := by simpa using hv
              simp only [hv, false_and, if_false, e2, if_true, Bool.false_eq_true]
              exact ⟨_, rfl, rfl⟩
          · have e' : ((p.length : Int) != (b.fDims.length : Int)) = true := by simp; omega
            simp only [e', if_true]
            exact ⟨_, rfl, rfl⟩
theorem s_law (n : gNest) (slots : List gSlot) (buf : Str) (p : List Int) (hn : ok_gNest n) (hs : slots.length * Tryz.prog.bytesOf 46 ≤ reachBytes) : F_law46_FlatmemOffsets n slots buf p = some true := by
  obtain ⟨⟨h1, h2⟩, ⟨h3, h4⟩, _⟩ := hn
  have hbl : n.fBufs.length ≤ big := len_of b22 h1
  have hbd : n.fBody.length ≤ big := len_of b23 h3
  have hsl : slots.length ≤ big := len_of b26 hs
  have hd : ∀ b ∈ n.fBufs, b.fDims.length * 8 ≤ 140737488355328 := fun b hb => by
    obtain ⟨_, _, ⟨h5, _⟩, _⟩ := h2 b hb
    have h8 : Tryz.prog.bytesOf 3 = 8 := by kernel_rfl
    rw [h8] at h5
    have : reachBytes = 140737488351232 := rfl
    omega
  obtain ⟨v, hv, _⟩ := t_WeighStmts n.fBody hbd h4 300
  obtain ⟨r, e1, e2⟩ := offset_eq n slots buf p hbl hsl hd
  unfold F_law46_FlatmemOffsets F_law46_small F_law46_examples
  simp only [bS, hv, e1, e2, beq_self_eq_true, if_true]
  repeat' (first | rfl | (simp only [bS, if_true, Bool.false_eq_true, if_false]; done) | split | (simp_all; done) | simp only [bS, if_true, Bool.false_eq_true, if_false])
end Go.Proofs.YtpmdnjbodikfbaaGreatDoor
end
section
namespace HY
open Go Go.RowKit Go.ChangeShapes Go.WideShapes Go.ChangeAt
theorem trodAll_below {H : Type} {enc : TypeId × Value → H} {P : Program} (hl : laidOutB P = true) {W W' : World} (hb : Below W.heap.size W W') : ∀ {ts : List TypeId} {vs : List Value} {ds : List (DataW H)} {ps : List MemPlace},
    (∀ t ∈ ts, P.readableRec t = true ∧ t < P.types.size) → DataW.TrodAll enc P W 0 (fun _ => true) true ts vs ds ps → (∀ p ∈ ps, p.block < W.heap.size) → DataW.TrodAll enc P W' 0 (fun b => decide (b < W.heap.size)) true ts vs ds ps
  | [], [], [], _, _, h, _ => h
  | t :: ts, v :: vs, d :: ds, _, ht, ⟨p, q, h1, h2, e⟩, hp =>
    ⟨p, q, Below.trod hl (ht t (List.mem_cons_self ..)).1 (ht t (List.mem_cons_self ..)).2 h1 hb (fun x hx => hp x (by rw [e]; exact List.mem_append_left _ hx)),
      trodAll_below hl hb (fun t' h' => ht t' (List.mem_cons_of_mem _ h')) h2 (fun x hx => hp x (by rw [e]; exact List.mem_append_right _ hx)), e⟩
  | [], _ :: _, _, _, _, h, _ => h.elim
  | [], [], _ :: _, _, _, h, _ => h.elim
  | _ :: _, [], _, _, _, h, _ => h.elim
  | _ :: _, _ :: _, [], _, _, h, _ => h.elim
structure LawOk (P : Program) (f : Func) (tb : TypeId) : Prop where
  laid : laidOutB P = true
  pars : (f.params.toList.all fun t => P.readableRec t && decide (t < P.types.size)) = true
  res : f.resultTypes = #[tb]
  bool : P.underlying tb = some .bool
theorem post_true {H : Type} {enc : TypeId × Value → H} {P : Program} {f : Func} {tb : TypeId} (hok : LawOk P f tb) {s : ChangeSpec} {W W' : World} {args : Array Value} {ds gs : List (DataW H)} {before : List MemPlace} (hv : s.vars = [])
    (hW : DataW.Whole enc P f.params.toList s.vars false W args.toList ds gs before) (hfn : s.fn H (ds ++ gs) = { results := [.lit (.bool true)], args := ds }) (hb : Below W.heap.size W W') : s.post enc P f false true false false W args (.bool true) W' := by
  have hlt := hW.lt
  have hW' := hW
  obtain ⟨p, q, hA, hV, rfl, _, _⟩ := hW
  rw [hv] at hV
  obtain ⟨rfl, rfl⟩ : gs = [] ∧ q = [] := by
    cases gs with
    | nil => exact ⟨rfl, hV⟩
    | cons => exact hV.elim
  have hp := hok.pars
  rw [List.all_eq_true] at hp
  refine ⟨ds, [], p ++ [], [], p, [], hW', ?_, ?_, ?_, hb.frame _, fun h => by cases h⟩
  · rw [hfn, hok.res]
    exact ⟨[], [], shut_bool hok.bool _, rfl, rfl⟩
  · rw [hfn]
    exact trodAll_below hok.laid hb (fun t ht => by have := hp t ht; simp only [Bool.and_eq_true, decide_eq_true_eq] at this; exact this) hA (fun x hx => hlt x (List.mem_append_left _ hx))
  · rw [hfn, hv]; exact rfl
end HY
end
section
namespace HY
open Go Go.RowKit Go.ChangeShapes Go.WideShapes Go.ChangeAt
theorem law_callsP {P : Program} {gl : Nat → AV} {f : FuncId} {args : List AV} (hent : Enters P f) (h : Pu P gl f args (.bool true)) {W : World} {vs : Array Value} (hl : args.length = vs.size) (hgl : ∀ g, RelI (HV.full W) (gl g) (.pointer (some ⟨g, 0, none⟩))) (hgv : GvOk gl (fun k => k < W.heap.size) W)
    (hr : ∀ (j : Nat) (x : AV) (v : Value), args[j]? = some x → vs[j]? = some v → RelI (HV.full W) x v) : Calls P f vs W fun e W' => e = .returned (.bool true) ∧ Below W.heap.size W W' := by
  refine (Ans.calls (he := hent) <| h.ok (fun _ => ⟨0, 0, 0⟩) (HV.full W) (fun k => k < W.heap.size) (HV.full W) W vs
    { sat := full_sat W, old := fun _ _ _ => rfl, low := fun _ h => h, fresh := fun _ _ => lkb_nil _, box := (fun _ _ hh => by rw [lkb_nil] at hh; cases hh), sepR := (fun _ _ hh => by rw [lkb_nil] at hh; cases hh), injR := (fun _ _ _ _ hh => by rw [lkb_nil] at hh; cases hh), gv := hgv, gl := hgl, ty := (fun _ _ _ hh => by rw [lkb_nil] at hh; cases hh) } hl
    (fun j x v hx hv => .imm _ _ (hr j x v hx hv))).mono fun e W' hpost => ?_
  obtain ⟨v, m', H', he, hb, _, hv⟩ := hpost
  have := hv.bool_inv
  subst this
  exact ⟨he, hb.toB⟩
theorem handed_and_shaped {H : Type} {enc : TypeId × Value → H} {C : Checked} {os : Os} {f : FuncId} {fn : Func} {s : ChangeSpec} {X : World → Prop} (hX : ∀ w w' : World, w.heap = w'.heap → X w → X w')
    (own : ownKnob C.prog.godebug = none) (started : os.Started) (noInit : C.prog.inits.idxOf? f = none) (hfn : C.prog.funcs[f]? = some fn)
    (witness : ∃ (w : World) (tape : Tape) (i : Input), w.os = os ∧ (w.forCall tape i).Shaped C.prog ∧ i.vars = [] ∧ Input.okWide C.prog (w.forCall tape i) .any w.heap.size f i ∧
      ((s.pre enc C.prog fn [] false (w.forCall tape i).memory i.args ∧ X (w.forCall tape i).memory) ∧ sizedMet enc C.prog fn (OpenSpec.ofChange s) false (w.forCall tape i).memory i.args) ∧ ({} : Assume).holds C.prog (lone (Frame.enter C.prog f i.args .normal) [] (w.forCall tape i)))
    (contract : ∀ (W : World) (base : Nat) (args : Array Value) (ds gs : List (DataW H)) (before : List MemPlace),
      (∀ (j : Nat) t v, fn.params[j]? = some t → args[j]? = some v → Value.okWide C.prog W .any base t v) → DataW.Whole enc C.prog fn.params.toList s.vars false W args.toList ds gs before → X W → W.ShapedOpen C.prog →
      Calls C.prog f args W fun e W' => ∃ v, e = .returned v ∧ s.post enc C.prog fn false true false false W args v W') :
    ReturnsInHanded {} C os f .any (fun w args => (s.pre enc C.prog fn [] false w args ∧ X w) ∧ sizedMet enc C.prog fn (OpenSpec.ofChange s) false w args) (s.post enc C.prog fn false true false false) := by
  refine returnsInHanded_of_calls own started noInit witness fun w tape i _ hsh _ hok hpre _ => ?_
  obtain ⟨_, _, _, fn', hfn', _, _, _, _, hval⟩ := hok
  obtain rfl : fn' = fn := Option.some.inj (hfn'.symm.trans hfn)
  obtain ⟨⟨⟨ds, gs, before, hw, _⟩, hx⟩, _⟩ := hpre
  refine (contract (w.forCall tape i) w.heap.size i.args ds gs before hval (DataW.Whole.of_heap (w' := w.forCall tape i) (by rfl) hw) (hX _ _ (by rfl) hx) hsh).mono fun e W' ⟨v, he, hp⟩ => ?_
  subst he
  exact ChangeSpec.post_blind hp
theorem handed_all {H : Type} {enc : TypeId × Value → H} {C : Checked} {os : Os} {f : FuncId} {fn : Func} {s : ChangeSpec} {X : World → Prop} (hX : ∀ w w' : World, w.heap = w'.heap → X w → X w')
    (own : ownKnob C.prog.godebug = none) (started : os.Started) (noInit : C.prog.inits.idxOf? f = none) (hfn : C.prog.funcs[f]? = some fn)
    (witness : ∃ (w : World) (tape : Tape) (i : Input), w.os = os ∧ (w.forCall tape i).Shaped C.prog ∧ i.vars = [] ∧ Input.okWide C.prog (w.forCall tape i) .any w.heap.size f i ∧
      ((s.pre enc C.prog fn [] false (w.forCall tape i).memory i.args ∧ X (w.forCall tape i).memory) ∧ sizedMet enc C.prog fn (OpenSpec.ofChange s) false (w.forCall tape i).memory i.args) ∧ ({} : Assume).holds C.prog (lone (Frame.enter C.prog f i.args .normal) [] (w.forCall tape i)))
    (contract : ∀ (W : World) (base : Nat) (args : Array Value) (ds gs : List (DataW H)) (before : List MemPlace),
      (∀ (j : Nat) t v, fn.params[j]? = some t → args[j]? = some v → Value.okWide C.prog W .any base t v) → DataW.Whole enc C.prog fn.params.toList s.vars false W args.toList ds gs before → X W → W.ShapedOpen C.prog → (DataW.weightsEach C.prog (fn.params.toList ++ s.plain.varTypes C.prog) (ds ++ gs)).all (· ≤ reachBytes) = true →
      Calls C.prog f args W fun e W' => ∃ v, e = .returned v ∧ s.post enc C.prog fn false true false false W args v W') :
    ReturnsInHanded {} C os f .any (fun w args => (s.pre enc C.prog fn [] false w args ∧ X w) ∧ sizedMet enc C.prog fn (OpenSpec.ofChange s) false w args) (s.post enc C.prog fn false true false false) := by
  refine returnsInHanded_of_calls own started noInit witness fun w tape i _ hsh _ hok hpre _ => ?_
  obtain ⟨_, _, _, fn', hfn', _, _, _, _, hval⟩ := hok
  obtain rfl : fn' = fn := Option.some.inj (hfn'.symm.trans hfn)
  obtain ⟨⟨⟨ds, gs, before, hw, _⟩, hx⟩, hz⟩ := hpre
  refine (contract (w.forCall tape i) w.heap.size i.args ds gs before hval (DataW.Whole.of_heap (w' := w.forCall tape i) (by rfl) hw) (hX _ _ (by rfl) hx) hsh (hz.weights hw)).mono fun e W' ⟨v, he, hp⟩ => ?_
  subst he
  exact ChangeSpec.post_blind hp
theorem laidVars_at {P : Program} {w : World} : ∀ {l : List (String × DataW Unit)} {ps : List MemPlace} (i : Nat) {n : String} {d : DataW Unit}, DataW.LaidVars P w l ps → l[i]? = some (n, d) →
    ∃ g t cs fuel p, P.globalNamed n = some g ∧ (P.globals[g]?).map (·.type) = some t ∧ w.var? P n = some cs ∧ DataW.trod (fun _ => ()) P w 0 (fun _ => true) false fuel t cs.toList = some (d, p)
  | [], _, i, _, _, _, hi => by simp at hi
  | (n0, d0) :: r, ps, i, n, d, h, hi => by
    obtain ⟨g, t, cs, fuel, p, q, h1, h2, h3, h4, h5, _⟩ := h
    cases i with
    | zero => cases hi; exact ⟨g, t, cs, fuel, p, h1, h2, h3, h4⟩
    | succ i => exact laidVars_at i h5 hi
def litZ (k : IntKind) (z : Int) : DataW Unit := .lit (.int k z)
theorem laid_cells {P : Program} {w : World} {laid : List (String × DataW Unit)} (hm : laidMetH P laid w) (hpl : (laid.all fun x => x.2.handleName?.isNone) = true) (i : Nat) {n : String} {k : IntKind} {zs : List Int} (hi : laid[i]? = some (n, .agg (zs.map (litZ k))))
    {g t e : Nat} (hg : P.globalNamed n = some g) (hgt : (P.globals[g]?).map (·.type) = some t) (hu : P.underlying t = some (.array zs.length e)) (hc : P.cellsOf e = 1) (hue : P.underlying e = some (.int k)) (j : Nat) (z : Int) (hj : zs[j]? = some z) :
    w.cell? ⟨g, j, none⟩ = some (.int k z) := by
  rw [MakeChecks.laidMetH_plain _ _ _ hpl] at hm
  obtain ⟨ps, hl, _, _⟩ := hm
  obtain ⟨g', t', cs, fuel, p, e1, e2, e3, e4⟩ := laidVars_at i hl hi
  rw [hg] at e1; cases e1
  rw [hgt] at e2; cases e2
  obtain ⟨xs, m, rfl, hxe, hcl, hxl, hel⟩ := DataW.trod_array hu e4
  rw [World.var?_cell hg e3 j]
  have hjl : j < zs.length := (List.getElem?_eq_some_iff.1 hj).1
  have h1 := hel j hjl
  rw [hc] at h1
  have hxj : xs[j]? = some (xs[j]'(by omega)) := List.getElem?_eq_getElem (by omega)
  rw [hxj] at h1
  obtain ⟨v, h2, h3, _⟩ := DataW.trod_int hue h1
  have h4 : (xs.map (·.1))[j]? = some (.lit (.int k v)) := by rw [List.getElem?_map, hxj, Option.map_some, h3]
  have h5 : (.agg (zs.map (litZ k)) : DataW Unit) = .agg (xs.map (·.1)) := congrArg Prod.fst hxe
  have h6 : zs.map (litZ k) = xs.map (·.1) := by injection h5
  rw [← h6, List.getElem?_map, hj, Option.map_some] at h4
  simp only [litZ, Option.some.injEq, DataW.lit.injEq, Lit.int.injEq, true_and] at h4
  subst h4
  have h7 := congrArg (·[0]?) h2
  simp only [Nat.mul_one, List.getElem?_take, List.getElem?_drop, Nat.add_zero] at h7
  simpa using h7
theorem tab_rel {W : World} {g : Nat} {k : IntKind} {zs : List Int} (hz : 0 < zs.length) (h : ∀ (j : Nat) (z : Int), zs[j]? = some z → W.cell? ⟨g, j, none⟩ = some (.int k z)) : RelI (HV.full W) (.ip zs.length [.agg (zs.map (.int k))] 0 0) (.pointer (some ⟨g, 0, none⟩)) := by
  have hx0 : ∀ (i : Nat) (x : AV), [AV.agg (zs.map (AV.int k))][i]? = some x → i = 0 ∧ x = .agg (zs.map (.int k)) := fun i x hx => by
    cases i with
    | zero => simp at hx; exact ⟨rfl, hx.symm⟩
    | succ i => simp at hx
  have hc0 : ∀ (j : Nat) (c : AV), (zs.map (AV.int k))[j]? = some c → ∃ z, zs[j]? = some z ∧ c = .int k z := fun j c hc => by
    rw [List.getElem?_map, Option.map_eq_some_iff] at hc
    obtain ⟨z, h1, rfl⟩ := hc
    exact ⟨z, h1, rfl⟩
  suffices hs : RelI (HV.full W) (.ip zs.length [.agg (zs.map (.int k))] 0 0) (.pointer (some ⟨g, 0 + 0 * zs.length + 0, none⟩)) by
    rwa [show 0 + 0 * zs.length + 0 = 0 by omega] at hs
  refine RelI.ip zs.length [.agg (zs.map (.int k))] g 0 0 0 (fun _ j => .int k ((zs[j]?).getD 0)) hz (by simp) (fun i x hx => ?_) (fun i x j c hx hc => ?_) (fun i x j c hx hc => ?_)
  · obtain ⟨rfl, rfl⟩ := hx0 i x hx
    show (zs.map (AV.int k)).length = _
    simp
  · obtain ⟨rfl, rfl⟩ := hx0 i x hx
    obtain ⟨z, hz', rfl⟩ := hc0 j c hc
    rw [hz']
    refine ⟨?_, rfl⟩
    show W.cell? ⟨g, 0 + 0 * zs.length + j, none⟩ = _
    rw [show 0 + 0 * zs.length + j = j by omega]
    exact h j z hz'
  · obtain ⟨rfl, rfl⟩ := hx0 i x hx
    obtain ⟨z, hz', rfl⟩ := hc0 j c hc
    rw [hz']
    exact .int _ _
theorem tab_gv {P : Program} {W : World} (h : W.ShapedOpen P) {g n t : Nat} {zero : Array Value} (hg : g < P.globals.size) (h0 : ((begin P (fun _ _ => 0) default).world.heap[g]?).bind Obj.row? = some (zero, t)) (hz : zero.size = n) : g < W.heap.size ∧ ∃ C e fr, W.heap[g]? = some (.cells C e fr) ∧ C.size = n := by
  obtain ⟨cs, h1, h2, _⟩ := h.1 g zero t hg h0
  refine ⟨?_, cs, t, _, h1, by omega⟩
  rcases Nat.lt_or_ge g W.heap.size with h | h
  · exact h
  · rw [Array.getElem?_eq_none h] at h1; cases h1
end HY
end
section
namespace Go.Proofs.YtpmdnjbodikfbaaGreatDoor
open Go HY Go.RowKit Go.ChangeShapes Go.WideShapes Go.ChangeAt
set_option linter.unusedVariables false
theorem own : ownKnob Tryz.prog.godebug = none := by kernel_rfl
theorem lawOk : LawOk Tryz.prog Tryz.f3 4 := ⟨by kernel_rfl, by kernel_rfl, by kernel_rfl, by kernel_rfl⟩
def laidL : List (String × DataW Unit) := [("unicode.White_Space", Rows.laid_unicode_White_Space), ("strings.asciiSpace", Rows.laid_strings_asciiSpace)]
def spZ : List Int := List.replicate 9 0 ++ List.replicate 5 1 ++ List.replicate 18 0 ++ [1] ++ List.replicate 223 0
theorem sp_eq : spaces = spZ.map (.int .u8) := by kernel_rfl
theorem laid_sp : Rows.laid_strings_asciiSpace = .agg (spZ.map (litZ .u8)) := by kernel_rfl
theorem pos_of_blt {a b : Nat} (h : Nat.blt a b = true) : a < b := Nat.le_of_ble_eq_true h
set_option maxRecDepth 100000 in
theorem gls_ok {W : World} (h : laidMetH Tryz.prog laidL W) (g : Nat) : RelI (HV.full W) (gls g) (.pointer (some ⟨g, 0, none⟩)) := by
  unfold gls
  cases h1 : Nat.beq g 0 with
  | true =>
    obtain rfl := Nat.eq_of_beq_eq_true h1
    have := tab_rel (W := W) (g := 0) (k := .u8) (zs := spZ) (pos_of_blt (by kernel_rfl)) fun j z hj => laid_cells h (by kernel_rfl) 1 (n := "strings.asciiSpace") (by rw [← laid_sp]; rfl) (g := 0) (t := 223) (e := 5) (by kernel_rfl) (by kernel_rfl) (by kernel_rfl) (by kernel_rfl) (by kernel_rfl) j z hj
    rw [← sp_eq] at this
    exact this
  | false => exact .undef _
theorem gv_ok {W : World} (h : W.ShapedOpen Tryz.prog) : GvOk gls (fun k => k < W.heap.size) W := fun g sz cs hg => by
  unfold gls at hg
  cases h1 : Nat.beq g 0 with
  | true =>
    obtain rfl := Nat.eq_of_beq_eq_true h1
    cases hg
    exact tab_gv h (g := 0) (n := 256) (zero := Array.replicate 256 (.int .u8 0)) (t := 223) (of_decide_eq_true (by kernel_rfl)) (by kernel_rfl) (by kernel_rfl)
  | false => rw [h1] at hg; cases hg
theorem relAgg {K : HV} {ys : List AV} {cs : Array Value} (h : RelL K ys (Value.agg cs).cells.toList) : RelI K (.agg ys) (.agg cs) := by
  have hc : (Value.agg cs).cells = cs := rfl
  rw [hc] at h
  refine .agg ys cs (by rw [h.1]; simp) (fun v hv => ?_) fun j a v ha hv => (h.2 j a v ha (by simpa using hv)).2
  obtain ⟨j, hj, rfl⟩ := Array.mem_iff_getElem.1 hv
  have hl : j < ys.length := by have := h.1; simp at this; omega
  obtain ⟨h1, h2⟩ := h.2 j ys[j] cs[j] (List.getElem?_eq_getElem hl) (by simp [hj])
  exact h2.oneCell h1
set_option maxRecDepth 100000 in
theorem contract (H : Type) (enc : TypeId × Value → H) (W : World) (base : Nat) (args : Array Value) (ds gs : List (DataW H)) (before : List MemPlace)
    (hval : ∀ (j : Nat) t v, Tryz.f3.params[j]? = some t → args[j]? = some v → Value.okWide Tryz.prog W .any base t v)
    (hW : DataW.Whole enc Tryz.prog Tryz.f3.params.toList Rows.flatmemOffsetsSpec.vars false W args.toList ds gs before)
    (hL : laidMetH Tryz.prog laidL W) (hS : W.ShapedOpen Tryz.prog) (hz : (DataW.weightsEach Tryz.prog (Tryz.f3.params.toList ++ Rows.flatmemOffsetsSpec.plain.varTypes Tryz.prog) (ds ++ gs)).all (· ≤ reachBytes) = true) :
    Calls Tryz.prog 3 args W fun e W' => ∃ v, e = .returned v ∧ Rows.flatmemOffsetsSpec.post enc Tryz.prog Tryz.f3 false true false false W args v W' := by
  have hW' := hW
  obtain ⟨p, q, hA0, hV, rfl, hfz, hnd⟩ := hW
  have hA : DataW.TrodAll enc Tryz.prog W 0 (fun _ => true) true Tryz.f3.params.toList args.toList ds p := hA0
  rw [Tryz.params3] at hA hval hz
  obtain ⟨v0, vs0, d0, ds0, p0, q0, hargs0, rfl, rfl, h0, r0⟩ := trodAll_cons hA
  obtain ⟨v1, vs1, d1, ds1, p1, q1, hargs1, rfl, rfl, h1, r1⟩ := trodAll_cons r0
  obtain ⟨v2, vs2, d2, ds2, p2, q2, hargs2, rfl, rfl, h2, r2⟩ := trodAll_cons r1
  obtain ⟨v3, vs3, d3, ds3, p3, q3, hargs3, rfl, rfl, h3, r3⟩ := trodAll_cons r2
  obtain ⟨rfl, rfl, rfl⟩ := trodAll_nil r3
  obtain rfl : args = #[v0, v1, v2, v3] := by cases args; simp_all
  obtain ⟨rfl, rfl⟩ := trodVars_none hV
  have hz1 : SzE Tryz.prog [25, 26, 9, 27] [d0, d1, d2, d3] := fun k hk => by
    have := List.all_eq_true.1 hz k hk
    simpa using this
  obtain ⟨z0, hz1⟩ := hz1.cons
  obtain ⟨z1, hz1⟩ := hz1.cons
  obtain ⟨z2, hz1⟩ := hz1.cons
  obtain ⟨z3, _⟩ := hz1.cons
  obtain ⟨c0, rfl, _⟩ := okWide_struct Tryz.underlying25 (hval 0 25 v0 rfl rfl)
  obtain ⟨a1, len1, cap1, rfl⟩ := okWide_slice u26 (hval 1 26 v1 rfl rfl)
  obtain ⟨s2, rfl⟩ := okWide_string u9 (hval 2 9 v2 rfl rfl)
  obtain ⟨a3, len3, cap3, rfl⟩ := okWide_slice u27 (hval 3 27 v3 rfl rfl)
  obtain ⟨x0, i0, x0r⟩ := Reads.arg (rd_gNest (enc := enc) (w := W) (base := 0) (spare := fun _ => true) (held := true)) h0
  obtain ⟨x1, i1, x1r⟩ := Reads.arg (fun n => (rzSlice egSlot u26 c26 (by decide) (fun _ => rfl) (rd_gSlot (enc := enc) (w := W) (base := 0) (spare := fun _ => true) (held := true) n)).le (Nat.le_succ _)) h1
  obtain ⟨x2, i2, x2r⟩ := Reads.arg (fun n => rzStr (enc := enc) (w := W) (base := 0) (spare := fun _ => true) (held := true) n u9) h2
  obtain ⟨x3, i3, x3r⟩ := Reads.arg (fun n => (rzSlice eI u27 c27 (by decide) (fun _ => rfl) (rzInt (enc := enc) (w := W) (base := 0) (spare := fun _ => true) (held := true) n u3)).le (Nat.le_succ _)) h3
  refine (law_callsP (bodied_enters (by kernel_rfl)) (P_law46_FlatmemOffsets x0 x1 x2 x3 true (s_law x0 x1 x2 x3 (i0 z0) (i1 z1).1)) (W := W) rfl (gls_ok hL) (gv_ok hS) fun j t v ht hv => ?_).mono fun e W' ⟨he, hb⟩ => ⟨_, he, post_true lawOk rfl hW' rfl hb⟩
  match j with
  | 0 => cases ht; cases hv; exact relAgg x0r
  | 1 => cases ht; cases hv; exact x1r.val1 (fun _ h => by cases h)
  | 2 => cases ht; cases hv; exact x2r.val1 (fun _ h => by cases h)
  | 3 => cases ht; cases hv; exact x3r.val1 (fun _ h => by cases h)
  | j + 4 => cases ht
set_option maxRecDepth 100000 in
theorem lifted (os : Os) (started : os.Started) (H : Type) (enc : TypeId × Value → H) :
    ReturnsInHanded {} Tryz.checked os 3 .any (fun w args => (Rows.flatmemOffsetsSpec.pre enc Tryz.prog Tryz.f3 [] false w args ∧ laidMetH Tryz.prog laidL w) ∧ sizedMet enc Tryz.prog Tryz.f3 (OpenSpec.ofChange Rows.flatmemOffsetsSpec) false w args)
      (Rows.flatmemOffsetsSpec.post enc Tryz.prog Tryz.f3 false true false false) := by
  refine handed_all (C := Tryz.checked) (X := fun w => laidMetH Tryz.prog laidL w) (fun _ _ hh h => h.of_heap hh) own started (by kernel_rfl) Tryz.func3
    (ChangeSpec.witness_shaped (enc := enc) (C := Tryz.checked) (os := os) (X := fun w _ => laidMetH Tryz.prog laidL w) false (World.laidAll Tryz.prog os laidL)
      #[.agg #[.slice none 0 0, .slice none 0 0], .slice none 0 0, .string ⟨#[]⟩, .slice none 0 0] 8 (World.laidAll_os _ _ _)
      (World.shaped_of_ZipB (by kernel_rfl) (by kernel_rfl)) (by kernel_rfl) (by kernel_rfl) (by kernel_rfl)
      (by rw [MakeChecks.laidMetH_plain _ _ _ (by kernel_rfl)]; exact laidMet_laidAll _ (by kernel_rfl) (by kernel_rfl))) ?_
  intro W base args ds gs before hval hW hL hS hz
  exact contract H enc W base args ds gs before hval hW hL hS hz
theorem row_holds : Rows.FlatmemOffsetsSaid :=
  OpenClaim.holds_of_wide 3 Tryz.f3 rfl rfl rfl rfl rfl rfl rfl ⟨rfl, rfl, rfl, rfl, rfl⟩ rfl rfl rfl rfl rfl (by kernel_rfl) Tryz.func3 (by kernel_rfl)
    (of_decide_eq_true (by kernel_rfl)) (by unfold Func.isWrapper; first | (rw [if_pos (by decide +kernel)]; kernel_rfl) | (rw [if_neg (by decide +kernel)]; exact ⟨rfl, rfl⟩))
    (fun os started H enc _ => lifted os started H enc)
theorem proved : Rows.FlatmemOffsetsCardSaid :=
  Claim7.holds_tied_plain_at .later [] [.listed, .data] true (true, "333be054e077089b417c4a586e74a300da14284fe10eb5447ace69be2ddc784b") false row_holds (fun _ h => by cases h) (by kernel_rfl) (fun _ h => by cases h) flatmemOffsets_row_tie rfl ⟨rfl, rfl⟩ (by kernel_rfl) rfl
    (fun f fn hf hfn => by
      obtain rfl : f = 3 := Option.some.inj ((show Tryz.prog.funcNamed "brocade/brocadelaw46.FlatmemOffsets" = some 3 by kernel_rfl).symm.trans hf) |>.symm
      obtain rfl : fn = Tryz.f3 := (Option.some.inj (Tryz.func3.symm.trans hfn)).symm
      exact ⟨by kernel_rfl, fun j t ht => by
        rw [Tryz.params3] at ht
        have hm : t ∈ [25, 26, 9, 27] := by simpa using Array.mem_of_getElem? ht
        have hall : ([25, 26, 9, 27].all fun u => !Tryz.prog.wantsStandIn u) = true := by kernel_rfl
        exact (show Tryz.prog.wantsStandIn t = false by simpa using List.all_eq_true.1 hall t hm)⟩)
    (by kernel_rfl)
#print axioms proved
end Go.Proofs.YtpmdnjbodikfbaaGreatDoor
end
