/- A part of the proof of the statement that the last of these texts proves. -/
import Derived.Test.YtfpegbpngbchfaaGreatDoorP4
import Derived.Lib.Bytealg
set_option linter.unusedVariables false
set_option linter.unusedSimpArgs false
section
namespace Go.Proofs.YtfpegbpngbchfaaGreatDoor
open Go HY
set_option maxRecDepth 1000000
set_option linter.unusedVariables false
def A_base_Weigh_L7 (s : (Int × gExprS)) (u : Int) (o : Int) : List Alt := [⟨fun (x : Int) => x = o, .exit 2, fun x => [.int .i64 s.1, .ptr 0 0 0, .int .i64 x, .int .i64 u], fun x => [.cells 0 (hgExpr s.2).cells]⟩]
def A_base_Weigh_J5000007 (s : (Int × gExprS × Int)) (u : (Int × Int)) (o : Bool) : List Alt := [⟨fun (x : Unit) => true = o, .normal, fun x => [.int .i64 (s.1), .ptr 0 0 0, .int .i64 (u.1), .int .i64 (s.2.2), .int .i64 (u.2), .bool true], fun x => [.cells 0 (hgExpr (s.2.1)).cells]⟩, ⟨fun (x : Unit) => false = o, .normal, fun x => [.int .i64 (s.1), .ptr 0 0 0, .int .i64 (u.1), .int .i64 (s.2.2), .int .i64 (u.2), .bool false], fun x => [.cells 0 (hgExpr (s.2.1)).cells]⟩]
noncomputable def F_base_Weigh_L7 (x1 : Int) (x2 : gExprS) (x5 : Int) (x6 : Int) (x7 : Int) : Option Int :=
 some (x5, x7) >>= fun v0 =>
 (ix x2.fIdx x6 >>= fun v2 =>
 some (List.length v2.fAt : Int) >>= fun v3 =>
 if x7 < v3 then
 if x5 ≤ x1 then
 some true
 else
 some false
 else
 some false) >>= fun v1 => if v1 then
 ix x2.fIdx x6 >>= fun v5 =>
 ix v5.fAt v0.snd >>= fun v6 =>
 some (List.length v6.fL : Int) >>= fun v7 =>
 some (IntKind.i64.wrap (v0.fst + v7) : Int) >>= fun v8 =>
 F_base_Weigh_L7 x1 x2 v8 x6 (IntKind.i64.wrap (v0.snd + (1 : Int)))
 else
 some v0.fst
  partial_fixpoint
theorem P_base_Weigh_L7 (x1 : Int) (x2 : gExprS) (x5 : Int) (x6 : Int) (x7 : Int) (o : Int) (h : F_base_Weigh_L7 x1 x2 x5 x6 x7 = some o) : LO 25 7 101 [1, 2, 5, 6, 7] [.int .i64 x1, .ptr 0 0 0, .int .i64 x5, .int .i64 x6, .int .i64 x7] [.cells 0 (hgExpr x2).cells] [1, 2, 5, 6] (A_base_Weigh_L7 (x1, x2) x6 o) :=
  F_base_Weigh_L7.partial_correctness x1 x2 x6 (fun x5 x7 o => LO 25 7 101 [1, 2, 5, 6, 7] [.int .i64 x1, .ptr 0 0 0, .int .i64 x5, .int .i64 x6, .int .i64 x7] [.cells 0 (hgExpr x2).cells] [1, 2, 5, 6] (A_base_Weigh_L7 (x1, x2) x6 o))
  (fun F_base_Weigh_L7 ih_base_Weigh_L7 x5 x7 o h  =>
  Lp1 (hs := [(5, .n eI 5 none), (5, .n eI 5 none), (52, .e egIndex), (55, .n eI 55 none), (56, .split), (60, .split), (68, .e egIndex), (72, .e egLin), (75, .n eI 75 none), (5, .n eI 5 none), (5, .n eI 5 none), (5000007, .l [] [] [] [1, 2, 5, 6, 7, 61] [{ slot := 2 }] (A_base_Weigh_J5000007 (x1, x2, x6)))]) (kb := [{ slot := 2 }]) (kbx := [{ slot := 2 }]) (by kernel_rfl) (by kernel_rfl) ((kJb (id := 5000007) (x5, x7) (fun v0 ev0 v1 => (kIx (enc := egIndex) (l := x2.fIdx) (k := x6) fun v2 => (kN _ (mLen (sh := egLin) v2.fAt) fun v3 => (kIfD (p := x7 < v3) (kIfD (p := x5 ≤ x1) (kXj (alts := A_base_Weigh_J5000007 (x1, x2, x6)) ev0 true (.here () rfl (.refl _) (.refl _)))
 (kXj (alts := A_base_Weigh_J5000007 (x1, x2, x6)) ev0 false (.next (.here () rfl (.refl _) (.refl _)))))
 (kXj (alts := A_base_Weigh_J5000007 (x1, x2, x6)) ev0 false (.next (.here () rfl (.refl _) (.refl _))))))))
 (fun v0 => (kIx (enc := egIndex) (l := x2.fIdx) (k := x6) fun v5 => (kIx (enc := egLin) (l := v5.fAt) (k := v0.snd) fun v6 => (kN _ (mLen (sh := egMono) v6.fL) fun v7 => (kN (IntKind.i64.wrap (v0.fst + v7)) rfl fun v8 => (kM0 (alts := A_base_Weigh_L7 (x1, x2) x6) (ih_base_Weigh_L7 v8 (IntKind.i64.wrap (v0.snd + (1 : Int))))))))))
 (fun v0 => (kX (alts := A_base_Weigh_L7 (x1, x2) x6) v0.fst (.here _ rfl (.refl _) (.refl _))))) h)) x5 x7 o h
def A_base_Weigh_L3 (s : (Int × gExprS)) (u : Unit) (o : Int) : List Alt := [⟨fun (x : Int) => x = o, .exit 0, fun x => [.int .i64 s.1, .ptr 0 0 0, .int .i64 x], fun x => [.cells 0 (hgExpr s.2).cells]⟩]
def A_base_Weigh_J5000003 (s : (Int × gExprS)) (u : (Int × Int)) (o : Bool) : List Alt := [⟨fun (x : Unit) => true = o, .normal, fun x => [.int .i64 (s.1), .ptr 0 0 0, .int .i64 (u.1), .int .i64 (u.2), .bool true], fun x => [.cells 0 (hgExpr (s.2)).cells]⟩, ⟨fun (x : Unit) => false = o, .normal, fun x => [.int .i64 (s.1), .ptr 0 0 0, .int .i64 (u.1), .int .i64 (u.2), .bool false], fun x => [.cells 0 (hgExpr (s.2)).cells]⟩]
noncomputable def F_base_Weigh_L3 (x1 : Int) (x2 : gExprS) (x5 : Int) (x6 : Int) : Option Int :=
 some (x5, x6) >>= fun v0 =>
 (some (List.length x2.fIdx : Int) >>= fun v2 =>
 if x6 < v2 then
 if x5 ≤ x1 then
 some true
 else
 some false
 else
 some false) >>= fun v1 => if v1 then
 ix x2.fIdx v0.snd >>= fun v4 =>
 ix x2.fIdx v0.snd >>= fun v5 =>
 some (List.length v4.fLin.fL : Int) >>= fun v6 =>
 some (List.length v5.fAt : Int) >>= fun v7 =>
 some (IntKind.i64.wrap (IntKind.i64.wrap (v0.fst + (↑(List.map egMono v4.fLin.fL).length : Int)) + v7) : Int) >>= fun v8 =>
 some v0.snd >>= fun v9 =>
 F_base_Weigh_L7 x1 x2 v8 v0.snd (0 : Int) >>= fun v11 =>
 F_base_Weigh_L3 x1 x2 v11 (IntKind.i64.wrap (v9 + (1 : Int)))
 else
 some v0.fst
  partial_fixpoint
theorem P_base_Weigh_L3 (x1 : Int) (x2 : gExprS) (x5 : Int) (x6 : Int) (o : Int) (h : F_base_Weigh_L3 x1 x2 x5 x6 = some o) : LO 25 3 101 [1, 2, 5, 6] [.int .i64 x1, .ptr 0 0 0, .int .i64 x5, .int .i64 x6] [.cells 0 (hgExpr x2).cells] [1, 2, 5] (A_base_Weigh_L3 (x1, x2) () o) :=
  F_base_Weigh_L3.partial_correctness x1 x2 (fun x5 x6 o => LO 25 3 101 [1, 2, 5, 6] [.int .i64 x1, .ptr 0 0 0, .int .i64 x5, .int .i64 x6] [.cells 0 (hgExpr x2).cells] [1, 2, 5] (A_base_Weigh_L3 (x1, x2) () o))
  (fun F_base_Weigh_L3 ih_base_Weigh_L3 x5 x6 o h  =>
  Lp1 (hs := [(5, .n eI 5 none), (21, .n eI 21 none), (22, .split), (26, .split), (34, .e egIndex), (38, .n eI 38 none), (43, .e egIndex), (46, .n eI 46 none), (5, .n eI 5 none), (5, .n eI 5 none), (5, .n eI 5 none), (3000008, .l [] [1, 2, 5, 6, 7] [{ slot := 2 }] [1, 2, 5, 6] [{ slot := 2 }] (A_base_Weigh_L7 (x1, x2))), (5000003, .l [] [] [] [1, 2, 5, 6, 27] [{ slot := 2 }] (A_base_Weigh_J5000003 (x1, x2)))]) (kb := [{ slot := 2 }]) (kbx := [{ slot := 2 }]) (by kernel_rfl) (by kernel_rfl) ((kJb (id := 5000003) (x5, x6) (fun v0 ev0 v1 => (kN _ (mLen (sh := egIndex) x2.fIdx) fun v2 => (kIfD (p := x6 < v2) (kIfD (p := x5 ≤ x1) (kXj (alts := A_base_Weigh_J5000003 (x1, x2)) ev0 true (.here () rfl (.refl _) (.refl _)))
 (kXj (alts := A_base_Weigh_J5000003 (x1, x2)) ev0 false (.next (.here () rfl (.refl _) (.refl _)))))
 (kXj (alts := A_base_Weigh_J5000003 (x1, x2)) ev0 false (.next (.here () rfl (.refl _) (.refl _)))))))
 (fun v0 => (kIx (enc := egIndex) (l := x2.fIdx) (k := v0.snd) fun v4 => (kIx (enc := egIndex) (l := x2.fIdx) (k := v0.snd) fun v5 => (kN _ (mLen (sh := egMono) v4.fLin.fL) fun v6 => (kN _ (mLen (sh := egLin) v5.fAt) fun v7 => (kN (IntKind.i64.wrap (IntKind.i64.wrap (v0.fst + (↑(List.map egMono v4.fLin.fL).length : Int)) + v7)) rfl fun v8 => (kL1 v0.snd (P_base_Weigh_L7 x1 x2 v8 v0.snd (0 : Int)) fun v9 v11 => (kM0 (alts := A_base_Weigh_L3 (x1, x2) ()) (ih_base_Weigh_L3 v11 (IntKind.i64.wrap (v9 + (1 : Int))))))))))))
 (fun v0 => (kX (alts := A_base_Weigh_L3 (x1, x2) ()) v0.fst (.here _ rfl (.refl _) (.refl _))))) h)) x5 x6 o h
def A_base_Weigh_L11 (s : (Int × gExprS)) (u : Unit) (o : Int) : List Alt := [⟨fun (x : Int) => x = o, .exit 4, fun x => [.int .i64 x], fun x => []⟩]
def A_base_Weigh_J5000011 (s : (Int × gExprS)) (u : (Int × Int)) (o : Bool) : List Alt := [⟨fun (x : Unit) => true = o, .normal, fun x => [.int .i64 (s.1), .ptr 0 0 0, .int .i64 (u.1), .int .i64 (u.2), .bool true], fun x => [.cells 0 (hgExpr (s.2)).cells]⟩, ⟨fun (x : Unit) => false = o, .normal, fun x => [.int .i64 (s.1), .ptr 0 0 0, .int .i64 (u.1), .int .i64 (u.2), .bool false], fun x => [.cells 0 (hgExpr (s.2)).cells]⟩]
mutual
noncomputable def F_base_Weigh (x0 : gExprS) (x1 : Int) : Option Int :=
 some (List.length x0.fLin.fL : Int) >>= fun v0 =>
 some (List.length x0.fIdx : Int) >>= fun v1 =>
 some (IntKind.i64.wrap (IntKind.i64.wrap ((1 : Int) + v0) + v1) : Int) >>= fun v2 =>
 some () >>= fun v3 =>
 F_base_Weigh_L3 x1 x0 v2 (0 : Int) >>= fun v5 =>
 some () >>= fun v6 =>
 F_base_Weigh_L11 x1 x0 v5 (0 : Int) >>= fun v8 =>
 some v8
  partial_fixpoint
noncomputable def F_base_Weigh_L11 (x1 : Int) (x2 : gExprS) (x5 : Int) (x8 : Int) : Option Int :=
 some (x5, x8) >>= fun v0 =>
 (some (List.length x2.fArgs : Int) >>= fun v2 =>
 if x8 < v2 then
 if x5 ≤ x1 then
 some true
 else
 some false
 else
 some false) >>= fun v1 => if v1 then
 Option.map gExpr.f (ix x2.fArgs v0.snd) >>= fun v4 =>
 F_base_Weigh v4 (IntKind.i64.wrap (x1 - v0.fst)) >>= fun v5 =>
 some (IntKind.i64.wrap (v0.fst + v5) : Int) >>= fun v6 =>
 F_base_Weigh_L11 x1 x2 v6 (IntKind.i64.wrap (v0.snd + (1 : Int)))
 else
 some v0.fst
  partial_fixpoint
end
theorem PM_base_Weigh  : (∀ (x0 : gExprS) (x1 : Int) (r : Int), F_base_Weigh x0 x1 = some r → PU 25 [hgExpr x0, eI x1] (eI r)) ∧ (∀ (x1 : Int) (x2 : gExprS) (x5 : Int) (x8 : Int) (o : Int), F_base_Weigh_L11 x1 x2 x5 x8 = some o → LO 25 11 101 [1, 2, 5, 8] [.int .i64 x1, .ptr 0 0 0, .int .i64 x5, .int .i64 x8] [.cells 0 (hgExpr x2).cells] [5] (A_base_Weigh_L11 (x1, x2) () o)) :=
  F_base_Weigh.mutual_partial_correctness  (fun x0 x1 r => PU 25 [hgExpr x0, eI x1] (eI r)) (fun x1 x2 x5 x8 o => LO 25 11 101 [1, 2, 5, 8] [.int .i64 x1, .ptr 0 0 0, .int .i64 x5, .int .i64 x8] [.cells 0 (hgExpr x2).cells] [5] (A_base_Weigh_L11 (x1, x2) () o))
  (fun F_base_Weigh_L11 ih_base_Weigh_L11 x0 x1 r h  =>
  Pu1 (hs := [(12, .n eI 12 none), (16, .n eI 16 none), (5, .n eI 5 none), (5, .n eI 5 none), (5, .n eI 5 none), (5, .n eI 5 none), (3000012, .l [] [1, 2, 5, 8] [{ slot := 2 }] [5] [] (A_base_Weigh_L11 (x1, x0))), (3000004, .l [] [1, 2, 5, 6] [{ slot := 2 }] [1, 2, 5] [{ slot := 2 }] (A_base_Weigh_L3 (x1, x0)))]) (by kernel_rfl) ((kN _ (mLen (sh := egMono) x0.fLin.fL) fun v0 => (kN _ (mLen (sh := egIndex) x0.fIdx) fun v1 => (kN (IntKind.i64.wrap (IntKind.i64.wrap ((1 : Int) + v0) + v1)) rfl fun v2 => (kL1 () (P_base_Weigh_L3 x1 x0 v2 (0 : Int)) fun v3 v5 => (kL1 () (ih_base_Weigh_L11 x1 x0 v5 (0 : Int)) fun v6 v8 => (kEr (enc := eI) v8)))))) h))
  (fun F_base_Weigh F_base_Weigh_L11 ih_base_Weigh ih_base_Weigh_L11 x1 x2 x5 x8 o h  =>
  Lp1 (hs := [(5, .n eI 5 none), (5, .n eI 5 none), (5, .n eI 5 none), (80, .n eI 80 none), (81, .split), (85, .split), (93, .e hgExpr), (98, .c eI), (5, .n eI 5 none), (5000011, .l [] [] [] [1, 2, 5, 8, 86] [{ slot := 2 }] (A_base_Weigh_J5000011 (x1, x2)))]) (kb := [{ slot := 2 }]) (kbx := []) (by kernel_rfl) (by kernel_rfl) ((kJb (id := 5000011) (x5, x8) (fun v0 ev0 v1 => (kN _ (mLen (sh := egExpr) x2.fArgs) fun v2 => (kIfD (p := x8 < v2) (kIfD (p := x5 ≤ x1) (kXj (alts := A_base_Weigh_J5000011 (x1, x2)) ev0 true (.here () rfl (.refl _) (.refl _)))
 (kXj (alts := A_base_Weigh_J5000011 (x1, x2)) ev0 false (.next (.here () rfl (.refl _) (.refl _)))))
 (kXj (alts := A_base_Weigh_J5000011 (x1, x2)) ev0 false (.next (.here () rfl (.refl _) (.refl _)))))))
 (fun v0 => (kIxR (l := x2.fArgs) (k := v0.snd) egExpr_f fun v4 => (kC (sh := eI) (ih_base_Weigh v4 (IntKind.i64.wrap (x1 - v0.fst))) fun v5 => (kN (IntKind.i64.wrap (v0.fst + v5)) rfl fun v6 => (kM0 (alts := A_base_Weigh_L11 (x1, x2) ()) (ih_base_Weigh_L11 x1 x2 v6 (IntKind.i64.wrap (v0.snd + (1 : Int)))))))))
 (fun v0 => (kX (alts := A_base_Weigh_L11 (x1, x2) ()) v0.fst (.here _ rfl (.refl _) (.refl _))))) h))
theorem P_base_Weigh (x0 : gExprS) (x1 : Int) (r : Int) (h : F_base_Weigh x0 x1 = some r) : PU 25 [hgExpr x0, eI x1] (eI r) := (PM_base_Weigh ).1 x0 x1 r h
theorem P_base_Weigh_L11 (x1 : Int) (x2 : gExprS) (x5 : Int) (x8 : Int) (o : Int) (h : F_base_Weigh_L11 x1 x2 x5 x8 = some o) : LO 25 11 101 [1, 2, 5, 8] [.int .i64 x1, .ptr 0 0 0, .int .i64 x5, .int .i64 x8] [.cells 0 (hgExpr x2).cells] [5] (A_base_Weigh_L11 (x1, x2) () o) := (PM_base_Weigh ).2 x1 x2 x5 x8 o h
def A_base_WeighStmts_L3 (s : ((List gStmt) × Int)) (u : Unit) (o : Int) : List Alt := [⟨fun (x : Int) => x = o, .exit 0, fun x => [.int .i64 x], fun x => []⟩]
def A_base_WeighStmts_J5000003 (s : ((List gStmt) × Int)) (u : (Int × Int)) (o : Bool) : List Alt := [⟨fun (x : Unit) => true = o, .normal, fun x => [.sl 20 (List.map egStmt (s.1)), .int .i64 (s.2), .int .i64 (u.1), .int .i64 (u.2), .bool true], fun x => []⟩, ⟨fun (x : Unit) => false = o, .normal, fun x => [.sl 20 (List.map egStmt (s.1)), .int .i64 (s.2), .int .i64 (u.1), .int .i64 (u.2), .bool false], fun x => []⟩]
mutual
noncomputable def F_base_WeighStmts (x0 : List gStmt) (x1 : Int) : Option Int :=
 some (List.length x0 : Int) >>= fun v0 =>
 some (v0 : Int) >>= fun v1 =>
 some () >>= fun v2 =>
 F_base_WeighStmts_L3 x0 x1 v1 (0 : Int) >>= fun v4 =>
 some v4
  partial_fixpoint
noncomputable def F_base_WeighStmts_L3 (x0 : List gStmt) (x1 : Int) (x5 : Int) (x6 : Int) : Option Int :=
 some (x5, x6) >>= fun v0 =>
 (some (List.length x0 : Int) >>= fun v2 =>
 if x6 < v2 then
 if x5 ≤ x1 then
 some true
 else
 some false
 else
 some false) >>= fun v1 => if v1 then
 Option.map gStmt.f (ix x0 v0.snd) >>= fun v4 =>
 F_base_Weigh v4.fExpr x1 >>= fun v5 =>
 Option.map gStmt.f (ix x0 v0.snd) >>= fun v6 =>
 F_base_Weigh (gExprF.mk (0 : Int) [] (gVal.mk (0 : Int) (0 : Int)) (gType.mk (0 : Int) (0 : Int) (0 : Int) (0 : Int) (0 : Int)) (gLin.mk (0 : Int) []) v6.fIdx [] : gExprS) x1 >>= fun v7 =>
 Option.map gStmt.f (ix x0 v0.snd) >>= fun v8 =>
 F_base_WeighStmts v8.fBody (if true = true then max (0 : Int) (IntKind.i64.wrap (x1 - v0.fst)) else min (0 : Int) (IntKind.i64.wrap (x1 - v0.fst))) >>= fun v9 =>
 some ((gExprF.mk (0 : Int) [] (gVal.mk (0 : Int) (0 : Int)) (gType.mk (0 : Int) (0 : Int) (0 : Int) (0 : Int) (0 : Int)) (gLin.mk (0 : Int) []) v6.fIdx [] : gExprS)) >>= fun v10 =>
 some (IntKind.i64.wrap (IntKind.i64.wrap (IntKind.i64.wrap (v0.fst + v5) + v7) + v9) : Int) >>= fun v11 =>
 F_base_WeighStmts_L3 x0 x1 v11 (IntKind.i64.wrap (v0.snd + (1 : Int)))
 else
 some v0.fst
  partial_fixpoint
end
theorem PM_base_WeighStmts  : (∀ (x0 : List gStmt) (x1 : Int) (r : Int), F_base_WeighStmts x0 x1 = some r → PU 9 [eLgStmt x0, eI x1] (eI r)) ∧ (∀ (x0 : List gStmt) (x1 : Int) (x5 : Int) (x6 : Int) (o : Int), F_base_WeighStmts_L3 x0 x1 x5 x6 = some o → LO 9 3 50 [0, 1, 5, 6] [.sl 20 (List.map egStmt x0), .int .i64 x1, .int .i64 x5, .int .i64 x6] [] [5] (A_base_WeighStmts_L3 (x0, x1) () o)) :=
  F_base_WeighStmts.mutual_partial_correctness  (fun x0 x1 r => PU 9 [eLgStmt x0, eI x1] (eI r)) (fun x0 x1 x5 x6 o => LO 9 3 50 [0, 1, 5, 6] [.sl 20 (List.map egStmt x0), .int .i64 x1, .int .i64 x5, .int .i64 x6] [] [5] (A_base_WeighStmts_L3 (x0, x1) () o))
  (fun F_base_WeighStmts_L3 ih_base_WeighStmts_L3 x0 x1 r h  =>
  Pu1 (hs := [(8, .n eI 8 none), (5, .n eI 5 none), (3000004, .l [] [0, 1, 5, 6] [] [5] [] (A_base_WeighStmts_L3 (x0, x1)))]) (by kernel_rfl) ((kN _ (mLen (sh := egStmt) x0) fun v0 => (kN v0 rfl fun v1 => (kL1 () (ih_base_WeighStmts_L3 x0 x1 v1 (0 : Int)) fun v2 v4 => (kEr (enc := eI) v4)))) h))
  (fun F_base_WeighStmts F_base_WeighStmts_L3 ih_base_WeighStmts ih_base_WeighStmts_L3 x0 x1 x5 x6 o h  =>
  Lp1 (hs := [(11, .n eI 11 none), (12, .split), (16, .split), (23, .e hgStmt), (27, .c eI), (31, .e hgStmt), (34, .n hgExpr 34 none), (36, .c eI), (40, .e hgStmt), (47, .c eI), (5, .n eI 5 none), (5000003, .l [] [] [] [0, 1, 5, 6, 17] [] (A_base_WeighStmts_J5000003 (x0, x1)))]) (kb := []) (kbx := []) (by kernel_rfl) (by kernel_rfl) ((kJb (id := 5000003) (x5, x6) (fun v0 ev0 v1 => (kN _ (mLen (sh := egStmt) x0) fun v2 => (kIfD (p := x6 < v2) (kIfD (p := x5 ≤ x1) (kXj (alts := A_base_WeighStmts_J5000003 (x0, x1)) ev0 true (.here () rfl (.refl _) (.refl _)))
 (kXj (alts := A_base_WeighStmts_J5000003 (x0, x1)) ev0 false (.next (.here () rfl (.refl _) (.refl _)))))
 (kXj (alts := A_base_WeighStmts_J5000003 (x0, x1)) ev0 false (.next (.here () rfl (.refl _) (.refl _)))))))
 (fun v0 => (kIxR (l := x0) (k := v0.snd) egStmt_f fun v4 => (kC (sh := eI) (P_base_Weigh v4.fExpr x1) fun v5 => (kIxR (l := x0) (k := v0.snd) egStmt_f fun v6 => (kC (sh := eI) (fun y hy => Pu.le (P_base_Weigh (gExprF.mk (0 : Int) [] (gVal.mk (0 : Int) (0 : Int)) (gType.mk (0 : Int) (0 : Int) (0 : Int) (0 : Int) (0 : Int)) (gLin.mk (0 : Int) []) v6.fIdx [] : gExprS) x1 y hy) (.cons (LeT.agg (.cons (LeT.refl (AV.int IntKind.i64 (0 : Int))) (.cons (LeT.refl (AV.str [])) (.cons (LeT.refl (AV.int IntKind.i64 (0 : Int))) (.cons (LeT.refl (AV.int IntKind.i64 (0 : Int))) (.cons (LeT.refl (AV.int IntKind.i64 (0 : Int))) (.cons (LeT.refl (AV.int IntKind.i64 (0 : Int))) (.cons (LeT.refl (AV.int IntKind.i64 (0 : Int))) (.cons (LeT.refl (AV.int IntKind.i64 (0 : Int))) (.cons (LeT.refl (AV.int IntKind.i64 (0 : Int))) (.cons (LeT.refl (AV.int IntKind.i64 (0 : Int))) (.cons (LeT.nil 2) (.cons (LeT.refl (AV.sl (4 : Nat) (List.map egIndex v6.fIdx))) (.cons (LeT.nil 13) .nil)))))))))))))) (.cons (LeT.refl (AV.int IntKind.i64 x1)) .nil)) (LeT.refl _)) fun v7 => (kIxR (l := x0) (k := v0.snd) egStmt_f fun v8 => (kC (sh := eI) (ih_base_WeighStmts v8.fBody (if true = true then max (0 : Int) (IntKind.i64.wrap (x1 - v0.fst)) else min (0 : Int) (IntKind.i64.wrap (x1 - v0.fst)))) fun v9 => (kW (sh := hgExpr) (gExprF.mk (0 : Int) [] (gVal.mk (0 : Int) (0 : Int)) (gType.mk (0 : Int) (0 : Int) (0 : Int) (0 : Int) (0 : Int)) (gLin.mk (0 : Int) []) v6.fIdx [] : gExprS) (LeV.agg (.cons (LeV.refl (AV.int IntKind.i64 (0 : Int))) (.cons (LeV.refl (AV.str [])) (.cons (LeV.refl (AV.int IntKind.i64 (0 : Int))) (.cons (LeV.refl (AV.int IntKind.i64 (0 : Int))) (.cons (LeV.refl (AV.int IntKind.i64 (0 : Int))) (.cons (LeV.refl (AV.int IntKind.i64 (0 : Int))) (.cons (LeV.refl (AV.int IntKind.i64 (0 : Int))) (.cons (LeV.refl (AV.int IntKind.i64 (0 : Int))) (.cons (LeV.refl (AV.int IntKind.i64 (0 : Int))) (.cons (LeV.refl (AV.int IntKind.i64 (0 : Int))) (.cons (LeV.nil 2) (.cons (LeV.refl (AV.sl (4 : Nat) (List.map egIndex v6.fIdx))) (.cons (LeV.nil 13) .nil)))))))))))))) fun v10 => (kN (IntKind.i64.wrap (IntKind.i64.wrap (IntKind.i64.wrap (v0.fst + v5) + v7) + v9)) rfl fun v11 => (kM0 (alts := A_base_WeighStmts_L3 (x0, x1) ()) (ih_base_WeighStmts_L3 x0 x1 v11 (IntKind.i64.wrap (v0.snd + (1 : Int))))))))))))))
 (fun v0 => (kX (alts := A_base_WeighStmts_L3 (x0, x1) ()) v0.fst (.here _ rfl (.refl _) (.refl _))))) h))
theorem P_base_WeighStmts (x0 : List gStmt) (x1 : Int) (r : Int) (h : F_base_WeighStmts x0 x1 = some r) : PU 9 [eLgStmt x0, eI x1] (eI r) := (PM_base_WeighStmts ).1 x0 x1 r h
theorem P_base_WeighStmts_L3 (x0 : List gStmt) (x1 : Int) (x5 : Int) (x6 : Int) (o : Int) (h : F_base_WeighStmts_L3 x0 x1 x5 x6 = some o) : LO 9 3 50 [0, 1, 5, 6] [.sl 20 (List.map egStmt x0), .int .i64 x1, .int .i64 x5, .int .i64 x6] [] [5] (A_base_WeighStmts_L3 (x0, x1) () o) := (PM_base_WeighStmts ).2 x0 x1 x5 x6 o h
def A_law30_short_L2 (s : List gStmt) (u : Unit) (o : Unit ⊕ Bool) : List Alt := [⟨fun (x : Unit) => (Sum.inl x : Unit ⊕ Bool) = o, .exit 0, fun x => [.undef], fun x => []⟩, ⟨fun (x : Bool) => (Sum.inr x : Unit ⊕ Bool) = o, .ret, fun x => [.bool x], fun x => []⟩]
def A_law30_short_J5000004 (s : List gStmt) (u : Int) (o : Bool) : List Alt := [⟨fun (x : Unit) => true = o, .normal, fun x => [.sl 20 (List.map egStmt s), .int .i64 u, .bool true], fun x => []⟩, ⟨fun (x : Unit) => false = o, .normal, fun x => [.sl 20 (List.map egStmt s), .int .i64 u, .bool false], fun x => []⟩]
mutual
noncomputable def F_law30_short (x0 : List gStmt) : Option Bool :=
 some () >>= fun v0 =>
 F_law30_short_L2 x0 (0 : Int) >>= fun v1 => (match v1 with
 | (.inl v2) =>
 some true
 | (.inr v3) =>
 some v3)
  partial_fixpoint
noncomputable def F_law30_short_L2 (x0 : List gStmt) (x3 : Int) : Option (Unit ⊕ Bool) :=
 some (List.length x0 : Int) >>= fun v0 =>
 if x3 < v0 then
 some x3 >>= fun v1 =>
 (Option.map gStmt.f (ix x0 x3) >>= fun v3 =>
 if (100 : Int) < (↑(List.length v3.fName) : Int) then
 some true
 else
 Option.map gStmt.f (ix x0 x3) >>= fun v4 =>
 some (List.length v4.fIdx : Int) >>= fun v5 =>
 if (20 : Int) < v5 then
 some true
 else
 Option.map gStmt.f (ix x0 x3) >>= fun v6 =>
 F_law30_short v6.fBody >>= fun v7 => if v7 then
 some false
 else
 some true) >>= fun v2 => if v2 then
 some (.inr false)
 else
 F_law30_short_L2 x0 (IntKind.i64.wrap (v1 + (1 : Int)))
 else
 some (.inl ())
  partial_fixpoint
end
theorem PM_law30_short  : (∀ (x0 : List gStmt) (r : Bool), F_law30_short x0 = some r → PU 10 [eLgStmt x0] (eB r)) ∧ (∀ (x0 : List gStmt) (x3 : Int) (o : Unit ⊕ Bool), F_law30_short_L2 x0 x3 = some o → LO 10 2 35 [0, 3] [.sl 20 (List.map egStmt x0), .int .i64 x3] [] [2] (A_law30_short_L2 x0 () o)) :=
  F_law30_short.mutual_partial_correctness  (fun x0 r => PU 10 [eLgStmt x0] (eB r)) (fun x0 x3 o => LO 10 2 35 [0, 3] [.sl 20 (List.map egStmt x0), .int .i64 x3] [] [2] (A_law30_short_L2 x0 () o))
  (fun F_law30_short_L2 ih_law30_short_L2 x0 r h  =>
  Pu1 (hs := [(3000003, .l [] [0, 3] [] [2] [] (A_law30_short_L2 x0))]) (by kernel_rfl) ((kL2 () (hL := (ih_law30_short_L2 x0 (0 : Int))) (hA := fun v0 v2 => (kEr (enc := eB) true))
 (hB := fun v0 v3 => (kEr (enc := eB) v3))) h))
  (fun F_law30_short F_law30_short_L2 ih_law30_short ih_law30_short_L2 x0 x3 o h  =>
  Lp1 (hs := [(6, .n eI 6 none), (7, .split), (12, .e hgStmt), (16, .split), (20, .e hgStmt), (23, .n eI 23 none), (24, .split), (29, .e hgStmt), (32, .cb), (5000004, .l [] [] [] [0, 3, 34] [] (A_law30_short_J5000004 x0))]) (kb := []) (kbx := []) (by kernel_rfl) (by kernel_rfl) ((kN _ (mLen (sh := egStmt) x0) fun v0 => (kIfD (p := x3 < v0) (kJb (id := 5000004) x3 (fun v1 ev1 v2 => (kIxR (l := x0) (k := x3) egStmt_f fun v3 => (kIfD (p := (100 : Int) < (↑(List.length v3.fName) : Int)) (kXj (alts := A_law30_short_J5000004 x0) ev1 true (.here () rfl (.refl _) (.refl _)))
 (kIxR (l := x0) (k := x3) egStmt_f fun v4 => (kN _ (mLen (sh := egIndex) v4.fIdx) fun v5 => (kIfD (p := (20 : Int) < v5) (kXj (alts := A_law30_short_J5000004 x0) ev1 true (.here () rfl (.refl _) (.refl _)))
 (kIxR (l := x0) (k := x3) egStmt_f fun v6 => (kCb (ih_law30_short v6.fBody) (kXj (alts := A_law30_short_J5000004 x0) ev1 false (.next (.here () rfl (.refl _) (.refl _))))
 (kXj (alts := A_law30_short_J5000004 x0) ev1 true (.here () rfl (.refl _) (.refl _)))))))))))
 (fun v1 => (kX (alts := A_law30_short_L2 x0 ()) (.inr false) (.next (.here _ rfl (.refl _) (.refl _)))))
 (fun v1 => (kM0 (alts := A_law30_short_L2 x0 ()) (ih_law30_short_L2 x0 (IntKind.i64.wrap (v1 + (1 : Int)))))))
 (kX (alts := A_law30_short_L2 x0 ()) (.inl ()) (.here _ rfl (.refl _) (.refl _))))) h))
theorem P_law30_short (x0 : List gStmt) (r : Bool) (h : F_law30_short x0 = some r) : PU 10 [eLgStmt x0] (eB r) := (PM_law30_short ).1 x0 r h
theorem P_law30_short_L2 (x0 : List gStmt) (x3 : Int) (o : Unit ⊕ Bool) (h : F_law30_short_L2 x0 x3 = some o) : LO 10 2 35 [0, 3] [.sl 20 (List.map egStmt x0), .int .i64 x3] [] [2] (A_law30_short_L2 x0 () o) := (PM_law30_short ).2 x0 x3 o h
noncomputable def F_law30_FewStmts (x0 : List gStmt) (x1 : Int) : Option Bool :=
 F_base_WeighStmts x0 x1 >>= fun v0 =>
 if v0 ≤ x1 then
 F_law30_short x0 >>= fun v1 =>
 some v1
 else
 some false
theorem P_law30_FewStmts (x0 : List gStmt) (x1 : Int) (r : Bool) (h : F_law30_FewStmts x0 x1 = some r) : PU 5 [eLgStmt x0, eI x1] (eB r) :=
  Pu1 (hs := [(7, .c eI), (9, .split), (12, .c eB)]) (by kernel_rfl) ((kC (sh := eI) (P_base_WeighStmts x0 x1) fun v0 => (kIfD (p := v0 ≤ x1) (kC (sh := eB) (P_law30_short x0) fun v1 => (kEr (enc := eB) v1))
 (kEr (enc := eB) false))) h)
def A_law30_Few_L4 (s : (Int × gNest)) (u : Unit) (o : Unit ⊕ Bool) : List Alt := [⟨fun (x : Unit) => (Sum.inl x : Unit ⊕ Bool) = o, .exit 0, fun x => [.int .i64 s.1, .ptr 0 0 0, .undef], fun x => [.cells 0 (egNest s.2).cells]⟩, ⟨fun (x : Bool) => (Sum.inr x : Unit ⊕ Bool) = o, .ret, fun x => [.int .i64 s.1, .ptr 0 0 0, .bool x], fun x => [.cells 0 (egNest s.2).cells]⟩]
def A_law30_Few_J5000006 (s : (Int × gNest)) (u : Int) (o : Bool) : List Alt := [⟨fun (x : Unit) => true = o, .normal, fun x => [.int .i64 (s.1), .ptr 0 0 0, .int .i64 u, .bool true], fun x => [.cells 0 (egNest (s.2)).cells]⟩, ⟨fun (x : Unit) => false = o, .normal, fun x => [.int .i64 (s.1), .ptr 0 0 0, .int .i64 u, .bool false], fun x => [.cells 0 (egNest (s.2)).cells]⟩]
noncomputable def F_law30_Few_L4 (x2 : gNest) (x5 : Int) : Option (Unit ⊕ Bool) :=
 some (List.length x2.fBufs : Int) >>= fun v0 =>
 if x5 < v0 then
 some x5 >>= fun v1 =>
 (ix x2.fBufs x5 >>= fun v3 =>
 some (List.length v3.fDims : Int) >>= fun v4 =>
 if (20 : Int) < v4 then
 some true
 else
 ix x2.fBufs x5 >>= fun v5 =>
 if (100 : Int) < (↑(List.length v5.fName) : Int) then
 some true
 else
 some false) >>= fun v2 => if v2 then
 some (.inr false)
 else
 F_law30_Few_L4 x2 (IntKind.i64.wrap (v1 + (1 : Int)))
 else
 some (.inl ())
  partial_fixpoint
theorem P_law30_Few_L4 (x1 : Int) (x2 : gNest) (x5 : Int) (o : Unit ⊕ Bool) (h : F_law30_Few_L4 x2 x5 = some o) : LO 4 4 39 [1, 2, 5] [.int .i64 x1, .ptr 0 0 0, .int .i64 x5] [.cells 0 (egNest x2).cells] [1, 2, 4] (A_law30_Few_L4 (x1, x2) () o) :=
  F_law30_Few_L4.partial_correctness x2 (fun x5 o => ∀ (x1 : Int), LO 4 4 39 [1, 2, 5] [.int .i64 x1, .ptr 0 0 0, .int .i64 x5] [.cells 0 (egNest x2).cells] [1, 2, 4] (A_law30_Few_L4 (x1, x2) () o))
  (fun F_law30_Few_L4 ih_law30_Few_L4 x5 o h x1 =>
  Lp1 (hs := [(13, .n eI 13 none), (14, .split), (20, .e egBuffer), (23, .n eI 23 none), (24, .split), (29, .e egBuffer), (33, .split), (5000006, .l [] [] [] [1, 2, 5, 34] [{ slot := 2 }] (A_law30_Few_J5000006 (x1, x2)))]) (kb := [{ slot := 2 }]) (kbx := [{ slot := 2 }]) (by kernel_rfl) (by kernel_rfl) ((kN _ (mLen (sh := egBuffer) x2.fBufs) fun v0 => (kIfD (p := x5 < v0) (kJb (id := 5000006) x5 (fun v1 ev1 v2 => (kIx (enc := egBuffer) (l := x2.fBufs) (k := x5) fun v3 => (kN _ (mLen (sh := eI) v3.fDims) fun v4 => (kIfD (p := (20 : Int) < v4) (kXj (alts := A_law30_Few_J5000006 (x1, x2)) ev1 true (.here () rfl (.refl _) (.refl _)))
 (kIx (enc := egBuffer) (l := x2.fBufs) (k := x5) fun v5 => (kIfD (p := (100 : Int) < (↑(List.length v5.fName) : Int)) (kXj (alts := A_law30_Few_J5000006 (x1, x2)) ev1 true (.here () rfl (.refl _) (.refl _)))
 (kXj (alts := A_law30_Few_J5000006 (x1, x2)) ev1 false (.next (.here () rfl (.refl _) (.refl _))))))))))
 (fun v1 => (kX (alts := A_law30_Few_L4 (x1, x2) ()) (.inr false) (.next (.here _ rfl (.refl _) (.refl _)))))
 (fun v1 => (kM0 (alts := A_law30_Few_L4 (x1, x2) ()) (fun y hy => ih_law30_Few_L4 (IntKind.i64.wrap (v1 + (1 : Int))) y hy x1))))
 (kX (alts := A_law30_Few_L4 (x1, x2) ()) (.inl ()) (.here _ rfl (.refl _) (.refl _))))) h)) x5 o h x1
noncomputable def F_law30_Few (x0 : gNest) (x1 : Int) : Option Bool :=
 some (List.length x0.fBufs : Int) >>= fun v0 =>
 if (150 : Int) < v0 then
 some false
 else
 some () >>= fun v1 =>
 F_law30_Few_L4 x0 (0 : Int) >>= fun v2 => (match v2 with
 | (.inl v3) =>
 F_law30_FewStmts x0.fBody x1 >>= fun v4 =>
 some v4
 | (.inr v5) =>
 some v5)
theorem P_law30_Few (x0 : gNest) (x1 : Int) (r : Bool) (h : F_law30_Few x0 x1 = some r) : PU 4 [egNest x0, eI x1] (eB r) :=
  Pu1 (hs := [(8, .n eI 8 none), (9, .split), (38, .c eB), (3000005, .l [] [1, 2, 5] [{ slot := 2 }] [1, 2, 4] [{ slot := 2 }] (A_law30_Few_L4 (x1, x0)))]) (by kernel_rfl) ((kN _ (mLen (sh := egBuffer) x0.fBufs) fun v0 => (kIfD (p := (150 : Int) < v0) (kEr (enc := eB) false)
 (kL2 () (hL := (P_law30_Few_L4 x1 x0 (0 : Int))) (hA := fun v1 v3 => (kC (sh := eB) (P_law30_FewStmts x0.fBody x1) fun v4 => (kEr (enc := eB) v4)))
 (hB := fun v1 v5 => (kEr (enc := eB) v5))))) h)
def A_legality_core_L1 (s : Unit) (u : gStmtS) (o : gStmtS) : List Alt := [⟨fun (x : gStmtS) => x = o, .exit 0, fun x => [.ptr 0 0 0, .ptr 1 0 0], fun x => [.cells 0 (hgStmt x).cells, .cells 0 (hgStmt u).cells]⟩]
def A_legality_core_J5000001 (s : gStmtS) (u : gStmtS) (o : Bool) : List Alt := [⟨fun (x : Unit) => true = o, .normal, fun x => [.ptr 0 0 0, .ptr 1 0 0, .bool true], fun x => [.cells 0 (hgStmt u).cells, .cells 0 (hgStmt s).cells]⟩, ⟨fun (x : Unit) => false = o, .normal, fun x => [.ptr 0 0 0, .ptr 1 0 0, .bool false], fun x => [.cells 0 (hgStmt u).cells, .cells 0 (hgStmt s).cells]⟩]
noncomputable def F_legality_core_L1 (x1 : gStmtS) : Option gStmtS :=
 some x1 >>= fun v0 =>
 (if x1.fOp == (4 : Int) then
 some (List.length x1.fBody : Int) >>= fun v2 =>
 if v2 == (1 : Int) then
 some true
 else
 some false
 else
 some false) >>= fun v1 => if v1 then
 Option.map gStmt.f (ix v0.fBody (0 : Int)) >>= fun v4 =>
 F_legality_core_L1 v4
 else
 some v0
  partial_fixpoint
theorem P_legality_core_L1 (x1 : gStmtS) (x2 : gStmtS) (o : gStmtS) (h : F_legality_core_L1 x1 = some o) : LO 13 1 17 [1, 2] [.ptr 0 0 0, .ptr 1 0 0] [.cells 0 (hgStmt x1).cells, .cells 0 (hgStmt x2).cells] [1, 2] (A_legality_core_L1 () x2 o) :=
  F_legality_core_L1.partial_correctness  (fun x1 o => ∀ (x2 : gStmtS), LO 13 1 17 [1, 2] [.ptr 0 0 0, .ptr 1 0 0] [.cells 0 (hgStmt x1).cells, .cells 0 (hgStmt x2).cells] [1, 2] (A_legality_core_L1 () x2 o))
  (fun F_legality_core_L1 ih_legality_core_L1 x1 o h x2 =>
  Lp1 (hs := [(5, .split), (9, .n eI 9 none), (10, .split), (14, .e hgStmt), (5000001, .l [] [] [] [1, 2, 11] [{ slot := 1 }, { slot := 2 }] (A_legality_core_J5000001 x2))]) (kb := [{ slot := 1 }, { slot := 2 }]) (kbx := [{ slot := 1 }, { slot := 2 }]) (by kernel_rfl) (by kernel_rfl) ((kJb (id := 5000001) x1 (fun v0 ev0 v1 => (kIf (c := x1.fOp == (4 : Int)) (kN _ (mLen (sh := egStmt) x1.fBody) fun v2 => (kIf (c := v2 == (1 : Int)) (kXj (alts := A_legality_core_J5000001 x2) ev0 true (.here () rfl (.refl _) (.refl _)))
 (kXj (alts := A_legality_core_J5000001 x2) ev0 false (.next (.here () rfl (.refl _) (.refl _))))))
 (kXj (alts := A_legality_core_J5000001 x2) ev0 false (.next (.here () rfl (.refl _) (.refl _))))))
 (fun v0 => (kIxR (l := v0.fBody) (k := (0 : Int)) egStmt_f fun v4 => (kM0 (alts := A_legality_core_L1 () x2) (fun y hy => ih_legality_core_L1 v4 y hy x2))))
 (fun v0 => (kX (alts := A_legality_core_L1 () x2) v0 (.here _ rfl (.refl _) (.refl _))))) h)) x1 o h x2
noncomputable def F_legality_core (x0 : gStmtS) : Option gStmtS :=
 some (gStmtF.mk (0 : Int) [] (0 : Int) (0 : Int) (0 : Int) [] (gExprF.mk (0 : Int) [] (gVal.mk (0 : Int) (0 : Int)) (gType.mk (0 : Int) (0 : Int) (0 : Int) (0 : Int) (0 : Int)) (gLin.mk (0 : Int) []) [] [] : gExprS) [] : gStmtS) >>= fun v0 =>
 F_legality_core_L1 x0 >>= fun v2 =>
 some v2
theorem P_legality_core (x0 : gStmtS) (r : gStmtS) (h : F_legality_core x0 = some r) : PU 13 [hgStmt x0] (hgStmt r) :=
  Pu1 (hs := [(3000002, .l [] [1, 2] [{ slot := 1 }, { slot := 2 }] [1, 2] [{ slot := 1 }, { slot := 2 }] (A_legality_core_L1 ()))]) (by kernel_rfl) ((kL1 (gStmtF.mk (0 : Int) [] (0 : Int) (0 : Int) (0 : Int) [] (gExprF.mk (0 : Int) [] (gVal.mk (0 : Int) (0 : Int)) (gType.mk (0 : Int) (0 : Int) (0 : Int) (0 : Int) (0 : Int)) (gLin.mk (0 : Int) []) [] [] : gExprS) [] : gStmtS) (fun y hy => LoopOk.le (.cons (LeV.refl (AV.ptr (0 : Nat) (0 : Nat) (0 : Nat))) (.cons (LeV.refl (AV.ptr (1 : Nat) (0 : Nat) (0 : Nat))) .nil)) (.cons (LeB.refl (Box.cells (0 : Nat) [AV.int IntKind.i64 x0.fOp, AV.str x0.fName, AV.int IntKind.i64 x0.fMany, AV.int IntKind.i64 x0.fMark, AV.int IntKind.i64 x0.fFold, AV.sl (4 : Nat) (List.map egIndex x0.fIdx), AV.int IntKind.i64 x0.fExpr.fOp, AV.str x0.fExpr.fName, AV.int IntKind.i64 x0.fExpr.fVal.fN, AV.int IntKind.i64 x0.fExpr.fVal.fD, AV.int IntKind.i64 x0.fExpr.fType.fKind, AV.int IntKind.i64 x0.fExpr.fType.fBits, AV.int IntKind.i64 x0.fExpr.fType.fFrac, AV.int IntKind.i64 x0.fExpr.fType.fRound, AV.int IntKind.i64 x0.fExpr.fType.fOver, AV.int IntKind.i64 x0.fExpr.fLin.fK, AV.sl (2 : Nat) (List.map egMono x0.fExpr.fLin.fL), AV.sl (4 : Nat) (List.map egIndex x0.fExpr.fIdx), AV.sl (13 : Nat) (List.map egExpr x0.fExpr.fArgs), AV.sl (20 : Nat) (List.map egStmt x0.fBody)])) (.cons (LeB.cells (0 : Nat) (.cons (LeV.refl (AV.int IntKind.i64 (0 : Int))) (.cons (LeV.refl (AV.str [])) (.cons (LeV.refl (AV.int IntKind.i64 (0 : Int))) (.cons (LeV.refl (AV.int IntKind.i64 (0 : Int))) (.cons (LeV.refl (AV.int IntKind.i64 (0 : Int))) (.cons (LeV.nil 4) (.cons (LeV.refl (AV.int IntKind.i64 (0 : Int))) (.cons (LeV.refl (AV.str [])) (.cons (LeV.refl (AV.int IntKind.i64 (0 : Int))) (.cons (LeV.refl (AV.int IntKind.i64 (0 : Int))) (.cons (LeV.refl (AV.int IntKind.i64 (0 : Int))) (.cons (LeV.refl (AV.int IntKind.i64 (0 : Int))) (.cons (LeV.refl (AV.int IntKind.i64 (0 : Int))) (.cons (LeV.refl (AV.int IntKind.i64 (0 : Int))) (.cons (LeV.refl (AV.int IntKind.i64 (0 : Int))) (.cons (LeV.refl (AV.int IntKind.i64 (0 : Int))) (.cons (LeV.nil 2) (.cons (LeV.nil 4) (.cons (LeV.nil 13) (.cons (LeV.nil 20) .nil))))))))))))))))))))) .nil)) (P_legality_core_L1 x0 (gStmtF.mk (0 : Int) [] (0 : Int) (0 : Int) (0 : Int) [] (gExprF.mk (0 : Int) [] (gVal.mk (0 : Int) (0 : Int)) (gType.mk (0 : Int) (0 : Int) (0 : Int) (0 : Int) (0 : Int)) (gLin.mk (0 : Int) []) [] [] : gExprS) [] : gStmtS) y hy)) fun v0 v2 => (kEr (enc := hgStmt) v2)) h)
noncomputable def F_loopnest_copyBuffer (x0 : gBuffer) : Option gBuffer :=
 F_slices_Clone_int x0.fDims >>= fun v0 =>
 some (gBuffer.mk x0.fName x0.fType v0 x0.fUse)
theorem P_loopnest_copyBuffer (x0 : gBuffer) (r : gBuffer) (h : F_loopnest_copyBuffer x0 = some r) : PU 31 [egBuffer x0] (egBuffer r) :=
  Pu1 (hs := [(5, .c eLI)]) (by kernel_rfl) ((kC (sh := eLI) (P_slices_Clone_int x0.fDims) fun v0 => (kEr (enc := egBuffer) (gBuffer.mk x0.fName x0.fType v0 x0.fUse))) h)
def A_loopnest_Buffer_L2 (s : (Str × gNest)) (u : Int) (o : gBuffer ⊕ (gBuffer × Bool)) : List Alt := [⟨fun (x : gBuffer) => (Sum.inl x : gBuffer ⊕ (gBuffer × Bool)) = o, .exit 0, fun x => [.ptr 0 0 0, .undef], fun x => [.cells 0 (egBuffer x).cells]⟩, ⟨fun (x : (gBuffer × Bool)) => (Sum.inr x : gBuffer ⊕ (gBuffer × Bool)) = o, .ret, fun x => [.ptr 0 0 0, .bool x.2], fun x => [.cells 0 (egBuffer x.1).cells]⟩]
noncomputable def F_loopnest_Buffer_L2 (x1 : Str) (x2 : gNest) (x4 : gBuffer) (x9 : Int) (x10 : Int) : Option (gBuffer ⊕ (gBuffer × Bool)) :=
 if x10 < x9 then
 ix x2.fBufs x10 >>= fun v0 =>
 if v0.fName == x1 then
 ix x2.fBufs x10 >>= fun v1 =>
 F_loopnest_copyBuffer v1 >>= fun v2 =>
 some (.inr (v2, true))
 else
 F_loopnest_Buffer_L2 x1 x2 x4 x9 (IntKind.i64.wrap (x10 + (1 : Int)))
 else
 some (.inl x4)
  partial_fixpoint
theorem P_loopnest_Buffer_L2 (x1 : Str) (x2 : gNest) (x4 : gBuffer) (x9 : Int) (x10 : Int) (o : gBuffer ⊕ (gBuffer × Bool)) (h : F_loopnest_Buffer_L2 x1 x2 x4 x9 x10 = some o) : LO 14 2 29 [1, 2, 4, 9, 10] [.str x1, .ptr 0 0 0, .ptr 1 0 0, .int .i64 x9, .int .i64 x10] [.cells 0 (egNest x2).cells, .cells 0 (egBuffer x4).cells] [4, 5] (A_loopnest_Buffer_L2 (x1, x2) x9 o) :=
  F_loopnest_Buffer_L2.partial_correctness x1 x2 x4 x9 (fun x10 o => LO 14 2 29 [1, 2, 4, 9, 10] [.str x1, .ptr 0 0 0, .ptr 1 0 0, .int .i64 x9, .int .i64 x10] [.cells 0 (egNest x2).cells, .cells 0 (egBuffer x4).cells] [4, 5] (A_loopnest_Buffer_L2 (x1, x2) x9 o))
  (fun F_loopnest_Buffer_L2 ih_loopnest_Buffer_L2 x10 o h  =>
  Lp1 (hs := [(11, .split), (16, .e egBuffer), (20, .split), (24, .e egBuffer), (26, .c egBuffer)]) (kb := [{ slot := 2 }, { slot := 4 }]) (kbx := [{ slot := 4 }]) (by kernel_rfl) (by kernel_rfl) ((kIfD (p := x10 < x9) (kIx (enc := egBuffer) (l := x2.fBufs) (k := x10) fun v0 => (kIf (c := v0.fName == x1) (kIx (enc := egBuffer) (l := x2.fBufs) (k := x10) fun v1 => (kC (sh := egBuffer) (P_loopnest_copyBuffer v1) fun v2 => (kX (alts := A_loopnest_Buffer_L2 (x1, x2) x9) (.inr (v2, true)) (.next (.here _ rfl (.refl _) (.refl _))))))
 (kM0 (alts := A_loopnest_Buffer_L2 (x1, x2) x9) (ih_loopnest_Buffer_L2 (IntKind.i64.wrap (x10 + (1 : Int)))))))
 (kX (alts := A_loopnest_Buffer_L2 (x1, x2) x9) (.inl x4) (.here _ rfl (.refl _) (.refl _)))) h)) x10 o h
noncomputable def F_loopnest_Buffer (x0 : gNest) (x1 : Str) : Option (gBuffer × Bool) :=
 some (List.length x0.fBufs : Int) >>= fun v0 =>
 some v0 >>= fun v1 =>
 F_loopnest_Buffer_L2 x1 x0 (gBuffer.mk [] (gType.mk (0 : Int) (0 : Int) (0 : Int) (0 : Int) (0 : Int)) [] (0 : Int)) v0 (0 : Int) >>= fun v2 => (match v2 with
 | (.inl v3) =>
 some ((gBuffer.mk [] (gType.mk (0 : Int) (0 : Int) (0 : Int) (0 : Int) (0 : Int)) [] (0 : Int))) >>= fun v4 =>
 some (v4, false)
 | (.inr v5) =>
 some (v5.fst, v5.snd))
theorem P_loopnest_Buffer (x0 : gNest) (x1 : Str) (r : (gBuffer × Bool)) (h : F_loopnest_Buffer x0 x1 = some r) : PU 14 [egNest x0, eS x1] (eT_gBuffer_B r) :=
  Pu1 (hs := [(9, .n eI 9 none), (28, .n egBuffer 28 none), (3000003, .l [] [1, 2, 4, 9, 10] [{ slot := 2 }, { slot := 4 }] [4, 5] [{ slot := 4 }] (A_loopnest_Buffer_L2 (x1, x0)))]) (by kernel_rfl) ((kN _ (mLen (sh := egBuffer) x0.fBufs) fun v0 => (kL2 v0 (hL := (fun y hy => LoopOk.le (.cons (LeV.refl (AV.str x1)) (.cons (LeV.refl (AV.ptr (0 : Nat) (0 : Nat) (0 : Nat))) (.cons (LeV.refl (AV.ptr (1 : Nat) (0 : Nat) (0 : Nat))) (.cons (LeV.refl (AV.int IntKind.i64 v0)) (.cons (LeV.refl (AV.int IntKind.i64 (0 : Int))) .nil))))) (.cons (LeB.refl (Box.cells (0 : Nat) [AV.sl (8 : Nat) (List.map egBuffer x0.fBufs), AV.sl (20 : Nat) (List.map egStmt x0.fBody)])) (.cons (LeB.cells (0 : Nat) (.cons (LeV.refl (AV.str [])) (.cons (LeV.refl (AV.int IntKind.i64 (0 : Int))) (.cons (LeV.refl (AV.int IntKind.i64 (0 : Int))) (.cons (LeV.refl (AV.int IntKind.i64 (0 : Int))) (.cons (LeV.refl (AV.int IntKind.i64 (0 : Int))) (.cons (LeV.refl (AV.int IntKind.i64 (0 : Int))) (.cons (LeV.nil 1) (.cons (LeV.refl (AV.int IntKind.i64 (0 : Int))) .nil))))))))) .nil)) (P_loopnest_Buffer_L2 x1 x0 (gBuffer.mk [] (gType.mk (0 : Int) (0 : Int) (0 : Int) (0 : Int) (0 : Int)) [] (0 : Int)) v0 (0 : Int) y hy))) (hA := fun v1 v3 => (kW (sh := egBuffer) (gBuffer.mk [] (gType.mk (0 : Int) (0 : Int) (0 : Int) (0 : Int) (0 : Int)) [] (0 : Int)) (LeV.agg (.cons (LeV.refl (AV.str [])) (.cons (LeV.refl (AV.int IntKind.i64 (0 : Int))) (.cons (LeV.refl (AV.int IntKind.i64 (0 : Int))) (.cons (LeV.refl (AV.int IntKind.i64 (0 : Int))) (.cons (LeV.refl (AV.int IntKind.i64 (0 : Int))) (.cons (LeV.refl (AV.int IntKind.i64 (0 : Int))) (.cons (LeV.nil 1) (.cons (LeV.refl (AV.int IntKind.i64 (0 : Int))) .nil))))))))) fun v4 => (kEr (enc := eT_gBuffer_B) (v4, false))))
 (hB := fun v1 v5 => (kEr (enc := eT_gBuffer_B) (v5.fst, v5.snd))))) h)
noncomputable def F_value_plain (x0 : gType) : Option Bool :=
 some ((gType.mk x0.fKind (0 : Int) (0 : Int) (0 : Int) (0 : Int))) >>= fun v0 =>
 some (x0.fKind == v0.fKind && (x0.fBits == v0.fBits && (x0.fFrac == v0.fFrac && (x0.fRound == v0.fRound && (x0.fOver == v0.fOver && true)))))
theorem P_value_plain (x0 : gType) (r : Bool) (h : F_value_plain x0 = some r) : PU 53 [egType x0] (eB r) :=
  Pu1 (hs := [(6, .n egType 6 none)]) (by kernel_rfl) ((kW (sh := egType) (gType.mk x0.fKind (0 : Int) (0 : Int) (0 : Int) (0 : Int)) (LeV.refl _) fun v0 => (kEr (enc := eB) (x0.fKind == v0.fKind && (x0.fBits == v0.fBits && (x0.fFrac == v0.fFrac && (x0.fRound == v0.fRound && (x0.fOver == v0.fOver && true))))))) h)
def A_fixed_ValidateType_J5000001 (s : gType) (u : Unit) (o : Bool) : List Alt := [⟨fun (x : Bool) => x = o, .normal, fun x => [.ptr 0 0 0, .bool x], fun x => [.cells 0 (egType s).cells]⟩]
def A_fixed_ValidateType_J5000002 (s : Unit) (u : Unit) (o : Bool) : List Alt := [⟨fun (x : Unit) => true = o, .normal, fun x => [.bool true], fun x => []⟩, ⟨fun (x : Unit) => false = o, .normal, fun x => [.bool false], fun x => []⟩]
noncomputable def F_fixed_ValidateType (x0 : gType) : Option Int :=
 some () >>= fun v0 =>
 (if (1 : Int) ≤ x0.fRound then
 if x0.fRound ≤ (4 : Int) then
 if x0.fOver == (1 : Int) then
 some true
 else
 some (x0.fOver == (2 : Int))
 else
 some false
 else
 some false) >>= fun v2 =>
 some () >>= fun v3 =>
 (if x0.fKind != (2 : Int) then
 some true
 else
 if x0.fBits < (2 : Int) then
 some true
 else
 if (31 : Int) < x0.fBits then
 some true
 else
 if x0.fFrac < (0 : Int) then
 some true
 else
 if (30 : Int) < x0.fFrac then
 some true
 else
 if v2 then
 some false
 else
 some true) >>= fun v4 => if v4 then
 some (10 : Int)
 else
 some (0 : Int)
theorem P_fixed_ValidateType (x0 : gType) (r : Int) (h : F_fixed_ValidateType x0 = some r) : PU 54 [egType x0] (eI r) :=
  Pu1 (hs := [(6, .split), (10, .split), (15, .split), (24, .split), (28, .split), (33, .split), (38, .split), (43, .split), (46, .split), (5000001, .l [] [] [] [1, 3] [{ slot := 1 }] (A_fixed_ValidateType_J5000001 x0)), (5000002, .l [] [] [] [48] [] (A_fixed_ValidateType_J5000002 ()))]) (by kernel_rfl) ((kJ1 (id := 5000001) () (fun v0 ev0 v1 => (kIfD (p := (1 : Int) ≤ x0.fRound) (kIfD (p := x0.fRound ≤ (4 : Int)) (kIf (c := x0.fOver == (1 : Int)) (kXj (alts := A_fixed_ValidateType_J5000001 x0) ev0 true (.here _ rfl (.refl _) (.refl _)))
 (kXj (alts := A_fixed_ValidateType_J5000001 x0) ev0 (x0.fOver == (2 : Int)) (.here _ rfl (.refl _) (.refl _))))
 (kXj (alts := A_fixed_ValidateType_J5000001 x0) ev0 false (.here _ rfl (.refl _) (.refl _))))
 (kXj (alts := A_fixed_ValidateType_J5000001 x0) ev0 false (.here _ rfl (.refl _) (.refl _)))))
 (fun v0 v2 => (kJb (id := 5000002) () (fun v3 ev3 v4 => (kIf (c := x0.fKind != (2 : Int)) (kXj (alts := A_fixed_ValidateType_J5000002 ()) ev3 true (.here () rfl (.refl _) (.refl _)))
 (kIfD (p := x0.fBits < (2 : Int)) (kXj (alts := A_fixed_ValidateType_J5000002 ()) ev3 true (.here () rfl (.refl _) (.refl _)))
 (kIfD (p := (31 : Int) < x0.fBits) (kXj (alts := A_fixed_ValidateType_J5000002 ()) ev3 true (.here () rfl (.refl _) (.refl _)))
 (kIfD (p := x0.fFrac < (0 : Int)) (kXj (alts := A_fixed_ValidateType_J5000002 ()) ev3 true (.here () rfl (.refl _) (.refl _)))
 (kIfD (p := (30 : Int) < x0.fFrac) (kXj (alts := A_fixed_ValidateType_J5000002 ()) ev3 true (.here () rfl (.refl _) (.refl _)))
 (kIf (c := v2) (kXj (alts := A_fixed_ValidateType_J5000002 ()) ev3 false (.next (.here () rfl (.refl _) (.refl _))))
 (kXj (alts := A_fixed_ValidateType_J5000002 ()) ev3 true (.here () rfl (.refl _) (.refl _))))))))))
 (fun v3 => (kEr (enc := eI) (10 : Int)))
 (fun v3 => (kEr (enc := eI) (0 : Int)))))) h)
def A_value_ValidateType_J6000004 (s : gType) (u : Int) (o : Bool) : List Alt := [⟨fun (x : Unit) => true = o, .normal, fun x => [.ptr 0 0 0, .int .i64 u, .bool true], fun x => [.cells 0 (egType s).cells]⟩, ⟨fun (x : Unit) => false = o, .normal, fun x => [.ptr 0 0 0, .int .i64 u, .bool false], fun x => [.cells 0 (egType s).cells]⟩]
noncomputable def F_value_ValidateType (x0 : gType) : Option Int :=
 some x0.fKind >>= fun v0 =>
 (if x0.fKind == (1 : Int) then
 some true
 else
 if x0.fKind == (3 : Int) then
 some true
 else
 some false) >>= fun v1 => if v1 then
 F_value_plain x0 >>= fun v3 => if v3 then
 some (0 : Int)
 else
 some (10 : Int)
 else
 if v0 == (2 : Int) then
 F_fixed_ValidateType x0 >>= fun v5 =>
 if v5 == (0 : Int) then
 some (0 : Int)
 else
 some (10 : Int)
 else
 some (10 : Int)
theorem P_value_ValidateType (x0 : gType) (r : Int) (h : F_value_ValidateType x0 = some r) : PU 32 [egType x0] (eI r) :=
  Pu1 (hs := [(5, .split), (5, .split), (9, .cb), (11, .split), (13, .c eI), (14, .split), (6000004, .l [] [] [] [1, 4, 5] [{ slot := 1 }] (A_value_ValidateType_J6000004 x0))]) (by kernel_rfl) ((kJb (id := 6000004) x0.fKind (fun v0 ev0 v1 => (kIf (c := x0.fKind == (1 : Int)) (kXj (alts := A_value_ValidateType_J6000004 x0) ev0 true (.here () rfl (.refl _) (.refl _)))
 (kIf (c := x0.fKind == (3 : Int)) (kXj (alts := A_value_ValidateType_J6000004 x0) ev0 true (.here () rfl (.refl _) (.refl _)))
 (kXj (alts := A_value_ValidateType_J6000004 x0) ev0 false (.next (.here () rfl (.refl _) (.refl _)))))))
 (fun v0 => (kCb (P_value_plain x0) (kEr (enc := eI) (0 : Int))
 (kEr (enc := eI) (10 : Int))))
 (fun v0 => (kIf (c := v0 == (2 : Int)) (kC (sh := eI) (P_fixed_ValidateType x0) fun v5 => (kIf (c := v5 == (0 : Int)) (kEr (enc := eI) (0 : Int))
 (kEr (enc := eI) (10 : Int))))
 (kEr (enc := eI) (10 : Int))))) h)
def A_value_Reorderable_J6000006 (s : gType) (u : Int) (o : Bool) : List Alt := [⟨fun (x : Unit) => true = o, .normal, fun x => [.ptr 0 0 0, .int .i64 u, .bool true], fun x => [.cells 0 (egType s).cells]⟩, ⟨fun (x : Unit) => false = o, .normal, fun x => [.ptr 0 0 0, .int .i64 u, .bool false], fun x => [.cells 0 (egType s).cells]⟩]
def A_value_Reorderable_J6000009 (s : gType) (u : Unit) (o : Bool) : List Alt := [⟨fun (x : Unit) => true = o, .normal, fun x => [.ptr 0 0 0, .bool true], fun x => [.cells 0 (egType s).cells]⟩, ⟨fun (x : Unit) => false = o, .normal, fun x => [.ptr 0 0 0, .bool false], fun x => [.cells 0 (egType s).cells]⟩]
noncomputable def F_value_Reorderable (x0 : Int) (x1 : gType) : Option Bool :=
 F_value_ValidateType x1 >>= fun v0 =>
 if v0 != (0 : Int) then
 some false
 else
 some x0 >>= fun v1 =>
 (if x0 == (3 : Int) then
 some true
 else
 if x0 == (4 : Int) then
 some true
 else
 some false) >>= fun v2 => if v2 then
 some true
 else
 some () >>= fun v5 =>
 (if v1 == (1 : Int) then
 some true
 else
 if v1 == (2 : Int) then
 some true
 else
 some false) >>= fun v6 => if v6 then
 some (x1.fKind != (2 : Int))
 else
 some false
theorem P_value_Reorderable (x0 : Int) (x1 : gType) (r : Bool) (h : F_value_Reorderable x0 x1 = some r) : PU 15 [eI x0, egType x1] (eB r) :=
  Pu1 (hs := [(6, .c eI), (7, .split), (9, .split), (9, .split), (12, .split), (12, .split), (6000006, .l [] [] [] [3, 8, 9] [{ slot := 3 }] (A_value_Reorderable_J6000006 x1)), (6000009, .l [] [] [] [3, 12] [{ slot := 3 }] (A_value_Reorderable_J6000009 x1))]) (by kernel_rfl) ((kC (sh := eI) (P_value_ValidateType x1) fun v0 => (kIf (c := v0 != (0 : Int)) (kEr (enc := eB) false)
 (kJb (id := 6000006) x0 (fun v1 ev1 v2 => (kIf (c := x0 == (3 : Int)) (kXj (alts := A_value_Reorderable_J6000006 x1) ev1 true (.here () rfl (.refl _) (.refl _)))
 (kIf (c := x0 == (4 : Int)) (kXj (alts := A_value_Reorderable_J6000006 x1) ev1 true (.here () rfl (.refl _) (.refl _)))
 (kXj (alts := A_value_Reorderable_J6000006 x1) ev1 false (.next (.here () rfl (.refl _) (.refl _)))))))
 (fun v1 => (kEr (enc := eB) true))
 (fun v1 => (kJb (id := 6000009) () (fun v5 ev5 v6 => (kIf (c := v1 == (1 : Int)) (kXj (alts := A_value_Reorderable_J6000009 x1) ev5 true (.here () rfl (.refl _) (.refl _)))
 (kIf (c := v1 == (2 : Int)) (kXj (alts := A_value_Reorderable_J6000009 x1) ev5 true (.here () rfl (.refl _) (.refl _)))
 (kXj (alts := A_value_Reorderable_J6000009 x1) ev5 false (.next (.here () rfl (.refl _) (.refl _)))))))
 (fun v5 => (kEr (enc := eB) (x1.fKind != (2 : Int))))
 (fun v5 => (kEr (enc := eB) false))))))) h)
def A_depend_Overlap_L5 (s : ((List gRegion) × (List gRegion) × Int)) (u : (gRegion × Int × (List gRegion) × Int)) (o : Unit ⊕ Bool) : List Alt := [⟨fun (x : Unit) => (Sum.inl x : Unit ⊕ Bool) = o, .exit 2, fun x => [.sl 3 (List.map egRegion s.1), .undef, .sl 3 (List.map egRegion s.2.1), .int .i64 s.2.2, .int .i64 u.2.1], fun x => []⟩, ⟨fun (x : Bool) => (Sum.inr x : Unit ⊕ Bool) = o, .ret, fun x => [.sl 3 (List.map egRegion s.1), .bool x, .sl 3 (List.map egRegion s.2.1), .int .i64 s.2.2, .int .i64 u.2.1], fun x => []⟩]
def A_depend_Overlap_J5000007 (s : ((List gRegion) × gRegion × (List gRegion) × Int × Int × (List gRegion) × Int)) (u : Int) (o : Bool) : List Alt := [⟨fun (x : Unit) => true = o, .normal, fun x => [.sl 3 (List.map egRegion (s.1)), .ptr 0 0 0, .sl 3 (List.map egRegion (s.2.2.1)), .int .i64 (s.2.2.2.1), .int .i64 (s.2.2.2.2.1), .sl 3 (List.map egRegion (s.2.2.2.2.2.1)), .int .i64 (s.2.2.2.2.2.2), .int .i64 u, .bool true], fun x => [.cells 0 (egRegion (s.2.1)).cells]⟩, ⟨fun (x : Unit) => false = o, .normal, fun x => [.sl 3 (List.map egRegion (s.1)), .ptr 0 0 0, .sl 3 (List.map egRegion (s.2.2.1)), .int .i64 (s.2.2.2.1), .int .i64 (s.2.2.2.2.1), .sl 3 (List.map egRegion (s.2.2.2.2.2.1)), .int .i64 (s.2.2.2.2.2.2), .int .i64 u, .bool false], fun x => [.cells 0 (egRegion (s.2.1)).cells]⟩]
noncomputable def F_depend_Overlap_L5 (x6 : gRegion) (x15 : List gRegion) (x16 : Int) (x17 : Int) : Option (Unit ⊕ Bool) :=
 if x17 < x16 then
 ix x15 x17 >>= fun v0 =>
 some x17 >>= fun v1 =>
 (if x6.fBuffer == v0.fBuffer then
 if (if true = true then max x6.fFrom v0.fFrom else min x6.fFrom v0.fFrom) < if false = true then max x6.fTo v0.fTo else min x6.fTo v0.fTo then
 some true
 else
 some false
 else
 some false) >>= fun v2 => if v2 then
 some (.inr true)
 else
 F_depend_Overlap_L5 x6 x15 x16 (IntKind.i64.wrap (v1 + (1 : Int)))
 else
 some (.inl ())
  partial_fixpoint
theorem P_depend_Overlap_L5 (x1 : List gRegion) (x6 : gRegion) (x9 : List gRegion) (x10 : Int) (x11 : Int) (x15 : List gRegion) (x16 : Int) (x17 : Int) (o : Unit ⊕ Bool) (h : F_depend_Overlap_L5 x6 x15 x16 x17 = some o) : LO 16 5 41 [1, 6, 9, 10, 11, 15, 16, 17] [.sl 3 (List.map egRegion x1), .ptr 0 0 0, .sl 3 (List.map egRegion x9), .int .i64 x10, .int .i64 x11, .sl 3 (List.map egRegion x15), .int .i64 x16, .int .i64 x17] [.cells 0 (egRegion x6).cells] [1, 4, 9, 10, 11] (A_depend_Overlap_L5 (x1, x9, x10) (x6, x11, x15, x16) o) :=
  F_depend_Overlap_L5.partial_correctness x6 x15 x16 (fun x17 o => ∀ (x1 : List gRegion) (x9 : List gRegion) (x10 : Int) (x11 : Int), LO 16 5 41 [1, 6, 9, 10, 11, 15, 16, 17] [.sl 3 (List.map egRegion x1), .ptr 0 0 0, .sl 3 (List.map egRegion x9), .int .i64 x10, .int .i64 x11, .sl 3 (List.map egRegion x15), .int .i64 x16, .int .i64 x17] [.cells 0 (egRegion x6).cells] [1, 4, 9, 10, 11] (A_depend_Overlap_L5 (x1, x9, x10) (x6, x11, x15, x16) o))
  (fun F_depend_Overlap_L5 ih_depend_Overlap_L5 x17 o h x1 x9 x10 x11 =>
  Lp1 (hs := [(18, .split), (19, .e egRegion), (25, .split), (37, .split), (5000007, .l [] [] [] [1, 6, 9, 10, 11, 15, 16, 17, 38] [{ slot := 6 }] (A_depend_Overlap_J5000007 (x1, x6, x9, x10, x11, x15, x16)))]) (kb := [{ slot := 6 }]) (kbx := []) (by kernel_rfl) (by kernel_rfl) ((kIfD (p := x17 < x16) (kIx (enc := egRegion) (l := x15) (k := x17) fun v0 => (kJb (id := 5000007) x17 (fun v1 ev1 v2 => (kIf (c := x6.fBuffer == v0.fBuffer) (kIfD (p := (if true = true then max x6.fFrom v0.fFrom else min x6.fFrom v0.fFrom) < if false = true then max x6.fTo v0.fTo else min x6.fTo v0.fTo) (kXj (alts := A_depend_Overlap_J5000007 (x1, x6, x9, x10, x11, x15, x16)) ev1 true (.here () rfl (.refl _) (.refl _)))
 (kXj (alts := A_depend_Overlap_J5000007 (x1, x6, x9, x10, x11, x15, x16)) ev1 false (.next (.here () rfl (.refl _) (.refl _)))))
 (kXj (alts := A_depend_Overlap_J5000007 (x1, x6, x9, x10, x11, x15, x16)) ev1 false (.next (.here () rfl (.refl _) (.refl _))))))
 (fun v1 => (kX (alts := A_depend_Overlap_L5 (x1, x9, x10) (x6, x11, x15, x16)) (.inr true) (.next (.here _ rfl (.refl _) (.refl _)))))
 (fun v1 => (kM0 (alts := A_depend_Overlap_L5 (x1, x9, x10) (x6, x11, x15, x16)) (fun y hy => ih_depend_Overlap_L5 (IntKind.i64.wrap (v1 + (1 : Int))) y hy x1 x9 x10 x11)))))
 (kX (alts := A_depend_Overlap_L5 (x1, x9, x10) (x6, x11, x15, x16)) (.inl ()) (.here _ rfl (.refl _) (.refl _)))) h)) x17 o h x1 x9 x10 x11
def A_depend_Overlap_L2 (s : List gRegion) (u : ((List gRegion) × Int)) (o : Unit ⊕ Bool) : List Alt := [⟨fun (x : Unit) => (Sum.inl x : Unit ⊕ Bool) = o, .exit 0, fun x => [.undef], fun x => []⟩, ⟨fun (x : Bool) => (Sum.inr x : Unit ⊕ Bool) = o, .ret, fun x => [.bool x], fun x => []⟩]
noncomputable def F_depend_Overlap_L2 (x1 : List gRegion) (x9 : List gRegion) (x10 : Int) (x11 : Int) : Option (Unit ⊕ Bool) :=
 if x11 < x10 then
 ix x9 x11 >>= fun v0 =>
 some (List.length x1 : Int) >>= fun v1 =>
 some (v0, x11, x1, v1) >>= fun v2 =>
 F_depend_Overlap_L5 v0 x1 v1 (0 : Int) >>= fun v3 => (match v3 with
 | (.inl v4) =>
 F_depend_Overlap_L2 x1 x9 x10 (IntKind.i64.wrap (v2.snd.fst + (1 : Int)))
 | (.inr v5) =>
 some (.inr v5))
 else
 some (.inl ())
  partial_fixpoint
theorem P_depend_Overlap_L2 (x1 : List gRegion) (x9 : List gRegion) (x10 : Int) (x11 : Int) (o : Unit ⊕ Bool) (h : F_depend_Overlap_L2 x1 x9 x10 x11 = some o) : LO 16 2 41 [1, 9, 10, 11] [.sl 3 (List.map egRegion x1), .sl 3 (List.map egRegion x9), .int .i64 x10, .int .i64 x11] [] [4] (A_depend_Overlap_L2 x1 (x9, x10) o) :=
  F_depend_Overlap_L2.partial_correctness x1 x9 x10 (fun x11 o => LO 16 2 41 [1, 9, 10, 11] [.sl 3 (List.map egRegion x1), .sl 3 (List.map egRegion x9), .int .i64 x10, .int .i64 x11] [] [4] (A_depend_Overlap_L2 x1 (x9, x10) o))
  (fun F_depend_Overlap_L2 ih_depend_Overlap_L2 x11 o h  =>
  Lp1 (hs := [(12, .split), (13, .e egRegion), (16, .n eI 16 none), (3000006, .l [] [1, 6, 9, 10, 11, 15, 16, 17] [{ slot := 6 }] [1, 4, 9, 10, 11] [] (A_depend_Overlap_L5 (x1, x9, x10)))]) (kb := []) (kbx := []) (by kernel_rfl) (by kernel_rfl) ((kIfD (p := x11 < x10) (kIx (enc := egRegion) (l := x9) (k := x11) fun v0 => (kN _ (mLen (sh := egRegion) x1) fun v1 => (kL2 (v0, x11, x1, v1) (hL := (P_depend_Overlap_L5 x1 v0 x9 x10 x11 x1 v1 (0 : Int))) (hA := fun v2 v4 => (kM0 (alts := A_depend_Overlap_L2 x1 (x9, x10)) (ih_depend_Overlap_L2 (IntKind.i64.wrap (v2.snd.fst + (1 : Int))))))
 (hB := fun v2 v5 => (kX (alts := A_depend_Overlap_L2 x1 (x9, x10)) (.inr v5) (.next (.here _ rfl (.refl _) (.refl _))))))))
 (kX (alts := A_depend_Overlap_L2 x1 (x9, x10)) (.inl ()) (.here _ rfl (.refl _) (.refl _)))) h)) x11 o h
noncomputable def F_depend_Overlap (x0 : List gRegion) (x1 : List gRegion) : Option Bool :=
 some (List.length x0 : Int) >>= fun v0 =>
 some (x0, v0) >>= fun v1 =>
 F_depend_Overlap_L2 x1 x0 v0 (0 : Int) >>= fun v2 => (match v2 with
 | (.inl v3) =>
 some false
 | (.inr v4) =>
 some v4)
theorem P_depend_Overlap (x0 : List gRegion) (x1 : List gRegion) (r : Bool) (h : F_depend_Overlap x0 x1 = some r) : PU 16 [eLgRegion x0, eLgRegion x1] (eB r) :=
  Pu1 (hs := [(10, .n eI 10 none), (3000003, .l [] [1, 9, 10, 11] [] [4] [] (A_depend_Overlap_L2 x1))]) (by kernel_rfl) ((kN _ (mLen (sh := egRegion) x0) fun v0 => (kL2 (x0, v0) (hL := (P_depend_Overlap_L2 x1 x0 v0 (0 : Int))) (hA := fun v1 v3 => (kEr (enc := eB) false))
 (hB := fun v1 v4 => (kEr (enc := eB) v4)))) h)
noncomputable def F_trace_store (x0 : gStmtS) : Option Bool :=
 if x0.fOp == (2 : Int) then
 some true
 else
 some (x0.fOp == (3 : Int))
theorem P_trace_store (x0 : gStmtS) (r : Bool) (h : F_trace_store x0 = some r) : PU 33 [hgStmt x0] (eB r) :=
  Pu1 (hs := [(5, .split)]) (by kernel_rfl) ((kIf (c := x0.fOp == (2 : Int)) (kEr (enc := eB) true)
 (kEr (enc := eB) (x0.fOp == (3 : Int)))) h)
def A_shape_Validate_L11 (s : Unit) (u : ((List Int) × Int)) (o : Unit ⊕ Int) : List Alt := [⟨fun (x : Unit) => (Sum.inl x : Unit ⊕ Int) = o, .exit 2, fun x => [.undef], fun x => []⟩, ⟨fun (x : Int) => (Sum.inr x : Unit ⊕ Int) = o, .ret, fun x => [.int .i64 x], fun x => []⟩]
noncomputable def F_shape_Validate_L11 (x5 : Int) (x20 : List Int) (x21 : Int) (x22 : Int) : Option (Unit ⊕ Int) :=
 if x22 < x21 then
 ix x20 x22 >>= fun v0 =>
 if x5 ≠ (0 : Int) then
 if IntKind.i64.wrap (Int.tdiv (4096 : Int) x5) < v0 then
 some (.inr (2 : Int))
 else
 some (IntKind.i64.wrap (x5 * v0) : Int) >>= fun v1 =>
 F_shape_Validate_L11 v1 x20 x21 (IntKind.i64.wrap (x22 + (1 : Int)))
 else none
 else
 some (.inl ())
  partial_fixpoint
theorem P_shape_Validate_L11 (x5 : Int) (x20 : List Int) (x21 : Int) (x22 : Int) (o : Unit ⊕ Int) (h : F_shape_Validate_L11 x5 x20 x21 x22 = some o) : LO 56 11 34 [5, 20, 21, 22] [.int .i64 x5, .sl 1 (List.map eI x20), .int .i64 x21, .int .i64 x22] [] [2] (A_shape_Validate_L11 () (x20, x21) o) :=
  F_shape_Validate_L11.partial_correctness x20 x21 (fun x5 x22 o => LO 56 11 34 [5, 20, 21, 22] [.int .i64 x5, .sl 1 (List.map eI x20), .int .i64 x21, .int .i64 x22] [] [2] (A_shape_Validate_L11 () (x20, x21) o))
  (fun F_shape_Validate_L11 ih_shape_Validate_L11 x5 x22 o h  =>
  Lp1 (hs := [(23, .split), (24, .e eI), (28, .s), (29, .split), (5, .n eI 5 none)]) (kb := []) (kbx := []) (by kernel_rfl) (by kernel_rfl) ((kIfD (p := x22 < x21) (kIx (enc := eI) (l := x20) (k := x22) fun v0 => (kG (p := x5 ≠ (0 : Int)) (kIfD (p := IntKind.i64.wrap (Int.tdiv (4096 : Int) x5) < v0) (kX (alts := A_shape_Validate_L11 () (x20, x21)) (.inr (2 : Int)) (.next (.here _ rfl (.refl _) (.refl _))))
 (kN (IntKind.i64.wrap (x5 * v0)) rfl fun v1 => (kM0 (alts := A_shape_Validate_L11 () (x20, x21)) (ih_shape_Validate_L11 v1 (IntKind.i64.wrap (x22 + (1 : Int)))))))))
 (kX (alts := A_shape_Validate_L11 () (x20, x21)) (.inl ()) (.here _ rfl (.refl _) (.refl _)))) h)) x5 x22 o h
def A_shape_Validate_L4 (s : List Int) (u : ((List Int) × Int)) (o : Unit ⊕ Int) : List Alt := [⟨fun (x : Unit) => (Sum.inl x : Unit ⊕ Int) = o, .exit 0, fun x => [.sl 1 (List.map eI s), .undef], fun x => []⟩, ⟨fun (x : Int) => (Sum.inr x : Unit ⊕ Int) = o, .ret, fun x => [.sl 1 (List.map eI s), .int .i64 x], fun x => []⟩]
noncomputable def F_shape_Validate_L4 (x11 : List Int) (x12 : Int) (x13 : Int) : Option (Unit ⊕ Int) :=
 if x13 < x12 then
 ix x11 x13 >>= fun v0 =>
 if v0 < (1 : Int) then
 some (.inr (1 : Int))
 else
 F_shape_Validate_L4 x11 x12 (IntKind.i64.wrap (x13 + (1 : Int)))
 else
 some (.inl ())
  partial_fixpoint
theorem P_shape_Validate_L4 (x0 : List Int) (x11 : List Int) (x12 : Int) (x13 : Int) (o : Unit ⊕ Int) (h : F_shape_Validate_L4 x11 x12 x13 = some o) : LO 56 4 34 [0, 11, 12, 13] [.sl 1 (List.map eI x0), .sl 1 (List.map eI x11), .int .i64 x12, .int .i64 x13] [] [0, 2] (A_shape_Validate_L4 x0 (x11, x12) o) :=
  F_shape_Validate_L4.partial_correctness x11 x12 (fun x13 o => ∀ (x0 : List Int), LO 56 4 34 [0, 11, 12, 13] [.sl 1 (List.map eI x0), .sl 1 (List.map eI x11), .int .i64 x12, .int .i64 x13] [] [0, 2] (A_shape_Validate_L4 x0 (x11, x12) o))
  (fun F_shape_Validate_L4 ih_shape_Validate_L4 x13 o h x0 =>
  Lp1 (hs := [(14, .split), (15, .e eI), (18, .split)]) (kb := []) (kbx := []) (by kernel_rfl) (by kernel_rfl) ((kIfD (p := x13 < x12) (kIx (enc := eI) (l := x11) (k := x13) fun v0 => (kIfD (p := v0 < (1 : Int)) (kX (alts := A_shape_Validate_L4 x0 (x11, x12)) (.inr (1 : Int)) (.next (.here _ rfl (.refl _) (.refl _))))
 (kM0 (alts := A_shape_Validate_L4 x0 (x11, x12)) (fun y hy => ih_shape_Validate_L4 (IntKind.i64.wrap (x13 + (1 : Int))) y hy x0))))
 (kX (alts := A_shape_Validate_L4 x0 (x11, x12)) (.inl ()) (.here _ rfl (.refl _) (.refl _)))) h)) x13 o h x0
noncomputable def F_shape_Validate (x0 : List Int) : Option Int :=
 some (List.length x0 : Int) >>= fun v0 =>
 if (6 : Int) < v0 then
 some (2 : Int)
 else
 some (List.length x0 : Int) >>= fun v1 =>
 some (x0, v1) >>= fun v2 =>
 F_shape_Validate_L4 x0 v1 (0 : Int) >>= fun v3 => (match v3 with
 | (.inl v4) =>
 some ((1 : Int) : Int) >>= fun v5 =>
 some (List.length x0 : Int) >>= fun v6 =>
 some (x0, v6) >>= fun v7 =>
 F_shape_Validate_L11 v5 x0 v6 (0 : Int) >>= fun v8 => (match v8 with
 | (.inl v9) =>
 some (0 : Int)
 | (.inr v10) =>
 some v10)
 | (.inr v11) =>
 some v11)
theorem P_shape_Validate (x0 : List Int) (r : Int) (h : F_shape_Validate x0 = some r) : PU 56 [eLI x0] (eI r) :=
  Pu1 (hs := [(9, .n eI 9 none), (10, .split), (12, .n eI 12 none), (21, .n eI 21 none), (5, .n eI 5 none), (3000012, .l [] [5, 20, 21, 22] [] [2] [] (A_shape_Validate_L11 ())), (3000005, .l [] [0, 11, 12, 13] [] [0, 2] [] (A_shape_Validate_L4 x0))]) (by kernel_rfl) ((kN _ (mLen (sh := eI) x0) fun v0 => (kIfD (p := (6 : Int) < v0) (kEr (enc := eI) (2 : Int))
 (kN _ (mLen (sh := eI) x0) fun v1 => (kL2 (x0, v1) (hL := (P_shape_Validate_L4 x0 x0 v1 (0 : Int))) (hA := fun v2 v4 => (kN (1 : Int) rfl fun v5 => (kN _ (mLen (sh := eI) x0) fun v6 => (kL2 (x0, v6) (hL := (P_shape_Validate_L11 v5 x0 v6 (0 : Int))) (hA := fun v7 v9 => (kEr (enc := eI) (0 : Int)))
 (hB := fun v7 v10 => (kEr (enc := eI) v10))))))
 (hB := fun v2 v11 => (kEr (enc := eI) v11)))))) h)
def A_shape_Size_L5 (s : Unit) (u : ((List Int) × Int)) (o : Int) : List Alt := [⟨fun (x : Int) => x = o, .exit 0, fun x => [.int .i64 x], fun x => []⟩]
noncomputable def F_shape_Size_L5 (x3 : Int) (x9 : List Int) (x10 : Int) (x11 : Int) : Option Int :=
 if x11 < x10 then
 ix x9 x11 >>= fun v0 =>
 some (IntKind.i64.wrap (x3 * v0) : Int) >>= fun v1 =>
 F_shape_Size_L5 v1 x9 x10 (IntKind.i64.wrap (x11 + (1 : Int)))
 else
 some x3
  partial_fixpoint
theorem P_shape_Size_L5 (x3 : Int) (x9 : List Int) (x10 : Int) (x11 : Int) (o : Int) (h : F_shape_Size_L5 x3 x9 x10 x11 = some o) : LO 57 5 20 [3, 9, 10, 11] [.int .i64 x3, .sl 1 (List.map eI x9), .int .i64 x10, .int .i64 x11] [] [3] (A_shape_Size_L5 () (x9, x10) o) :=
  F_shape_Size_L5.partial_correctness x9 x10 (fun x3 x11 o => LO 57 5 20 [3, 9, 10, 11] [.int .i64 x3, .sl 1 (List.map eI x9), .int .i64 x10, .int .i64 x11] [] [3] (A_shape_Size_L5 () (x9, x10) o))
  (fun F_shape_Size_L5 ih_shape_Size_L5 x3 x11 o h  =>
  Lp1 (hs := [(12, .split), (13, .e eI), (3, .n eI 3 none)]) (kb := []) (kbx := []) (by kernel_rfl) (by kernel_rfl) ((kIfD (p := x11 < x10) (kIx (enc := eI) (l := x9) (k := x11) fun v0 => (kN (IntKind.i64.wrap (x3 * v0)) rfl fun v1 => (kM0 (alts := A_shape_Size_L5 () (x9, x10)) (ih_shape_Size_L5 v1 (IntKind.i64.wrap (x11 + (1 : Int)))))))
 (kX (alts := A_shape_Size_L5 () (x9, x10)) x3 (.here _ rfl (.refl _) (.refl _)))) h)) x3 x11 o h
noncomputable def F_shape_Size (x0 : List Int) : Option Int :=
 F_shape_Validate x0 >>= fun v0 =>
 if v0 != (0 : Int) then
 some (0 : Int)
 else
 some ((1 : Int) : Int) >>= fun v1 =>
 some (List.length x0 : Int) >>= fun v2 =>
 some (x0, v2) >>= fun v3 =>
 F_shape_Size_L5 v1 x0 v2 (0 : Int) >>= fun v5 =>
 some v5
theorem P_shape_Size (x0 : List Int) (r : Int) (h : F_shape_Size x0 = some r) : PU 57 [eLI x0] (eI r) :=
  Pu1 (hs := [(7, .c eI), (8, .split), (10, .n eI 10 none), (3, .n eI 3 none), (3000006, .l [] [3, 9, 10, 11] [] [3] [] (A_shape_Size_L5 ()))]) (by kernel_rfl) ((kC (sh := eI) (P_shape_Validate x0) fun v0 => (kIf (c := v0 != (0 : Int)) (kEr (enc := eI) (0 : Int))
 (kN (1 : Int) rfl fun v1 => (kN _ (mLen (sh := eI) x0) fun v2 => (kL1 (x0, v2) (P_shape_Size_L5 v1 x0 v2 (0 : Int)) fun v3 v5 => (kEr (enc := eI) v5)))))) h)
def A_shape_Offset_L5 (s : List Int) (u : ((List Int) × Int)) (o : Int ⊕ (Int × Bool)) : List Alt := [⟨fun (x : Int) => (Sum.inl x : Int ⊕ (Int × Bool)) = o, .exit 0, fun x => [.undef, .undef, .int .i64 x], fun x => []⟩, ⟨fun (x : (Int × Bool)) => (Sum.inr x : Int ⊕ (Int × Bool)) = o, .ret, fun x => [.int .i64 x.1, .bool x.2, .undef], fun x => []⟩]
def A_shape_Offset_J5000007 (s : ((List Int) × (List Int) × Int)) (u : (Int × Int × Int × Int)) (o : Bool) : List Alt := [⟨fun (x : Unit) => true = o, .normal, fun x => [.sl 1 (List.map eI (s.1)), .int .i64 (u.1), .int .i64 (u.2.1), .int .i64 (u.2.2.1), .sl 1 (List.map eI (s.2.1)), .int .i64 (s.2.2), .int .i64 (u.2.2.2), .bool true], fun x => []⟩, ⟨fun (x : Unit) => false = o, .normal, fun x => [.sl 1 (List.map eI (s.1)), .int .i64 (u.1), .int .i64 (u.2.1), .int .i64 (u.2.2.1), .sl 1 (List.map eI (s.2.1)), .int .i64 (s.2.2), .int .i64 (u.2.2.2), .bool false], fun x => []⟩]
noncomputable def F_shape_Offset_L5 (x1 : List Int) (x6 : Int) (x19 : List Int) (x20 : Int) (x21 : Int) : Option (Int ⊕ (Int × Bool)) :=
 if x21 < x20 then
 ix x19 x21 >>= fun v0 =>
 some (x6, x21, v0, x21) >>= fun v1 =>
 (ix x1 x21 >>= fun v3 =>
 if v3 < (0 : Int) then
 some true
 else
 ix x1 x21 >>= fun v4 =>
 if v0 ≤ v4 then
 some true
 else
 some false) >>= fun v2 => if v2 then
 some (.inr ((0 : Int), false))
 else
 ix x1 v1.snd.fst >>= fun v7 =>
 some (IntKind.i64.wrap (IntKind.i64.wrap (v1.fst * v1.snd.snd.fst) + v7) : Int) >>= fun v8 =>
 F_shape_Offset_L5 x1 v8 x19 x20 (IntKind.i64.wrap (v1.snd.snd.snd + (1 : Int)))
 else
 some (.inl x6)
  partial_fixpoint
theorem P_shape_Offset_L5 (x1 : List Int) (x6 : Int) (x19 : List Int) (x20 : Int) (x21 : Int) (o : Int ⊕ (Int × Bool)) (h : F_shape_Offset_L5 x1 x6 x19 x20 x21 = some o) : LO 58 5 49 [1, 6, 19, 20, 21] [.sl 1 (List.map eI x1), .int .i64 x6, .sl 1 (List.map eI x19), .int .i64 x20, .int .i64 x21] [] [4, 5, 6] (A_shape_Offset_L5 x1 (x19, x20) o) :=
  F_shape_Offset_L5.partial_correctness x1 x19 x20 (fun x6 x21 o => LO 58 5 49 [1, 6, 19, 20, 21] [.sl 1 (List.map eI x1), .int .i64 x6, .sl 1 (List.map eI x19), .int .i64 x20, .int .i64 x21] [] [4, 5, 6] (A_shape_Offset_L5 x1 (x19, x20) o))
  (fun F_shape_Offset_L5 ih_shape_Offset_L5 x6 x21 o h  =>
  Lp1 (hs := [(22, .split), (24, .e eI), (28, .e eI), (30, .split), (34, .e eI), (37, .split), (44, .e eI), (6, .n eI 6 none), (5000007, .l [] [] [] [1, 6, 7, 8, 19, 20, 21, 38] [] (A_shape_Offset_J5000007 (x1, x19, x20)))]) (kb := []) (kbx := []) (by kernel_rfl) (by kernel_rfl) ((kIfD (p := x21 < x20) (kIx (enc := eI) (l := x19) (k := x21) fun v0 => (kJb (id := 5000007) (x6, x21, v0, x21) (fun v1 ev1 v2 => (kIx (enc := eI) (l := x1) (k := x21) fun v3 => (kIfD (p := v3 < (0 : Int)) (kXj (alts := A_shape_Offset_J5000007 (x1, x19, x20)) ev1 true (.here () rfl (.refl _) (.refl _)))
 (kIx (enc := eI) (l := x1) (k := x21) fun v4 => (kIfD (p := v0 ≤ v4) (kXj (alts := A_shape_Offset_J5000007 (x1, x19, x20)) ev1 true (.here () rfl (.refl _) (.refl _)))
 (kXj (alts := A_shape_Offset_J5000007 (x1, x19, x20)) ev1 false (.next (.here () rfl (.refl _) (.refl _)))))))))
 (fun v1 => (kX (alts := A_shape_Offset_L5 x1 (x19, x20)) (.inr ((0 : Int), false)) (.next (.here _ rfl (.cons (LeV.refl (AV.int IntKind.i64 (0 : Int))) (.cons (LeV.refl (AV.bool false)) (.cons (LeV.undef (AV.int IntKind.i64 v1.fst)) .nil))) (.refl _)))))
 (fun v1 => (kIx (enc := eI) (l := x1) (k := v1.snd.fst) fun v7 => (kN (IntKind.i64.wrap (IntKind.i64.wrap (v1.fst * v1.snd.snd.fst) + v7)) rfl fun v8 => (kM0 (alts := A_shape_Offset_L5 x1 (x19, x20)) (ih_shape_Offset_L5 v8 (IntKind.i64.wrap (v1.snd.snd.snd + (1 : Int))))))))))
 (kX (alts := A_shape_Offset_L5 x1 (x19, x20)) (.inl x6) (.here _ rfl (.refl _) (.refl _)))) h)) x6 x21 o h
def A_shape_Offset_J5000001 (s : ((List Int) × (List Int))) (u : Unit) (o : Bool) : List Alt := [⟨fun (x : Unit) => true = o, .normal, fun x => [.sl 1 (List.map eI (s.1)), .sl 1 (List.map eI (s.2)), .bool true], fun x => []⟩, ⟨fun (x : Unit) => false = o, .normal, fun x => [.sl 1 (List.map eI (s.1)), .sl 1 (List.map eI (s.2)), .bool false], fun x => []⟩]
noncomputable def F_shape_Offset (x0 : List Int) (x1 : List Int) : Option (Int × Bool) :=
 some () >>= fun v0 =>
 (F_shape_Validate x0 >>= fun v2 =>
 if v2 != (0 : Int) then
 some true
 else
 some (List.length x1 : Int) >>= fun v3 =>
 some (List.length x0 : Int) >>= fun v4 =>
 if v3 != v4 then
 some true
 else
 some false) >>= fun v1 => if v1 then
 some ((0 : Int), false)
 else
 some ((0 : Int) : Int) >>= fun v7 =>
 some (List.length x0 : Int) >>= fun v8 =>
 some (x0, v8) >>= fun v9 =>
 F_shape_Offset_L5 x1 v7 x0 v8 (0 : Int) >>= fun v10 => (match v10 with
 | (.inl v11) =>
 some (v11, true)
 | (.inr v12) =>
 some (v12.fst, v12.snd))
theorem P_shape_Offset (x0 : List Int) (x1 : List Int) (r : (Int × Bool)) (h : F_shape_Offset x0 x1 = some r) : PU 58 [eLI x0, eLI x1] (eT_I_B r) :=
  Pu1 (hs := [(10, .c eI), (11, .split), (14, .n eI 14 none), (16, .n eI 16 none), (17, .split), (20, .n eI 20 none), (6, .n eI 6 none), (3000006, .l [] [1, 6, 19, 20, 21] [] [4, 5, 6] [] (A_shape_Offset_L5 x1)), (5000001, .l [] [] [] [0, 1, 18] [] (A_shape_Offset_J5000001 (x0, x1)))]) (by kernel_rfl) ((kJb (id := 5000001) () (fun v0 ev0 v1 => (kC (sh := eI) (P_shape_Validate x0) fun v2 => (kIf (c := v2 != (0 : Int)) (kXj (alts := A_shape_Offset_J5000001 (x0, x1)) ev0 true (.here () rfl (.refl _) (.refl _)))
 (kN _ (mLen (sh := eI) x1) fun v3 => (kN _ (mLen (sh := eI) x0) fun v4 => (kIf (c := v3 != v4) (kXj (alts := A_shape_Offset_J5000001 (x0, x1)) ev0 true (.here () rfl (.refl _) (.refl _)))
 (kXj (alts := A_shape_Offset_J5000001 (x0, x1)) ev0 false (.next (.here () rfl (.refl _) (.refl _))))))))))
 (fun v0 => (kEr (enc := eT_I_B) ((0 : Int), false)))
 (fun v0 => (kN (0 : Int) rfl fun v7 => (kN _ (mLen (sh := eI) x0) fun v8 => (kL2 (x0, v8) (hL := (P_shape_Offset_L5 x1 v7 x0 v8 (0 : Int))) (hA := fun v9 v11 => (kEr (enc := eT_I_B) (v11, true)))
 (hB := fun v9 v12 => (kEr (enc := eT_I_B) (v12.fst, v12.snd)))))))) h)
def A_trace_region_L7 (s : Str) (u : (gBuffer × (List gRegion) × (List gIndex) × Int)) (o : (List Int) ⊕ (List gRegion)) : List Alt := [⟨fun (x : List Int) => (Sum.inl x : (List Int) ⊕ (List gRegion)) = o, .exit 0, fun x => [.str s, .undef, .ptr 0 0 0, .sl 3 (List.map egRegion u.2.1), .sl 1 (List.map eI x)], fun x => [.cells 0 (egBuffer u.1).cells]⟩, ⟨fun (x : List gRegion) => (Sum.inr x : (List Int) ⊕ (List gRegion)) = o, .ret, fun x => [.str s, .sl 3 (List.map egRegion x), .ptr 0 0 0, .sl 3 (List.map egRegion u.2.1), .undef], fun x => [.cells 0 (egBuffer u.1).cells]⟩]
def A_trace_region_J5000009 (s : (Str × gBuffer × (List gRegion) × (List gIndex) × Int)) (u : ((List Int) × gIndex × Int)) (o : Bool) : List Alt := [⟨fun (x : Unit) => true = o, .normal, fun x => [.str (s.1), .ptr 0 0 0, .sl 3 (List.map egRegion (s.2.2.1)), .ow 1 0 1 (List.length (u.1)), .ptr 2 0 0, .sl 4 (List.map egIndex (s.2.2.2.1)), .int .i64 (s.2.2.2.2), .int .i64 (u.2.2), .bool true], fun x => [.cells 0 (egBuffer (s.2.1)).cells, .own 0 1 (List.map eI (u.1)), .cells 0 (egIndex (u.2.1)).cells]⟩, ⟨fun (x : Unit) => false = o, .normal, fun x => [.str (s.1), .ptr 0 0 0, .sl 3 (List.map egRegion (s.2.2.1)), .ow 1 0 1 (List.length (u.1)), .ptr 2 0 0, .sl 4 (List.map egIndex (s.2.2.2.1)), .int .i64 (s.2.2.2.2), .int .i64 (u.2.2), .bool false], fun x => [.cells 0 (egBuffer (s.2.1)).cells, .own 0 1 (List.map eI (u.1)), .cells 0 (egIndex (u.2.1)).cells]⟩]
noncomputable def F_trace_region_L7 (x7 : gBuffer) (x9 : List gRegion) (x10 : List Int) (x34 : List gIndex) (x35 : Int) (x36 : Int) : Option ((List Int) ⊕ (List gRegion)) :=
 if x36 < x35 then
 ix x34 x36 >>= fun v0 =>
 some (x10, v0, x36) >>= fun v1 =>
 (if !v0.fFrom == [] then
 some true
 else
 if (0 : Int) < (↑(List.map egMono v0.fLin.fL).length : Int) then
 some (List.length v0.fLin.fL : Int) >>= fun v3 =>
 some true
 else
 if (↑(List.map eI x7.fDims).length : Int) ≤ x36 then
 some (List.length v0.fLin.fL : Int) >>= fun v4 =>
 some (List.length x7.fDims : Int) >>= fun v5 =>
 some true
 else
 if v0.fLin.fK < (0 : Int) then
 some (List.length v0.fLin.fL : Int) >>= fun v6 =>
 some (List.length x7.fDims : Int) >>= fun v7 =>
 some true
 else
 ix x7.fDims x36 >>= fun v8 =>
 some (List.length v0.fLin.fL : Int) >>= fun v9 =>
 some (List.length x7.fDims : Int) >>= fun v10 =>
 if v8 ≤ v0.fLin.fK then
 some true
 else
 some false) >>= fun v2 => if v2 then
 some (.inr x9)
 else
 if (v1.fst.length + (1 : Nat)) * (8 : Nat) ≤ (140737488355328 : Nat) ∧ v1.fst.length + (1 : Nat) ≤ (9223372036854775807 : Nat) then
 some (v1.fst ++ [v1.snd.fst.fLin.fK]) >>= fun v13 =>
 F_trace_region_L7 x7 x9 v13 x34 x35 (IntKind.i64.wrap (v1.snd.snd + (1 : Int)))
 else none
 else
 some (.inl x10)
  partial_fixpoint
theorem P_trace_region_L7 (x1 : Str) (x7 : gBuffer) (x9 : List gRegion) (x10 : List Int) (x34 : List gIndex) (x35 : Int) (x36 : Int) (o : (List Int) ⊕ (List gRegion)) (h : F_trace_region_L7 x7 x9 x10 x34 x35 x36 = some o) : LO 36 7 99 [1, 7, 9, 10, 34, 35, 36] [.str x1, .ptr 0 0 0, .sl 3 (List.map egRegion x9), .ow 1 0 1 (List.length x10), .sl 4 (List.map egIndex x34), .int .i64 x35, .int .i64 x36] [.cells 0 (egBuffer x7).cells, .own 0 1 (List.map eI x10)] [1, 6, 7, 9, 10] (A_trace_region_L7 x1 (x7, x9, x34, x35) o) :=
  F_trace_region_L7.partial_correctness x7 x9 x34 x35 (fun x10 x36 o => ∀ (x1 : Str), LO 36 7 99 [1, 7, 9, 10, 34, 35, 36] [.str x1, .ptr 0 0 0, .sl 3 (List.map egRegion x9), .ow 1 0 1 (List.length x10), .sl 4 (List.map egIndex x34), .int .i64 x35, .int .i64 x36] [.cells 0 (egBuffer x7).cells, .own 0 1 (List.map eI x10)] [1, 6, 7, 9, 10] (A_trace_region_L7 x1 (x7, x9, x34, x35) o))
  (fun F_trace_region_L7 ih_trace_region_L7 x10 x36 o h x1 =>
  Lp1 (hs := [(37, .split), (39, .e egIndex), (43, .split), (48, .n eI 48 none), (49, .split), (55, .n eI 55 none), (56, .split), (62, .split), (71, .e eI), (73, .split), (81, .z [{ slot := 76, own := 1 }] (some (.n eI 81 (some .a)))), (6, .z [{ slot := 98, own := 3 }, { slot := 98, fz := true }] none), (5000009, .l [] [] [] [1, 7, 9, 10, 12, 34, 35, 36, 74] [{ slot := 7 }, { slot := 10, own := 1 }, { slot := 12 }] (A_trace_region_J5000009 (x1, x7, x9, x34, x35)))]) (kb := [{ slot := 7 }, { slot := 10, own := 1 }]) (kbx := [{ slot := 7 }, { slot := 10, fz := true }]) (by kernel_rfl) (by kernel_rfl) ((kIfD (p := x36 < x35) (kIx (enc := egIndex) (l := x34) (k := x36) fun v0 => (kJb (id := 5000009) (x10, v0, x36) (fun v1 ev1 v2 => (kIf (c := !v0.fFrom == []) (kXj (alts := A_trace_region_J5000009 (x1, x7, x9, x34, x35)) ev1 true (.here () rfl (.refl _) (.refl _)))
 (kIfD (p := (0 : Int) < (↑(List.map egMono v0.fLin.fL).length : Int)) (kN _ (mLen (sh := egMono) v0.fLin.fL) fun v3 => (kXj (alts := A_trace_region_J5000009 (x1, x7, x9, x34, x35)) ev1 true (.here () rfl (.refl _) (.refl _))))
 (kIfD (p := (↑(List.map eI x7.fDims).length : Int) ≤ x36) (kN _ (mLen (sh := egMono) v0.fLin.fL) fun v4 => (kN _ (mLen (sh := eI) x7.fDims) fun v5 => (kXj (alts := A_trace_region_J5000009 (x1, x7, x9, x34, x35)) ev1 true (.here () rfl (.refl _) (.refl _)))))
 (kIfD (p := v0.fLin.fK < (0 : Int)) (kN _ (mLen (sh := egMono) v0.fLin.fL) fun v6 => (kN _ (mLen (sh := eI) x7.fDims) fun v7 => (kXj (alts := A_trace_region_J5000009 (x1, x7, x9, x34, x35)) ev1 true (.here () rfl (.refl _) (.refl _)))))
 (kIx (enc := eI) (l := x7.fDims) (k := x36) fun v8 => (kN _ (mLen (sh := egMono) v0.fLin.fL) fun v9 => (kN _ (mLen (sh := eI) x7.fDims) fun v10 => (kIfD (p := v8 ≤ v0.fLin.fK) (kXj (alts := A_trace_region_J5000009 (x1, x7, x9, x34, x35)) ev1 true (.here () rfl (.refl _) (.refl _)))
 (kXj (alts := A_trace_region_J5000009 (x1, x7, x9, x34, x35)) ev1 false (.next (.here () rfl (.refl _) (.refl _)))))))))))))
 (fun v1 => (kT (nM (sh := eI) v1.fst) (kX (alts := A_trace_region_L7 x1 (x7, x9, x34, x35)) (.inr x9) (.next (.here _ rfl (.cons (LeV.refl (AV.str x1)) (.cons (LeV.refl (AV.sl (3 : Nat) (List.map egRegion x9))) (.cons (LeV.refl (AV.ptr (0 : Nat) (0 : Nat) (0 : Nat))) (.cons (LeV.refl (AV.sl (3 : Nat) (List.map egRegion x9))) (.cons (LeV.undef (AV.sl (1 : Nat) (List.map eI v1.fst))) .nil))))) (.refl _))))))
 (fun v1 => (kA (q := (v1.fst.length + (1 : Nat)) * (8 : Nat) ≤ (140737488355328 : Nat) ∧ v1.fst.length + (1 : Nat) ≤ (9223372036854775807 : Nat)) (sh := eI) (l := v1.fst) (kO (sh := eI) (v1.fst ++ [v1.snd.fst.fLin.fK]) (mA (sh := eI) v1.fst v1.snd.fst.fLin.fK) (nA v1.fst v1.snd.fst.fLin.fK) fun v13 => (kM0 (alts := A_trace_region_L7 x1 (x7, x9, x34, x35)) (fun y hy => ih_trace_region_L7 v13 (IntKind.i64.wrap (v1.snd.snd + (1 : Int))) y hy x1)))))))
 (kT (nM (sh := eI) x10) (kX (alts := A_trace_region_L7 x1 (x7, x9, x34, x35)) (.inl x10) (.here _ rfl (.refl _) (.refl _))))) h)) x10 x36 o h x1
def A_trace_region_J5000002 (s : (Str × (List gIndex))) (u : gBuffer) (o : Bool) : List Alt := [⟨fun (x : Unit) => true = o, .normal, fun x => [.str (s.1), .sl 4 (List.map egIndex (s.2)), .ptr 0 0 0, .bool true], fun x => [.cells 0 (egBuffer u).cells]⟩, ⟨fun (x : Unit) => false = o, .normal, fun x => [.str (s.1), .sl 4 (List.map egIndex (s.2)), .ptr 0 0 0, .bool false], fun x => [.cells 0 (egBuffer u).cells]⟩]
noncomputable def F_trace_region (x0 : gNest) (x1 : Str) (x2 : List gIndex) : Option (List gRegion) :=
 F_loopnest_Buffer x0 x1 >>= fun v0 =>
 some v0.fst >>= fun v1 =>
 (if v0.snd then
 F_shape_Validate v0.fst.fDims >>= fun v3 =>
 if v3 != (0 : Int) then
 some true
 else
 some false
 else
 some true) >>= fun v2 => if v2 then
 some []
 else
 F_shape_Size v1.fDims >>= fun v6 =>
 some ((gRegion.mk x1 (0 : Int) v6)) >>= fun v7 =>
 some (List.length x2 : Int) >>= fun v8 =>
 some (v1, [v7], x2, v8) >>= fun v9 =>
 F_trace_region_L7 v1 [v7] [] x2 v8 (0 : Int) >>= fun v10 => (match v10 with
 | (.inl v11) =>
 F_shape_Offset v9.fst.fDims v11 >>= fun v12 =>
 if v12.snd then
 some ((gRegion.mk x1 v12.fst (IntKind.i64.wrap (v12.fst + (1 : Int))))) >>= fun v13 =>
 some [v13]
 else
 some v9.snd.fst
 | (.inr v14) =>
 some v14)
theorem P_trace_region (x0 : gNest) (x1 : Str) (x2 : List gIndex) (r : List gRegion) (h : F_trace_region x0 x1 x2 = some r) : PU 36 [egNest x0, eS x1, eLgIndex x2] (eLgRegion r) :=
  Pu1 (hs := [(17, .c eT_gBuffer_B), (20, .split), (25, .c eI), (26, .split), (31, .c eI), (32, .n egRegion 32 none), (9, .z [{ slot := 33, own := 3 }, { slot := 33, fz := true }] none), (35, .n eI 35 none), (87, .c eT_I_B), (90, .split), (97, .n egRegion 97 none), (6, .z [{ slot := 98, own := 3 }, { slot := 98, fz := true }] none), (3000008, .l [] [1, 7, 9, 10, 34, 35, 36] [{ slot := 7 }, { slot := 10, own := 1 }] [1, 6, 7, 9, 10] [{ slot := 7 }, { slot := 10, fz := true }] (A_trace_region_L7 x1)), (5000002, .l [] [] [] [1, 2, 7, 27] [{ slot := 7 }] (A_trace_region_J5000002 (x1, x2)))]) (by kernel_rfl) ((kC (sh := eT_gBuffer_B) (P_loopnest_Buffer x0 x1) fun v0 => (kJb (id := 5000002) v0.fst (fun v1 ev1 v2 => (kIf (c := v0.snd) (kC (sh := eI) (P_shape_Validate v0.fst.fDims) fun v3 => (kIf (c := v3 != (0 : Int)) (kXj (alts := A_trace_region_J5000002 (x1, x2)) ev1 true (.here () rfl (.refl _) (.refl _)))
 (kXj (alts := A_trace_region_J5000002 (x1, x2)) ev1 false (.next (.here () rfl (.refl _) (.refl _))))))
 (kXj (alts := A_trace_region_J5000002 (x1, x2)) ev1 true (.here () rfl (.refl _) (.refl _)))))
 (fun v1 => (kE (enc := eLgRegion) [] (LeT.nil 3)))
 (fun v1 => (kC (sh := eI) (P_shape_Size v1.fDims) fun v6 => (kW (sh := egRegion) (gRegion.mk x1 (0 : Int) v6) (LeV.refl _) fun v7 => (kT (rfl : (1 : Nat) = (1 : Nat)) (kN _ (mLen (sh := egIndex) x2) fun v8 => (kL2 (v1, [v7], x2, v8) (hL := (P_trace_region_L7 x1 v1 [v7] [] x2 v8 (0 : Int))) (hA := fun v9 v11 => (kC (sh := eT_I_B) (P_shape_Offset v9.fst.fDims v11) fun v12 => (kIf (c := v12.snd) (kW (sh := egRegion) (gRegion.mk x1 v12.fst (IntKind.i64.wrap (v12.fst + (1 : Int)))) (LeV.refl _) fun v13 => (kT (rfl : (1 : Nat) = (1 : Nat)) (kEr (enc := eLgRegion) [v13])))
 (kEr (enc := eLgRegion) v9.snd.fst))))
 (hB := fun v9 v14 => (kEr (enc := eLgRegion) v14)))))))))) h)
def A_trace_Writes_L6 (s : gNest) (u : ((List gStmt) × Int)) (o : List gRegion) : List Alt := [⟨fun (x : List gRegion) => x = o, .exit 0, fun x => [.sl 3 (List.map egRegion x)], fun x => []⟩]
def A_trace_Writes_J5000004 (s : (gNest × gStmtS)) (u : List gRegion) (o : Bool) : List Alt := [⟨fun (x : Unit) => true = o, .normal, fun x => [.ptr 0 0 0, .ptr 1 0 0, .ow 2 0 3 (List.length u), .bool true], fun x => [.cells 0 (egNest (s.1)).cells, .cells 0 (hgStmt (s.2)).cells, .own 0 3 (List.map egRegion u)]⟩, ⟨fun (x : Unit) => false = o, .normal, fun x => [.ptr 0 0 0, .ptr 1 0 0, .ow 2 0 3 (List.length u), .bool false], fun x => [.cells 0 (egNest (s.1)).cells, .cells 0 (hgStmt (s.2)).cells, .own 0 3 (List.map egRegion u)]⟩]
mutual
noncomputable def F_trace_Writes (x0 : gNest) (x1 : gStmtS) : Option (List gRegion) :=
 F_trace_store x1 >>= fun v0 => if v0 then
 F_trace_region x0 x1.fName x1.fIdx >>= fun v1 =>
 some v1
 else
 some [] >>= fun v2 =>
 (if x1.fOp == (1 : Int) then
 some true
 else
 if x1.fOp == (4 : Int) then
 some true
 else
 some false) >>= fun v3 => if v3 then
 some (List.length x1.fBody : Int) >>= fun v5 =>
 some (x1.fBody, v5) >>= fun v6 =>
 F_trace_Writes_L6 x0 v2 x1.fBody v5 (0 : Int) >>= fun v8 =>
 some v8
 else
 some v2
  partial_fixpoint
noncomputable def F_trace_Writes_L6 (x2 : gNest) (x5 : List gRegion) (x25 : List gStmt) (x26 : Int) (x27 : Int) : Option (List gRegion) :=
 if x27 < x26 then
 Option.map gStmt.f (ix x25 x27) >>= fun v0 =>
 F_trace_Writes x2 v0 >>= fun v1 =>
 if (x5.length + (List.map egRegion v1).length) * (32 : Nat) ≤ (140737488355328 : Nat) ∧ x5.length + (List.map egRegion v1).length ≤ (9223372036854775807 : Nat) then
 some (x5 ++ v1) >>= fun v2 =>
 F_trace_Writes_L6 x2 v2 x25 x26 (IntKind.i64.wrap (x27 + (1 : Int)))
 else none
 else
 some x5
  partial_fixpoint
end
theorem PM_trace_Writes (x0 : gNest) : (∀ (x1 : gStmtS) (r : List gRegion), F_trace_Writes x0 x1 = some r → PU 18 [egNest x0, hgStmt x1] (eLgRegion r)) ∧ (∀ (x5 : List gRegion) (x25 : List gStmt) (x26 : Int) (x27 : Int) (o : List gRegion), F_trace_Writes_L6 x0 x5 x25 x26 x27 = some o → LO 18 6 38 [2, 5, 25, 26, 27] [.ptr 0 0 0, .ow 1 0 3 (List.length x5), .sl 20 (List.map egStmt x25), .int .i64 x26, .int .i64 x27] [.cells 0 (egNest x0).cells, .own 0 3 (List.map egRegion x5)] [5] (A_trace_Writes_L6 x0 (x25, x26) o)) :=
  F_trace_Writes.mutual_partial_correctness x0 (fun x1 r => PU 18 [egNest x0, hgStmt x1] (eLgRegion r)) (fun x5 x25 x26 x27 o => LO 18 6 38 [2, 5, 25, 26, 27] [.ptr 0 0 0, .ow 1 0 3 (List.length x5), .sl 20 (List.map egStmt x25), .int .i64 x26, .int .i64 x27] [.cells 0 (egNest x0).cells, .own 0 3 (List.map egRegion x5)] [5] (A_trace_Writes_L6 x0 (x25, x26) o))
  (fun F_trace_Writes_L6 ih_trace_Writes_L6 x1 r h  =>
  Pu1 (hs := [(9, .cb), (15, .c eLgRegion), (18, .split), (22, .split), (26, .n eI 26 none), (3000007, .l [] [2, 5, 25, 26, 27] [{ slot := 2 }, { slot := 5, own := 3 }] [5] [{ slot := 5, fz := true }] (A_trace_Writes_L6 x0)), (5000004, .l [] [] [] [2, 3, 5, 23] [{ slot := 2 }, { slot := 3 }, { slot := 5, own := 3 }] (A_trace_Writes_J5000004 (x0, x1)))]) (by kernel_rfl) ((kCb (P_trace_store x1) (kC (sh := eLgRegion) (P_trace_region x0 x1.fName x1.fIdx) fun v1 => (kEr (enc := eLgRegion) v1))
 (kJb (id := 5000004) [] (fun v2 ev2 v3 => (kIf (c := x1.fOp == (1 : Int)) (kXj (alts := A_trace_Writes_J5000004 (x0, x1)) ev2 true (.here () rfl (.refl _) (.refl _)))
 (kIf (c := x1.fOp == (4 : Int)) (kXj (alts := A_trace_Writes_J5000004 (x0, x1)) ev2 true (.here () rfl (.refl _) (.refl _)))
 (kXj (alts := A_trace_Writes_J5000004 (x0, x1)) ev2 false (.next (.here () rfl (.refl _) (.refl _)))))))
 (fun v2 => (kN _ (mLen (sh := egStmt) x1.fBody) fun v5 => (kL1 (x1.fBody, v5) (ih_trace_Writes_L6 v2 x1.fBody v5 (0 : Int)) fun v6 v8 => (kEr (enc := eLgRegion) v8))))
 (fun v2 => (kT (nM (sh := egRegion) v2) (kEr (enc := eLgRegion) v2))))) h))
  (fun F_trace_Writes F_trace_Writes_L6 ih_trace_Writes ih_trace_Writes_L6 x5 x25 x26 x27 o h  =>
  Lp1 (hs := [(28, .split), (29, .e hgStmt), (34, .c eLgRegion), (35, .z [{ slot := 31, own := 3 }] (some (.n egRegion 35 (some .a))))]) (kb := [{ slot := 2 }, { slot := 5, own := 3 }]) (kbx := [{ slot := 5, fz := true }]) (by kernel_rfl) (by kernel_rfl) ((kIfD (p := x27 < x26) (kIxR (l := x25) (k := x27) egStmt_f fun v0 => (kC (sh := eLgRegion) (ih_trace_Writes v0) fun v1 => (kA (q := (x5.length + (List.map egRegion v1).length) * (32 : Nat) ≤ (140737488355328 : Nat) ∧ x5.length + (List.map egRegion v1).length ≤ (9223372036854775807 : Nat)) (sh := egRegion) (l := x5) (kO (sh := egRegion) (x5 ++ v1) (mAA (sh := egRegion) x5 v1) (nAA (sh := egRegion) x5 v1) fun v2 => (kM0 (alts := A_trace_Writes_L6 x0 (x25, x26)) (ih_trace_Writes_L6 v2 x25 x26 (IntKind.i64.wrap (x27 + (1 : Int)))))))))
 (kT (nM (sh := egRegion) x5) (kX (alts := A_trace_Writes_L6 x0 (x25, x26)) x5 (.here _ rfl (.refl _) (.refl _))))) h))
theorem P_trace_Writes (x0 : gNest) (x1 : gStmtS) (r : List gRegion) (h : F_trace_Writes x0 x1 = some r) : PU 18 [egNest x0, hgStmt x1] (eLgRegion r) := (PM_trace_Writes x0).1 x1 r h
theorem P_trace_Writes_L6 (x2 : gNest) (x5 : List gRegion) (x25 : List gStmt) (x26 : Int) (x27 : Int) (o : List gRegion) (h : F_trace_Writes_L6 x2 x5 x25 x26 x27 = some o) : LO 18 6 38 [2, 5, 25, 26, 27] [.ptr 0 0 0, .ow 1 0 3 (List.length x5), .sl 20 (List.map egStmt x25), .int .i64 x26, .int .i64 x27] [.cells 0 (egNest x2).cells, .own 0 3 (List.map egRegion x5)] [5] (A_trace_Writes_L6 x2 (x25, x26) o) := (PM_trace_Writes x2).2 x5 x25 x26 x27 o h
def A_ref35_Core_L1 (s : Unit) (u : gStmtS) (o : gStmtS) : List Alt := [⟨fun (x : gStmtS) => x = o, .exit 0, fun x => [.ptr 0 0 0, .ptr 1 0 0], fun x => [.cells 0 (hgStmt x).cells, .cells 0 (hgStmt u).cells]⟩]
def A_ref35_Core_J5000001 (s : gStmtS) (u : gStmtS) (o : Bool) : List Alt := [⟨fun (x : Unit) => true = o, .normal, fun x => [.ptr 0 0 0, .ptr 1 0 0, .bool true], fun x => [.cells 0 (hgStmt u).cells, .cells 0 (hgStmt s).cells]⟩, ⟨fun (x : Unit) => false = o, .normal, fun x => [.ptr 0 0 0, .ptr 1 0 0, .bool false], fun x => [.cells 0 (hgStmt u).cells, .cells 0 (hgStmt s).cells]⟩]
noncomputable def F_ref35_Core_L1 (x1 : gStmtS) : Option gStmtS :=
 some x1 >>= fun v0 =>
 (if x1.fOp == (4 : Int) then
 some (List.length x1.fBody : Int) >>= fun v2 =>
 if v2 == (1 : Int) then
 some true
 else
 some false
 else
 some false) >>= fun v1 => if v1 then
 Option.map gStmt.f (ix v0.fBody (0 : Int)) >>= fun v4 =>
 F_ref35_Core_L1 v4
 else
 some v0
  partial_fixpoint
theorem P_ref35_Core_L1 (x1 : gStmtS) (x2 : gStmtS) (o : gStmtS) (h : F_ref35_Core_L1 x1 = some o) : LO 19 1 17 [1, 2] [.ptr 0 0 0, .ptr 1 0 0] [.cells 0 (hgStmt x1).cells, .cells 0 (hgStmt x2).cells] [1, 2] (A_ref35_Core_L1 () x2 o) :=
  F_ref35_Core_L1.partial_correctness  (fun x1 o => ∀ (x2 : gStmtS), LO 19 1 17 [1, 2] [.ptr 0 0 0, .ptr 1 0 0] [.cells 0 (hgStmt x1).cells, .cells 0 (hgStmt x2).cells] [1, 2] (A_ref35_Core_L1 () x2 o))
  (fun F_ref35_Core_L1 ih_ref35_Core_L1 x1 o h x2 =>
  Lp1 (hs := [(5, .split), (9, .n eI 9 none), (10, .split), (14, .e hgStmt), (5000001, .l [] [] [] [1, 2, 11] [{ slot := 1 }, { slot := 2 }] (A_ref35_Core_J5000001 x2))]) (kb := [{ slot := 1 }, { slot := 2 }]) (kbx := [{ slot := 1 }, { slot := 2 }]) (by kernel_rfl) (by kernel_rfl) ((kJb (id := 5000001) x1 (fun v0 ev0 v1 => (kIf (c := x1.fOp == (4 : Int)) (kN _ (mLen (sh := egStmt) x1.fBody) fun v2 => (kIf (c := v2 == (1 : Int)) (kXj (alts := A_ref35_Core_J5000001 x2) ev0 true (.here () rfl (.refl _) (.refl _)))
 (kXj (alts := A_ref35_Core_J5000001 x2) ev0 false (.next (.here () rfl (.refl _) (.refl _))))))
 (kXj (alts := A_ref35_Core_J5000001 x2) ev0 false (.next (.here () rfl (.refl _) (.refl _))))))
 (fun v0 => (kIxR (l := v0.fBody) (k := (0 : Int)) egStmt_f fun v4 => (kM0 (alts := A_ref35_Core_L1 () x2) (fun y hy => ih_ref35_Core_L1 v4 y hy x2))))
 (fun v0 => (kX (alts := A_ref35_Core_L1 () x2) v0 (.here _ rfl (.refl _) (.refl _))))) h)) x1 o h x2
noncomputable def F_ref35_Core (x0 : gStmtS) : Option gStmtS :=
 some (gStmtF.mk (0 : Int) [] (0 : Int) (0 : Int) (0 : Int) [] (gExprF.mk (0 : Int) [] (gVal.mk (0 : Int) (0 : Int)) (gType.mk (0 : Int) (0 : Int) (0 : Int) (0 : Int) (0 : Int)) (gLin.mk (0 : Int) []) [] [] : gExprS) [] : gStmtS) >>= fun v0 =>
 F_ref35_Core_L1 x0 >>= fun v2 =>
 some v2
theorem P_ref35_Core (x0 : gStmtS) (r : gStmtS) (h : F_ref35_Core x0 = some r) : PU 19 [hgStmt x0] (hgStmt r) :=
  Pu1 (hs := [(3000002, .l [] [1, 2] [{ slot := 1 }, { slot := 2 }] [1, 2] [{ slot := 1 }, { slot := 2 }] (A_ref35_Core_L1 ()))]) (by kernel_rfl) ((kL1 (gStmtF.mk (0 : Int) [] (0 : Int) (0 : Int) (0 : Int) [] (gExprF.mk (0 : Int) [] (gVal.mk (0 : Int) (0 : Int)) (gType.mk (0 : Int) (0 : Int) (0 : Int) (0 : Int) (0 : Int)) (gLin.mk (0 : Int) []) [] [] : gExprS) [] : gStmtS) (fun y hy => LoopOk.le (.cons (LeV.refl (AV.ptr (0 : Nat) (0 : Nat) (0 : Nat))) (.cons (LeV.refl (AV.ptr (1 : Nat) (0 : Nat) (0 : Nat))) .nil)) (.cons (LeB.refl (Box.cells (0 : Nat) [AV.int IntKind.i64 x0.fOp, AV.str x0.fName, AV.int IntKind.i64 x0.fMany, AV.int IntKind.i64 x0.fMark, AV.int IntKind.i64 x0.fFold, AV.sl (4 : Nat) (List.map egIndex x0.fIdx), AV.int IntKind.i64 x0.fExpr.fOp, AV.str x0.fExpr.fName, AV.int IntKind.i64 x0.fExpr.fVal.fN, AV.int IntKind.i64 x0.fExpr.fVal.fD, AV.int IntKind.i64 x0.fExpr.fType.fKind, AV.int IntKind.i64 x0.fExpr.fType.fBits, AV.int IntKind.i64 x0.fExpr.fType.fFrac, AV.int IntKind.i64 x0.fExpr.fType.fRound, AV.int IntKind.i64 x0.fExpr.fType.fOver, AV.int IntKind.i64 x0.fExpr.fLin.fK, AV.sl (2 : Nat) (List.map egMono x0.fExpr.fLin.fL), AV.sl (4 : Nat) (List.map egIndex x0.fExpr.fIdx), AV.sl (13 : Nat) (List.map egExpr x0.fExpr.fArgs), AV.sl (20 : Nat) (List.map egStmt x0.fBody)])) (.cons (LeB.cells (0 : Nat) (.cons (LeV.refl (AV.int IntKind.i64 (0 : Int))) (.cons (LeV.refl (AV.str [])) (.cons (LeV.refl (AV.int IntKind.i64 (0 : Int))) (.cons (LeV.refl (AV.int IntKind.i64 (0 : Int))) (.cons (LeV.refl (AV.int IntKind.i64 (0 : Int))) (.cons (LeV.nil 4) (.cons (LeV.refl (AV.int IntKind.i64 (0 : Int))) (.cons (LeV.refl (AV.str [])) (.cons (LeV.refl (AV.int IntKind.i64 (0 : Int))) (.cons (LeV.refl (AV.int IntKind.i64 (0 : Int))) (.cons (LeV.refl (AV.int IntKind.i64 (0 : Int))) (.cons (LeV.refl (AV.int IntKind.i64 (0 : Int))) (.cons (LeV.refl (AV.int IntKind.i64 (0 : Int))) (.cons (LeV.refl (AV.int IntKind.i64 (0 : Int))) (.cons (LeV.refl (AV.int IntKind.i64 (0 : Int))) (.cons (LeV.refl (AV.int IntKind.i64 (0 : Int))) (.cons (LeV.nil 2) (.cons (LeV.nil 4) (.cons (LeV.nil 13) (.cons (LeV.nil 20) .nil))))))))))))))))))))) .nil)) (P_ref35_Core_L1 x0 (gStmtF.mk (0 : Int) [] (0 : Int) (0 : Int) (0 : Int) [] (gExprF.mk (0 : Int) [] (gVal.mk (0 : Int) (0 : Int)) (gType.mk (0 : Int) (0 : Int) (0 : Int) (0 : Int) (0 : Int)) (gLin.mk (0 : Int) []) [] [] : gExprS) [] : gStmtS) y hy)) fun v0 v2 => (kEr (enc := hgStmt) v2)) h)
def A_ref30_Buffer_L2 (s : (Str × gNest)) (u : Unit) (o : gBuffer ⊕ (gBuffer × Bool)) : List Alt := [⟨fun (x : gBuffer) => (Sum.inl x : gBuffer ⊕ (gBuffer × Bool)) = o, .exit 0, fun x => [.ptr 0 0 0, .undef], fun x => [.cells 0 (egBuffer x).cells]⟩, ⟨fun (x : (gBuffer × Bool)) => (Sum.inr x : gBuffer ⊕ (gBuffer × Bool)) = o, .ret, fun x => [.ptr 0 0 0, .bool x.2], fun x => [.cells 0 (egBuffer x.1).cells]⟩]
noncomputable def F_ref30_Buffer_L2 (x1 : Str) (x2 : gNest) (x4 : gBuffer) (x6 : Int) : Option (gBuffer ⊕ (gBuffer × Bool)) :=
 some (List.length x2.fBufs : Int) >>= fun v0 =>
 if x6 < v0 then
 ix x2.fBufs x6 >>= fun v1 =>
 if v1.fName == x1 then
 ix x2.fBufs x6 >>= fun v2 =>
 some (.inr (v2, true))
 else
 F_ref30_Buffer_L2 x1 x2 x4 (IntKind.i64.wrap (x6 + (1 : Int)))
 else
 some (.inl x4)
  partial_fixpoint
theorem P_ref30_Buffer_L2 (x1 : Str) (x2 : gNest) (x4 : gBuffer) (x6 : Int) (o : gBuffer ⊕ (gBuffer × Bool)) (h : F_ref30_Buffer_L2 x1 x2 x4 x6 = some o) : LO 20 2 28 [1, 2, 4, 6] [.str x1, .ptr 0 0 0, .ptr 1 0 0, .int .i64 x6] [.cells 0 (egNest x2).cells, .cells 0 (egBuffer x4).cells] [4, 5] (A_ref30_Buffer_L2 (x1, x2) () o) :=
  F_ref30_Buffer_L2.partial_correctness x1 x2 x4 (fun x6 o => LO 20 2 28 [1, 2, 4, 6] [.str x1, .ptr 0 0 0, .ptr 1 0 0, .int .i64 x6] [.cells 0 (egNest x2).cells, .cells 0 (egBuffer x4).cells] [4, 5] (A_ref30_Buffer_L2 (x1, x2) () o))
  (fun F_ref30_Buffer_L2 ih_ref30_Buffer_L2 x6 o h  =>
  Lp1 (hs := [(10, .n eI 10 none), (11, .split), (17, .e egBuffer), (21, .split), (25, .e egBuffer)]) (kb := [{ slot := 2 }, { slot := 4 }]) (kbx := [{ slot := 4 }]) (by kernel_rfl) (by kernel_rfl) ((kN _ (mLen (sh := egBuffer) x2.fBufs) fun v0 => (kIfD (p := x6 < v0) (kIx (enc := egBuffer) (l := x2.fBufs) (k := x6) fun v1 => (kIf (c := v1.fName == x1) (kIx (enc := egBuffer) (l := x2.fBufs) (k := x6) fun v2 => (kX (alts := A_ref30_Buffer_L2 (x1, x2) ()) (.inr (v2, true)) (.next (.here _ rfl (.refl _) (.refl _)))))
 (kM0 (alts := A_ref30_Buffer_L2 (x1, x2) ()) (ih_ref30_Buffer_L2 (IntKind.i64.wrap (x6 + (1 : Int)))))))
 (kX (alts := A_ref30_Buffer_L2 (x1, x2) ()) (.inl x4) (.here _ rfl (.refl _) (.refl _))))) h)) x6 o h
noncomputable def F_ref30_Buffer (x0 : gNest) (x1 : Str) : Option (gBuffer × Bool) :=
 some () >>= fun v0 =>
 F_ref30_Buffer_L2 x1 x0 (gBuffer.mk [] (gType.mk (0 : Int) (0 : Int) (0 : Int) (0 : Int) (0 : Int)) [] (0 : Int)) (0 : Int) >>= fun v1 => (match v1 with
 | (.inl v2) =>
 some ((gBuffer.mk [] (gType.mk (0 : Int) (0 : Int) (0 : Int) (0 : Int) (0 : Int)) [] (0 : Int))) >>= fun v3 =>
 some (v3, false)
 | (.inr v4) =>
 some (v4.fst, v4.snd))
theorem P_ref30_Buffer (x0 : gNest) (x1 : Str) (r : (gBuffer × Bool)) (h : F_ref30_Buffer x0 x1 = some r) : PU 20 [egNest x0, eS x1] (eT_gBuffer_B r) :=
  Pu1 (hs := [(27, .n egBuffer 27 none), (3000003, .l [] [1, 2, 4, 6] [{ slot := 2 }, { slot := 4 }] [4, 5] [{ slot := 4 }] (A_ref30_Buffer_L2 (x1, x0)))]) (by kernel_rfl) ((kL2 () (hL := (fun y hy => LoopOk.le (.cons (LeV.refl (AV.str x1)) (.cons (LeV.refl (AV.ptr (0 : Nat) (0 : Nat) (0 : Nat))) (.cons (LeV.refl (AV.ptr (1 : Nat) (0 : Nat) (0 : Nat))) (.cons (LeV.refl (AV.int IntKind.i64 (0 : Int))) .nil)))) (.cons (LeB.refl (Box.cells (0 : Nat) [AV.sl (8 : Nat) (List.map egBuffer x0.fBufs), AV.sl (20 : Nat) (List.map egStmt x0.fBody)])) (.cons (LeB.cells (0 : Nat) (.cons (LeV.refl (AV.str [])) (.cons (LeV.refl (AV.int IntKind.i64 (0 : Int))) (.cons (LeV.refl (AV.int IntKind.i64 (0 : Int))) (.cons (LeV.refl (AV.int IntKind.i64 (0 : Int))) (.cons (LeV.refl (AV.int IntKind.i64 (0 : Int))) (.cons (LeV.refl (AV.int IntKind.i64 (0 : Int))) (.cons (LeV.nil 1) (.cons (LeV.refl (AV.int IntKind.i64 (0 : Int))) .nil))))))))) .nil)) (P_ref30_Buffer_L2 x1 x0 (gBuffer.mk [] (gType.mk (0 : Int) (0 : Int) (0 : Int) (0 : Int) (0 : Int)) [] (0 : Int)) (0 : Int) y hy))) (hA := fun v0 v2 => (kW (sh := egBuffer) (gBuffer.mk [] (gType.mk (0 : Int) (0 : Int) (0 : Int) (0 : Int) (0 : Int)) [] (0 : Int)) (LeV.agg (.cons (LeV.refl (AV.str [])) (.cons (LeV.refl (AV.int IntKind.i64 (0 : Int))) (.cons (LeV.refl (AV.int IntKind.i64 (0 : Int))) (.cons (LeV.refl (AV.int IntKind.i64 (0 : Int))) (.cons (LeV.refl (AV.int IntKind.i64 (0 : Int))) (.cons (LeV.refl (AV.int IntKind.i64 (0 : Int))) (.cons (LeV.nil 1) (.cons (LeV.refl (AV.int IntKind.i64 (0 : Int))) .nil))))))))) fun v3 => (kEr (enc := eT_gBuffer_B) (v3, false))))
 (hB := fun v0 v4 => (kEr (enc := eT_gBuffer_B) (v4.fst, v4.snd)))) h)
def A_base_Type_J5000001 (s : gType) (u : Unit) (o : Bool) : List Alt := [⟨fun (x : Unit) => true = o, .normal, fun x => [.ptr 0 0 0, .bool true], fun x => [.cells 0 (egType s).cells]⟩, ⟨fun (x : Unit) => false = o, .normal, fun x => [.ptr 0 0 0, .bool false], fun x => [.cells 0 (egType s).cells]⟩]
noncomputable def F_base_Type (x0 : gType) : Option Bool :=
 some () >>= fun v0 =>
 (if x0.fKind == (1 : Int) then
 some true
 else
 if x0.fKind == (3 : Int) then
 some true
 else
 some false) >>= fun v1 => if v1 then
 if x0.fBits == (0 : Int) then
 if x0.fFrac == (0 : Int) then
 if x0.fRound == (0 : Int) then
 some (x0.fOver == (0 : Int))
 else
 some false
 else
 some false
 else
 some false
 else
 if x0.fKind == (2 : Int) then
 if (2 : Int) ≤ x0.fBits then
 if x0.fBits ≤ (31 : Int) then
 if (0 : Int) ≤ x0.fFrac then
 if x0.fFrac ≤ (30 : Int) then
 if (1 : Int) ≤ x0.fRound then
 if x0.fRound ≤ (4 : Int) then
 if x0.fOver == (1 : Int) then
 some true
 else
 some (x0.fOver == (2 : Int))
 else
 some false
 else
 some false
 else
 some false
 else
 some false
 else
 some false
 else
 some false
 else
 some false
theorem P_base_Type (x0 : gType) (r : Bool) (h : F_base_Type x0 = some r) : PU 37 [egType x0] (eB r) :=
  Pu1 (hs := [(5, .split), (9, .split), (13, .split), (17, .split), (22, .split), (31, .split), (35, .split), (40, .split), (45, .split), (50, .split), (55, .split), (60, .split), (65, .split), (5000001, .l [] [] [] [1, 10] [{ slot := 1 }] (A_base_Type_J5000001 x0))]) (by kernel_rfl) ((kJb (id := 5000001) () (fun v0 ev0 v1 => (kIf (c := x0.fKind == (1 : Int)) (kXj (alts := A_base_Type_J5000001 x0) ev0 true (.here () rfl (.refl _) (.refl _)))
 (kIf (c := x0.fKind == (3 : Int)) (kXj (alts := A_base_Type_J5000001 x0) ev0 true (.here () rfl (.refl _) (.refl _)))
 (kXj (alts := A_base_Type_J5000001 x0) ev0 false (.next (.here () rfl (.refl _) (.refl _)))))))
 (fun v0 => (kIf (c := x0.fBits == (0 : Int)) (kIf (c := x0.fFrac == (0 : Int)) (kIf (c := x0.fRound == (0 : Int)) (kEr (enc := eB) (x0.fOver == (0 : Int)))
 (kEr (enc := eB) false))
 (kEr (enc := eB) false))
 (kEr (enc := eB) false)))
 (fun v0 => (kIf (c := x0.fKind == (2 : Int)) (kIfD (p := (2 : Int) ≤ x0.fBits) (kIfD (p := x0.fBits ≤ (31 : Int)) (kIfD (p := (0 : Int) ≤ x0.fFrac) (kIfD (p := x0.fFrac ≤ (30 : Int)) (kIfD (p := (1 : Int) ≤ x0.fRound) (kIfD (p := x0.fRound ≤ (4 : Int)) (kIf (c := x0.fOver == (1 : Int)) (kEr (enc := eB) true)
 (kEr (enc := eB) (x0.fOver == (2 : Int))))
 (kEr (enc := eB) false))
 (kEr (enc := eB) false))
 (kEr (enc := eB) false))
 (kEr (enc := eB) false))
 (kEr (enc := eB) false))
 (kEr (enc := eB) false))
 (kEr (enc := eB) false)))) h)
noncomputable def F_ref04_Reorderable (x0 : Int) (x1 : gType) : Option Bool :=
 F_base_Type x1 >>= fun v0 => if v0 then
 if x0 == (3 : Int) then
 some true
 else
 if x0 == (4 : Int) then
 some true
 else
 if x1.fKind != (2 : Int) then
 if x0 == (1 : Int) then
 some true
 else
 some (x0 == (2 : Int))
 else
 some false
 else
 some false
theorem P_ref04_Reorderable (x0 : Int) (x1 : gType) (r : Bool) (h : F_ref04_Reorderable x0 x1 = some r) : PU 21 [eI x0, egType x1] (eB r) :=
  Pu1 (hs := [(6, .cb), (9, .split), (12, .split), (17, .split), (20, .split)]) (by kernel_rfl) ((kCb (P_base_Type x1) (kIf (c := x0 == (3 : Int)) (kEr (enc := eB) true)
 (kIf (c := x0 == (4 : Int)) (kEr (enc := eB) true)
 (kIf (c := x1.fKind != (2 : Int)) (kIf (c := x0 == (1 : Int)) (kEr (enc := eB) true)
 (kEr (enc := eB) (x0 == (2 : Int))))
 (kEr (enc := eB) false))))
 (kEr (enc := eB) false)) h)
def A_ref34_Overlap_L5 (s : ((List gRegion) × (List gRegion))) (u : Int) (o : Unit ⊕ Bool) : List Alt := [⟨fun (x : Unit) => (Sum.inl x : Unit ⊕ Bool) = o, .exit 2, fun x => [.sl 3 (List.map egRegion s.1), .sl 3 (List.map egRegion s.2), .undef, .int .i64 u], fun x => []⟩, ⟨fun (x : Bool) => (Sum.inr x : Unit ⊕ Bool) = o, .ret, fun x => [.sl 3 (List.map egRegion s.1), .sl 3 (List.map egRegion s.2), .bool x, .int .i64 u], fun x => []⟩]
def A_ref34_Overlap_J5000007 (s : ((List gRegion) × (List gRegion) × Int)) (u : Int) (o : Bool) : List Alt := [⟨fun (x : Unit) => true = o, .normal, fun x => [.sl 3 (List.map egRegion (s.1)), .sl 3 (List.map egRegion (s.2.1)), .int .i64 (s.2.2), .int .i64 u, .bool true], fun x => []⟩, ⟨fun (x : Unit) => false = o, .normal, fun x => [.sl 3 (List.map egRegion (s.1)), .sl 3 (List.map egRegion (s.2.1)), .int .i64 (s.2.2), .int .i64 u, .bool false], fun x => []⟩]
noncomputable def F_ref34_Overlap_L5 (x0 : List gRegion) (x1 : List gRegion) (x5 : Int) (x6 : Int) : Option (Unit ⊕ Bool) :=
 some (List.length x1 : Int) >>= fun v0 =>
 if x6 < v0 then
 some x6 >>= fun v1 =>
 (ix x0 x5 >>= fun v3 =>
 ix x1 x6 >>= fun v4 =>
 if v3.fBuffer == v4.fBuffer then
 ix x0 x5 >>= fun v5 =>
 ix x1 x6 >>= fun v6 =>
 ix x0 x5 >>= fun v7 =>
 ix x1 x6 >>= fun v8 =>
 if (if true = true then max v5.fFrom v6.fFrom else min v5.fFrom v6.fFrom) < if false = true then max v7.fTo v8.fTo else min v7.fTo v8.fTo then
 some true
 else
 some false
 else
 some false) >>= fun v2 => if v2 then
 some (.inr true)
 else
 F_ref34_Overlap_L5 x0 x1 x5 (IntKind.i64.wrap (v1 + (1 : Int)))
 else
 some (.inl ())
  partial_fixpoint
theorem P_ref34_Overlap_L5 (x0 : List gRegion) (x1 : List gRegion) (x5 : Int) (x6 : Int) (o : Unit ⊕ Bool) (h : F_ref34_Overlap_L5 x0 x1 x5 x6 = some o) : LO 22 5 55 [0, 1, 5, 6] [.sl 3 (List.map egRegion x0), .sl 3 (List.map egRegion x1), .int .i64 x5, .int .i64 x6] [] [0, 1, 4, 5] (A_ref34_Overlap_L5 (x0, x1) x5 o) :=
  F_ref34_Overlap_L5.partial_correctness x0 x1 x5 (fun x6 o => LO 22 5 55 [0, 1, 5, 6] [.sl 3 (List.map egRegion x0), .sl 3 (List.map egRegion x1), .int .i64 x5, .int .i64 x6] [] [0, 1, 4, 5] (A_ref34_Overlap_L5 (x0, x1) x5 o))
  (fun F_ref34_Overlap_L5 ih_ref34_Overlap_L5 x6 o h  =>
  Lp1 (hs := [(15, .n eI 15 none), (16, .split), (21, .e egRegion), (26, .e egRegion), (29, .split), (33, .e egRegion), (38, .e egRegion), (44, .e egRegion), (49, .e egRegion), (53, .split), (5000007, .l [] [] [] [0, 1, 5, 6, 54] [] (A_ref34_Overlap_J5000007 (x0, x1, x5)))]) (kb := []) (kbx := []) (by kernel_rfl) (by kernel_rfl) ((kN _ (mLen (sh := egRegion) x1) fun v0 => (kIfD (p := x6 < v0) (kJb (id := 5000007) x6 (fun v1 ev1 v2 => (kIx (enc := egRegion) (l := x0) (k := x5) fun v3 => (kIx (enc := egRegion) (l := x1) (k := x6) fun v4 => (kIf (c := v3.fBuffer == v4.fBuffer) (kIx (enc := egRegion) (l := x0) (k := x5) fun v5 => (kIx (enc := egRegion) (l := x1) (k := x6) fun v6 => (kIx (enc := egRegion) (l := x0) (k := x5) fun v7 => (kIx (enc := egRegion) (l := x1) (k := x6) fun v8 => (kIfD (p := (if true = true then max v5.fFrom v6.fFrom else min v5.fFrom v6.fFrom) < if false = true then max v7.fTo v8.fTo else min v7.fTo v8.fTo) (kXj (alts := A_ref34_Overlap_J5000007 (x0, x1, x5)) ev1 true (.here () rfl (.refl _) (.refl _)))
 (kXj (alts := A_ref34_Overlap_J5000007 (x0, x1, x5)) ev1 false (.next (.here () rfl (.refl _) (.refl _)))))))))
 (kXj (alts := A_ref34_Overlap_J5000007 (x0, x1, x5)) ev1 false (.next (.here () rfl (.refl _) (.refl _))))))))
 (fun v1 => (kX (alts := A_ref34_Overlap_L5 (x0, x1) x5) (.inr true) (.next (.here _ rfl (.refl _) (.refl _)))))
 (fun v1 => (kM0 (alts := A_ref34_Overlap_L5 (x0, x1) x5) (ih_ref34_Overlap_L5 (IntKind.i64.wrap (v1 + (1 : Int)))))))
 (kX (alts := A_ref34_Overlap_L5 (x0, x1) x5) (.inl ()) (.here _ rfl (.refl _) (.refl _))))) h)) x6 o h
def A_ref34_Overlap_L2 (s : ((List gRegion) × (List gRegion))) (u : Unit) (o : Unit ⊕ Bool) : List Alt := [⟨fun (x : Unit) => (Sum.inl x : Unit ⊕ Bool) = o, .exit 0, fun x => [.undef], fun x => []⟩, ⟨fun (x : Bool) => (Sum.inr x : Unit ⊕ Bool) = o, .ret, fun x => [.bool x], fun x => []⟩]
noncomputable def F_ref34_Overlap_L2 (x0 : List gRegion) (x1 : List gRegion) (x5 : Int) : Option (Unit ⊕ Bool) :=
 some (List.length x0 : Int) >>= fun v0 =>
 if x5 < v0 then
 some x5 >>= fun v1 =>
 F_ref34_Overlap_L5 x0 x1 x5 (0 : Int) >>= fun v2 => (match v2 with
 | (.inl v3) =>
 F_ref34_Overlap_L2 x0 x1 (IntKind.i64.wrap (v1 + (1 : Int)))
 | (.inr v4) =>
 some (.inr v4))
 else
 some (.inl ())
  partial_fixpoint
theorem P_ref34_Overlap_L2 (x0 : List gRegion) (x1 : List gRegion) (x5 : Int) (o : Unit ⊕ Bool) (h : F_ref34_Overlap_L2 x0 x1 x5 = some o) : LO 22 2 55 [0, 1, 5] [.sl 3 (List.map egRegion x0), .sl 3 (List.map egRegion x1), .int .i64 x5] [] [4] (A_ref34_Overlap_L2 (x0, x1) () o) :=
  F_ref34_Overlap_L2.partial_correctness x0 x1 (fun x5 o => LO 22 2 55 [0, 1, 5] [.sl 3 (List.map egRegion x0), .sl 3 (List.map egRegion x1), .int .i64 x5] [] [4] (A_ref34_Overlap_L2 (x0, x1) () o))
  (fun F_ref34_Overlap_L2 ih_ref34_Overlap_L2 x5 o h  =>
  Lp1 (hs := [(9, .n eI 9 none), (10, .split), (3000006, .l [] [0, 1, 5, 6] [] [0, 1, 4, 5] [] (A_ref34_Overlap_L5 (x0, x1)))]) (kb := []) (kbx := []) (by kernel_rfl) (by kernel_rfl) ((kN _ (mLen (sh := egRegion) x0) fun v0 => (kIfD (p := x5 < v0) (kL2 x5 (hL := (P_ref34_Overlap_L5 x0 x1 x5 (0 : Int))) (hA := fun v1 v3 => (kM0 (alts := A_ref34_Overlap_L2 (x0, x1) ()) (ih_ref34_Overlap_L2 (IntKind.i64.wrap (v1 + (1 : Int))))))
 (hB := fun v1 v4 => (kX (alts := A_ref34_Overlap_L2 (x0, x1) ()) (.inr v4) (.next (.here _ rfl (.refl _) (.refl _))))))
 (kX (alts := A_ref34_Overlap_L2 (x0, x1) ()) (.inl ()) (.here _ rfl (.refl _) (.refl _))))) h)) x5 o h
noncomputable def F_ref34_Overlap (x0 : List gRegion) (x1 : List gRegion) : Option Bool :=
 some () >>= fun v0 =>
 F_ref34_Overlap_L2 x0 x1 (0 : Int) >>= fun v1 => (match v1 with
 | (.inl v2) =>
 some false
 | (.inr v3) =>
 some v3)
theorem P_ref34_Overlap (x0 : List gRegion) (x1 : List gRegion) (r : Bool) (h : F_ref34_Overlap x0 x1 = some r) : PU 22 [eLgRegion x0, eLgRegion x1] (eB r) :=
  Pu1 (hs := [(3000003, .l [] [0, 1, 5] [] [4] [] (A_ref34_Overlap_L2 (x0, x1)))]) (by kernel_rfl) ((kL2 () (hL := (P_ref34_Overlap_L2 x0 x1 (0 : Int))) (hA := fun v0 v2 => (kEr (enc := eB) false))
 (hB := fun v0 v3 => (kEr (enc := eB) v3))) h)
def A_ref33_elements_L3 (s : List Int) (u : Unit) (o : Int ⊕ (Int × Bool)) : List Alt := [⟨fun (x : Int) => (Sum.inl x : Int ⊕ (Int × Bool)) = o, .exit 0, fun x => [.sl 1 (List.map eI s), .undef, .undef, .int .i64 x], fun x => []⟩, ⟨fun (x : (Int × Bool)) => (Sum.inr x : Int ⊕ (Int × Bool)) = o, .ret, fun x => [.sl 1 (List.map eI s), .int .i64 x.1, .bool x.2, .undef], fun x => []⟩]
def A_ref33_elements_J5000005 (s : List Int) (u : (Int × Int)) (o : Bool) : List Alt := [⟨fun (x : Unit) => true = o, .normal, fun x => [.sl 1 (List.map eI s), .int .i64 (u.1), .int .i64 (u.2), .bool true], fun x => []⟩, ⟨fun (x : Unit) => false = o, .normal, fun x => [.sl 1 (List.map eI s), .int .i64 (u.1), .int .i64 (u.2), .bool false], fun x => []⟩]
noncomputable def F_ref33_elements_L3 (x0 : List Int) (x4 : Int) (x5 : Int) : Option (Int ⊕ (Int × Bool)) :=
 some (List.length x0 : Int) >>= fun v0 =>
 if x5 < v0 then
 some (x4, x5) >>= fun v1 =>
 (ix x0 x5 >>= fun v3 =>
 if v3 < (1 : Int) then
 some true
 else
 ix x0 x5 >>= fun v4 =>
 if (4096 : Int) < v4 then
 some true
 else
 some false) >>= fun v2 => if v2 then
 some (.inr ((0 : Int), false))
 else
 ix x0 v1.snd >>= fun v7 =>
 some (IntKind.i64.wrap (v1.fst * v7) : Int) >>= fun v8 =>
 if (4096 : Int) < v8 then
 some (.inr ((0 : Int), false))
 else
 F_ref33_elements_L3 x0 v8 (IntKind.i64.wrap (v1.snd + (1 : Int)))
 else
 some (.inl x4)
  partial_fixpoint
theorem P_ref33_elements_L3 (x0 : List Int) (x4 : Int) (x5 : Int) (o : Int ⊕ (Int × Bool)) (h : F_ref33_elements_L3 x0 x4 x5 = some o) : LO 59 3 36 [0, 4, 5] [.sl 1 (List.map eI x0), .int .i64 x4, .int .i64 x5] [] [0, 2, 3, 4] (A_ref33_elements_L3 x0 () o) :=
  F_ref33_elements_L3.partial_correctness x0 (fun x4 x5 o => LO 59 3 36 [0, 4, 5] [.sl 1 (List.map eI x0), .int .i64 x4, .int .i64 x5] [] [0, 2, 3, 4] (A_ref33_elements_L3 x0 () o))
  (fun F_ref33_elements_L3 ih_ref33_elements_L3 x4 x5 o h  =>
  Lp1 (hs := [(8, .n eI 8 none), (9, .split), (14, .e eI), (16, .split), (20, .e eI), (22, .split), (27, .e eI), (4, .n eI 4 none), (31, .split), (5000005, .l [] [] [] [0, 4, 5, 23] [] (A_ref33_elements_J5000005 x0))]) (kb := []) (kbx := []) (by kernel_rfl) (by kernel_rfl) ((kN _ (mLen (sh := eI) x0) fun v0 => (kIfD (p := x5 < v0) (kJb (id := 5000005) (x4, x5) (fun v1 ev1 v2 => (kIx (enc := eI) (l := x0) (k := x5) fun v3 => (kIfD (p := v3 < (1 : Int)) (kXj (alts := A_ref33_elements_J5000005 x0) ev1 true (.here () rfl (.refl _) (.refl _)))
 (kIx (enc := eI) (l := x0) (k := x5) fun v4 => (kIfD (p := (4096 : Int) < v4) (kXj (alts := A_ref33_elements_J5000005 x0) ev1 true (.here () rfl (.refl _) (.refl _)))
 (kXj (alts := A_ref33_elements_J5000005 x0) ev1 false (.next (.here () rfl (.refl _) (.refl _)))))))))
 (fun v1 => (kX (alts := A_ref33_elements_L3 x0 ()) (.inr ((0 : Int), false)) (.next (.here _ rfl (.cons (LeV.refl (AV.sl (1 : Nat) (List.map eI x0))) (.cons (LeV.refl (AV.int IntKind.i64 (0 : Int))) (.cons (LeV.refl (AV.bool false)) (.cons (LeV.undef (AV.int IntKind.i64 v1.fst)) .nil)))) (.refl _)))))
 (fun v1 => (kIx (enc := eI) (l := x0) (k := v1.snd) fun v7 => (kN (IntKind.i64.wrap (v1.fst * v7)) rfl fun v8 => (kIfD (p := (4096 : Int) < v8) (kX (alts := A_ref33_elements_L3 x0 ()) (.inr ((0 : Int), false)) (.next (.here _ rfl (.cons (LeV.refl (AV.sl (1 : Nat) (List.map eI x0))) (.cons (LeV.refl (AV.int IntKind.i64 (0 : Int))) (.cons (LeV.refl (AV.bool false)) (.cons (LeV.undef (AV.int IntKind.i64 v8)) .nil)))) (.refl _))))
 (kM0 (alts := A_ref33_elements_L3 x0 ()) (ih_ref33_elements_L3 v8 (IntKind.i64.wrap (v1.snd + (1 : Int))))))))))
 (kX (alts := A_ref33_elements_L3 x0 ()) (.inl x4) (.here _ rfl (.refl _) (.refl _))))) h)) x4 x5 o h
noncomputable def F_ref33_elements (x0 : List Int) : Option (Int × Bool) :=
 some ((1 : Int) : Int) >>= fun v0 =>
 some () >>= fun v1 =>
 F_ref33_elements_L3 x0 v0 (0 : Int) >>= fun v2 => (match v2 with
 | (.inl v3) =>
 some (List.length x0 : Int) >>= fun v4 =>
 some (v3, (decide (v4 ≤ (6 : Int))))
 | (.inr v5) =>
 some (v5.fst, v5.snd))
theorem P_ref33_elements (x0 : List Int) (r : (Int × Bool)) (h : F_ref33_elements x0 = some r) : PU 59 [eLI x0] (eT_I_B r) :=
  Pu1 (hs := [(4, .n eI 4 none), (34, .n eI 34 none), (3000004, .l [] [0, 4, 5] [] [0, 2, 3, 4] [] (A_ref33_elements_L3 x0))]) (by kernel_rfl) ((kN (1 : Int) rfl fun v0 => (kL2 () (hL := (P_ref33_elements_L3 x0 v0 (0 : Int))) (hA := fun v1 v3 => (kN _ (mLen (sh := eI) x0) fun v4 => (kEr (enc := eT_I_B) (v3, (decide (v4 ≤ (6 : Int)))))))
 (hB := fun v1 v5 => (kEr (enc := eT_I_B) (v5.fst, v5.snd))))) h)
def A_ref33_region_L9 (s : (Str × (List gIndex))) (u : (gBuffer × Int)) (o : (Int × Bool)) : List Alt := [⟨fun (x : (Int × Bool)) => x = o, .exit 0, fun x => [.str s.1, .int .i64 u.2, .int .i64 x.1, .bool x.2], fun x => []⟩]
def A_ref33_region_J5000009 (s : (Str × (List gIndex) × gBuffer × Int)) (u : (Int × Bool × Int)) (o : Bool) : List Alt := [⟨fun (x : Unit) => true = o, .normal, fun x => [.str (s.1), .sl 4 (List.map egIndex (s.2.1)), .ptr 0 0 0, .int .i64 (s.2.2.2), .int .i64 (u.1), .bool (u.2.1), .int .i64 (u.2.2), .bool true], fun x => [.cells 0 (egBuffer (s.2.2.1)).cells]⟩, ⟨fun (x : Unit) => false = o, .normal, fun x => [.str (s.1), .sl 4 (List.map egIndex (s.2.1)), .ptr 0 0 0, .int .i64 (s.2.2.2), .int .i64 (u.1), .bool (u.2.1), .int .i64 (u.2.2), .bool false], fun x => [.cells 0 (egBuffer (s.2.2.1)).cells]⟩]
def A_ref33_region_J5000012 (s : (Str × (List gIndex) × gBuffer × Int)) (u : (Int × Bool × Int × Int)) (o : Bool) : List Alt := [⟨fun (x : Unit) => true = o, .normal, fun x => [.str (s.1), .sl 4 (List.map egIndex (s.2.1)), .ptr 0 0 0, .int .i64 (s.2.2.2), .int .i64 (u.1), .bool (u.2.1), .int .i64 (u.2.2.1), .int .i64 (u.2.2.2), .bool true], fun x => [.cells 0 (egBuffer (s.2.2.1)).cells]⟩, ⟨fun (x : Unit) => false = o, .normal, fun x => [.str (s.1), .sl 4 (List.map egIndex (s.2.1)), .ptr 0 0 0, .int .i64 (s.2.2.2), .int .i64 (u.1), .bool (u.2.1), .int .i64 (u.2.2.1), .int .i64 (u.2.2.2), .bool false], fun x => [.cells 0 (egBuffer (s.2.2.1)).cells]⟩]
def A_ref33_region_J7000001 (s : (Str × (List gIndex) × gBuffer × Int)) (u : Int) (o : (Int × Bool)) : List Alt := [⟨fun (x : (Int × Bool)) => x = o, .normal, fun x => [.str (s.1), .sl 4 (List.map egIndex (s.2.1)), .ptr 0 0 0, .int .i64 (s.2.2.2), .int .i64 (x.1), .bool (x.2), .int .i64 u], fun x => [.cells 0 (egBuffer (s.2.2.1)).cells]⟩]
noncomputable def F_ref33_region_L9 (x2 : List gIndex) (x7 : gBuffer) (x11 : Int) (x12 : Bool) (x13 : Int) : Option (Int × Bool) :=
 some (x11, x12, x13) >>= fun v0 =>
 (some (List.length x2 : Int) >>= fun v2 =>
 if x13 < v2 then
 if x12 then
 some true
 else
 some false
 else
 some false) >>= fun v1 => if v1 then
 some v0.snd.snd >>= fun v4 =>
 (ix x2 v0.snd.snd >>= fun v6 =>
 some (v0.fst, v0.snd.fst, v0.snd.snd, v6.fLin.fK) >>= fun v7 =>
 (ix x2 v0.snd.snd >>= fun v9 =>
 if !v9.fFrom == [] then
 some true
 else
 ix x2 v0.snd.snd >>= fun v10 =>
 some (List.length v10.fLin.fL : Int) >>= fun v11 =>
 if (0 : Int) < v11 then
 some true
 else
 if v6.fLin.fK < (0 : Int) then
 some true
 else
 ix x7.fDims v0.snd.snd >>= fun v12 =>
 if v12 ≤ v6.fLin.fK then
 some true
 else
 some false) >>= fun v8 => if v8 then
 some (v7.fst, false)
 else
 ix x7.fDims v7.snd.snd.fst >>= fun v15 =>
 some (IntKind.i64.wrap (IntKind.i64.wrap (v7.fst * v15) + v7.snd.snd.snd) : Int) >>= fun v16 =>
 some (v16, v7.snd.fst)) >>= fun v17 =>
 F_ref33_region_L9 x2 x7 v17.fst v17.snd (IntKind.i64.wrap (v4 + (1 : Int)))
 else
 some (v0.fst, v0.snd.fst)
  partial_fixpoint
theorem P_ref33_region_L9 (x1 : Str) (x2 : List gIndex) (x7 : gBuffer) (x9 : Int) (x11 : Int) (x12 : Bool) (x13 : Int) (o : (Int × Bool)) (h : F_ref33_region_L9 x2 x7 x11 x12 x13 = some o) : LO 40 9 101 [1, 2, 7, 9, 11, 12, 13] [.str x1, .sl 4 (List.map egIndex x2), .ptr 0 0 0, .int .i64 x9, .int .i64 x11, .bool x12, .int .i64 x13] [.cells 0 (egBuffer x7).cells] [1, 9, 11, 12] (A_ref33_region_L9 (x1, x2) (x7, x9) o) :=
  F_ref33_region_L9.partial_correctness x2 x7 (fun x11 x12 x13 o => ∀ (x1 : Str) (x9 : Int), LO 40 9 101 [1, 2, 7, 9, 11, 12, 13] [.str x1, .sl 4 (List.map egIndex x2), .ptr 0 0 0, .int .i64 x9, .int .i64 x11, .bool x12, .int .i64 x13] [.cells 0 (egBuffer x7).cells] [1, 9, 11, 12] (A_ref33_region_L9 (x1, x2) (x7, x9) o))
  (fun F_ref33_region_L9 ih_ref33_region_L9 x11 x12 x13 o h x1 x9 =>
  Lp1 (hs := [(39, .n eI 39 none), (40, .split), (42, .split), (48, .e egIndex), (54, .e egIndex), (57, .split), (61, .e egIndex), (65, .n eI 65 none), (66, .split), (70, .split), (77, .e eI), (79, .split), (85, .e eI), (11, .n eI 11 none), (5000009, .l [] [] [] [1, 2, 7, 9, 11, 12, 13, 43] [{ slot := 7 }] (A_ref33_region_J5000009 (x1, x2, x7, x9))), (5000012, .l [] [] [] [1, 2, 7, 9, 11, 12, 13, 14, 80] [{ slot := 7 }] (A_ref33_region_J5000012 (x1, x2, x7, x9))), (7000001, .l [] [] [] [1, 2, 7, 9, 11, 12, 13] [{ slot := 7 }] (A_ref33_region_J7000001 (x1, x2, x7, x9)))]) (kb := [{ slot := 7 }]) (kbx := []) (by kernel_rfl) (by kernel_rfl) ((kJb (id := 5000009) (x11, x12, x13) (fun v0 ev0 v1 => (kN _ (mLen (sh := egIndex) x2) fun v2 => (kIfD (p := x13 < v2) (kIf (c := x12) (kXj (alts := A_ref33_region_J5000009 (x1, x2, x7, x9)) ev0 true (.here () rfl (.refl _) (.refl _)))
 (kXj (alts := A_ref33_region_J5000009 (x1, x2, x7, x9)) ev0 false (.next (.here () rfl (.refl _) (.refl _)))))
 (kXj (alts := A_ref33_region_J5000009 (x1, x2, x7, x9)) ev0 false (.next (.here () rfl (.refl _) (.refl _)))))))
 (fun v0 => (kJ1 (id := 7000001) v0.snd.snd (fun v4 ev4 v5 => (kIx (enc := egIndex) (l := x2) (k := v0.snd.snd) fun v6 => (kJbE (id := 5000012) (v0.fst, v0.snd.fst, v0.snd.snd, v6.fLin.fK) (fun v7 ev7 v8 => (kIx (enc := egIndex) (l := x2) (k := v0.snd.snd) fun v9 => (kIf (c := !v9.fFrom == []) (kXj (alts := A_ref33_region_J5000012 (x1, x2, x7, x9)) ev7 true (.here () rfl (.refl _) (.refl _)))
 (kIx (enc := egIndex) (l := x2) (k := v0.snd.snd) fun v10 => (kN _ (mLen (sh := egMono) v10.fLin.fL) fun v11 => (kIfD (p := (0 : Int) < v11) (kXj (alts := A_ref33_region_J5000012 (x1, x2, x7, x9)) ev7 true (.here () rfl (.refl _) (.refl _)))
 (kIfD (p := v6.fLin.fK < (0 : Int)) (kXj (alts := A_ref33_region_J5000012 (x1, x2, x7, x9)) ev7 true (.here () rfl (.refl _) (.refl _)))
 (kIx (enc := eI) (l := x7.fDims) (k := v0.snd.snd) fun v12 => (kIfD (p := v12 ≤ v6.fLin.fK) (kXj (alts := A_ref33_region_J5000012 (x1, x2, x7, x9)) ev7 true (.here () rfl (.refl _) (.refl _)))
 (kXj (alts := A_ref33_region_J5000012 (x1, x2, x7, x9)) ev7 false (.next (.here () rfl (.refl _) (.refl _)))))))))))))
 (fun v7 ev7 => (kXj (alts := A_ref33_region_J7000001 (x1, x2, x7, x9)) (u0 := v7.snd.snd.fst) (by subst ev7; exact ev4) (v7.fst, false) (.here _ rfl (.refl _) (.refl _))))
 (fun v7 ev7 => (kIx (enc := eI) (l := x7.fDims) (k := v7.snd.snd.fst) fun v15 => (kN (IntKind.i64.wrap (IntKind.i64.wrap (v7.fst * v15) + v7.snd.snd.snd)) rfl fun v16 => (kXj (alts := A_ref33_region_J7000001 (x1, x2, x7, x9)) (u0 := v7.snd.snd.fst) (by subst ev7; exact ev4) (v16, v7.snd.fst) (.here _ rfl (.refl _) (.refl _)))))))))
 (fun v4 v17 => (kM0 (alts := A_ref33_region_L9 (x1, x2) (x7, x9)) (fun y hy => ih_ref33_region_L9 v17.fst v17.snd (IntKind.i64.wrap (v4 + (1 : Int))) y hy x1 x9)))))
 (fun v0 => (kX (alts := A_ref33_region_L9 (x1, x2) (x7, x9)) (v0.fst, v0.snd.fst) (.here _ rfl (.refl _) (.refl _))))) h)) x11 x12 x13 o h x1 x9
noncomputable def F_ref33_region (x0 : gNest) (x1 : Str) (x2 : List gIndex) : Option (List gRegion) :=
 F_ref30_Buffer x0 x1 >>= fun v0 =>
 if v0.snd then
 F_ref33_elements v0.fst.fDims >>= fun v1 =>
 if v1.snd then
 some (List.length x2 : Int) >>= fun v2 =>
 some (List.length v0.fst.fDims : Int) >>= fun v3 =>
 some ((0 : Int) : Int) >>= fun v4 =>
 some (v0.fst, v1.fst) >>= fun v5 =>
 F_ref33_region_L9 x2 v0.fst v4 ((↑(List.map egIndex x2).length : Int) == (↑(List.map eI v0.fst.fDims).length : Int)) (0 : Int) >>= fun v7 =>
 if v7.snd then
 some ((gRegion.mk x1 v7.fst (IntKind.i64.wrap (v7.fst + (1 : Int))))) >>= fun v8 =>
 some [v8]
 else
 some ((gRegion.mk x1 (0 : Int) v5.snd)) >>= fun v9 =>
 some [v9]
 else
 some []
 else
 some []
theorem P_ref33_region (x0 : gNest) (x1 : Str) (x2 : List gIndex) (r : List gRegion) (h : F_ref33_region x0 x1 x2 = some r) : PU 40 [egNest x0, eS x1, eLgIndex x2] (eLgRegion r) :=
  Pu1 (hs := [(18, .c eT_gBuffer_B), (21, .split), (26, .c eT_I_B), (29, .split), (32, .n eI 32 none), (35, .n eI 35 none), (11, .n eI 11 none), (90, .split), (95, .n egRegion 95 none), (6, .z [{ slot := 96, own := 3 }, { slot := 96, fz := true }] none), (99, .n egRegion 99 none), (6, .z [{ slot := 100, own := 3 }, { slot := 100, fz := true }] none), (3000010, .l [] [1, 2, 7, 9, 11, 12, 13] [{ slot := 7 }] [1, 9, 11, 12] [] (A_ref33_region_L9 (x1, x2)))]) (by kernel_rfl) ((kC (sh := eT_gBuffer_B) (P_ref30_Buffer x0 x1) fun v0 => (kIf (c := v0.snd) (kC (sh := eT_I_B) (P_ref33_elements v0.fst.fDims) fun v1 => (kIf (c := v1.snd) (kN _ (mLen (sh := egIndex) x2) fun v2 => (kN _ (mLen (sh := eI) v0.fst.fDims) fun v3 => (kN (0 : Int) rfl fun v4 => (kL1 (v0.fst, v1.fst) (P_ref33_region_L9 x1 x2 v0.fst v1.fst v4 ((↑(List.map egIndex x2).length : Int) == (↑(List.map eI v0.fst.fDims).length : Int)) (0 : Int)) fun v5 v7 => (kIf (c := v7.snd) (kW (sh := egRegion) (gRegion.mk x1 v7.fst (IntKind.i64.wrap (v7.fst + (1 : Int)))) (LeV.refl _) fun v8 => (kT (rfl : (1 : Nat) = (1 : Nat)) (kEr (enc := eLgRegion) [v8])))
 (kW (sh := egRegion) (gRegion.mk x1 (0 : Int) v5.snd) (LeV.refl _) fun v9 => (kEr (enc := eLgRegion) [v9])))))))
 (kE (enc := eLgRegion) [] (LeT.nil 3))))
 (kE (enc := eLgRegion) [] (LeT.nil 3)))) h)
def A_ref33_gathers_L8 (s : ((List gIndex) × gNest)) (u : ((List gRegion) × Int)) (o : List gIndex) : List Alt := [⟨fun (x : List gIndex) => x = o, .exit 2, fun x => [.sl 4 (List.map egIndex s.1), .ptr 0 0 0, .ow 1 0 3 (List.length u.1), .int .i64 u.2, .sl 4 (List.map egIndex x)], fun x => [.cells 0 (egNest s.2).cells, .own 0 3 (List.map egRegion u.1)]⟩]
noncomputable def F_ref33_gathers_L8 (x1 : List gIndex) (x6 : Int) (x7 : List gIndex) (x8 : Int) : Option (List gIndex) :=
 ix x1 x6 >>= fun v0 =>
 some (List.length v0.fAt : Int) >>= fun v1 =>
 if x8 < v1 then
 ix x1 x6 >>= fun v2 =>
 ix v2.fAt x8 >>= fun v3 =>
 some ((gIndex.mk v3 [] [])) >>= fun v4 =>
 if (x7.length + (1 : Nat)) * (72 : Nat) ≤ (140737488355328 : Nat) ∧ x7.length + (1 : Nat) ≤ (9223372036854775807 : Nat) then
 some (x7 ++ [v4]) >>= fun v5 =>
 F_ref33_gathers_L8 x1 x6 v5 (IntKind.i64.wrap (x8 + (1 : Int)))
 else none
 else
 some x7
  partial_fixpoint
theorem P_ref33_gathers_L8 (x1 : List gIndex) (x2 : gNest) (x5 : List gRegion) (x6 : Int) (x7 : List gIndex) (x8 : Int) (o : List gIndex) (h : F_ref33_gathers_L8 x1 x6 x7 x8 = some o) : LO 38 8 54 [1, 2, 5, 6, 7, 8] [.sl 4 (List.map egIndex x1), .ptr 0 0 0, .ow 1 0 3 (List.length x5), .int .i64 x6, .ow 2 0 4 (List.length x7), .int .i64 x8] [.cells 0 (egNest x2).cells, .own 0 3 (List.map egRegion x5), .own 0 4 (List.map egIndex x7)] [1, 2, 5, 6, 7] (A_ref33_gathers_L8 (x1, x2) (x5, x6) o) :=
  F_ref33_gathers_L8.partial_correctness x1 x6 (fun x7 x8 o => ∀ (x2 : gNest) (x5 : List gRegion), LO 38 8 54 [1, 2, 5, 6, 7, 8] [.sl 4 (List.map egIndex x1), .ptr 0 0 0, .ow 1 0 3 (List.length x5), .int .i64 x6, .ow 2 0 4 (List.length x7), .int .i64 x8] [.cells 0 (egNest x2).cells, .own 0 3 (List.map egRegion x5), .own 0 4 (List.map egIndex x7)] [1, 2, 5, 6, 7] (A_ref33_gathers_L8 (x1, x2) (x5, x6) o))
  (fun F_ref33_gathers_L8 ih_ref33_gathers_L8 x7 x8 o h x2 x5 =>
  Lp1 (hs := [(24, .e egIndex), (27, .n eI 27 none), (28, .split), (34, .e egIndex), (38, .e egLin), (40, .n egIndex 40 none), (42, .z [{ slot := 31, own := 4 }] (some (.n egIndex 42 (some .a))))]) (kb := [{ slot := 2 }, { slot := 5, own := 3 }, { slot := 7, own := 4 }]) (kbx := [{ slot := 2 }, { slot := 5, own := 3 }, { slot := 7, fz := true }]) (by kernel_rfl) (by kernel_rfl) ((kIx (enc := egIndex) (l := x1) (k := x6) fun v0 => (kN _ (mLen (sh := egLin) v0.fAt) fun v1 => (kIfD (p := x8 < v1) (kIx (enc := egIndex) (l := x1) (k := x6) fun v2 => (kIx (enc := egLin) (l := v2.fAt) (k := x8) fun v3 => (kW (sh := egIndex) (gIndex.mk v3 [] []) (LeV.agg (.cons (LeV.refl (AV.int IntKind.i64 v3.fK)) (.cons (LeV.refl (AV.sl (2 : Nat) (List.map egMono v3.fL))) (.cons (LeV.refl (AV.str [])) (.cons (LeV.nil 2) .nil))))) fun v4 => (kA (q := (x7.length + (1 : Nat)) * (72 : Nat) ≤ (140737488355328 : Nat) ∧ x7.length + (1 : Nat) ≤ (9223372036854775807 : Nat)) (sh := egIndex) (l := x7) (kO (sh := egIndex) (x7 ++ [v4]) (mA (sh := egIndex) x7 v4) (nA x7 v4) fun v5 => (kM0 (alts := A_ref33_gathers_L8 (x1, x2) (x5, x6)) (fun y hy => ih_ref33_gathers_L8 v5 (IntKind.i64.wrap (x8 + (1 : Int))) y hy x2 x5)))))))
 (kT (nM (sh := egIndex) x7) (kX (alts := A_ref33_gathers_L8 (x1, x2) (x5, x6)) x7 (.here _ rfl (.refl _) (.refl _))))))) h)) x7 x8 o h x2 x5
def A_ref33_gathers_L3 (s : ((List gIndex) × gNest)) (u : Unit) (o : List gRegion) : List Alt := [⟨fun (x : List gRegion) => x = o, .exit 0, fun x => [.ow 0 0 3 (List.length x)], fun x => [.own 0 3 (List.map egRegion x)]⟩]
noncomputable def F_ref33_gathers_L3 (x1 : List gIndex) (x2 : gNest) (x5 : List gRegion) (x6 : Int) : Option (List gRegion) :=
 some (List.length x1 : Int) >>= fun v0 =>
 if x6 < v0 then
 ix x1 x6 >>= fun v1 =>
 if v1.fFrom == [] then
 F_ref33_gathers_L3 x1 x2 x5 (IntKind.i64.wrap (x6 + (1 : Int)))
 else
 some (x5, x6) >>= fun v2 =>
 F_ref33_gathers_L8 x1 x6 [] (0 : Int) >>= fun v4 =>
 ix x1 v2.snd >>= fun v5 =>
 F_ref33_region x2 v5.fFrom v4 >>= fun v6 =>
 if (v2.fst.length + (List.map egRegion v6).length) * (32 : Nat) ≤ (140737488355328 : Nat) ∧ v2.fst.length + (List.map egRegion v6).length ≤ (9223372036854775807 : Nat) then
 some (v2.fst ++ v6) >>= fun v7 =>
 F_ref33_gathers_L3 x1 x2 v7 (IntKind.i64.wrap (v2.snd + (1 : Int)))
 else none
 else
 some x5
  partial_fixpoint
theorem P_ref33_gathers_L3 (x1 : List gIndex) (x2 : gNest) (x5 : List gRegion) (x6 : Int) (o : List gRegion) (h : F_ref33_gathers_L3 x1 x2 x5 x6 = some o) : LO 38 3 54 [1, 2, 5, 6] [.sl 4 (List.map egIndex x1), .ptr 0 0 0, .ow 1 0 3 (List.length x5), .int .i64 x6] [.cells 0 (egNest x2).cells, .own 0 3 (List.map egRegion x5)] [5] (A_ref33_gathers_L3 (x1, x2) () o) :=
  F_ref33_gathers_L3.partial_correctness x1 x2 (fun x5 x6 o => LO 38 3 54 [1, 2, 5, 6] [.sl 4 (List.map egIndex x1), .ptr 0 0 0, .ow 1 0 3 (List.length x5), .int .i64 x6] [.cells 0 (egNest x2).cells, .own 0 3 (List.map egRegion x5)] [5] (A_ref33_gathers_L3 (x1, x2) () o))
  (fun F_ref33_gathers_L3 ih_ref33_gathers_L3 x5 x6 o h  =>
  Lp1 (hs := [(11, .n eI 11 none), (12, .split), (17, .e egIndex), (20, .split), (47, .e egIndex), (51, .c eLgRegion), (52, .z [{ slot := 43, own := 3 }] (some (.n egRegion 52 (some .a)))), (3000009, .l [] [1, 2, 5, 6, 7, 8] [{ slot := 2 }, { slot := 5, own := 3 }, { slot := 7, own := 4 }] [1, 2, 5, 6, 7] [{ slot := 2 }, { slot := 5, own := 3 }, { slot := 7, fz := true }] (A_ref33_gathers_L8 (x1, x2)))]) (kb := [{ slot := 2 }, { slot := 5, own := 3 }]) (kbx := [{ slot := 5, own := 3 }]) (by kernel_rfl) (by kernel_rfl) ((kN _ (mLen (sh := egIndex) x1) fun v0 => (kIfD (p := x6 < v0) (kIx (enc := egIndex) (l := x1) (k := x6) fun v1 => (kIf (c := v1.fFrom == []) (kM0 (alts := A_ref33_gathers_L3 (x1, x2) ()) (ih_ref33_gathers_L3 x5 (IntKind.i64.wrap (x6 + (1 : Int)))))
 (kL1 (x5, x6) (P_ref33_gathers_L8 x1 x2 x5 x6 [] (0 : Int)) fun v2 v4 => (kIx (enc := egIndex) (l := x1) (k := v2.snd) fun v5 => (kC (sh := eLgRegion) (P_ref33_region x2 v5.fFrom v4) fun v6 => (kA (q := (v2.fst.length + (List.map egRegion v6).length) * (32 : Nat) ≤ (140737488355328 : Nat) ∧ v2.fst.length + (List.map egRegion v6).length ≤ (9223372036854775807 : Nat)) (sh := egRegion) (l := v2.fst) (kO (sh := egRegion) (v2.fst ++ v6) (mAA (sh := egRegion) v2.fst v6) (nAA (sh := egRegion) v2.fst v6) fun v7 => (kM0 (alts := A_ref33_gathers_L3 (x1, x2) ()) (ih_ref33_gathers_L3 v7 (IntKind.i64.wrap (v2.snd + (1 : Int))))))))))))
 (kX (alts := A_ref33_gathers_L3 (x1, x2) ()) x5 (.here _ rfl (.refl _) (.refl _))))) h)) x5 x6 o h
def R_ref33_gathers (r : List gRegion) : AV := .ow 0 0 3 (List.length r)
def B_ref33_gathers (r : List gRegion) : List Box := [.own 0 3 (List.map egRegion r)]
theorem T_ref33_gathers {args : List AV} (r : List gRegion) (h : PH 38 args [] (R_ref33_gathers r) (B_ref33_gathers r)) : PU 38 args (eLgRegion r) := PuT1 h (by kernel_rfl) (And.intro (nM (sh := egRegion) r) (LeT.refl (eLgRegion r)))
noncomputable def F_ref33_gathers (x0 : gNest) (x1 : List gIndex) : Option (List gRegion) :=
 some () >>= fun v0 =>
 F_ref33_gathers_L3 x1 x0 [] (0 : Int) >>= fun v2 =>
 some v2
theorem P_ref33_gathers (x0 : gNest) (x1 : List gIndex) (r : List gRegion) (h : F_ref33_gathers x0 x1 = some r) : PH 38 [egNest x0, eLgIndex x1] [] (R_ref33_gathers r) (B_ref33_gathers r) :=
  PuH1 (hs := [(3000004, .l [] [1, 2, 5, 6] [{ slot := 2 }, { slot := 5, own := 3 }] [5] [{ slot := 5, own := 3 }] (A_ref33_gathers_L3 (x1, x0)))]) (kb := [{ slot := 0, path := [], own := 3 }]) (by kernel_rfl) ((kL1 () (P_ref33_gathers_L3 x1 x0 [] (0 : Int)) fun v0 v2 => (kEH (enc := R_ref33_gathers) (bt := B_ref33_gathers) v2 ⟨.refl _, .refl _⟩)) h)
def R_ref33_read (r : List gRegion) : AV := .ow 0 0 3 (List.length r)
def B_ref33_read (r : List gRegion) : List Box := [.own 0 3 (List.map egRegion r)]
theorem T_ref33_read {args : List AV} (r : List gRegion) (h : PH 39 args [] (R_ref33_read r) (B_ref33_read r)) : PU 39 args (eLgRegion r) := PuT1 h (by kernel_rfl) (And.intro (nM (sh := egRegion) r) (LeT.refl (eLgRegion r)))
def A_ref33_read_L6 (s : (gNest × gExprS)) (u : Unit) (o : List gRegion) : List Alt := [⟨fun (x : List gRegion) => x = o, .exit 0, fun x => [.ow 0 0 3 (List.length x)], fun x => [.own 0 3 (List.map egRegion x)]⟩]
def A_ref33_read_J6000004 (s : (gNest × gExprS)) (u : Unit) (o : List gRegion) : List Alt := [⟨fun (x : List gRegion) => x = o, .normal, fun x => [.ptr 0 0 0, .ptr 1 0 0, .ow 2 0 3 (List.length x)], fun x => [.cells 0 (egNest (s.1)).cells, .cells 0 (hgExpr (s.2)).cells, .own 0 3 (List.map egRegion x)]⟩]
mutual
noncomputable def F_ref33_read (x0 : gNest) (x1 : gExprS) : Option (List gRegion) :=
 some () >>= fun v0 =>
 (if x1.fOp == (3 : Int) then
 F_ref33_gathers x0 x1.fIdx >>= fun v2 =>
 if (0 : Nat) = (0 : Nat) ∧ ((0 : Nat) + (List.map egRegion v2).length) * (32 : Nat) ≤ (140737488355328 : Nat) ∧ (0 : Nat) + (List.map egRegion v2).length ≤ (9223372036854775807 : Nat) then
 some ([] ++ v2) >>= fun v3 =>
 F_ref33_region x0 x1.fName x1.fIdx >>= fun v4 =>
 if (v3.length + (List.map egRegion v4).length) * (32 : Nat) ≤ (140737488355328 : Nat) ∧ v3.length + (List.map egRegion v4).length ≤ (9223372036854775807 : Nat) then
 some (v3 ++ v4) >>= fun v5 =>
 some v5
 else none
 else none
 else
 some []) >>= fun v6 =>
 some () >>= fun v7 =>
 F_ref33_read_L6 x0 x1 v6 (0 : Int) >>= fun v9 =>
 some v9
  partial_fixpoint
noncomputable def F_ref33_read_L6 (x2 : gNest) (x3 : gExprS) (x5 : List gRegion) (x6 : Int) : Option (List gRegion) :=
 some (List.length x3.fArgs : Int) >>= fun v0 =>
 if x6 < v0 then
 Option.map gExpr.f (ix x3.fArgs x6) >>= fun v1 =>
 F_ref33_read x2 v1 >>= fun v2 =>
 if (x5.length + (List.map egRegion v2).length) * (32 : Nat) ≤ (140737488355328 : Nat) ∧ x5.length + (List.map egRegion v2).length ≤ (9223372036854775807 : Nat) then
 some (x5 ++ v2) >>= fun v3 =>
 F_ref33_read_L6 x2 x3 v3 (IntKind.i64.wrap (x6 + (1 : Int)))
 else none
 else
 some x5
  partial_fixpoint
end
theorem PM_ref33_read (x0 : gNest) : (∀ (x1 : gExprS) (r : List gRegion), F_ref33_read x0 x1 = some r → PH 39 [egNest x0, hgExpr x1] [] (R_ref33_read r) (B_ref33_read r)) ∧ (∀ (x3 : gExprS) (x5 : List gRegion) (x6 : Int) (o : List gRegion), F_ref33_read_L6 x0 x3 x5 x6 = some o → LO 39 6 41 [2, 3, 5, 6] [.ptr 0 0 0, .ptr 1 0 0, .ow 2 0 3 (List.length x5), .int .i64 x6] [.cells 0 (egNest x0).cells, .cells 0 (hgExpr x3).cells, .own 0 3 (List.map egRegion x5)] [5] (A_ref33_read_L6 (x0, x3) () o)) :=
  F_ref33_read.mutual_partial_correctness x0 (fun x1 r => PH 39 [egNest x0, hgExpr x1] [] (R_ref33_read r) (B_ref33_read r)) (fun x3 x5 x6 o => LO 39 6 41 [2, 3, 5, 6] [.ptr 0 0 0, .ptr 1 0 0, .ow 2 0 3 (List.length x5), .int .i64 x6] [.cells 0 (egNest x0).cells, .cells 0 (hgExpr x3).cells, .own 0 3 (List.map egRegion x5)] [5] (A_ref33_read_L6 (x0, x3) () o))
  (fun F_ref33_read_L6 ih_ref33_read_L6 x1 r h  =>
  PuH1 (hs := [(9, .split), (14, .h [] R_ref33_gathers B_ref33_gathers), (15, .z [{ slot := 10, own := 3 }, { slot := 14, fz := true }] (some (.n egRegion 15 (some .a)))), (22, .c eLgRegion), (23, .z [{ slot := 16, own := 3 }] (some (.n egRegion 23 (some .a)))), (3000007, .l [] [2, 3, 5, 6] [{ slot := 2 }, { slot := 3 }, { slot := 5, own := 3 }] [5] [{ slot := 5, own := 3 }] (A_ref33_read_L6 (x0, x1))), (6000004, .l [] [] [] [2, 3, 5] [{ slot := 2 }, { slot := 3 }, { slot := 5, own := 3 }] (A_ref33_read_J6000004 (x0, x1)))]) (kb := [{ slot := 0, path := [], own := 3 }]) (by kernel_rfl) ((kJ1 (id := 6000004) () (fun v0 ev0 v1 => (kIf (c := x1.fOp == (3 : Int)) (kH (sh := R_ref33_gathers) (bt := B_ref33_gathers) (P_ref33_gathers x0 x1.fIdx) fun v2 => (kT (nM (sh := egRegion) v2) (kG (p := (0 : Nat) = (0 : Nat) ∧ ((0 : Nat) + (List.map egRegion v2).length) * (32 : Nat) ≤ (140737488355328 : Nat) ∧ (0 : Nat) + (List.map egRegion v2).length ≤ (9223372036854775807 : Nat)) (kO (sh := egRegion) ([] ++ v2) (mAA (sh := egRegion) [] v2) (nAA (sh := egRegion) [] v2) fun v3 => (kC (sh := eLgRegion) (P_ref33_region x0 x1.fName x1.fIdx) fun v4 => (kA (q := (v3.length + (List.map egRegion v4).length) * (32 : Nat) ≤ (140737488355328 : Nat) ∧ v3.length + (List.map egRegion v4).length ≤ (9223372036854775807 : Nat)) (sh := egRegion) (l := v3) (kO (sh := egRegion) (v3 ++ v4) (mAA (sh := egRegion) v3 v4) (nAA (sh := egRegion) v3 v4) fun v5 => (kXj (alts := A_ref33_read_J6000004 (x0, x1)) ev0 v5 (.here _ rfl (.refl _) (.refl _))))))))))
 (kXj (alts := A_ref33_read_J6000004 (x0, x1)) ev0 [] (.here _ rfl (.refl _) (.refl _)))))
 (fun v0 v6 => (kL1 () (ih_ref33_read_L6 x1 v6 (0 : Int)) fun v7 v9 => (kEH (enc := R_ref33_read) (bt := B_ref33_read) v9 ⟨.refl _, .refl _⟩)))) h))
  (fun F_ref33_read F_ref33_read_L6 ih_ref33_read ih_ref33_read_L6 x3 x5 x6 o h  =>
  Lp1 (hs := [(27, .n eI 27 none), (28, .split), (36, .e hgExpr), (38, .c eLgRegion), (39, .z [{ slot := 31, own := 3 }] (some (.n egRegion 39 (some .a))))]) (kb := [{ slot := 2 }, { slot := 3 }, { slot := 5, own := 3 }]) (kbx := [{ slot := 5, own := 3 }]) (by kernel_rfl) (by kernel_rfl) ((kN _ (mLen (sh := egExpr) x3.fArgs) fun v0 => (kIfD (p := x6 < v0) (kIxR (l := x3.fArgs) (k := x6) egExpr_f fun v1 => (kC (sh := eLgRegion) ((fun y hy => T_ref33_read y (ih_ref33_read v1 y hy))) fun v2 => (kA (q := (x5.length + (List.map egRegion v2).length) * (32 : Nat) ≤ (140737488355328 : Nat) ∧ x5.length + (List.map egRegion v2).length ≤ (9223372036854775807 : Nat)) (sh := egRegion) (l := x5) (kO (sh := egRegion) (x5 ++ v2) (mAA (sh := egRegion) x5 v2) (nAA (sh := egRegion) x5 v2) fun v3 => (kM0 (alts := A_ref33_read_L6 (x0, x3) ()) (ih_ref33_read_L6 x3 v3 (IntKind.i64.wrap (x6 + (1 : Int)))))))))
 (kX (alts := A_ref33_read_L6 (x0, x3) ()) x5 (.here _ rfl (.refl _) (.refl _))))) h))
theorem P_ref33_read (x0 : gNest) (x1 : gExprS) (r : List gRegion) (h : F_ref33_read x0 x1 = some r) : PH 39 [egNest x0, hgExpr x1] [] (R_ref33_read r) (B_ref33_read r) := (PM_ref33_read x0).1 x1 r h
theorem P_ref33_read_L6 (x2 : gNest) (x3 : gExprS) (x5 : List gRegion) (x6 : Int) (o : List gRegion) (h : F_ref33_read_L6 x2 x3 x5 x6 = some o) : LO 39 6 41 [2, 3, 5, 6] [.ptr 0 0 0, .ptr 1 0 0, .ow 2 0 3 (List.length x5), .int .i64 x6] [.cells 0 (egNest x2).cells, .cells 0 (hgExpr x3).cells, .own 0 3 (List.map egRegion x5)] [5] (A_ref33_read_L6 (x2, x3) () o) := (PM_ref33_read x2).2 x3 x5 x6 o h
def A_ref33_Reads_L7 (s : (gNest × gStmtS)) (u : Unit) (o : List gRegion) : List Alt := [⟨fun (x : List gRegion) => x = o, .exit 0, fun x => [.sl 3 (List.map egRegion x)], fun x => []⟩]
def A_ref33_Reads_J5000001 (s : (gNest × gStmtS)) (u : Unit) (o : Bool) : List Alt := [⟨fun (x : Unit) => true = o, .normal, fun x => [.ptr 0 0 0, .ptr 1 0 0, .bool true], fun x => [.cells 0 (egNest (s.1)).cells, .cells 0 (hgStmt (s.2)).cells]⟩, ⟨fun (x : Unit) => false = o, .normal, fun x => [.ptr 0 0 0, .ptr 1 0 0, .bool false], fun x => [.cells 0 (egNest (s.1)).cells, .cells 0 (hgStmt (s.2)).cells]⟩]
def A_ref33_Reads_J6000006 (s : (gNest × gStmtS)) (u : Unit) (o : List gRegion) : List Alt := [⟨fun (x : List gRegion) => x = o, .normal, fun x => [.ptr 0 0 0, .ptr 1 0 0, .ow 2 0 3 (List.length x)], fun x => [.cells 0 (egNest (s.1)).cells, .cells 0 (hgStmt (s.2)).cells, .own 0 3 (List.map egRegion x)]⟩]
def A_ref33_Reads_J5000007 (s : (gNest × gStmtS)) (u : ((List gRegion) × Int)) (o : Bool) : List Alt := [⟨fun (x : Unit) => true = o, .normal, fun x => [.ptr 0 0 0, .ptr 1 0 0, .ow 2 0 3 (List.length (u.1)), .int .i64 (u.2), .bool true], fun x => [.cells 0 (egNest (s.1)).cells, .cells 0 (hgStmt (s.2)).cells, .own 0 3 (List.map egRegion (u.1))]⟩, ⟨fun (x : Unit) => false = o, .normal, fun x => [.ptr 0 0 0, .ptr 1 0 0, .ow 2 0 3 (List.length (u.1)), .int .i64 (u.2), .bool false], fun x => [.cells 0 (egNest (s.1)).cells, .cells 0 (hgStmt (s.2)).cells, .own 0 3 (List.map egRegion (u.1))]⟩]
mutual
noncomputable def F_ref33_Reads (x0 : gNest) (x1 : gStmtS) : Option (List gRegion) :=
 some () >>= fun v0 =>
 (if x1.fOp == (2 : Int) then
 some true
 else
 if x1.fOp == (3 : Int) then
 some true
 else
 some false) >>= fun v1 => if v1 then
 F_ref33_gathers x0 x1.fIdx >>= fun v3 =>
 F_ref33_read x0 x1.fExpr >>= fun v4 =>
 if (v3.length + (List.map egRegion v4).length) * (32 : Nat) ≤ (140737488355328 : Nat) ∧ v3.length + (List.map egRegion v4).length ≤ (9223372036854775807 : Nat) then
 some (v3 ++ v4) >>= fun v5 =>
 some v5
 else none
 else
 some () >>= fun v7 =>
 (if x1.fOp == (4 : Int) then
 F_ref33_read x0 x1.fExpr >>= fun v9 =>
 some v9
 else
 some []) >>= fun v10 =>
 some () >>= fun v11 =>
 F_ref33_Reads_L7 x0 x1 v10 (0 : Int) >>= fun v13 =>
 some v13
  partial_fixpoint
noncomputable def F_ref33_Reads_L7 (x2 : gNest) (x3 : gStmtS) (x5 : List gRegion) (x6 : Int) : Option (List gRegion) :=
 some (x5, x6) >>= fun v0 =>
 (some (List.length x3.fBody : Int) >>= fun v2 =>
 if x6 < v2 then
 if x3.fOp == (1 : Int) then
 some true
 else
 if x3.fOp == (4 : Int) then
 some true
 else
 some false
 else
 some false) >>= fun v1 => if v1 then
 Option.map gStmt.f (ix x3.fBody v0.snd) >>= fun v4 =>
 F_ref33_Reads x2 v4 >>= fun v5 =>
 if (v0.fst.length + (List.map egRegion v5).length) * (32 : Nat) ≤ (140737488355328 : Nat) ∧ v0.fst.length + (List.map egRegion v5).length ≤ (9223372036854775807 : Nat) then
 some (v0.fst ++ v5) >>= fun v6 =>
 F_ref33_Reads_L7 x2 x3 v6 (IntKind.i64.wrap (v0.snd + (1 : Int)))
 else none
 else
 some v0.fst
  partial_fixpoint
end
theorem PM_ref33_Reads (x0 : gNest) : (∀ (x1 : gStmtS) (r : List gRegion), F_ref33_Reads x0 x1 = some r → PU 23 [egNest x0, hgStmt x1] (eLgRegion r)) ∧ (∀ (x3 : gStmtS) (x5 : List gRegion) (x6 : Int) (o : List gRegion), F_ref33_Reads_L7 x0 x3 x5 x6 = some o → LO 23 7 58 [2, 3, 5, 6] [.ptr 0 0 0, .ptr 1 0 0, .ow 2 0 3 (List.length x5), .int .i64 x6] [.cells 0 (egNest x0).cells, .cells 0 (hgStmt x3).cells, .own 0 3 (List.map egRegion x5)] [5] (A_ref33_Reads_L7 (x0, x3) () o)) :=
  F_ref33_Reads.mutual_partial_correctness x0 (fun x1 r => PU 23 [egNest x0, hgStmt x1] (eLgRegion r)) (fun x3 x5 x6 o => LO 23 7 58 [2, 3, 5, 6] [.ptr 0 0 0, .ptr 1 0 0, .ow 2 0 3 (List.length x5), .int .i64 x6] [.cells 0 (egNest x0).cells, .cells 0 (hgStmt x3).cells, .own 0 3 (List.map egRegion x5)] [5] (A_ref33_Reads_L7 (x0, x3) () o))
  (fun F_ref33_Reads_L7 ih_ref33_Reads_L7 x1 r h  =>
  Pu1 (hs := [(9, .split), (13, .split), (18, .h [] R_ref33_gathers B_ref33_gathers), (22, .h [] R_ref33_read B_ref33_read), (23, .z [{ slot := 18, own := 3 }, { slot := 22, fz := true }] (some (.n egRegion 23 (some .a)))), (26, .split), (30, .h [] R_ref33_read B_ref33_read), (3000008, .l [] [2, 3, 5, 6] [{ slot := 2 }, { slot := 3 }, { slot := 5, own := 3 }] [5] [{ slot := 5, fz := true }] (A_ref33_Reads_L7 (x0, x1))), (5000001, .l [] [] [] [2, 3, 14] [{ slot := 2 }, { slot := 3 }] (A_ref33_Reads_J5000001 (x0, x1))), (6000006, .l [] [] [] [2, 3, 5] [{ slot := 2 }, { slot := 3 }, { slot := 5, own := 3 }] (A_ref33_Reads_J6000006 (x0, x1)))]) (by kernel_rfl) ((kJb (id := 5000001) () (fun v0 ev0 v1 => (kIf (c := x1.fOp == (2 : Int)) (kXj (alts := A_ref33_Reads_J5000001 (x0, x1)) ev0 true (.here () rfl (.refl _) (.refl _)))
 (kIf (c := x1.fOp == (3 : Int)) (kXj (alts := A_ref33_Reads_J5000001 (x0, x1)) ev0 true (.here () rfl (.refl _) (.refl _)))
 (kXj (alts := A_ref33_Reads_J5000001 (x0, x1)) ev0 false (.next (.here () rfl (.refl _) (.refl _)))))))
 (fun v0 => (kH (sh := R_ref33_gathers) (bt := B_ref33_gathers) (P_ref33_gathers x0 x1.fIdx) fun v3 => (kH (sh := R_ref33_read) (bt := B_ref33_read) (P_ref33_read x0 x1.fExpr) fun v4 => (kT (nM (sh := egRegion) v4) (kA (q := (v3.length + (List.map egRegion v4).length) * (32 : Nat) ≤ (140737488355328 : Nat) ∧ v3.length + (List.map egRegion v4).length ≤ (9223372036854775807 : Nat)) (sh := egRegion) (l := v3) (kO (sh := egRegion) (v3 ++ v4) (mAA (sh := egRegion) v3 v4) (nAA (sh := egRegion) v3 v4) fun v5 => (kT (nM (sh := egRegion) v5) (kEr (enc := eLgRegion) v5))))))))
 (fun v0 => (kJ1 (id := 6000006) () (fun v7 ev7 v8 => (kIf (c := x1.fOp == (4 : Int)) (kH (sh := R_ref33_read) (bt := B_ref33_read) (P_ref33_read x0 x1.fExpr) fun v9 => (kXj (alts := A_ref33_Reads_J6000006 (x0, x1)) ev7 v9 (.here _ rfl (.refl _) (.refl _))))
 (kXj (alts := A_ref33_Reads_J6000006 (x0, x1)) ev7 [] (.here _ rfl (.refl _) (.refl _)))))
 (fun v7 v10 => (kL1 () (ih_ref33_Reads_L7 x1 v10 (0 : Int)) fun v11 v13 => (kEr (enc := eLgRegion) v13)))))) h))
  (fun F_ref33_Reads F_ref33_Reads_L7 ih_ref33_Reads ih_ref33_Reads_L7 x3 x5 x6 o h  =>
  Lp1 (hs := [(34, .n eI 34 none), (35, .split), (39, .split), (43, .split), (53, .e hgStmt), (55, .c eLgRegion), (56, .z [{ slot := 48, own := 3 }] (some (.n egRegion 56 (some .a)))), (5000007, .l [] [] [] [2, 3, 5, 6, 45] [{ slot := 2 }, { slot := 3 }, { slot := 5, own := 3 }] (A_ref33_Reads_J5000007 (x0, x3)))]) (kb := [{ slot := 2 }, { slot := 3 }, { slot := 5, own := 3 }]) (kbx := [{ slot := 5, fz := true }]) (by kernel_rfl) (by kernel_rfl) ((kJb (id := 5000007) (x5, x6) (fun v0 ev0 v1 => (kN _ (mLen (sh := egStmt) x3.fBody) fun v2 => (kIfD (p := x6 < v2) (kIf (c := x3.fOp == (1 : Int)) (kXj (alts := A_ref33_Reads_J5000007 (x0, x3)) ev0 true (.here () rfl (.refl _) (.refl _)))
 (kIf (c := x3.fOp == (4 : Int)) (kXj (alts := A_ref33_Reads_J5000007 (x0, x3)) ev0 true (.here () rfl (.refl _) (.refl _)))
 (kXj (alts := A_ref33_Reads_J5000007 (x0, x3)) ev0 false (.next (.here () rfl (.refl _) (.refl _))))))
 (kXj (alts := A_ref33_Reads_J5000007 (x0, x3)) ev0 false (.next (.here () rfl (.refl _) (.refl _)))))))
 (fun v0 => (kIxR (l := x3.fBody) (k := v0.snd) egStmt_f fun v4 => (kC (sh := eLgRegion) (ih_ref33_Reads v4) fun v5 => (kA (q := (v0.fst.length + (List.map egRegion v5).length) * (32 : Nat) ≤ (140737488355328 : Nat) ∧ v0.fst.length + (List.map egRegion v5).length ≤ (9223372036854775807 : Nat)) (sh := egRegion) (l := v0.fst) (kO (sh := egRegion) (v0.fst ++ v5) (mAA (sh := egRegion) v0.fst v5) (nAA (sh := egRegion) v0.fst v5) fun v6 => (kM0 (alts := A_ref33_Reads_L7 (x0, x3) ()) (ih_ref33_Reads_L7 x3 v6 (IntKind.i64.wrap (v0.snd + (1 : Int))))))))))
 (fun v0 => (kT (nM (sh := egRegion) v0.fst) (kX (alts := A_ref33_Reads_L7 (x0, x3) ()) v0.fst (.here _ rfl (.refl _) (.refl _)))))) h))
theorem P_ref33_Reads (x0 : gNest) (x1 : gStmtS) (r : List gRegion) (h : F_ref33_Reads x0 x1 = some r) : PU 23 [egNest x0, hgStmt x1] (eLgRegion r) := (PM_ref33_Reads x0).1 x1 r h
theorem P_ref33_Reads_L7 (x2 : gNest) (x3 : gStmtS) (x5 : List gRegion) (x6 : Int) (o : List gRegion) (h : F_ref33_Reads_L7 x2 x3 x5 x6 = some o) : LO 23 7 58 [2, 3, 5, 6] [.ptr 0 0 0, .ptr 1 0 0, .ow 2 0 3 (List.length x5), .int .i64 x6] [.cells 0 (egNest x2).cells, .cells 0 (hgStmt x3).cells, .own 0 3 (List.map egRegion x5)] [5] (A_ref33_Reads_L7 (x2, x3) () o) := (PM_ref33_Reads x2).2 x3 x5 x6 o h
def A_ref33_Writes_L5 (s : (gNest × gStmtS)) (u : Unit) (o : List gRegion) : List Alt := [⟨fun (x : List gRegion) => x = o, .exit 0, fun x => [.sl 3 (List.map egRegion x)], fun x => []⟩]
def A_ref33_Writes_J5000001 (s : (gNest × gStmtS)) (u : Unit) (o : Bool) : List Alt := [⟨fun (x : Unit) => true = o, .normal, fun x => [.ptr 0 0 0, .ptr 1 0 0, .bool true], fun x => [.cells 0 (egNest (s.1)).cells, .cells 0 (hgStmt (s.2)).cells]⟩, ⟨fun (x : Unit) => false = o, .normal, fun x => [.ptr 0 0 0, .ptr 1 0 0, .bool false], fun x => [.cells 0 (egNest (s.1)).cells, .cells 0 (hgStmt (s.2)).cells]⟩]
def A_ref33_Writes_J5000005 (s : (gNest × gStmtS)) (u : ((List gRegion) × Int)) (o : Bool) : List Alt := [⟨fun (x : Unit) => true = o, .normal, fun x => [.ptr 0 0 0, .ptr 1 0 0, .ow 2 0 3 (List.length (u.1)), .int .i64 (u.2), .bool true], fun x => [.cells 0 (egNest (s.1)).cells, .cells 0 (hgStmt (s.2)).cells, .own 0 3 (List.map egRegion (u.1))]⟩, ⟨fun (x : Unit) => false = o, .normal, fun x => [.ptr 0 0 0, .ptr 1 0 0, .ow 2 0 3 (List.length (u.1)), .int .i64 (u.2), .bool false], fun x => [.cells 0 (egNest (s.1)).cells, .cells 0 (hgStmt (s.2)).cells, .own 0 3 (List.map egRegion (u.1))]⟩]
mutual
noncomputable def F_ref33_Writes (x0 : gNest) (x1 : gStmtS) : Option (List gRegion) :=
 some () >>= fun v0 =>
 (if x1.fOp == (2 : Int) then
 some true
 else
 if x1.fOp == (3 : Int) then
 some true
 else
 some false) >>= fun v1 => if v1 then
 F_ref33_region x0 x1.fName x1.fIdx >>= fun v3 =>
 some v3
 else
 some () >>= fun v5 =>
 F_ref33_Writes_L5 x0 x1 [] (0 : Int) >>= fun v7 =>
 some v7
  partial_fixpoint
noncomputable def F_ref33_Writes_L5 (x2 : gNest) (x3 : gStmtS) (x5 : List gRegion) (x6 : Int) : Option (List gRegion) :=
 some (x5, x6) >>= fun v0 =>
 (some (List.length x3.fBody : Int) >>= fun v2 =>
 if x6 < v2 then
 if x3.fOp == (1 : Int) then
 some true
 else
 if x3.fOp == (4 : Int) then
 some true
 else
 some false
 else
 some false) >>= fun v1 => if v1 then
 Option.map gStmt.f (ix x3.fBody v0.snd) >>= fun v4 =>
 F_ref33_Writes x2 v4 >>= fun v5 =>
 if (v0.fst.length + (List.map egRegion v5).length) * (32 : Nat) ≤ (140737488355328 : Nat) ∧ v0.fst.length + (List.map egRegion v5).length ≤ (9223372036854775807 : Nat) then
 some (v0.fst ++ v5) >>= fun v6 =>
 F_ref33_Writes_L5 x2 x3 v6 (IntKind.i64.wrap (v0.snd + (1 : Int)))
 else none
 else
 some v0.fst
  partial_fixpoint
end
theorem PM_ref33_Writes (x0 : gNest) : (∀ (x1 : gStmtS) (r : List gRegion), F_ref33_Writes x0 x1 = some r → PU 24 [egNest x0, hgStmt x1] (eLgRegion r)) ∧ (∀ (x3 : gStmtS) (x5 : List gRegion) (x6 : Int) (o : List gRegion), F_ref33_Writes_L5 x0 x3 x5 x6 = some o → LO 24 5 48 [2, 3, 5, 6] [.ptr 0 0 0, .ptr 1 0 0, .ow 2 0 3 (List.length x5), .int .i64 x6] [.cells 0 (egNest x0).cells, .cells 0 (hgStmt x3).cells, .own 0 3 (List.map egRegion x5)] [5] (A_ref33_Writes_L5 (x0, x3) () o)) :=
  F_ref33_Writes.mutual_partial_correctness x0 (fun x1 r => PU 24 [egNest x0, hgStmt x1] (eLgRegion r)) (fun x3 x5 x6 o => LO 24 5 48 [2, 3, 5, 6] [.ptr 0 0 0, .ptr 1 0 0, .ow 2 0 3 (List.length x5), .int .i64 x6] [.cells 0 (egNest x0).cells, .cells 0 (hgStmt x3).cells, .own 0 3 (List.map egRegion x5)] [5] (A_ref33_Writes_L5 (x0, x3) () o))
  (fun F_ref33_Writes_L5 ih_ref33_Writes_L5 x1 r h  =>
  Pu1 (hs := [(9, .split), (13, .split), (20, .c eLgRegion), (3000006, .l [] [2, 3, 5, 6] [{ slot := 2 }, { slot := 3 }, { slot := 5, own := 3 }] [5] [{ slot := 5, fz := true }] (A_ref33_Writes_L5 (x0, x1))), (5000001, .l [] [] [] [2, 3, 14] [{ slot := 2 }, { slot := 3 }] (A_ref33_Writes_J5000001 (x0, x1)))]) (by kernel_rfl) ((kJb (id := 5000001) () (fun v0 ev0 v1 => (kIf (c := x1.fOp == (2 : Int)) (kXj (alts := A_ref33_Writes_J5000001 (x0, x1)) ev0 true (.here () rfl (.refl _) (.refl _)))
 (kIf (c := x1.fOp == (3 : Int)) (kXj (alts := A_ref33_Writes_J5000001 (x0, x1)) ev0 true (.here () rfl (.refl _) (.refl _)))
 (kXj (alts := A_ref33_Writes_J5000001 (x0, x1)) ev0 false (.next (.here () rfl (.refl _) (.refl _)))))))
 (fun v0 => (kC (sh := eLgRegion) (P_ref33_region x0 x1.fName x1.fIdx) fun v3 => (kEr (enc := eLgRegion) v3)))
 (fun v0 => (kL1 () (ih_ref33_Writes_L5 x1 [] (0 : Int)) fun v5 v7 => (kEr (enc := eLgRegion) v7)))) h))
  (fun F_ref33_Writes F_ref33_Writes_L5 ih_ref33_Writes ih_ref33_Writes_L5 x3 x5 x6 o h  =>
  Lp1 (hs := [(24, .n eI 24 none), (25, .split), (29, .split), (33, .split), (43, .e hgStmt), (45, .c eLgRegion), (46, .z [{ slot := 38, own := 3 }] (some (.n egRegion 46 (some .a)))), (5000005, .l [] [] [] [2, 3, 5, 6, 35] [{ slot := 2 }, { slot := 3 }, { slot := 5, own := 3 }] (A_ref33_Writes_J5000005 (x0, x3)))]) (kb := [{ slot := 2 }, { slot := 3 }, { slot := 5, own := 3 }]) (kbx := [{ slot := 5, fz := true }]) (by kernel_rfl) (by kernel_rfl) ((kJb (id := 5000005) (x5, x6) (fun v0 ev0 v1 => (kN _ (mLen (sh := egStmt) x3.fBody) fun v2 => (kIfD (p := x6 < v2) (kIf (c := x3.fOp == (1 : Int)) (kXj (alts := A_ref33_Writes_J5000005 (x0, x3)) ev0 true (.here () rfl (.refl _) (.refl _)))
 (kIf (c := x3.fOp == (4 : Int)) (kXj (alts := A_ref33_Writes_J5000005 (x0, x3)) ev0 true (.here () rfl (.refl _) (.refl _)))
 (kXj (alts := A_ref33_Writes_J5000005 (x0, x3)) ev0 false (.next (.here () rfl (.refl _) (.refl _))))))
 (kXj (alts := A_ref33_Writes_J5000005 (x0, x3)) ev0 false (.next (.here () rfl (.refl _) (.refl _)))))))
 (fun v0 => (kIxR (l := x3.fBody) (k := v0.snd) egStmt_f fun v4 => (kC (sh := eLgRegion) (ih_ref33_Writes v4) fun v5 => (kA (q := (v0.fst.length + (List.map egRegion v5).length) * (32 : Nat) ≤ (140737488355328 : Nat) ∧ v0.fst.length + (List.map egRegion v5).length ≤ (9223372036854775807 : Nat)) (sh := egRegion) (l := v0.fst) (kO (sh := egRegion) (v0.fst ++ v5) (mAA (sh := egRegion) v0.fst v5) (nAA (sh := egRegion) v0.fst v5) fun v6 => (kM0 (alts := A_ref33_Writes_L5 (x0, x3) ()) (ih_ref33_Writes_L5 x3 v6 (IntKind.i64.wrap (v0.snd + (1 : Int))))))))))
 (fun v0 => (kT (nM (sh := egRegion) v0.fst) (kX (alts := A_ref33_Writes_L5 (x0, x3) ()) v0.fst (.here _ rfl (.refl _) (.refl _)))))) h))
theorem P_ref33_Writes (x0 : gNest) (x1 : gStmtS) (r : List gRegion) (h : F_ref33_Writes x0 x1 = some r) : PU 24 [egNest x0, hgStmt x1] (eLgRegion r) := (PM_ref33_Writes x0).1 x1 r h
theorem P_ref33_Writes_L5 (x2 : gNest) (x3 : gStmtS) (x5 : List gRegion) (x6 : Int) (o : List gRegion) (h : F_ref33_Writes_L5 x2 x3 x5 x6 = some o) : LO 24 5 48 [2, 3, 5, 6] [.ptr 0 0 0, .ptr 1 0 0, .ow 2 0 3 (List.length x5), .int .i64 x6] [.cells 0 (egNest x2).cells, .cells 0 (hgStmt x3).cells, .own 0 3 (List.map egRegion x5)] [5] (A_ref33_Writes_L5 (x2, x3) () o) := (PM_ref33_Writes x2).2 x3 x5 x6 o h
def A_trace_gathers_L8 (s : (gNest × (List gIndex) × Int)) (u : ((List gRegion) × gIndex × Int × (List gLin) × Int)) (o : List gIndex) : List Alt := [⟨fun (x : List gIndex) => x = o, .exit 2, fun x => [.ptr 0 0 0, .ow 1 0 3 (List.length u.1), .ptr 2 0 0, .sl 4 (List.map egIndex x), .sl 4 (List.map egIndex s.2.1), .int .i64 s.2.2, .int .i64 u.2.2.1], fun x => [.cells 0 (egNest s.1).cells, .own 0 3 (List.map egRegion u.1), .cells 0 (egIndex u.2.1).cells]⟩]
noncomputable def F_trace_gathers_L8 (x8 : List gIndex) (x21 : List gLin) (x22 : Int) (x23 : Int) : Option (List gIndex) :=
 if x23 < x22 then
 ix x21 x23 >>= fun v0 =>
 some ((gIndex.mk v0 [] [])) >>= fun v1 =>
 if (x8.length + (1 : Nat)) * (72 : Nat) ≤ (140737488355328 : Nat) ∧ x8.length + (1 : Nat) ≤ (9223372036854775807 : Nat) then
 some (x8 ++ [v1]) >>= fun v2 =>
 F_trace_gathers_L8 v2 x21 x22 (IntKind.i64.wrap (x23 + (1 : Int)))
 else none
 else
 some x8
  partial_fixpoint
theorem P_trace_gathers_L8 (x2 : gNest) (x5 : List gRegion) (x7 : gIndex) (x8 : List gIndex) (x11 : List gIndex) (x12 : Int) (x13 : Int) (x21 : List gLin) (x22 : Int) (x23 : Int) (o : List gIndex) (h : F_trace_gathers_L8 x8 x21 x22 x23 = some o) : LO 34 8 42 [2, 5, 7, 8, 11, 12, 13, 21, 22, 23] [.ptr 0 0 0, .ow 1 0 3 (List.length x5), .ptr 2 0 0, .ow 3 0 4 (List.length x8), .sl 4 (List.map egIndex x11), .int .i64 x12, .int .i64 x13, .sl 2 (List.map egLin x21), .int .i64 x22, .int .i64 x23] [.cells 0 (egNest x2).cells, .own 0 3 (List.map egRegion x5), .cells 0 (egIndex x7).cells, .own 0 4 (List.map egIndex x8)] [2, 5, 7, 8, 11, 12, 13] (A_trace_gathers_L8 (x2, x11, x12) (x5, x7, x13, x21, x22) o) :=
  F_trace_gathers_L8.partial_correctness x21 x22 (fun x8 x23 o => ∀ (x2 : gNest) (x5 : List gRegion) (x7 : gIndex) (x11 : List gIndex) (x12 : Int) (x13 : Int), LO 34 8 42 [2, 5, 7, 8, 11, 12, 13, 21, 22, 23] [.ptr 0 0 0, .ow 1 0 3 (List.length x5), .ptr 2 0 0, .ow 3 0 4 (List.length x8), .sl 4 (List.map egIndex x11), .int .i64 x12, .int .i64 x13, .sl 2 (List.map egLin x21), .int .i64 x22, .int .i64 x23] [.cells 0 (egNest x2).cells, .own 0 3 (List.map egRegion x5), .cells 0 (egIndex x7).cells, .own 0 4 (List.map egIndex x8)] [2, 5, 7, 8, 11, 12, 13] (A_trace_gathers_L8 (x2, x11, x12) (x5, x7, x13, x21, x22) o))
  (fun F_trace_gathers_L8 ih_trace_gathers_L8 x8 x23 o h x2 x5 x7 x11 x12 x13 =>
  Lp1 (hs := [(24, .split), (25, .e egLin), (29, .n egIndex 29 none), (31, .z [{ slot := 27, own := 4 }] (some (.n egIndex 31 (some .a))))]) (kb := [{ slot := 2 }, { slot := 5, own := 3 }, { slot := 7 }, { slot := 8, own := 4 }]) (kbx := [{ slot := 2 }, { slot := 5, own := 3 }, { slot := 7 }, { slot := 8, fz := true }]) (by kernel_rfl) (by kernel_rfl) ((kIfD (p := x23 < x22) (kIx (enc := egLin) (l := x21) (k := x23) fun v0 => (kW (sh := egIndex) (gIndex.mk v0 [] []) (LeV.agg (.cons (LeV.refl (AV.int IntKind.i64 v0.fK)) (.cons (LeV.refl (AV.sl (2 : Nat) (List.map egMono v0.fL))) (.cons (LeV.refl (AV.str [])) (.cons (LeV.nil 2) .nil))))) fun v1 => (kA (q := (x8.length + (1 : Nat)) * (72 : Nat) ≤ (140737488355328 : Nat) ∧ x8.length + (1 : Nat) ≤ (9223372036854775807 : Nat)) (sh := egIndex) (l := x8) (kO (sh := egIndex) (x8 ++ [v1]) (mA (sh := egIndex) x8 v1) (nA x8 v1) fun v2 => (kM0 (alts := A_trace_gathers_L8 (x2, x11, x12) (x5, x7, x13, x21, x22)) (fun y hy => ih_trace_gathers_L8 v2 (IntKind.i64.wrap (x23 + (1 : Int))) y hy x2 x5 x7 x11 x12 x13))))))
 (kT (nM (sh := egIndex) x8) (kX (alts := A_trace_gathers_L8 (x2, x11, x12) (x5, x7, x13, x21, x22)) x8 (.here _ rfl (.refl _) (.refl _))))) h)) x8 x23 o h x2 x5 x7 x11 x12 x13
def A_trace_gathers_L3 (s : gNest) (u : ((List gIndex) × Int)) (o : List gRegion) : List Alt := [⟨fun (x : List gRegion) => x = o, .exit 0, fun x => [.ow 0 0 3 (List.length x)], fun x => [.own 0 3 (List.map egRegion x)]⟩]
noncomputable def F_trace_gathers_L3 (x2 : gNest) (x5 : List gRegion) (x11 : List gIndex) (x12 : Int) (x13 : Int) : Option (List gRegion) :=
 if x13 < x12 then
 ix x11 x13 >>= fun v0 =>
 if v0.fFrom == [] then
 F_trace_gathers_L3 x2 x5 x11 x12 (IntKind.i64.wrap (x13 + (1 : Int)))
 else
 some (List.length v0.fAt : Int) >>= fun v1 =>
 some (x5, v0, x13, v0.fAt, v1) >>= fun v2 =>
 F_trace_gathers_L8 [] v0.fAt v1 (0 : Int) >>= fun v4 =>
 F_trace_region x2 v2.snd.fst.fFrom v4 >>= fun v5 =>
 if (v2.fst.length + (List.map egRegion v5).length) * (32 : Nat) ≤ (140737488355328 : Nat) ∧ v2.fst.length + (List.map egRegion v5).length ≤ (9223372036854775807 : Nat) then
 some (v2.fst ++ v5) >>= fun v6 =>
 F_trace_gathers_L3 x2 v6 x11 x12 (IntKind.i64.wrap (v2.snd.snd.fst + (1 : Int)))
 else none
 else
 some x5
  partial_fixpoint
theorem P_trace_gathers_L3 (x2 : gNest) (x5 : List gRegion) (x11 : List gIndex) (x12 : Int) (x13 : Int) (o : List gRegion) (h : F_trace_gathers_L3 x2 x5 x11 x12 x13 = some o) : LO 34 3 42 [2, 5, 11, 12, 13] [.ptr 0 0 0, .ow 1 0 3 (List.length x5), .sl 4 (List.map egIndex x11), .int .i64 x12, .int .i64 x13] [.cells 0 (egNest x2).cells, .own 0 3 (List.map egRegion x5)] [5] (A_trace_gathers_L3 x2 (x11, x12) o) :=
  F_trace_gathers_L3.partial_correctness x2 x11 x12 (fun x5 x13 o => LO 34 3 42 [2, 5, 11, 12, 13] [.ptr 0 0 0, .ow 1 0 3 (List.length x5), .sl 4 (List.map egIndex x11), .int .i64 x12, .int .i64 x13] [.cells 0 (egNest x2).cells, .own 0 3 (List.map egRegion x5)] [5] (A_trace_gathers_L3 x2 (x11, x12) o))
  (fun F_trace_gathers_L3 ih_trace_gathers_L3 x5 x13 o h  =>
  Lp1 (hs := [(14, .split), (15, .e egIndex), (19, .split), (22, .n eI 22 none), (38, .c eLgRegion), (39, .z [{ slot := 33, own := 3 }] (some (.n egRegion 39 (some .a)))), (3000009, .l [] [2, 5, 7, 8, 11, 12, 13, 21, 22, 23] [{ slot := 2 }, { slot := 5, own := 3 }, { slot := 7 }, { slot := 8, own := 4 }] [2, 5, 7, 8, 11, 12, 13] [{ slot := 2 }, { slot := 5, own := 3 }, { slot := 7 }, { slot := 8, fz := true }] (A_trace_gathers_L8 (x2, x11, x12)))]) (kb := [{ slot := 2 }, { slot := 5, own := 3 }]) (kbx := [{ slot := 5, own := 3 }]) (by kernel_rfl) (by kernel_rfl) ((kIfD (p := x13 < x12) (kIx (enc := egIndex) (l := x11) (k := x13) fun v0 => (kIf (c := v0.fFrom == []) (kM0 (alts := A_trace_gathers_L3 x2 (x11, x12)) (ih_trace_gathers_L3 x5 (IntKind.i64.wrap (x13 + (1 : Int)))))
 (kN _ (mLen (sh := egLin) v0.fAt) fun v1 => (kL1 (x5, v0, x13, v0.fAt, v1) (P_trace_gathers_L8 x2 x5 v0 [] x11 x12 x13 v0.fAt v1 (0 : Int)) fun v2 v4 => (kC (sh := eLgRegion) (P_trace_region x2 v2.snd.fst.fFrom v4) fun v5 => (kA (q := (v2.fst.length + (List.map egRegion v5).length) * (32 : Nat) ≤ (140737488355328 : Nat) ∧ v2.fst.length + (List.map egRegion v5).length ≤ (9223372036854775807 : Nat)) (sh := egRegion) (l := v2.fst) (kO (sh := egRegion) (v2.fst ++ v5) (mAA (sh := egRegion) v2.fst v5) (nAA (sh := egRegion) v2.fst v5) fun v6 => (kM0 (alts := A_trace_gathers_L3 x2 (x11, x12)) (ih_trace_gathers_L3 v6 (IntKind.i64.wrap (v2.snd.snd.fst + (1 : Int))))))))))))
 (kX (alts := A_trace_gathers_L3 x2 (x11, x12)) x5 (.here _ rfl (.refl _) (.refl _)))) h)) x5 x13 o h
def R_trace_gathers (r : List gRegion) : AV := .ow 0 0 3 (List.length r)
def B_trace_gathers (r : List gRegion) : List Box := [.own 0 3 (List.map egRegion r)]
theorem T_trace_gathers {args : List AV} (r : List gRegion) (h : PH 34 args [] (R_trace_gathers r) (B_trace_gathers r)) : PU 34 args (eLgRegion r) := PuT1 h (by kernel_rfl) (And.intro (nM (sh := egRegion) r) (LeT.refl (eLgRegion r)))
noncomputable def F_trace_gathers (x0 : gNest) (x1 : List gIndex) : Option (List gRegion) :=
 some (List.length x1 : Int) >>= fun v0 =>
 some (x1, v0) >>= fun v1 =>
 F_trace_gathers_L3 x0 [] x1 v0 (0 : Int) >>= fun v3 =>
 some v3
theorem P_trace_gathers (x0 : gNest) (x1 : List gIndex) (r : List gRegion) (h : F_trace_gathers x0 x1 = some r) : PH 34 [egNest x0, eLgIndex x1] [] (R_trace_gathers r) (B_trace_gathers r) :=
  PuH1 (hs := [(12, .n eI 12 none), (3000004, .l [] [2, 5, 11, 12, 13] [{ slot := 2 }, { slot := 5, own := 3 }] [5] [{ slot := 5, own := 3 }] (A_trace_gathers_L3 x0))]) (kb := [{ slot := 0, path := [], own := 3 }]) (by kernel_rfl) ((kN _ (mLen (sh := egIndex) x1) fun v0 => (kL1 (x1, v0) (P_trace_gathers_L3 x0 [] x1 v0 (0 : Int)) fun v1 v3 => (kEH (enc := R_trace_gathers) (bt := B_trace_gathers) v3 ⟨.refl _, .refl _⟩))) h)
end Go.Proofs.YtfpegbpngbchfaaGreatDoor
end
section
namespace HY
open Go Go.RowKit
def JQ (b : Bool) (m : Nat) (r : AV) (p : Option Nat) : Prop := match b with
  | true => (r = .bool true ∧ p = some m) ∨ (r = .bool false ∧ p = none)
  | false => r = .tup [] ∧ (p = some m ∨ p = none)
structure JF (P : Program) (gl : Nat → AV) (l : Nat) (xs : List (List AV)) (f : Nat) (args : List AV) (p : Option Nat) (b : Bool) (m : Nat) : Prop where
  ok : ∀ J, JOk P gl l xs J → ∀ Hc w (vs : Array Value), J p (fun _ => False) Hc w → args.length = vs.size → (∀ (j : Nat) (c : AV) (v : Value), args[j]? = some c → vs[j]? = some v → RelI Hc c v) →
    Ans P f vs w fun e w' => ∃ v r p' O' Hc', e = .returned v ∧ JQ b m r p' ∧ (∀ H, RelI H r v) ∧ J p' O' Hc' w'
structure Fr (gl : Nat → AV) (J : JT) (p : Option Nat) (st : St) (tmps : Array Value) (w : World) : Prop where
  ex : ∃ O Hc m H, RelS m H (BO O w) Hc gl [] st tmps w ∧ HV.le H Hc ∧ J p O Hc w
section
variable {P : Program} {gl : Nat → AV} {l : Nat} {xs : List (List AV)} {J : JT}
theorem Fr.moved (hJ : JOk P gl l xs J) {p : Option Nat} {O : Nat → Prop} {Hc : HV} {w w' : World} (hj : J p O Hc w) (hb : BelowS (BO O w) w w') {m' : Nat → Lc} {H' : HV} {B' : Nat → Prop} {H0' : HV} {st' : St} {tmps' : Array Value} (hs : ∀ b, BO O w b → B' b) (ho : ∀ b o, BO O w b → H0' b o = Hc b o)
    (hr : RelS m' H' B' H0' gl [] st' tmps' w') : Fr gl J p st' tmps' w' := by
  have hr1 : RelS m' H' (BO O w) Hc gl [] st' tmps' w' := hr.down hs ho ((hJ.gv _ _ _ _ hj).to hb fun _ _ h => h)
  have hj1 := hJ.own _ _ _ _ _ hj hb
  have cov : ∀ b, b < w'.heap.size → BO O w b ∨ plusO O w w' b := fun b hlt => by
    by_cases hO : O b
    · exact .inr (.inl hO)
    · rcases Nat.lt_or_ge b w.heap.size with h | h
      · exact .inl ⟨h, hO⟩
      · exact .inr (.inr ⟨h, hlt⟩)
  have hk : ∀ b o v, H' b o = some v → plusO O w w' b ∨ Hc b o = some v := fun b o v hv => by
    rcases cov b (sat_lt hr1.heap.sat hv) with h | h
    · exact .inr (by rw [← hr1.heap.old b o h]; exact hv)
    · exact .inl h
  have hj2 := hJ.pub _ _ _ _ H' hj1 hr1.heap.sat hk
  have hun : ∀ b o, b < w'.heap.size → unH Hc H' b o = H' b o := fun b o hlt => by
    unfold unH
    split
    · rename_i v hv
      rcases cov b hlt with h | h
      · rw [hr1.heap.old b o h, hv]
      · rw [hJ.dis _ _ _ _ hj1 b h o] at hv; cases hv
    · rfl
  refine ⟨_, _, m', H', hr1.base (fun b o hb => (hun b o hb.1).symm) (fun b hb => hb.1) (fun id b hid hre hbo => ?_) (hJ.gv _ _ _ _ hj2), unH_le (hJ.sat _ _ _ _ hj1) hr1.heap.sat, hj2⟩
  obtain ⟨x, y, z⟩ := hr1.heap.sepR id b hid hre
  refine hbo.2 ⟨?_, z⟩
  rcases cov _ y with h | h
  · exact absurd h x
  · exact h
theorem Fr.turned (hJ : JOk P gl l xs J) {p : Option Nat} {O O' : Nat → Prop} {Hc Hc' : HV} {w w' : World} {m : Nat → Lc} {H : HV} {st : St} {tmps : Array Value} (hr : RelS m H (BO O w) Hc gl [] st tmps w) (hle : HV.le H Hc) (hj : J p (fun b => O b ∨ O' b) Hc' w') (hb : BelowS O w w') (hO : ∀ b, O' b → w.heap.size ≤ b) (hh : ∀ b o, b < w.heap.size → Hc' b o = Hc b o) (hl : HV.le Hc Hc') : Fr gl J p st tmps w' := by
  have hsat := hJ.sat _ _ _ _ hj
  have hHlt : ∀ b o v, H b o = some v → b < w.heap.size := fun b o v hv => sat_lt hr.heap.sat hv
  have hH2 : HV.le H (fun b o => if b < w.heap.size then H b o else Hc' b o) := fun b o v hv => by
    simp only [if_pos (hHlt b o v hv)]; exact hv
  have hH3 : HV.le (fun b o => if b < w.heap.size then H b o else Hc' b o) Hc' := fun b o v hv => by
    simp only at hv
    split at hv
    · exact hl b o v (hle b o v hv)
    · exact hv
  have own : ∀ id b, lkb st.hp id = some b → Real b (m id) → O (m id).g := fun id b hid hre => by
    obtain ⟨x, y, _⟩ := hr.heap.sepR id b hid hre
    by_cases h : O (m id).g
    · exact h
    · exact absurd ⟨y, h⟩ x
  refine ⟨_, _, m, _, ⟨{ sat := fun b o v hv => hsat b o v (hH3 b o v hv), old := fun b o hbo => ?_, low := fun b hbo => hbo.1, fresh := hr.heap.fresh, box := fun id b hid => (hr.heap.box id b hid).mono' hH2 (.refl _) fun hre => hb.block _ (own id b hid hre), sepR := fun id b hid hre => ⟨fun hbo => hbo.2 (.inl (own id b hid hre)), Nat.lt_of_lt_of_le (hr.heap.sepR id b hid hre).2.1 hb.size, fun o => ?_⟩, injR := hr.heap.injR, gv := hJ.gv _ _ _ _ hj, gl := fun g => (hr.heap.gl g).mono hH2, ty := fun id v cs hid => (hr.heap.ty id v cs hid).mono (hb.block _ (own id _ hid trivial)) }, hr.size, fun k => (hr.slot k).mono hH2 (.refl _), fun p hp => by simp at hp⟩, hH3, hj⟩
  · show (if b < w.heap.size then H b o else Hc' b o) = Hc' b o
    split
    · rename_i hlt
      rw [hr.heap.old b o ⟨hlt, fun h => hbo.2 (.inl h)⟩, hh b o hlt]
    · rfl
  · simp only [if_pos (hr.heap.sepR id b hid hre).2.1]
    exact (hr.heap.sepR id b hid hre).2.2 o
def JIn (J : JT) (O0 : Nat → Prop) (Hc0 : HV) (w0 : World) : JT := fun p O Hc w => J p (fun b => O0 b ∨ O b) Hc w ∧ BelowS O0 w0 w ∧ (∀ b, O b → w0.heap.size ≤ b) ∧ (∀ b o, b < w0.heap.size → Hc b o = Hc0 b o) ∧ HV.le Hc0 Hc
theorem JIn.ok (hJ : JOk P gl l xs J) {O0 : Nat → Prop} {Hc0 : HV} {w0 : World} (hlow : ∀ b, O0 b → b < w0.heap.size) : JOk P gl l xs (JIn J O0 Hc0 w0) where
  sat p O Hc w h := hJ.sat _ _ _ _ h.1
  low p O Hc w h b hb := hJ.low _ _ _ _ h.1 b (.inr hb)
  dis p O Hc w h b hb := hJ.dis _ _ _ _ h.1 b (.inr hb)
  gls p O Hc w h := hJ.gls _ _ _ _ h.1
  gv p O Hc w h := (hJ.gv _ _ _ _ h.1).sup fun b hb => ⟨hb.1, fun h => hb.2 (.inr h)⟩
  own p O Hc w w' h hb := by
    obtain ⟨h1, h2, h3, h4, h5⟩ := h
    have := hJ.own _ _ _ _ _ h1 (hb.mono fun b hb => ⟨hb.1, fun h => hb.2 (.inr h)⟩)
    refine ⟨?_, h2.trans (hb.mono fun b hb => ⟨Nat.lt_of_lt_of_le (hlow b hb) h2.size, fun h => by have := h3 b h; have := hlow b hb; omega⟩), fun b hb => ?_, h4, h5⟩
    · have e : plusO (fun b => O0 b ∨ O b) w w' = fun b => O0 b ∨ plusO O w w' b := by
        funext b; simp only [plusO, eq_iff_iff]; exact or_assoc
      rw [← e]; exact this
    · rcases hb with hb | hb
      · exact h3 b hb
      · exact Nat.le_trans h2.size hb.1
  pub p O Hc w H h hs hk := by
    obtain ⟨h1, h2, h3, h4, h5⟩ := h
    have hn : ∀ b o, O0 b → H b o = none := fun b o hb => by
      cases hv : H b o with
      | none => rfl
      | some v =>
        rcases hk b o v hv with h | h
        · have := h3 b h; have := hlow b hb; omega
        · rw [hJ.dis _ _ _ _ h1 b (.inl hb) o] at h; cases h
    have := hJ.pub _ _ _ _ H h1 hs fun b o v hv => (hk b o v hv).imp (fun h => .inr h) id
    refine ⟨?_, h2, fun b hb => h3 b hb.1, fun b o hb => ?_, fun b o v hv => unH_l b o v (h5 b o v hv)⟩
    · have e : lessO (fun b => O0 b ∨ O b) H = fun b => O0 b ∨ lessO O H b := by
        funext b
        simp only [lessO, eq_iff_iff]
        exact ⟨fun ⟨a, c⟩ => a.imp id fun a => ⟨a, c⟩, fun a => a.elim (fun a => ⟨.inl a, fun o => hn b o a⟩) fun a => ⟨.inr a.1, a.2⟩⟩
      rw [← e]; exact this
    · rw [← h4 b o hb]
      unfold unH
      split
      · rename_i v hv; rw [hv]
      · rename_i hv
        rw [hv]
        cases h6 : H b o with
        | none => rfl
        | some v =>
          rcases hk b o v h6 with h | h
          · have := h3 b h; omega
          · rw [hv] at h; cases h
  round k O Hc w x vs h hx hl hr := by
    obtain ⟨h1, h2, h3, h4, h5⟩ := h
    obtain ⟨fn, tm, azz, bd, e, hR⟩ := hJ.round _ _ _ _ _ _ h1 hx hl hr
    refine ⟨fn, tm, azz, bd, e, fun ro n => (hR ro n).mono fun e w' ⟨b, e1, e2, e3⟩ => ⟨b, e1, e2.mono fun b hb => .inr hb, ?_, h2.trans (e2.mono fun b hb => .inl hb), h3, h4, h5⟩⟩
    exact e3
end
theorem RV.val_inv {H : HV} {E : Env} {v u : Value} (h : RV H E (.val v) u) : u = v := by
  generalize hx : AV.val v = x at h
  cases h with
  | imm _ _ h => cases h with
    | val => cases hx; rfl
    | _ => cases hx
  | _ => cases hx
def findRng (r : Nat) : Code → Option (Array Tmp × Code × Code)
  | .seq a b => match findRng r a with
    | some c => some c
    | none => findRng r b
  | .cond _ a b => match findRng r a with
    | some c => some c
    | none => findRng r b
  | .block _ c => findRng r c
  | .loop c => findRng r c
  | .rangeFunc _ ps a b => match Nat.beq (regId (.seq a b)) r with
    | true => some (ps, a, b)
    | false => none
  | _ => none
def rng (P : Program) (f r : Nat) : Array Tmp × Code × Code := match P.funcs[f]? with
  | some fn => match fn.body with
    | some c => match findRng r c with
      | some x => x
      | none => (#[], .skip, .skip)
    | none => (#[], .skip, .skip)
  | none => (#[], .skip, .skip)
def yv : AV → Option Nat
  | .val v => match v with
    | .func g a b => match g with
      | .yield l => match a.toList, b.toList with
        | [], [] => some l
        | _, _ => none
      | _ => none
    | _ => none
  | _ => none
theorem yv_inv {x : AV} {l : Nat} (h : yv x = some l) : x = .val (.func (.yield l) #[] #[]) := by
  unfold yv at h
  split at h
  · split at h
    · rename_i g a b
      split at h
      · split at h
        · rename_i ha hb
          cases h
          have : a = #[] := by simpa using ha
          subst this
          have : b = #[] := by simpa using hb
          subst this
          rfl
        · cases h
      · cases h
    · cases h
  · cases h
def yld1 (ev : Operand → AV) (op : Op) : Option (Nat × List AV) :=
  match op with
  | .call c => match c.callee with
    | .value x => match yv (ev x) with
      | some l => some (l, c.args.toList.map ev)
      | none => none
    | _ => none
  | _ => none
def isVal : AV → Bool
  | .val _ => true
  | _ => false
def hasRes (P : Program) (f : Nat) : Bool := match P.funcs[f]? with
  | some fn => match fn.results.toList with
    | [] => false
    | _ => true
  | none => false
def jstep (P : Program) (gl : Nat → AV) (ch0 : CallH) (wf : WF) (hs : Hints) (l : Nat) (xs : List (List AV)) (o : Oper) (p : Option Nat) (st : St) (K : Option Nat → St → Prop) : Prop :=
  match isCall o.op with
  | true => match yld1 (st.ev gl) o.op with
    | some (l', args) => match optL (tree (fun _ => none) false 12) args with
      | some ts => match p with
        | some k => l' = l ∧ xs[k]? = some ts ∧ K (some (k + 1)) (st.putO o.dst (.bool true)) ∧ K none (st.putO o.dst (.bool false))
        | none => False
      | none => False
    | none => match callee? (st.ev gl) o.op with
      | some (f, args) => match args.any isVal with
        | true => match optL (tree (fun _ => none) false 12) args with
          | some ts => match hasRes P f with
            | true => ∃ m, JF P gl l xs f ts p true m ∧ K (some m) (st.putO o.dst (.bool true)) ∧ K none (st.putO o.dst (.bool false))
            | false => ∃ m, JF P gl l xs f ts p false m ∧ K (some m) (st.putO o.dst (.tup [])) ∧ K none (st.putO o.dst (.tup []))
          | none => False
        | false => wseqO P gl ch0 wf hs o st (K p)
      | none => False
  | false => wseqO P gl ch0 wf hs o st (K p)
def jseq (P : Program) (gl : Nat → AV) (ch0 : CallH) (wf : WF) (hs : Hints) (l : Nat) (xs : List (List AV)) (all : List Oper) : List Oper → Option Nat → St → (Option Nat → St → Prop) → Prop
  | [], p, st, K => K p st
  | o :: r, p, st, K => match dstOk o.dst st.n with
    | true => match guardK o (gval all o st) with
      | some true => jstep P gl ch0 wf hs l xs o p st (fun p s => jseq P gl ch0 wf hs l xs all r p s K)
      | some false => jseq P gl ch0 wf hs l xs all r p (st.putO o.dst (.tup [])) K
      | none => False
    | false => False
structure JO (a b : Exit × List AV) (m : Nat) (e : Exit) (p : Option Nat) (vs : List AV) (bs : List Box) : Prop where
  ok : bs = [] ∧ ((e = a.1 ∧ p = some m ∧ vs = a.2) ∨ (e = b.1 ∧ p = none ∧ vs = b.2))
theorem JO.a {a b : Exit × List AV} {m : Nat} {e : Exit} {p : Option Nat} {vs : List AV} (h1 : e = a.1) (h2 : p = some m) (h3 : vs = a.2) : JO a b m e p vs [] := ⟨rfl, .inl ⟨h1, h2, h3⟩⟩
theorem JO.b {a b : Exit × List AV} {m : Nat} {e : Exit} {p : Option Nat} {vs : List AV} (h1 : e = b.1) (h2 : p = none) (h3 : vs = b.2) : JO a b m e p vs [] := ⟨rfl, .inr ⟨h1, h2, h3⟩⟩
def JQL (n : Nat) (kx : List Nat) (a b : Exit × List AV) (m : Nat) (e : Exit) (p : Option Nat) (s : St) : Prop := (e = a.1 ∧ p = some m ∧ s = headSt n kx a.2 []) ∨ (e = b.1 ∧ p = none ∧ s = headSt n kx b.2 [])
structure JL (P : Program) (gl : Nat → AV) (l : Nat) (xs : List (List AV)) (n : Nat) (c : Code) (ks : List Nat) (vs : List AV) (bs : List Box) (p : Option Nat) (kx : List Nat) (x y : Exit × List AV) (m : Nat) : Prop where
  ok : ∀ J, JOk P gl l xs J → ∀ (a : Act) (w : World), Fr gl J p (headSt n ks vs bs) a.tmps w → wpL P none 0 c (fun e a' w' => ∃ p' st', JQL n kx x y m e p' st' ∧ a'.defers = a.defers ∧ Fr gl J p' st' a'.tmps w') a w
structure JH where
  ks : List Nat
  kb : List KB
  kx : List Nat
  x : Exit × List AV
  y : Exit × List AV
def lkJ : List (Nat × JH) → Nat → Option JH
  | [], _ => none
  | (k, h) :: r, n => match Nat.beq k n with
    | true => some h
    | false => lkJ r n
def jcode (P : Program) (gl : Nat → AV) (ch0 : CallH) (wf : WF) (hs : Hints) (js : List (Nat × JH)) (l : Nat) (xs : List (List AV)) : Nat → Code → Option Nat → St → (Exit → Option Nat → St → Prop) → Prop
  | 0, _, _, _, _ => False
  | k + 1, c, p, st, K => match c with
    | .skip => K .normal p st
    | .label _ => K .normal p st
    | .exit id => K (.exit id) p st
    | .ret => K .ret p st
    | .region _ ops draw => match draw with
      | true => wcode P gl ch0 wf hs (some []) (k + 1) c st (fun e s => K e p s)
      | false => jseq P gl ch0 wf hs l xs ops.toList ops.toList p st (K .normal)
    | .seq a b => jcode P gl ch0 wf hs js l xs k a p st (fun e p s => match exNorm e with
        | true => jcode P gl ch0 wf hs js l xs k b p s K
        | false => K e p s)
    | .cond c a b => match st.ev gl c with
      | .bool t => match t with
        | true => jcode P gl ch0 wf hs js l xs k a p st K
        | false => jcode P gl ch0 wf hs js l xs k b p st K
      | _ => False
    | .block id c => jcode P gl ch0 wf hs js l xs k c p st (fun e p s => match exIs e id with
      | true => K .normal p s
      | false => K e p s)
    | .loop c => match lkJ js (regId c) with
      | some h => match h with
        | ⟨ks, kb, kx, x, y⟩ => ghosts kb st (fun s => wweak [] ks kb s (fun vs bs => ∃ m, JL P gl l xs st.n c ks vs bs p kx x y m ∧ K x.1 (some m) (headSt st.n kx x.2 []) ∧ K y.1 none (headSt st.n kx y.2 [])))
      | none => False
    | _ => False
section
variable {P : Program} {gl : Nat → AV} {ch0 : CallH} {wf : WF} {hs : Hints} {js : List (Nat × JH)} {l : Nat} {xs : List (List AV)} {J : JT}
theorem trees_rel {H : HV} {E : Env} {args ts : List AV} {vs : Array Value} (hl : args.length = vs.size) (hv : ∀ (j : Nat) (x : AV) (v : Value), args[j]? = some x → vs[j]? = some v → RV H E x v) (h : optL (tree (fun _ => none) false 12) args = some ts) : ts.length = vs.size ∧ ∀ (j : Nat) (t : AV) (v : Value), ts[j]? = some t → vs[j]? = some v → RelI H t v := by
  have hsn : snap H (fun _ => none) (fun _ => ⟨0, 0, 0⟩) default = H := by
    funext b o; unfold snap; rw [if_neg]; rintro ⟨_, _, _, e, _⟩; cases e
  have := optL_rel (R' := RelI (snap H (fun _ => none) (fun _ => ⟨0, 0, 0⟩) default)) hl hv h fun x t v hx ht => tree_ok (H1 := H) false (fun id ver cs hh => by cases hh) (fun id ver cs hh => by cases hh) (fun id bx hh => by cases hh) (fun _ => rfl) 12 x t v hx ht
  rw [hsn] at this
  exact this
theorem jstep_ok (h0 : ch0.Ok P gl) (hwf : WF.Ok P gl wf) (hJ : JOk P gl l xs J) {o : Oper} {p : Option Nat} {st : St} {K : Option Nat → St → Prop} {a : Act} {w : World} (hd : dstOk o.dst st.n = true) (hw : jstep P gl ch0 wf hs l xs o p st K) (hf : Fr gl J p st a.tmps w) (next : Act → World → Prop) (Q : Exit → Act → World → Prop)
    (hn : ∀ a' w' p' st', K p' st' → a'.defers = a.defers → Fr gl J p' st' a'.tmps w' → next a' w') : o.wpIn (FW none) 0 P a w next Q := by
  obtain ⟨O, Hc, m, H, hr, hle, hj⟩ := hf.ex
  have plain : wseqO P gl ch0 wf hs o st (K p) → o.wpIn (FW none) 0 P a w next Q := fun hw =>
    wseqO_ok h0 hwf hr hd hw none 0 next Q fun a' w' m' H' st' hk hd' hb hr' => hn a' w' p st' hk hd' (Fr.moved hJ hj hb (fun _ h => h) (fun _ _ _ => rfl) hr')
  unfold jstep at hw
  split at hw
  · rename_i hc
    split at hw
    · rename_i l' args hy
      split at hw
      · rename_i ts hts
        split at hw
        · rename_i k
          obtain ⟨rfl, hx, hK1, hK2⟩ := hw
          unfold yld1 at hy
          split at hy
          · rename_i c ho
            split at hy
            · rename_i x hcx
              split at hy
              · rename_i l1 hyv
                cases hy
                have hxe := yv_inv hyv
                have hxv := hr.ev x
                rw [hxe] at hxv
                have hval : a.eval x = .func (.yield l') #[] #[] := hxv.val_inv
                have hargs := list_rel hr c.args.toList
                obtain ⟨hl1, hr1⟩ := trees_rel (vs := c.args.map a.eval) (by simp) (fun j y v hy hv => hargs.2 j y v hy (by simpa using hv)) hts
                obtain ⟨fn, tm, azz, bd, hrun, hround⟩ := hJ.round _ _ _ _ _ _ hj hx hl1 (fun j t v ht hv => (hr1 j t v ht hv).mono hle)
                refine ⟨fun _ _ => trivial, ?_⟩
                have hexec : (execOp a.eval o).run P w = .ok (.round l' fn tm azz bd) w := by
                  unfold execOp
                  simp only [ho, resolve, hcx, Sem.run_bind, hval, Deferred.ofValue, Sem.run_pure, Result.andThen_ok, invoke, Array.empty_append]
                  exact hrun
                rw [Oper.semAt_eq _ _ _ (fun c e => by rw [ho] at e; cases e), hexec]
                refine ⟨(fun hh => by simp [FW] at hh), (hround none (0 - 1)).mono fun e w' hpost => ?_⟩
                obtain ⟨b, rfl, hb, hj'⟩ := hpost
                have hfr : Fr gl J (if b then some (k + 1) else none) st a.tmps w' := Fr.turned (O' := fun _ => False) hJ hr hle (by
                  have e : (fun b => O b ∨ False) = O := by funext b; simp
                  rw [e]; exact hj') hb (fun _ h => h.elim) (fun _ _ _ => rfl) (.refl _)
                have fin : ∀ u : Bool, u = b → K (if b then some (k + 1) else none) (st.putO o.dst (.bool u)) → next (a.put o.dst (.bool b)) w' := fun u hu hK => by
                  subst hu
                  refine hn _ _ _ _ hK (put_defers' _ _ _) ?_
                  obtain ⟨O2, Hc2, m2, H2, hr2, hle2, hj2⟩ := hfr.ex
                  exact ⟨O2, Hc2, m2, H2, hr2.putO hd (.imm _ _ (.bool _)), hle2, hj2⟩
                cases b with
                | true => exact fin true rfl hK1
                | false => exact fin false rfl hK2
              · cases hy
            · cases hy
          · cases hy
        · cases hw
      · cases hw
    · split at hw
      · rename_i f args hcal
        split at hw
        · split at hw
          · rename_i ts hts
            obtain ⟨b, q, hJF, hK⟩ : ∃ b q, JF P gl l xs f ts p b q ∧ ∀ r p', JQ b q r p' → K p' (st.putO o.dst r) := by
              split at hw
              · obtain ⟨q, h1, h2, h3⟩ := hw
                exact ⟨true, q, h1, fun r p' hq => by rcases hq with ⟨rfl, rfl⟩ | ⟨rfl, rfl⟩ <;> assumption⟩
              · obtain ⟨q, h1, h2, h3⟩ := hw
                exact ⟨false, q, h1, fun r p' hq => by obtain ⟨rfl, rfl | rfl⟩ := hq <;> assumption⟩
            obtain ⟨vs, hrun, hl, hrv⟩ := call_run hr hcal
            obtain ⟨c, x, caps, ho, _⟩ := callee_inv hcal
            obtain ⟨hl1, hr1⟩ := trees_rel hl hrv hts
            have hlow := hJ.low _ _ _ _ hj
            have hin : JIn J O Hc w p (fun _ => False) Hc w := ⟨by
              have e : (fun b => O b ∨ False) = O := by funext b; simp
              rw [e]; exact hj, BelowS.refl _ _, fun _ h => h.elim, fun _ _ _ => rfl, .refl _⟩
            have hans := hJF.ok _ (JIn.ok hJ (Hc0 := Hc) (w0 := w) hlow) Hc w vs hin hl1 (fun j t v ht hv => (hr1 j t v ht hv).mono hle)
            have fin : ∀ (e : Ending) (w' : World), (∃ v r p' O' Hc', e = Ending.returned v ∧ JQ b q r p' ∧ (∀ H, RelI H r v) ∧ JIn J O Hc w p' O' Hc' w') → ∃ v, e = Ending.returned v ∧ next (a.put o.dst v) w' := fun e w' hpost => by
              obtain ⟨v, r, p', O', Hc', rfl, hq, hrel, g1, g2, g3, g4, g5⟩ := hpost
              refine ⟨v, rfl, hn _ _ _ _ (hK r p' hq) (put_defers' _ _ _) ?_⟩
              obtain ⟨O2, Hc2, m2, H2, hr2, hle2, hj2⟩ := (Fr.turned hJ hr hle g1 g2 g3 g4 g5).ex
              exact ⟨O2, Hc2, m2, H2, hr2.putO hd (.imm _ _ (hrel _)), hle2, hj2⟩
            refine ⟨fun _ _ => trivial, ?_⟩
            rw [Oper.semAt_eq _ _ _ (fun c e => by rw [ho] at e; cases e), hrun]
            rcases hans with ⟨hent, hcs⟩ | ⟨v, w', hv, hq⟩
            · rw [hent vs w]
              refine ⟨(fun hh => by simp [FW] at hh), callsIn_FW (hcs.mono fun e w' hp => ?_)⟩
              obtain ⟨v, rfl, hnx⟩ := fin e w' hp
              exact hnx
            · rw [hv]
              obtain ⟨v', he, hnx⟩ := fin _ w' hq
              cases he
              exact hnx
          · cases hw
        · exact plain hw
      · cases hw
  · exact plain hw
theorem jseq_ok (h0 : ch0.Ok P gl) (hwf : WF.Ok P gl wf) (hJ : JOk P gl l xs J) {all : List Oper} {d0 : List Deferred} {K : Option Nat → St → Prop} {Q : Exit → Act → World → Prop}
    (hQ : ∀ (p : Option Nat) (sF : St) (a : Act) (w : World), K p sF → a.defers = d0 → Fr gl J p sF a.tmps w → Q .normal a w) :
    ∀ (pre r : List Oper) (p : Option Nat) (st : St) (a : Act) (w : World), all = pre ++ r → jseq P gl ch0 wf hs l xs all r p st K → a.defers = d0 → Fr gl J p st a.tmps w → wpOpsIn (FW none) 0 P all.toArray Q (List.range' pre.length r.length) a w
  | pre, [], p, st, a, w, _, hk, hd, hf => hQ p st a w hk hd hf
  | pre, o :: r, p, st, a, w, he, hk, hd, hf => by
    simp only [List.length_cons, List.range'_succ, wpOpsIn]
    have ho : all.toArray[pre.length]? = some o := by rw [List.getElem?_toArray, he, List.getElem?_append_right (Nat.le_refl _)]; simp
    simp only [ho]
    have ih := jseq_ok h0 hwf hJ (all := all) hQ (pre ++ [o]) r
    simp only [List.length_append, List.length_cons, List.length_nil, Nat.zero_add, List.append_assoc, List.singleton_append] at ih
    simp only [jseq] at hk
    obtain ⟨O, Hc, m, H, hr, hle, hj⟩ := hf.ex
    split at hk
    · rename_i hdst
      split at hk
      · rename_i hg
        rw [if_pos (wanted_of_guardK hr hg)]
        exact jstep_ok h0 hwf hJ hdst hk hf _ _ fun a' w' p' s hs hd' hf' => ih p' s a' w' he hs (hd'.trans hd) hf'
      · rename_i hg
        rw [if_neg (by rw [wanted_of_guardK hr hg]; simp)]
        exact ⟨fun _ _ => trivial, ih _ _ _ w he hk ((put_defers' _ _ _).trans hd) ⟨O, Hc, m, H, hr.putO hdst (.tup [] #[] rfl (fun j c v hj => by simp at hj)), hle, hj⟩⟩
      · cases hk
    · cases hk
theorem jcode_ok (h0 : ch0.Ok P gl) (hwf : WF.Ok P gl wf) (hmix : P.follows .mixedOrders = true) (hJ : JOk P gl l xs J) : ∀ (k : Nat) (c : Code) (p : Option Nat) (st : St) (K : Exit → Option Nat → St → Prop), okCode c = true → hasRange c = false → jcode P gl ch0 wf hs js l xs k c p st K →
    ∀ (a : Act) (w : World), Fr gl J p st a.tmps w → c.wpIn (FW none) 0 P (fun e a' w' => ∃ p' st', K e p' st' ∧ a'.defers = a.defers ∧ Fr gl J p' st' a'.tmps w') a w
  | 0, _, _, _, _, _, _, h => h.elim
  | k + 1, c, p, st, K, hok, hrg, h => by
    have ih := jcode_ok h0 hwf hmix hJ k
    intro a w hf
    cases c with
    | skip => exact wpIn_skip ⟨p, st, h, rfl, hf⟩
    | label l => exact wpIn_label ⟨p, st, h, rfl, hf⟩
    | exit id => exact wpIn_exit ⟨p, st, h, rfl, hf⟩
    | ret => exact wpIn_ret ⟨p, st, h, rfl, hf⟩
    | region id ops draw =>
      simp only [jcode] at h
      cases draw with
      | true =>
        simp only at h
        obtain ⟨O, Hc, m, H, hr, hle, hj⟩ := hf.ex
        refine wpIn_mono (wcode_n h0 hwf hmix hok h none 0 (fun _ => rfl) _ _ [] m H a w (fun ps e => by cases e; rfl) hr) fun e a' w' hp => ?_
        obtain ⟨s, m', H', B', H0', D, hk, hfin, hr'⟩ := hp
        have hD := hfin.non rfl
        subst hD
        exact ⟨p, s, hk, by simpa [marksG] using hfin.dfr, Fr.moved hJ hj hfin.bel hfin.sub hfin.old hr'⟩
      | false =>
        refine wpIn_region ?_
        have := jseq_ok h0 hwf hJ (hs := hs) (all := ops.toList) (d0 := a.defers) (Q := fun e a' w' => ∃ p' st', K e p' st' ∧ a'.defers = a.defers ∧ Fr gl J p' st' a'.tmps w') (fun p s a' w' hk hd hf => ⟨p, s, hk, hd, hf⟩) [] ops.toList p st a w rfl h rfl hf
        simpa [List.range_eq_range'] using this
    | seq x y =>
      simp only [jcode] at h
      simp only [okCode, Bool.and_eq_true] at hok
      simp only [hasRange, Bool.or_eq_false_iff] at hrg
      refine wpIn_seq (wpIn_mono (ih x p st _ hok.1 hrg.1 h a w hf) fun e a' w' hp => ?_)
      obtain ⟨p', s, hq, hd, hf'⟩ := hp
      split at hq
      · rename_i he
        obtain rfl := exNorm_t he
        refine wpIn_mono (ih y p' s K hok.2 hrg.2 hq a' w' hf') fun e a2 w2 hp2 => ?_
        obtain ⟨p2, s2, hq2, hd2, hf2⟩ := hp2
        exact ⟨p2, s2, hq2, hd2.trans hd, hf2⟩
      · rename_i he
        have := exNorm_f he
        cases e with
        | normal => exact absurd rfl this
        | _ => exact ⟨p', s, hq, hd, hf'⟩
    | cond c x y =>
      simp only [jcode] at h
      simp only [okCode, Bool.and_eq_true] at hok
      simp only [hasRange, Bool.or_eq_false_iff] at hrg
      obtain ⟨O, Hc, m, H, hr, hle, hj⟩ := hf.ex
      split at h
      · rename_i t ht
        have hv := hr.ev c
        rw [ht] at hv
        cases t with
        | true => exact wpIn_cond hv.bool_inv (ih x p st K hok.1 hrg.1 h a w hf)
        | false => exact wpIn_cond hv.bool_inv (ih y p st K hok.2 hrg.2 h a w hf)
      · cases h
    | block id c =>
      simp only [jcode] at h
      simp only [okCode] at hok
      simp only [hasRange] at hrg
      refine wpIn_block (wpIn_mono (ih c p st _ hok hrg h a w hf) fun e a' w' hp => ?_)
      obtain ⟨p', s, hq, hd, hf'⟩ := hp
      split at hq
      · rename_i he
        obtain rfl := exIs_t he
        simp only [Exit.inBlock, if_true]
        exact ⟨p', s, hq, hd, hf'⟩
      · rename_i he
        cases e with
        | exit i =>
          simp only [Exit.inBlock, if_neg (exIs_f he)]
          exact ⟨p', s, hq, hd, hf'⟩
        | _ => exact ⟨p', s, hq, hd, hf'⟩
    | loop c =>
      simp only [jcode] at h
      split at h
      · rename_i h2 _
        obtain ⟨ks, kb, kx, x, y⟩ := h2
        simp only at h
        obtain ⟨s1, hc1, h⟩ := ghosts_ok (gl := gl) h
        obtain ⟨O, Hc, m, H, hr, hle, hj⟩ := hf.ex
        obtain ⟨m1, H1, hr1⟩ := hc1.2 _ _ _ _ _ _ _ hr
        obtain ⟨vs, bs, m2, ⟨q, hL, hK1, hK2⟩, hr2⟩ := wweak_ok hr1 rfl h
        rw [hc1.1] at hr2
        have hf2 := Fr.moved hJ hj (BelowS.refl _ w) (fun _ h => h) (fun _ _ _ => rfl) hr2
        refine (wpL.mono (hL.ok J hJ a w hf2) fun e a' w' ⟨p', s', hq, d, f⟩ => ⟨p', s', ?_, d, f⟩).loop
        rcases hq with ⟨rfl, rfl, rfl⟩ | ⟨rfl, rfl, rfl⟩
        · exact hK1
        · exact hK2
      · exact h.elim
    | _ => exact h.elim
structure NxtJ (P : Program) (gl : Nat → AV) (l : Nat) (xs : List (List AV)) (n : Nat) (c : Code) (ks : List Nat) (kx : List Nat) (x y : Exit × List AV) (m : Nat) (vs : List AV) (bs : List Box) (p : Option Nat) : Prop where
  ok : ∃ vs' bs', LeVs vs vs' ∧ LeBs bs bs' ∧ JL P gl l xs n c ks vs' bs' p kx x y m
def jround (P : Program) (gl : Nat → AV) (ch0 : CallH) (wf : WF) (hs : Hints) (js : List (Nat × JH)) (l : Nat) (xs : List (List AV)) (k n : Nat) (c : Code) (ks : List Nat) (kb : List KB) (vs : List AV) (bs : List Box) (p : Option Nat) (kx : List Nat) (x y : Exit × List AV) (m : Nat) (N : List AV → List Box → Option Nat → Prop) : Prop :=
  jcode P gl ch0 wf hs js l xs k c p (headSt n ks vs bs) (fun e p s => match Nat.beq s.n n with
    | true => match exNorm e with
      | true => ghosts kb s (fun s => wweak [] ks kb s (fun vs bs => N vs bs p))
      | false => wweak [] kx [] s (fun vs bs => JO x y m e p vs bs)
    | false => False)
theorem JL.step (h0 : ch0.Ok P gl) (hwf : WF.Ok P gl wf) (hmix : P.follows .mixedOrders = true) {k n : Nat} {c : Code} (hok : okCode c = true) (hrg : hasRange c = false) {ks : List Nat} {kb : List KB} {vs : List AV} {bs : List Box} {p : Option Nat} {kx : List Nat} {x y : Exit × List AV} {m : Nat} (hx : exNorm x.1 = false) (hy : exNorm y.1 = false)
    (hw : jround P gl ch0 wf hs js l xs k n c ks kb vs bs p kx x y m (NxtJ P gl l xs n c ks kx x y m)) : JL P gl l xs n c ks vs bs p kx x y m := by
  refine ⟨fun J hJ a w hf => wpL.round ?_⟩
  refine wpIn_mono (jcode_ok h0 hwf hmix hJ k c p _ _ hok hrg hw a w hf) fun e a2 w2 hp => ?_
  obtain ⟨p2, s, hq, hd2, hf2⟩ := hp
  split at hq
  · rename_i hn
    have hn := Nat.eq_of_beq_eq_true hn
    obtain ⟨O, Hc, m1, H, hr, hle, hj⟩ := hf2.ex
    split at hq
    · rename_i he
      obtain rfl := exNorm_t he
      obtain ⟨s2, hc, hq⟩ := ghosts_ok (gl := gl) hq
      obtain ⟨m3, H3, hr3⟩ := hc.2 _ _ _ _ _ _ _ hr
      obtain ⟨vs', bs', m4, hL, hr4⟩ := wweak_ok hr3 rfl hq
      rw [hc.1, hn] at hr4
      obtain ⟨vs2, bs2, lv, lb, hL⟩ := hL.ok
      obtain ⟨m5, H5, hr5⟩ := (head_le (gl := gl) (n := n) (ks := ks) lv lb).2 _ _ _ _ _ _ _ hr4
      have hf4 := Fr.moved hJ hj (BelowS.refl _ w2) (fun _ h => h) (fun _ _ _ => rfl) hr5
      exact wpL.mono (hL.ok J hJ a2 w2 hf4) fun e a3 w3 ⟨p', s', q, d, f⟩ => ⟨p', s', q, d.trans hd2, f⟩
    · rename_i he
      have := exNorm_f he
      obtain ⟨vs', bs', m4, ⟨rfl, hL⟩, hr4⟩ := wweak_ok hr rfl hq
      rw [hn] at hr4
      have hf4 := Fr.moved hJ hj (BelowS.refl _ w2) (fun _ h => h) (fun _ _ _ => rfl) hr4
      have hfin : ∃ p' st', JQL n kx x y m e p' st' ∧ a2.defers = a.defers ∧ Fr gl J p' st' a2.tmps w2 := by
        refine ⟨p2, _, ?_, hd2, hf4⟩
        rcases hL with ⟨h1, h2, h3⟩ | ⟨h1, h2, h3⟩
        · exact .inl ⟨h1, h2, by rw [h3]⟩
        · exact .inr ⟨h1, h2, by rw [h3]⟩
      cases e with
      | normal => exact absurd rfl this
      | _ => exact hfin
  · cases hq
def jres : AV → Bool
  | .bool _ => true
  | .tup [] => true
  | .undef => true
  | _ => false
theorem jres_ok {H : HV} {E : Env} {r : AV} {v : Value} (h : RV H E r v) (hr : jres r = true) (H' : HV) : RelI H' r v := by
  unfold jres at hr
  split at hr
  · rw [h.bool_inv]; exact .bool _
  · obtain ⟨vs, rfl, hl, _⟩ := h.tup_inv
    exact .tup [] vs hl (fun j c u hj => by simp at hj)
  · exact .undef _
  · cases hr
def jfun (P : Program) (gl : Nat → AV) (ch0 : CallH) (wf : WF) (gd : Nat → Bool) (fl f : Nat) (hs : Hints) (js : List (Nat × JH)) (l : Nat) (xs : List (List AV)) (args : List AV) (p : Option Nat) (b : Bool) (m : Nat) : Prop :=
  match gd f with
  | true => match P.funcs[f]? with
    | some fn => match fn.body with
      | some c => match Nat.ble args.length fn.ntmps && !hasRange c with
        | true => jcode P gl ch0 wf hs js l xs fl c p ⟨fn.ntmps, argSl 0 args, .nil, 0⟩ (fun e p s => match endsFn e with
          | true => match resOf P s fn.results.toList with
            | some r => match jres r with
              | true => JQ b m r p
              | false => False
            | none => False
          | false => False)
        | false => False
      | none => False
    | none => False
  | false => False
theorem JF.of {gd : Nat → Bool} (h0 : ch0.Ok P gl) (hwf : WF.Ok P gl wf) (hp : ProgOk P gd) {fl f : Nat} {args : List AV} {p : Option Nat} {b : Bool} {m : Nat} (hw : jfun P gl ch0 wf gd fl f hs js l xs args p b m) : JF P gl l xs f args p b m := by
  refine ⟨fun J hJ Hc w vs hj hl hargs => ?_⟩
  unfold jfun at hw
  split at hw
  · rename_i hg
    have hok := hp.fn f hg
    unfold okFn at hok
    split at hw
    · rename_i fn hf
      rw [hf] at hok
      simp only [Bool.and_eq_true, bne_iff_ne] at hok
      obtain ⟨hname, hok⟩ := hok
      split at hw
      · rename_i c hbd
        rw [hbd] at hok
        simp only at hok
        split at hw
        · rename_i hle
          rw [Bool.and_eq_true, Bool.not_eq_true'] at hle
          have hrg := hle.2
          have hle := Nat.le_of_ble_eq_true hle.1
          refine .inl ⟨enters_of hf (by simpa using hname) (by rw [hbd]; rfl), ?_⟩
          have hsat := hJ.sat _ _ _ _ hj
          have hh : RelH (fun _ => ⟨0, 0, 0⟩) Hc (BO (fun _ => False) w) Hc gl (lkb .nil) 0 w :=
            { sat := hsat, old := fun _ _ _ => rfl, low := fun _ hk => hk.1, fresh := fun _ _ => lkb_nil _, box := (fun _ _ hh => by rw [lkb_nil] at hh; cases hh), sepR := (fun _ _ hh => by rw [lkb_nil] at hh; cases hh), injR := (fun _ _ _ _ hh => by rw [lkb_nil] at hh; cases hh), gl := hJ.gls _ _ _ _ hj, ty := (fun _ _ _ hh => by rw [lkb_nil] at hh; cases hh), gv := hJ.gv _ _ _ _ hj }
          have hr0 : RelS (fun _ => ⟨0, 0, 0⟩) Hc (BO (fun _ => False) w) Hc gl [] ⟨fn.ntmps, argSl 0 args, .nil, 0⟩ (Act.mk (vs ++ Array.replicate (fn.ntmps - vs.size) Go.undef) []).tmps w := by
            refine ⟨hh, by simp; omega, fun k => ?_, fun p hp => by simp at hp⟩
            show RV Hc _ (lk .undef (argSl 0 args) k) _
            rw [lk_argSl, if_pos (Nat.zero_le _), Nat.sub_zero]
            cases hx : args[k]? with
            | none => exact .imm _ _ (.undef _)
            | some x =>
              have hk : k < vs.size := by rw [← hl]; exact (List.getElem?_eq_some_iff.1 hx).1
              have hv : (vs ++ Array.replicate (fn.ntmps - vs.size) Go.undef).getD k Go.undef = vs[k] := by
                rw [Array.getD_eq_getD_getElem?, Array.getElem?_append_left hk, Array.getElem?_eq_getElem hk]; rfl
              rw [hv]
              exact .imm _ _ (hargs k x _ hx (Array.getElem?_eq_getElem hk))
          refine CallsIn.calls (F := FW none) (n := 0) (callsIn_of_wp hf hbd trivial (wpIn_mono (jcode_ok h0 hwf hp.mix hJ fl c p _ _ hok hrg hw _ w ⟨_, _, _, _, hr0, .refl _, hj⟩) fun e a' w' hq => ?_)) (fun k d hd => by simp [FW] at hd)
          obtain ⟨p', s, hK, hd, hf'⟩ := hq
          obtain ⟨O, Hc', m', H', hr', hle', hj'⟩ := hf'.ex
          split at hK
          · rename_i hex
            split at hK
            · rename_i r hres
              split at hK
              · rename_i hjr
                obtain ⟨v, hv, hrv⟩ := res_all hr' hres
                have hfin : ∃ v0 r p' O' Hc', Ending.returned v = .returned v0 ∧ JQ b m r p' ∧ (∀ H, RelI H r v0) ∧ J p' O' Hc' w' := ⟨v, r, p', O, Hc', rfl, hK, jres_ok hrv hjr, hj'⟩
                cases e with
                | normal => exact ⟨hd, v, hv, hfin⟩
                | ret => exact ⟨hd, v, hv, hfin⟩
                | _ => cases hex
              · cases hK
            · cases hK
          · cases hK
        · cases hw
      · cases hw
    · cases hw
  · cases hw
theorem cons_rel {H : HV} {y : Value} {caps : List AV} {us : Array Value} (hr : ∀ (j : Nat) (c : AV) (v : Value), caps[j]? = some c → us[j]? = some v → RelI H c v) (j : Nat) (c : AV) (v : Value) (hc : (AV.val y :: caps)[j]? = some c) (hv : (#[y] ++ us)[j]? = some v) : RelI H c v := by
  cases j with
  | zero =>
    simp only [List.getElem?_cons_zero, Option.some.injEq] at hc
    subst hc
    have : y = v := by rw [Array.getElem?_append_left (by simp)] at hv; simpa using hv
    subst this
    exact .val _
  | succ j =>
    rw [List.getElem?_cons_succ] at hc
    refine hr j c v hc ?_
    rw [Array.getElem?_append_right (by simp)] at hv
    simpa using hv
theorem JQ_end {b : Bool} {m : Nat} {r : AV} {p : Option Nat} (h : JQ b m r p) : p = some m ∨ p = none := by
  cases b with
  | true => exact h.elim (fun h => .inl h.2) fun h => .inr h.2
  | false => exact h.2
theorem ItOk.of {f : Nat} {caps : List AV} (hent : Enters P f) (b : Bool) (h : ∀ l, JF P gl l xs f (.val (.func (.yield l) #[] #[]) :: caps) (some 0) b xs.length) : ItOk P gl f caps xs := ⟨fun l J hJ Hc w us hj hl hr => by
  have hF := h l
  have hlen : (AV.val (.func (.yield l) #[] #[]) :: caps).length = (#[Value.func (.yield l) #[] #[]] ++ us).size := by simp [hl]; omega
  have h1 := hF.ok J hJ Hc w (#[Value.func (.yield l) #[] #[]] ++ us) hj hlen (cons_rel hr)
  exact (h1.calls hent).mono fun e w' ⟨v, r, p', O', Hc', e1, e2, e3, e4⟩ => ⟨v, p', O', Hc', e1, JQ_end e2, e4⟩⟩
end
end HY
end
section
namespace Go.Proofs.YtfpegbpngbchfaaGreatDoor
open Go HY
set_option maxRecDepth 1000000
set_option linter.unusedVariables false
noncomputable def WJ (f : Nat) (hs : Hints) (js : List (Nat × JH)) (l : Nat) (xs : List (List AV)) (args : List AV) (p : Option Nat) (b : Bool) (m : Nat) : Prop := jfun Tryz.prog gls ch0 wf0 gds 2000 f hs js l xs args p b m
theorem JF1 {φ : Prop} {f : Nat} {hs : Hints} {js : List (Nat × JH)} {l : Nat} {xs : List (List AV)} {args : List AV} {p : Option Nat} {b : Bool} {m : Nat} (e : φ = WJ f hs js l xs args p b m) (h : φ) : JF Tryz.prog gls l xs f args p b m := JF.of (hs := hs) (js := js) ch0_ok wf0_ok progOk (show WJ f hs js l xs args p b m from e ▸ h)
abbrev JLo (f r n : Nat) (l : Nat) (xs : List (List AV)) (ks : List Nat) (vs : List AV) (bs : List Box) (p : Option Nat) (kx : List Nat) (x y : Exit × List AV) (m : Nat) : Prop := JL Tryz.prog gls l xs n (lcode Tryz.prog f (r + 1)) ks vs bs p kx x y m
noncomputable def WJR (f r n : Nat) (hs : Hints) (js : List (Nat × JH)) (l : Nat) (xs : List (List AV)) (ks : List Nat) (kb : List KB) (vs : List AV) (bs : List Box) (p : Option Nat) (kx : List Nat) (x y : Exit × List AV) (m : Nat) : Prop :=
  jround Tryz.prog gls ch0 wf0 hs js l xs 2000 n (lcode Tryz.prog f (r + 1)) ks kb vs bs p kx x y m (NxtJ Tryz.prog gls l xs n (lcode Tryz.prog f (r + 1)) ks kx x y m)
theorem JL1 {φ : Prop} {f r n : Nat} {hs : Hints} {js : List (Nat × JH)} {l : Nat} {xs : List (List AV)} {ks : List Nat} {kb : List KB} {vs : List AV} {bs : List Box} {p : Option Nat} {kx : List Nat} {x y : Exit × List AV} {m : Nat} (hok : (okCode (lcode Tryz.prog f (r + 1)) && !hasRange (lcode Tryz.prog f (r + 1)) && !exNorm x.1 && !exNorm y.1) = true) (e : φ = WJR f r n hs js l xs ks kb vs bs p kx x y m) (h : φ) : JLo f r n l xs ks vs bs p kx x y m := by
  simp only [Bool.and_eq_true, Bool.not_eq_true'] at hok
  exact JL.step (hs := hs) (js := js) ch0_ok wf0_ok mixed hok.1.1.1 hok.1.1.2 hok.1.2 hok.2 (show WJR f r n hs js l xs ks kb vs bs p kx x y m from e ▸ h)
abbrev RG (f r n : Nat) (ks : List Nat) (vs : List AV) (alts : List Alt) (xs : List (List AV)) (bs : List Box) : Prop := RngOk Tryz.prog gls [] n (rng Tryz.prog f (r + 1)).1 (rng Tryz.prog f (r + 1)).2.1 (rng Tryz.prog f (r + 1)).2.2 ks vs alts xs bs
noncomputable def WG (f r n : Nat) (hs : Hints) (ks : List Nat) (kb kbx : List KB) (vs : List AV) (alts : List Alt) (x : List AV) (xs : List (List AV)) (bs : List Box) : Prop :=
  wrng Tryz.prog gls ch0 wf0 hs [] 2000 n (rng Tryz.prog f (r + 1)).1 (rng Tryz.prog f (r + 1)).2.1 (rng Tryz.prog f (r + 1)).2.2 ks kb kbx vs alts x bs (NxtR Tryz.prog gls [] n (rng Tryz.prog f (r + 1)).1 (rng Tryz.prog f (r + 1)).2.1 (rng Tryz.prog f (r + 1)).2.2 ks vs alts xs)
theorem Rg1 {φ : Prop} {f r n : Nat} {hs : Hints} {ks : List Nat} {kb kbx : List KB} {vs : List AV} {alts : List Alt} {x : List AV} {xs : List (List AV)} {bs : List Box} (hok : (okCode (rng Tryz.prog f (r + 1)).2.1 && okCode (rng Tryz.prog f (r + 1)).2.2) = true) (e : φ = WG f r n hs ks kb kbx vs alts x xs bs) (h : φ) : RG f r n ks vs alts (x :: xs) bs := by
  rw [Bool.and_eq_true] at hok
  exact RngOk.step (hs := hs) ch0_ok wf0_ok mixed hok.1 hok.2 (show WG f r n hs ks kb kbx vs alts x xs bs from e ▸ h)
theorem Rg0 {f r n : Nat} {ks : List Nat} {vs : List AV} {alts : List Alt} {bs : List Box} (h : slotsOk ks vs = true) (ho : Out alts .normal vs bs) : RG f r n ks vs alts [] bs := ⟨h, ho⟩
end Go.Proofs.YtfpegbpngbchfaaGreatDoor
end
section
namespace HY
open Go
def wp {α : Type} (x : Option α) (Q : α → Prop) : Prop := ∃ a, x = some a ∧ Q a
section
variable {α β : Type} {Q : β → Prop}
theorem wp_some {x : β} : wp (some x) Q ↔ Q x := ⟨fun ⟨_, e, h⟩ => by cases e; exact h, fun h => ⟨x, rfl, h⟩⟩
theorem wp_none : wp (none : Option β) Q ↔ False := ⟨fun ⟨_, e, _⟩ => (by cases e), False.elim⟩
theorem wp_bind {x : Option α} {f : α → Option β} : wp (x >>= f) Q ↔ wp x (fun a => wp (f a) Q) := by
  cases x with
  | none => exact ⟨fun ⟨_, e, _⟩ => (by cases e), fun ⟨_, e, _⟩ => (by cases e)⟩
  | some x => exact ⟨fun h => ⟨x, rfl, h⟩, fun ⟨_, e, h⟩ => by cases e; exact h⟩
theorem wp_ite {c : Prop} [Decidable c] {x y : Option β} : wp (if c then x else y) Q ↔ (c → wp x Q) ∧ (¬ c → wp y Q) := by
  by_cases h : c
  · rw [if_pos h]; exact ⟨fun k => ⟨fun _ => k, fun n => absurd h n⟩, fun k => k.1 h⟩
  · rw [if_neg h]; exact ⟨fun k => ⟨fun n => absurd n h, fun _ => k⟩, fun k => k.2 h⟩
theorem wp_map {x : Option α} {f : α → β} : wp (Option.map f x) Q ↔ wp x (fun a => Q (f a)) := by
  cases x with
  | none => exact ⟨fun ⟨_, e, _⟩ => (by cases e), fun ⟨_, e, _⟩ => (by cases e)⟩
  | some x => exact ⟨fun ⟨_, e, h⟩ => by cases e; exact ⟨x, rfl, h⟩, fun ⟨_, e, h⟩ => by cases e; exact ⟨_, rfl, h⟩⟩
theorem wpMono {x : Option β} {Q' : β → Prop} (h : wp x Q') (k : ∀ a, Q' a → Q a) : wp x Q := let ⟨a, e, q⟩ := h; ⟨a, e, k a q⟩
theorem wp_ix {l : List β} {k : Int} : wp (ix l k) Q ↔ ∃ (h0 : 0 ≤ k) (h : k.toNat < l.length), Q (l[k.toNat]) := by
  unfold ix
  constructor
  · rintro ⟨a, e, h⟩
    split at e
    · rename_i h0
      obtain ⟨h1, h2⟩ := List.getElem?_eq_some_iff.1 e
      exact ⟨h0, h1, by rw [h2]; exact h⟩
    · cases e
  · rintro ⟨h0, h1, h⟩
    exact ⟨_, by rw [if_pos h0, List.getElem?_eq_getElem h1], h⟩
theorem wp_get {l : List β} {k : Nat} : wp (l[k]?) Q ↔ ∃ (h : k < l.length), Q (l[k]) := by
  constructor
  · rintro ⟨a, e, h⟩
    obtain ⟨h1, h2⟩ := List.getElem?_eq_some_iff.1 e
    exact ⟨h1, by rw [h2]; exact h⟩
  · rintro ⟨h1, h⟩
    exact ⟨_, List.getElem?_eq_getElem h1, h⟩
theorem ix_all {l : List β} {R : β → Prop} {k : Int} (hl : ∀ x ∈ l, R x) (h0 : 0 ≤ k) (h1 : k < l.length) (h : ∀ x, x ∈ l → R x → Q x) : wp (ix l k) Q :=
  wp_ix.2 ⟨h0, by omega, h _ (List.getElem_mem _) (hl _ (List.getElem_mem _))⟩
theorem ix_mem {l : List β} {k : Int} (h0 : 0 ≤ k) (h1 : k < l.length) (h : ∀ x, x ∈ l → Q x) : wp (ix l k) Q :=
  wp_ix.2 ⟨h0, by omega, h _ (List.getElem_mem _)⟩
theorem wp_eq {x : Option β} {y : β} (h : wp x (fun a => a = y)) : x = some y := let ⟨_, e, q⟩ := h; by rw [e, q]
theorem wp_of {x : Option β} {y : β} (h : x = some y) (q : Q y) : wp x Q := ⟨y, h, q⟩
theorem wp_some_of {x : Option β} (h : wp x Q) : ∃ a, x = some a := let ⟨a, e, _⟩ := h; ⟨a, e⟩
theorem loopUp {F : α → Int → Option β} (n : Nat) (I : Int → α → Prop) (last : ∀ a, I n a → wp (F a n) Q) (step : ∀ (i : Int) a, 0 ≤ i → i < n → I i a → (∀ a', I (i + 1) a' → wp (F a' (i + 1)) Q) → wp (F a i) Q) :
    ∀ (i : Int) a, 0 ≤ i → i ≤ n → I i a → wp (F a i) Q := by
  have key : ∀ (d : Nat) (i : Int) a, 0 ≤ i → i + d = n → I i a → wp (F a i) Q := by
    intro d
    induction d with
    | zero => intro i a _ e hI; have : i = n := by omega
              subst this; exact last a hI
    | succ d ih => intro i a h0 e hI; exact step i a h0 (by omega) hI (fun a' hI' => ih (i + 1) a' (by omega) (by omega) hI')
  intro i a h0 h1 hI
  exact key (n - i.toNat) i a h0 (by omega) hI
theorem loopUp2 {γ : Type} {F : α → γ → Int → Option β} (n : Nat) (last : ∀ a b, wp (F a b n) Q) (step : ∀ (i : Int) a b, 0 ≤ i → i < n → (∀ a' b', wp (F a' b' (i + 1)) Q) → wp (F a b i) Q) (i : Int) (a : α) (b : γ) (h0 : 0 ≤ i) (h1 : i ≤ n) : wp (F a b i) Q :=
  loopUp (F := fun (p : α × γ) i => F p.1 p.2 i) n (fun _ _ => True) (fun a _ => last a.1 a.2) (fun i a h0 h1 _ h => step i a.1 a.2 h0 h1 (fun a' b' => h (a', b') trivial)) i (a, b) h0 h1 trivial
theorem loopUp1 {F : α → Int → Option β} (n : Nat) (last : ∀ a, wp (F a n) Q) (step : ∀ (i : Int) a, 0 ≤ i → i < n → (∀ a', wp (F a' (i + 1)) Q) → wp (F a i) Q) (i : Int) (a : α) (h0 : 0 ≤ i) (h1 : i ≤ n) : wp (F a i) Q :=
  loopUp n (fun _ _ => True) (fun a _ => last a) (fun i a h0 h1 _ h => step i a h0 h1 (fun a' => h a' trivial)) i a h0 h1 trivial
theorem loopUp0 {F : Int → Option β} (n : Nat) (last : wp (F n) Q) (step : ∀ (i : Int), 0 ≤ i → i < n → wp (F (i + 1)) Q → wp (F i) Q) :
    ∀ (i : Int), 0 ≤ i → i ≤ n → wp (F i) Q := fun i h0 h1 => by
  refine loopUp (F := fun (_ : Unit) i => F i) n (fun _ _ => True) (fun _ _ => last) (fun i a h0 h1 _ h => step i h0 h1 (h () trivial)) i () h0 h1 trivial
theorem loopEq {γ : Type} {F : Int → Option β} {l : List γ} (S : List γ → β) (last : F l.length = some (S [])) (step : ∀ (i : Int) (x : γ) (t : List γ), 0 ≤ i → i < l.length → ix l i = some x → F (i + 1) = some (S t) → F i = some (S (x :: t))) : F 0 = some (S l) := by
  have key : ∀ (t p : List γ), l = p ++ t → F p.length = some (S t) := by
    intro t
    induction t with
    | nil => intro p e; have : p.length = l.length := by rw [e]; simp
             rw [this]; exact last
    | cons x t ih =>
      intro p e
      refine step p.length x t (by omega) (by rw [e]; simp; omega) ?_ ?_
      · unfold ix; rw [if_pos (by omega), Int.toNat_natCast, e, List.getElem?_append_right (Nat.le_refl _)]; simp
      · have := ih (p ++ [x]) (by rw [e]; simp)
        rw [← this]; simp
  exact key l [] rfl
theorem loopEqA {γ : Type} {F : α → Int → Option β} {l : List γ} (S : α → List γ → β) (last : ∀ a, F a l.length = some (S a [])) (step : ∀ (i : Int) (x : γ) (t : List γ) a, 0 ≤ i → i < l.length → ix l i = some x → (∀ a, F a (i + 1) = some (S a t)) → F a i = some (S a (x :: t))) (a : α) : F a 0 = some (S a l) := by
  have key : ∀ (t p : List γ), l = p ++ t → ∀ a, F a p.length = some (S a t) := by
    intro t
    induction t with
    | nil => intro p e a; have : p.length = l.length := by rw [e]; simp
             rw [this]; exact last a
    | cons x t ih =>
      intro p e a
      refine step p.length x t a (by omega) (by rw [e]; simp; omega) ?_ ?_
      · unfold ix; rw [if_pos (by omega), Int.toNat_natCast, e, List.getElem?_append_right (Nat.le_refl _)]; simp
      · intro a
        have := ih (p ++ [x]) (by rw [e]; simp) a
        rw [← this]; simp
  exact key l [] rfl a
theorem loopEqI {γ : Type} {F : α → Int → Option β} {l : List γ} (I : α → List γ → Prop) (S : α → List γ → β) (last : ∀ a, I a [] → F a l.length = some (S a [])) (step : ∀ (i : Int) (x : γ) (t : List γ) a, 0 ≤ i → i < l.length → x ∈ l → ix l i = some x → I a (x :: t) → (∀ a, I a t → F a (i + 1) = some (S a t)) → F a i = some (S a (x :: t))) (a : α) (hI : I a l) : F a 0 = some (S a l) := by
  have key : ∀ (t p : List γ), l = p ++ t → ∀ a, I a t → F a p.length = some (S a t) := by
    intro t
    induction t with
    | nil => intro p e a hI; have : p.length = l.length := by rw [e]; simp
             rw [this]; exact last a hI
    | cons x t ih =>
      intro p e a hI
      refine step p.length x t a (by omega) (by rw [e]; simp; omega) (by rw [e]; simp) ?_ hI ?_
      · unfold ix; rw [if_pos (by omega), Int.toNat_natCast, e, List.getElem?_append_right (Nat.le_refl _)]; simp
      · intro a hI
        have := ih (p ++ [x]) (by rw [e]; simp) a hI
        rw [← this]; simp
  exact key l [] rfl a hI
theorem loopSuf {γ : Type} {F : α → Int → Option β} {l : List γ} (I : α → List γ → Prop) (last : ∀ a, I a [] → wp (F a l.length) Q) (step : ∀ (i : Int) (x : γ) (t : List γ) a, 0 ≤ i → i < l.length → x ∈ l → ix l i = some x → (∃ p, l = p ++ x :: t ∧ (p.length : Int) = i) → I a (x :: t) → (∀ a, I a t → wp (F a (i + 1)) Q) → wp (F a i) Q) (a : α) (hI : I a l) : wp (F a 0) Q := by
  have key : ∀ (t p : List γ), l = p ++ t → ∀ a, I a t → wp (F a p.length) Q := by
    intro t
    induction t with
    | nil => intro p e a hI; have : p.length = l.length := by rw [e]; simp
             rw [this]; exact last a hI
    | cons x t ih =>
      intro p e a hI
      refine step p.length x t a (by omega) (by rw [e]; simp; omega) (by rw [e]; simp) ?_ ⟨p, e, rfl⟩ hI ?_
      · unfold ix; rw [if_pos (by omega), Int.toNat_natCast, e, List.getElem?_append_right (Nat.le_refl _)]; simp
      · intro a hI
        have := ih (p ++ [x]) (by rw [e]; simp) a hI
        rw [show ((p ++ [x]).length : Int) = (p.length : Int) + 1 by simp] at this
        exact this
  exact key l [] rfl a hI
end
theorem wrapId {n : Int} (h : -9223372036854775808 ≤ n ∧ n ≤ 9223372036854775807) : IntKind.i64.wrap n = n := by rw [IntKind.wrap_i64]; omega
theorem wrapS {n : Int} {k : Nat} (h0 : 0 ≤ n) (h1 : n < k) (hk : k ≤ 1099511627776) : IntKind.i64.wrap (n + 1) = n + 1 := wrapId (by omega)
theorem wrapR (n : Int) : -9223372036854775808 ≤ IntKind.i64.wrap n ∧ IntKind.i64.wrap n ≤ 9223372036854775807 := by rw [IntKind.wrap_i64]; omega
theorem zz : (∀ {α β : Type} {Q : β → Prop} {x : Option α} {f : α → Option β}, wp (x >>= f) Q ↔ wp x (fun a => wp (f a) Q)) ∧ (∀ {β : Type} {Q : β → Prop} {x : β}, wp (some x) Q ↔ Q x) ∧
    (∀ {β : Type} {Q : β → Prop} {c : Prop} [Decidable c] {x y : Option β}, wp (if c then x else y) Q ↔ (c → wp x Q) ∧ (¬ c → wp y Q)) ∧ (∀ {α β : Type} {Q : β → Prop} {x : Option α} {f : α → β}, wp (Option.map f x) Q ↔ wp x (fun a => Q (f a))) ∧
    (∀ {β : Type} {Q : β → Prop}, wp (none : Option β) Q ↔ False) ∧ (∀ (a : Int), ¬ a < a) ∧ (∀ (a : Int), a ≤ a) ∧ ((false = true) = False) ∧ (∀ (α : Prop), (α → True) = True) ∧ (∀ (p : Prop), (False → p) = True) ∧ (∀ (p : Prop), (True → p) = p) ∧
    ((¬ True) = False) ∧ ((¬ False) = True) ∧ (∀ (p : Prop), (p ∧ True) = p) ∧ (∀ (p : Prop), (True ∧ p) = p) ∧ (∀ (p : Prop), (p ∧ p) = p) ∧ (∀ (a : Prop), (a → a) ↔ True) ∧ (∀ {α : Type} [BEq α] [LawfulBEq α] {a b : α}, (a == b) = true ↔ a = b) ∧
    (∀ {α : Type} [BEq α] [LawfulBEq α] {a b : α}, (a != b) = true ↔ a ≠ b) ∧ (∀ {α : Type} (a b : α), (a ≠ b) = ¬ (a = b)) ∧ (∀ {p : Prop} [Decidable p], (decide p = true) = p) ∧ (∀ {α β : Type} {azz : List α} (f : α → β), (azz.map f).length = azz.length) ∧ (∀ {α : Type} (a b : α), (if True then a else b) = a) ∧ (∀ {α : Type} (a b : α), (if False then a else b) = b) :=
  ⟨wp_bind, wp_some, wp_ite, wp_map, wp_none, Int.lt_irrefl, Int.le_refl, by simp, by simp, by simp, by simp, by simp, by simp, by simp, by simp, by simp, by simp, beq_iff_eq, bne_iff_ne, fun _ _ => rfl, by simp, fun _ => List.length_map .., fun _ _ => if_pos trivial, fun _ _ => if_neg id⟩
theorem zl : (∀ {α : Type} {azz bs : List α}, (azz ++ bs).length = azz.length + bs.length) ∧ (∀ {α : Type} {i : Nat} {l : List α}, (l.drop i).length = l.length - i) ∧ (∀ {α : Type} {i : Nat} {l : List α}, (l.take i).length = min i l.length) ∧ (∀ {α : Type}, ([] : List α).length = 0) ∧ (∀ {α : Type} {a : α}, [a].length = 1) ∧ (∀ {α β : Type} {azz : List α} (f : α → β), (azz.map f).length = azz.length) :=
  ⟨List.length_append, List.length_drop, List.length_take, List.length_nil, List.length_singleton, fun _ => List.length_map ..⟩
end HY
end
section
namespace HY
open Go
def wSum {α : Type} (f : α → Nat) (l : List α) : Nat := (l.map f).sum
section
variable {α : Type} {f : α → Nat}
theorem wSum_nil : wSum f [] = 0 := rfl
theorem wSum_cons {a : α} {l : List α} : wSum f (a :: l) = f a + wSum f l := by simp [wSum]
theorem wSum_app {l m : List α} : wSum f (l ++ m) = wSum f l + wSum f m := by simp [wSum]
theorem wSum_mem {a : α} {l : List α} (h : a ∈ l) : f a ≤ wSum f l := by
  induction l with
  | nil => cases h
  | cons b l ih =>
    rw [wSum_cons]
    rcases List.mem_cons.1 h with rfl | h
    · omega
    · have := ih h; omega
theorem wSum_len {l : List α} (h1 : ∀ a, 1 ≤ f a) : l.length ≤ wSum f l := by
  induction l with
  | nil => simp
  | cons b l ih => rw [wSum_cons, List.length_cons]; have := h1 b; omega
theorem wSum_get {l : List α} {k : Nat} (h : k < l.length) : f l[k] ≤ wSum f l := wSum_mem (List.getElem_mem h)
theorem wSum_sub {l m : List α} (h : List.Sublist l m) : wSum f l ≤ wSum f m := by
  induction h with
  | slnil => exact Nat.le_refl _
  | cons a _ ih => rw [wSum_cons]; omega
  | cons_cons a _ ih => rw [wSum_cons, wSum_cons]; omega
end
def wMono (m : gMono) : Nat := 1 + m.fName.length
def wLin (l : gLin) : Nat := 1 + wSum wMono l.fL
def wIdx (x : gIndex) : Nat := 1 + wLin x.fLin + x.fFrom.length + wSum wLin x.fAt
def wExpr : gExpr → Nat
  | .mk x => 1 + x.fName.length + wLin x.fLin + wSum wIdx x.fIdx + (x.fArgs.attach.map fun a => wExpr a.1).sum
 termination_by e => sizeOf e
 decreasing_by exact gExpr.lt a.2
def wExprS (x : gExprS) : Nat := 1 + x.fName.length + wLin x.fLin + wSum wIdx x.fIdx + wSum wExpr x.fArgs
theorem wExpr_f (e : gExpr) : wExpr e = wExprS e.f := by
  cases e with
  | mk x => rw [wExpr]; simp [wExprS, gExpr.f, wSum]
def wStmt : gStmt → Nat
  | .mk x => 1 + x.fName.length + wSum wIdx x.fIdx + wExprS x.fExpr + (x.fBody.attach.map fun a => wStmt a.1).sum
 termination_by e => sizeOf e
 decreasing_by exact gStmt.lt a.2
def wStmtS (x : gStmtS) : Nat := 1 + x.fName.length + wSum wIdx x.fIdx + wExprS x.fExpr + wSum wStmt x.fBody
theorem wStmt_f (e : gStmt) : wStmt e = wStmtS e.f := by
  cases e with
  | mk x => rw [wStmt]; simp [wStmtS, gStmt.f, wSum]
def wBuf (b : gBuffer) : Nat := 1 + b.fName.length + b.fDims.length
def wNest (n : gNest) : Nat := 1 + wSum wBuf n.fBufs + wSum wStmt n.fBody
theorem wMono1 (m : gMono) : 1 ≤ wMono m := by unfold wMono; omega
theorem wLin1 (m : gLin) : 1 ≤ wLin m := by unfold wLin; omega
theorem wIdx1 (m : gIndex) : 1 ≤ wIdx m := by unfold wIdx; omega
theorem wExpr1 (e : gExpr) : 1 ≤ wExpr e := by rw [wExpr_f]; unfold wExprS; omega
theorem wStmt1 (e : gStmt) : 1 ≤ wStmt e := by rw [wStmt_f]; unfold wStmtS; omega
theorem wBuf1 (e : gBuffer) : 1 ≤ wBuf e := by unfold wBuf; omega
theorem gExpr.ind {P : gExpr → Prop} (h : ∀ x : gExprS, (∀ a ∈ x.fArgs, P a) → P (.mk x)) : ∀ e, P e
  | .mk x => h x (fun a ha => gExpr.ind h a)
 termination_by e => sizeOf e
 decreasing_by exact gExpr.lt ha
theorem gStmt.ind {P : gStmt → Prop} (h : ∀ x : gStmtS, (∀ a ∈ x.fBody, P a) → P (.mk x)) : ∀ e, P e
  | .mk x => h x (fun a ha => gStmt.ind h a)
 termination_by e => sizeOf e
 decreasing_by exact gStmt.lt ha
theorem wLin_L (l : gLin) : l.fL.length < wLin l := by have := wSum_len (f := wMono) (l := l.fL) wMono1; unfold wLin; omega
theorem wIdx_lin (x : gIndex) : wLin x.fLin < wIdx x := by unfold wIdx; omega
theorem wIdx_at (x : gIndex) : wSum wLin x.fAt < wIdx x := by unfold wIdx; omega
theorem wIdx_len (x : gIndex) : x.fAt.length < wIdx x := by have := wSum_len (f := wLin) (l := x.fAt) wLin1; unfold wIdx; omega
theorem wIdx_from (x : gIndex) : x.fFrom.length < wIdx x := by unfold wIdx; omega
theorem wE_name (x : gExprS) : x.fName.length < wExprS x := by unfold wExprS; omega
theorem wE_lin (x : gExprS) : wLin x.fLin < wExprS x := by unfold wExprS; omega
theorem wE_idx (x : gExprS) : wSum wIdx x.fIdx < wExprS x := by unfold wExprS; omega
theorem wE_idxN (x : gExprS) : x.fIdx.length < wExprS x := by have := wSum_len (f := wIdx) (l := x.fIdx) wIdx1; unfold wExprS; omega
theorem wE_args (x : gExprS) : wSum wExpr x.fArgs < wExprS x := by unfold wExprS; omega
theorem wE_argsN (x : gExprS) : x.fArgs.length < wExprS x := by have := wSum_len (f := wExpr) (l := x.fArgs) wExpr1; unfold wExprS; omega
theorem wE_arg {x : gExprS} {a : gExpr} (h : a ∈ x.fArgs) : wExprS a.f < wExprS x := by have := wSum_mem (f := wExpr) h; have := wE_args x; rw [wExpr_f] at *; omega
theorem wS_name (x : gStmtS) : x.fName.length < wStmtS x := by unfold wStmtS; omega
theorem wS_idx (x : gStmtS) : wSum wIdx x.fIdx < wStmtS x := by unfold wStmtS; omega
theorem wS_idxN (x : gStmtS) : x.fIdx.length < wStmtS x := by have := wSum_len (f := wIdx) (l := x.fIdx) wIdx1; unfold wStmtS; omega
theorem wS_expr (x : gStmtS) : wExprS x.fExpr < wStmtS x := by unfold wStmtS; omega
theorem wS_body (x : gStmtS) : wSum wStmt x.fBody < wStmtS x := by unfold wStmtS; omega
theorem wS_bodyN (x : gStmtS) : x.fBody.length < wStmtS x := by have := wSum_len (f := wStmt) (l := x.fBody) wStmt1; unfold wStmtS; omega
theorem wS_in {x : gStmtS} {a : gStmt} (h : a ∈ x.fBody) : wStmtS a.f < wStmtS x := by have := wSum_mem (f := wStmt) h; have := wS_body x; rw [wStmt_f] at *; omega
theorem LM {l : gLin} {m : gMono} (h : wLin l ≤ 1048576) (hm : m ∈ l.fL) : m.fName.length ≤ 1048576 := by
  have h1 := wSum_mem (f := wMono) hm
  have h2 : wLin l = 1 + wSum wMono l.fL := rfl
  have h3 : wMono m = 1 + m.fName.length := rfl
  omega
theorem E_facts {x : gExprS} (h : wExprS x ≤ 1048576) : x.fName.length ≤ 1048576 ∧ wLin x.fLin ≤ 1048576 ∧ x.fLin.fL.length ≤ 1048576 ∧ x.fIdx.length ≤ 1048576 ∧ (∀ i ∈ x.fIdx, wIdx i ≤ 1048576) ∧ x.fArgs.length ≤ 1048576 ∧ (∀ a ∈ x.fArgs, wExprS a.f ≤ 1048576) := by
  have := wE_name x; have := wE_lin x; have := wLin_L x.fLin; have := wE_idxN x; have := wE_argsN x; have := wE_idx x
  exact ⟨by omega, by omega, by omega, by omega, fun i hi => by have := wSum_mem (f := wIdx) hi; omega, by omega, fun a ha => by have := wE_arg ha; omega⟩
theorem I_facts {x : gIndex} (h : wIdx x ≤ 1048576) : x.fFrom.length ≤ 1048576 ∧ wLin x.fLin ≤ 1048576 ∧ x.fLin.fL.length ≤ 1048576 ∧ x.fAt.length ≤ 1048576 ∧ (∀ l ∈ x.fAt, wLin l ≤ 1048576) := by
  have := wIdx_from x; have := wIdx_lin x; have := wLin_L x.fLin; have := wIdx_len x; have := wIdx_at x
  exact ⟨by omega, by omega, by omega, by omega, fun l hl => by have := wSum_mem (f := wLin) hl; omega⟩
theorem S_facts {x : gStmtS} (h : wStmtS x ≤ 1048576) : x.fName.length ≤ 1048576 ∧ wExprS x.fExpr ≤ 1048576 ∧ x.fIdx.length ≤ 1048576 ∧ (∀ i ∈ x.fIdx, wIdx i ≤ 1048576) ∧ x.fBody.length ≤ 1048576 ∧ wSum wStmt x.fBody ≤ 1048576 ∧ (∀ a ∈ x.fBody, wStmtS a.f ≤ 1048576) := by
  have := wS_name x; have := wS_expr x; have := wS_idxN x; have := wS_bodyN x; have := wS_idx x; have := wS_body x
  exact ⟨by omega, by omega, by omega, fun i hi => by have := wSum_mem (f := wIdx) hi; omega, by omega, by omega, fun a ha => by have := wS_in ha; omega⟩
theorem W_idx {x : gStmtS} {a : Int} {b : Str} (h : wStmtS x ≤ 1048576) (hb : b.length ≤ x.fName.length) : wExprS (gExprF.mk a b (gVal.mk (0 : Int) (0 : Int)) (gType.mk (0 : Int) (0 : Int) (0 : Int) (0 : Int) (0 : Int)) (gLin.mk (0 : Int) []) x.fIdx [] : gExprS) ≤ 1048576 := by
  have h9 : wStmtS x = 1 + x.fName.length + wSum wIdx x.fIdx + wExprS x.fExpr + wSum wStmt x.fBody := rfl
  have : 1 ≤ wExprS x.fExpr := by unfold wExprS; omega
  simp only [wExprS, wLin, wSum_nil]; omega
theorem L_facts {l : List gStmt} (h : wSum wStmt l ≤ 1048576) : l.length ≤ 1048576 ∧ (∀ a ∈ l, wStmtS a.f ≤ 1048576) := by
  have := wSum_len (f := wStmt) (l := l) wStmt1
  exact ⟨by omega, fun a ha => by have := wSum_mem (f := wStmt) ha; rw [wStmt_f] at this; omega⟩
theorem B_facts {l : List gBuffer} (h : wSum wBuf l ≤ 1048576) : l.length ≤ 1048576 ∧ (∀ a ∈ l, a.fName.length ≤ 1048576 ∧ a.fDims.length ≤ 1048576) := by
  have := wSum_len (f := wBuf) (l := l) wBuf1
  exact ⟨by omega, fun a ha => by have h2 := wSum_mem (f := wBuf) ha; have : wBuf a = 1 + a.fName.length + a.fDims.length := rfl; omega⟩
def nodes : gExpr → List gExpr
  | .mk x => .mk x :: (x.fArgs.attach.map fun a => nodes a.1).flatten
 termination_by e => SizeOf.sizeOf e
 decreasing_by exact gExpr.lt a.2
theorem nodes_mk (x : gExprS) : nodes (.mk x) = .mk x :: (x.fArgs.map nodes).flatten := by rw [nodes]; simp
def nodesL (l : List gExpr) : List gExpr := (l.map nodes).flatten
theorem nodesL_cons (a : gExpr) (l : List gExpr) : nodesL (a :: l) = nodes a ++ nodesL l := by simp [nodesL]
theorem nodes_len : ∀ e, (nodes e).length ≤ wExpr e := gExpr.ind fun x ih => by
  have h : ∀ l : List gExpr, (∀ a ∈ l, (nodes a).length ≤ wExpr a) → (nodesL l).length ≤ wSum wExpr l := by
    intro l
    induction l with
    | nil => intro _; simp [nodesL]
    | cons a l ih => intro h; rw [nodesL_cons, wSum_cons, List.length_append]; have := h a (by simp); have := ih fun b hb => h b (by simp [hb]); omega
  rw [nodes_mk, wExpr_f]
  have := h _ ih
  unfold nodesL at this
  simp only [gExpr.f_mk, wExprS, List.length_cons]; omega
theorem nodesL_len (l : List gExpr) : (nodesL l).length ≤ wSum wExpr l := by
  induction l with
  | nil => simp [nodesL]
  | cons a l ih => rw [nodesL_cons, wSum_cons, List.length_append]; have := nodes_len a; omega
theorem pre_len' (x : gExprS) : (nodes (.mk x)).length ≤ wExprS x := by have := nodes_len (.mk x); rw [wExpr_f] at this; exact this
end HY
end
section
namespace Go.Proofs.YtfpegbpngbchfaaGreatDoor
open Go HY
set_option maxRecDepth 1000000
set_option linter.unusedVariables false
inductive aE : gExpr → Prop
  | mk (x : gExprS) : x.fArgs.length ≤ 4611686018427387904 → (∀ a ∈ x.fArgs, aE a) → aE (.mk x)
theorem aE.of {x : gExprS} (h : aE (.mk x)) : x.fArgs.length ≤ 4611686018427387904 ∧ ∀ a ∈ x.fArgs, aE a := by
  cases h with
  | mk _ h1 h2 => exact ⟨h1, h2⟩
abbrev gWalk := { x : gExprS // aE (.mk x) }
def hgWalk (x : gWalk) : AV := .fn 72 [.ip 13 [hgExpr x.1] 0 0]
def yvl (l : Nat) : AV := .val (.func (.yield l) #[] #[])
theorem wk_loop {l : Nat} {xs : List (List AV)} {m n : Nat} {a : List gExpr} (hn : a.length = n) (hn2 : n ≤ 4611686018427387904)
    (hF : ∀ e ∈ a, ∀ k, (∀ (j : Nat) (y : gExpr), (nodes e)[j]? = some y → xs[k + j]? = some [hgExpr y.f]) → JF Tryz.prog gls l xs 73 [hgExpr e.f, yvl l] (some k) true (k + (nodes e).length)) :
    ∀ (t p : List gExpr) (k : Nat), a = p ++ t → k + (nodesL t).length = m → (∀ (j : Nat) (y : gExpr), (nodesL t)[j]? = some y → xs[k + j]? = some [hgExpr y.f]) →
      JLo 73 4 23 l xs [1, 12, 13, 14] [yvl l, .sl 13 (a.map egExpr), .int .i64 n, .int .i64 p.length] [] (some k) [4] (.exit 0, [.undef]) (.ret, [.bool false]) m
  | t, p, k, ha, hm, hx => by
    refine JL1 (φ := (decide ((p.length : Int) < n) = true → ∃ x : gExprS, ((0 : Int) ≤ p.length ∧ (a.map egExpr)[Int.toNat p.length]? = some (hgExpr x)) ∧ ∃ q, JF Tryz.prog gls l xs 73 [hgExpr x, yvl l] (some k) true q ∧
      NxtJ Tryz.prog gls l xs 23 (lcode Tryz.prog 73 (4 + 1)) [1, 12, 13, 14] [4] (.exit 0, [.undef]) (.ret, [.bool false]) m [yvl l, .sl 13 (a.map egExpr), .int .i64 n, .int .i64 (IntKind.i64.wrap ((p.length : Int) + 1))] [] (some q) ∧ JO (.exit 0, [.undef]) (.ret, [.bool false]) m .ret none [.bool false] []) ∧
      (decide ((p.length : Int) < n) = false → JO (.exit 0, [.undef]) (.ret, [.bool false]) m (.exit 0) (some k) [.undef] [])) (hs := [(15, .split), (16, .e hgExpr)]) (js := []) (kb := []) (by kernel_rfl) (by kernel_rfl) ⟨fun h => ?_, fun h => ?_⟩
    · have h := of_decide_eq_true h
      cases t with
      | nil => subst ha; simp at hn; omega
      | cons e t =>
        have hlen : p.length < a.length := by rw [ha]; simp
        refine ⟨e.f, ⟨by omega, ?_⟩, k + (nodes e).length, hF e (by rw [ha]; simp) k (fun j y hj => hx j y ?_), ⟨_, _, ?_, .refl _, wk_loop hn hn2 hF t (p ++ [e]) (k + (nodes e).length) (by rw [ha]; simp) (by rw [← hm, nodesL_cons]; simp; omega) (fun j y hj => ?_)⟩, .b rfl rfl rfl⟩
        · rw [List.getElem?_map, ha, Int.toNat_natCast, List.getElem?_append_right (Nat.le_refl _)]; simp [egExpr_f]
        · rw [nodesL_cons, List.getElem?_append_left (List.getElem?_eq_some_iff.1 hj).1]; exact hj
        · rw [show IntKind.i64.wrap ((p.length : Int) + 1) = ((p ++ [e]).length : Int) by rw [wrapId (by omega)]; simp]
          exact .refl _
        · rw [Nat.add_assoc]
          exact hx _ y (by rw [nodesL_cons, List.getElem?_append_right (Nat.le_add_right _ _), Nat.add_sub_cancel_left]; exact hj)
    · have h := of_decide_eq_false h
      cases t with
      | nil => exact .a rfl (by rw [← hm]; rfl) rfl
      | cons e t => rw [ha] at hn; simp at hn; omega
theorem wk_walk (l : Nat) (xs : List (List AV)) : ∀ (e : gExpr), aE e → ∀ k, (∀ (j : Nat) (y : gExpr), (nodes e)[j]? = some y → xs[k + j]? = some [hgExpr y.f]) → JF Tryz.prog gls l xs 73 [hgExpr e.f, yvl l] (some k) true (k + (nodes e).length) :=
  gExpr.ind fun x ih hw k hx => by
    obtain ⟨hargs, hall⟩ := hw.of
    have h0 := hx 0 (.mk x) (by rw [nodes_mk]; rfl)
    refine JF1 (φ := l = l ∧ xs[k]? = some [hgExpr x] ∧ (∃ q, JLo 73 4 23 l xs [1, 12, 13, 14] [yvl l, .sl 13 (x.fArgs.map egExpr), .int .i64 ((x.fArgs.map egExpr).length : Nat), .int .i64 0] [] (some (k + 1)) [4] (.exit 0, [.undef]) (.ret, [.bool false]) q ∧ JQ true (k + (nodes (.mk x)).length) (.bool true) (some q) ∧ JQ true (k + (nodes (.mk x)).length) (.bool false) none) ∧ JQ true (k + (nodes (.mk x)).length) (.bool false) none)
      (hs := []) (js := [(5, ⟨[1, 12, 13, 14], [], [4], (.exit 0, [.undef]), (.ret, [.bool false])⟩)]) (by kernel_rfl) ⟨rfl, h0, ⟨_, ?_, .inl ⟨rfl, rfl⟩, .inr ⟨rfl, rfl⟩⟩, .inr ⟨rfl, rfl⟩⟩
    have := wk_loop (l := l) (xs := xs) (m := k + (nodes (.mk x)).length) (n := x.fArgs.length) (a := x.fArgs) rfl hargs (fun e he => ih e he (hall e he)) x.fArgs [] (k + 1) rfl (by rw [nodes_mk]; simp [nodesL]; omega) (fun j y hj => by
      have := hx (j + 1) y (by rw [nodes_mk]; exact hj)
      rw [← this]; congr 1; omega)
    rw [List.length_map]
    exact this
theorem It_Walk (x : gWalk) : ItOk Tryz.prog gls 72 [.ip 13 [hgExpr x.1] 0 0] ((nodes (.mk x.1)).map fun y => [hgExpr y.f]) :=
  ItOk.of (bodied_enters (by kernel_rfl)) false fun l =>
    JF1 (φ := ∃ q, JF Tryz.prog gls l ((nodes (.mk x.1)).map fun y => [hgExpr y.f]) 73 [hgExpr x.1, yvl l] (some 0) true q ∧ JQ false (((nodes (.mk x.1)).map fun y => [hgExpr y.f]).length) (.tup []) (some q) ∧ JQ false (((nodes (.mk x.1)).map fun y => [hgExpr y.f]).length) (.tup []) none)
      (hs := []) (js := []) (by kernel_rfl) ⟨_, wk_walk l _ (.mk x.1) x.2 0 (fun j y hj => by rw [Nat.zero_add, List.getElem?_map, hj]; rfl), ⟨rfl, .inl (by simp)⟩, ⟨rfl, .inr rfl⟩⟩
open Classical in
noncomputable def F_expr_Walk (x0 : gExprS) : Option gWalk := if h : aE (.mk x0) then some ⟨x0, h⟩ else none
theorem s_expr_Walk (x : gExprS) (h : aE (.mk x)) : F_expr_Walk x = some ⟨x, h⟩ := dif_pos h
theorem P_expr_Walk (x0 : gExprS) (r : gWalk) (h : F_expr_Walk x0 = some r) : PU 55 [hgExpr x0] (hgWalk r) := by
  unfold F_expr_Walk at h
  split at h
  · cases h
    exact Pu1 (φ := LeT (.fn 72 [.ip 13 [hgExpr x0] 0 0]) (.fn 72 [.ip 13 [hgExpr x0] 0 0])) (hs := []) (by kernel_rfl) (.refl _)
  · cases h
end Go.Proofs.YtfpegbpngbchfaaGreatDoor
end
section
namespace Go.Proofs.YtfpegbpngbchfaaGreatDoor
open Go HY
set_option maxRecDepth 1000000
set_option linter.unusedVariables false
def R_trace_reads (r : List gRegion) : AV := .ow 0 0 3 (List.length r)
def B_trace_reads (r : List gRegion) : List Box := [.own 0 3 (List.map egRegion r)]
theorem T_trace_reads {args : List AV} (r : List gRegion) (h : PH 35 args [] (R_trace_reads r) (B_trace_reads r)) : PU 35 args (eLgRegion r) := PuT1 (φ := List.length r = List.length (List.map egRegion r) ∧ LeT (.sl 3 (List.map egRegion r)) (eLgRegion r)) h (by kernel_rfl) ⟨by simp, .refl _⟩
noncomputable def F_trace_reads_R (n : gNest) : List gExpr → List gRegion → Option (List gRegion)
  | [], out => some out
  | e :: t, out => if (e.f.fOp == (3 : Int)) = true then
      F_trace_gathers n e.f.fIdx >>= fun a =>
      if (List.length out + List.length a) * 32 ≤ 140737488355328 ∧ List.length out + List.length a ≤ 9223372036854775807 then
      F_trace_region n e.f.fName e.f.fIdx >>= fun b =>
      if (List.length out + List.length a + List.length b) * 32 ≤ 140737488355328 ∧ List.length out + List.length a + List.length b ≤ 9223372036854775807 then
      F_trace_reads_R n t (out ++ a ++ b)
      else none
      else none
    else F_trace_reads_R n t out
noncomputable def F_trace_reads (n : gNest) (x : gExprS) : Option (List gRegion) := F_expr_Walk x >>= fun w => F_trace_reads_R n (nodes (.mk w.1)) []
def A_trace_reads_R (n : gNest) (u : Unit) (o : List gRegion) : List Alt := [⟨fun (x : List gRegion) => x = o, .normal, fun x => [.ptr 0 0 0, .ptr 1 0 0], fun x => [.cells 0 (egNest n).cells, .cells 0 [.ow 2 0 3 (List.length x)], .own 0 3 (List.map egRegion x)]⟩]
theorem P_trace_reads_R (n : gNest) : ∀ (l : List gExpr) (out o : List gRegion), F_trace_reads_R n l out = some o → RG 35 3 28 [2, 5] [.ptr 0 0 0, .ptr 1 0 0] (A_trace_reads_R n () o) (l.map fun y => [hgExpr y.f]) [.cells 0 (egNest n).cells, .cells 0 [.ow 2 0 3 (List.length out)], .own 0 3 (List.map egRegion out)]
  | [], out, o, h => by
    cases h
    exact Rg0 rfl (.here _ rfl (.refl _) (.refl _))
  | e :: t, out, o, h => by
    have nx : ∀ (q : List gRegion), F_trace_reads_R n t q = some o → ∀ k m, k = List.length q → m = List.map egRegion q → NxtR Tryz.prog gls [] 28 (rng Tryz.prog 35 (3 + 1)).1 (rng Tryz.prog 35 (3 + 1)).2.1 (rng Tryz.prog 35 (3 + 1)).2.2 [2, 5] [.ptr 0 0 0, .ptr 1 0 0] (A_trace_reads_R n () o) (t.map fun y => [hgExpr y.f]) [.cells 0 (egNest n).cells, .cells 0 [.ow 2 0 3 k], .own 0 3 m] := fun q hq k m hk hm => by
      subst hk; subst hm
      exact ⟨_, .refl _, P_trace_reads_R n t q o hq⟩
    refine Rg1 (φ := ((e.f.fOp == (3 : Int)) = true → ∃ a, PH 34 [egNest n, eLgIndex e.f.fIdx] [] (R_trace_gathers a) (B_trace_gathers a) ∧ List.length a = List.length (List.map egRegion a) ∧
        (List.length out = List.length (List.map egRegion out) ∧ (List.length out + List.length (List.map egRegion a)) * 32 ≤ 140737488355328 ∧ List.length out + List.length (List.map egRegion a) ≤ 9223372036854775807) ∧
        ∃ b, PU 36 [egNest n, eS e.f.fName, eLgIndex e.f.fIdx] (eLgRegion b) ∧
        (List.length out + List.length (List.map egRegion a) = List.length (List.map egRegion out ++ List.map egRegion a) ∧ (List.length out + List.length (List.map egRegion a) + List.length (List.map egRegion b)) * 32 ≤ 140737488355328 ∧ List.length out + List.length (List.map egRegion a) + List.length (List.map egRegion b) ≤ 9223372036854775807) ∧
        LeVs [.ptr 0 0 0, .ptr 1 0 0] [.ptr 0 0 0, .ptr 1 0 0] ∧
        NxtR Tryz.prog gls [] 28 (rng Tryz.prog 35 (3 + 1)).1 (rng Tryz.prog 35 (3 + 1)).2.1 (rng Tryz.prog 35 (3 + 1)).2.2 [2, 5] [.ptr 0 0 0, .ptr 1 0 0] (A_trace_reads_R n () o) (t.map fun y => [hgExpr y.f]) [.cells 0 (egNest n).cells, .cells 0 [.ow 2 0 3 (List.length out + List.length (List.map egRegion a) + List.length (List.map egRegion b))], .own 0 3 ((List.map egRegion out ++ List.map egRegion a) ++ List.map egRegion b)]) ∧
      ((e.f.fOp == (3 : Int)) = false → LeVs [.ptr 0 0 0, .ptr 1 0 0] [.ptr 0 0 0, .ptr 1 0 0] ∧
        NxtR Tryz.prog gls [] 28 (rng Tryz.prog 35 (3 + 1)).1 (rng Tryz.prog 35 (3 + 1)).2.1 (rng Tryz.prog 35 (3 + 1)).2.2 [2, 5] [.ptr 0 0 0, .ptr 1 0 0] (A_trace_reads_R n () o) (t.map fun y => [hgExpr y.f]) [.cells 0 (egNest n).cells, .cells 0 [.ow 2 0 3 (List.length out)], .own 0 3 (List.map egRegion out)]))
      (hs := [(12, .split), (17, .h [] R_trace_gathers B_trace_gathers), (18, .a), (25, .c eLgRegion), (26, .a)]) (kb := [{ slot := 2 }, { slot := 5 }, { slot := 5, path := [0], own := 3 }]) (kbx := []) (by kernel_rfl) (by kernel_rfl) ⟨fun hc => ?_, fun hc => ?_⟩
    · rw [F_trace_reads_R, if_pos hc] at h
      cases ha : F_trace_gathers n e.f.fIdx with
      | none => rw [ha] at h; cases h
      | some a =>
        rw [ha] at h
        replace h : (if (List.length out + List.length a) * 32 ≤ 140737488355328 ∧ List.length out + List.length a ≤ 9223372036854775807 then _ else _) = _ := h
        split at h
        · rename_i h1
          cases hb : F_trace_region n e.f.fName e.f.fIdx with
          | none => rw [hb] at h; cases h
          | some b =>
            rw [hb] at h
            replace h : (if (List.length out + List.length a + List.length b) * 32 ≤ 140737488355328 ∧ List.length out + List.length a + List.length b ≤ 9223372036854775807 then _ else _) = _ := h
            split at h
            · rename_i h2
              exact ⟨a, P_trace_gathers _ _ _ ha, by simp, ⟨by simp, by simpa using h1⟩, b, P_trace_region _ _ _ _ hb, ⟨by simp, by simpa using h2⟩, .refl _, nx _ h _ _ (by simp; omega) (by simp)⟩
            · cases h
        · cases h
    · rw [F_trace_reads_R, if_neg (by rw [hc]; simp)] at h
      exact ⟨.refl _, nx _ h _ _ rfl rfl⟩
theorem P_trace_reads (x0 : gNest) (x1 : gExprS) (r : List gRegion) (h : F_trace_reads x0 x1 = some r) : PH 35 [egNest x0, hgExpr x1] [] (R_trace_reads r) (B_trace_reads r) := by
  unfold F_trace_reads at h
  cases hw : F_expr_Walk x1 with
  | none => rw [hw] at h; cases h
  | some w =>
    rw [hw] at h
    refine PuH1 (φ := ∃ x, PU 55 [hgExpr x1] (hgWalk x) ∧ ∃ xs u o, ItOk Tryz.prog gls 72 [.ip 13 [hgExpr x.1] 0 0] xs ∧ RG 35 3 28 [2, 5] [.ptr 0 0 0, .ptr 1 0 0] (A_trace_reads_R x0 u o) xs [.cells 0 (egNest x0).cells, .cells 0 [.ow 2 0 3 0], .own 0 3 []] ∧ ∀ x : List gRegion, x = o → LeVs [.ow 0 0 3 (List.length x)] [R_trace_reads r] ∧ LeBs [.own 0 3 (List.map egRegion x)] (B_trace_reads r))
      (hs := [(8, .c hgWalk), (4000004, .l [] [2, 5] [{ slot := 2 }, { slot := 5 }, { slot := 5, path := [0], own := 3 }] [2, 5] [] (A_trace_reads_R x0))]) (kb := [{ slot := 0, path := [], own := 3 }]) (by kernel_rfl)
      ⟨w, P_expr_Walk _ _ hw, _, (), r, It_Walk w, P_trace_reads_R x0 _ [] r h, fun x hx => by subst hx; exact ⟨.refl _, .refl _⟩⟩
end Go.Proofs.YtfpegbpngbchfaaGreatDoor
end
section
namespace Go.Proofs.YtfpegbpngbchfaaGreatDoor
open Go HY
set_option maxRecDepth 1000000
set_option linter.unusedVariables false
def A_trace_Reads_L9 (s : gNest) (u : ((List gStmt) × Int)) (o : List gRegion) : List Alt := [⟨fun (x : List gRegion) => x = o, .exit 1, fun x => [.sl 3 (List.map egRegion x)], fun x => []⟩]
mutual
noncomputable def F_trace_Reads (x0 : gNest) (x1 : gStmtS) : Option (List gRegion) :=
 F_trace_store x1 >>= fun v0 => if v0 then
 F_trace_gathers x0 x1.fIdx >>= fun v1 =>
 F_trace_reads x0 x1.fExpr >>= fun v2 =>
 if (v1.length + (List.map egRegion v2).length) * (32 : Nat) ≤ (140737488355328 : Nat) ∧ v1.length + (List.map egRegion v2).length ≤ (9223372036854775807 : Nat) then
 some (v1 ++ v2) >>= fun v3 =>
 some v3
 else none
 else
 if x1.fOp == (4 : Int) then
 F_trace_reads x0 x1.fExpr >>= fun v4 =>
 some (List.length x1.fBody : Int) >>= fun v5 =>
 some (x1.fBody, v5) >>= fun v6 =>
 F_trace_Reads_L9 x0 v4 x1.fBody v5 (0 : Int) >>= fun v8 =>
 some v8
 else
 if x1.fOp != (1 : Int) then
 some []
 else
 some (List.length x1.fBody : Int) >>= fun v9 =>
 some (x1.fBody, v9) >>= fun v10 =>
 F_trace_Reads_L9 x0 [] x1.fBody v9 (0 : Int) >>= fun v12 =>
 some v12
  partial_fixpoint
noncomputable def F_trace_Reads_L9 (x2 : gNest) (x5 : List gRegion) (x33 : List gStmt) (x34 : Int) (x35 : Int) : Option (List gRegion) :=
 if x35 < x34 then
 Option.map gStmt.f (ix x33 x35) >>= fun v0 =>
 F_trace_Reads x2 v0 >>= fun v1 =>
 if (x5.length + (List.map egRegion v1).length) * (32 : Nat) ≤ (140737488355328 : Nat) ∧ x5.length + (List.map egRegion v1).length ≤ (9223372036854775807 : Nat) then
 some (x5 ++ v1) >>= fun v2 =>
 F_trace_Reads_L9 x2 v2 x33 x34 (IntKind.i64.wrap (x35 + (1 : Int)))
 else none
 else
 some x5
  partial_fixpoint
end
theorem PM_trace_Reads (x0 : gNest) : (∀ (x1 : gStmtS) (r : List gRegion), F_trace_Reads x0 x1 = some r → PU 17 [egNest x0, hgStmt x1] (eLgRegion r)) ∧ (∀ (x5 : List gRegion) (x33 : List gStmt) (x34 : Int) (x35 : Int) (o : List gRegion), F_trace_Reads_L9 x0 x5 x33 x34 x35 = some o → LO 17 9 46 [2, 5, 33, 34, 35] [.ptr 0 0 0, .ow 1 0 3 (List.length x5), .sl 20 (List.map egStmt x33), .int .i64 x34, .int .i64 x35] [.cells 0 (egNest x0).cells, .own 0 3 (List.map egRegion x5)] [5] (A_trace_Reads_L9 x0 (x33, x34) o)) :=
  F_trace_Reads.mutual_partial_correctness x0 (fun x1 r => PU 17 [egNest x0, hgStmt x1] (eLgRegion r)) (fun x5 x33 x34 x35 o => LO 17 9 46 [2, 5, 33, 34, 35] [.ptr 0 0 0, .ow 1 0 3 (List.length x5), .sl 20 (List.map egStmt x33), .int .i64 x34, .int .i64 x35] [.cells 0 (egNest x0).cells, .own 0 3 (List.map egRegion x5)] [5] (A_trace_Reads_L9 x0 (x33, x34) o))
  (fun F_trace_Reads_L9 ih_trace_Reads_L9 x1 r h  =>
  Pu1 (hs := [(10, .cb), (14, .h [] R_trace_gathers B_trace_gathers), (18, .h [] R_trace_reads B_trace_reads), (19, .z [{ slot := 14, own := 3 }, { slot := 18, fz := true }] (some (.n egRegion 19 (some .a)))), (23, .split), (27, .h [] R_trace_reads B_trace_reads), (31, .split), (34, .n eI 34 none), (3000010, .l [] [2, 5, 33, 34, 35] [{ slot := 2 }, { slot := 5, own := 3 }] [5] [{ slot := 5, fz := true }] (A_trace_Reads_L9 x0))]) (by kernel_rfl) ((kCb (P_trace_store x1) (kH (sh := R_trace_gathers) (bt := B_trace_gathers) (P_trace_gathers x0 x1.fIdx) fun v1 => (kH (sh := R_trace_reads) (bt := B_trace_reads) (P_trace_reads x0 x1.fExpr) fun v2 => (kT (nM (sh := egRegion) v2) (kA (q := (v1.length + (List.map egRegion v2).length) * (32 : Nat) ≤ (140737488355328 : Nat) ∧ v1.length + (List.map egRegion v2).length ≤ (9223372036854775807 : Nat)) (sh := egRegion) (l := v1) (kO (sh := egRegion) (v1 ++ v2) (mAA (sh := egRegion) v1 v2) (nAA (sh := egRegion) v1 v2) fun v3 => (kT (nM (sh := egRegion) v3) (kEr (enc := eLgRegion) v3)))))))
 (kIf (c := x1.fOp == (4 : Int)) (kH (sh := R_trace_reads) (bt := B_trace_reads) (P_trace_reads x0 x1.fExpr) fun v4 => (kN _ (mLen (sh := egStmt) x1.fBody) fun v5 => (kL1 (x1.fBody, v5) (ih_trace_Reads_L9 v4 x1.fBody v5 (0 : Int)) fun v6 v8 => (kEr (enc := eLgRegion) v8))))
 (kIf (c := x1.fOp != (1 : Int)) (kE (enc := eLgRegion) [] (LeT.nil 3))
 (kN _ (mLen (sh := egStmt) x1.fBody) fun v9 => (kL1 (x1.fBody, v9) (ih_trace_Reads_L9 [] x1.fBody v9 (0 : Int)) fun v10 v12 => (kEr (enc := eLgRegion) v12)))))) h))
  (fun F_trace_Reads F_trace_Reads_L9 ih_trace_Reads ih_trace_Reads_L9 x5 x33 x34 x35 o h  =>
  Lp1 (hs := [(36, .split), (37, .e hgStmt), (42, .c eLgRegion), (43, .z [{ slot := 39, own := 3 }] (some (.n egRegion 43 (some .a))))]) (kb := [{ slot := 2 }, { slot := 5, own := 3 }]) (kbx := [{ slot := 5, fz := true }]) (by kernel_rfl) (by kernel_rfl) ((kIfD (p := x35 < x34) (kIxR (l := x33) (k := x35) egStmt_f fun v0 => (kC (sh := eLgRegion) (ih_trace_Reads v0) fun v1 => (kA (q := (x5.length + (List.map egRegion v1).length) * (32 : Nat) ≤ (140737488355328 : Nat) ∧ x5.length + (List.map egRegion v1).length ≤ (9223372036854775807 : Nat)) (sh := egRegion) (l := x5) (kO (sh := egRegion) (x5 ++ v1) (mAA (sh := egRegion) x5 v1) (nAA (sh := egRegion) x5 v1) fun v2 => (kM0 (alts := A_trace_Reads_L9 x0 (x33, x34)) (ih_trace_Reads_L9 v2 x33 x34 (IntKind.i64.wrap (x35 + (1 : Int)))))))))
 (kT (nM (sh := egRegion) x5) (kX (alts := A_trace_Reads_L9 x0 (x33, x34)) x5 (.here _ rfl (.refl _) (.refl _))))) h))
theorem P_trace_Reads (x0 : gNest) (x1 : gStmtS) (r : List gRegion) (h : F_trace_Reads x0 x1 = some r) : PU 17 [egNest x0, hgStmt x1] (eLgRegion r) := (PM_trace_Reads x0).1 x1 r h
theorem P_trace_Reads_L9 (x2 : gNest) (x5 : List gRegion) (x33 : List gStmt) (x34 : Int) (x35 : Int) (o : List gRegion) (h : F_trace_Reads_L9 x2 x5 x33 x34 x35 = some o) : LO 17 9 46 [2, 5, 33, 34, 35] [.ptr 0 0 0, .ow 1 0 3 (List.length x5), .sl 20 (List.map egStmt x33), .int .i64 x34, .int .i64 x35] [.cells 0 (egNest x2).cells, .own 0 3 (List.map egRegion x5)] [5] (A_trace_Reads_L9 x2 (x33, x34) o) := (PM_trace_Reads x2).2 x5 x33 x34 x35 o h
end Go.Proofs.YtfpegbpngbchfaaGreatDoor
end
section
namespace Go.Proofs.YtfpegbpngbchfaaGreatDoor
open Go HY
set_option maxRecDepth 1000000
set_option linter.unusedVariables false
def A_legality_Commutes_J5000002 (s : (gNest × gStmtS × gStmtS)) (u : gStmtS) (o : Bool) : List Alt := [⟨fun (x : Unit) => true = o, .normal, fun x => [.ptr 0 0 0, .ptr 1 0 0, .ptr 2 0 0, .ptr 3 0 0, .bool true], fun x => [.cells 0 (egNest (s.1)).cells, .cells 0 (hgStmt (s.2.1)).cells, .cells 0 (hgStmt (s.2.2)).cells, .cells 0 (hgStmt u).cells]⟩, ⟨fun (x : Unit) => false = o, .normal, fun x => [.ptr 0 0 0, .ptr 1 0 0, .ptr 2 0 0, .ptr 3 0 0, .bool false], fun x => [.cells 0 (egNest (s.1)).cells, .cells 0 (hgStmt (s.2.1)).cells, .cells 0 (hgStmt (s.2.2)).cells, .cells 0 (hgStmt u).cells]⟩]
def A_legality_Commutes_J5000005 (s : (gNest × gStmtS × gStmtS)) (u : Unit) (o : Bool) : List Alt := [⟨fun (x : Unit) => true = o, .normal, fun x => [.ptr 0 0 0, .ptr 1 0 0, .ptr 2 0 0, .bool true], fun x => [.cells 0 (egNest (s.1)).cells, .cells 0 (hgStmt (s.2.1)).cells, .cells 0 (hgStmt (s.2.2)).cells]⟩, ⟨fun (x : Unit) => false = o, .normal, fun x => [.ptr 0 0 0, .ptr 1 0 0, .ptr 2 0 0, .bool false], fun x => [.cells 0 (egNest (s.1)).cells, .cells 0 (hgStmt (s.2.1)).cells, .cells 0 (hgStmt (s.2.2)).cells]⟩]
noncomputable def F_legality_Commutes (x0 : gNest) (x1 : gStmtS) (x2 : gStmtS) : Option Bool :=
 F_legality_core x1 >>= fun v0 =>
 F_legality_core x2 >>= fun v1 =>
 some v0 >>= fun v2 =>
 (if v0.fOp != (3 : Int) then
 some true
 else
 if v1.fOp != (3 : Int) then
 some true
 else
 if !v0.fName == v1.fName then
 some true
 else
 if v0.fFold != v1.fFold then
 some true
 else
 some false) >>= fun v3 => if v3 then
 some false
 else
 F_loopnest_Buffer x0 v2.fName >>= fun v6 =>
 some () >>= fun v7 =>
 (if v6.snd then
 F_value_Reorderable v2.fFold v6.fst.fType >>= fun v9 => if v9 then
 some false
 else
 some true
 else
 some true) >>= fun v8 => if v8 then
 some false
 else
 F_trace_Reads x0 x1 >>= fun v12 =>
 F_trace_Writes x0 x2 >>= fun v13 =>
 F_depend_Overlap v12 v13 >>= fun v14 => if v14 then
 some false
 else
 F_trace_Reads x0 x2 >>= fun v15 =>
 F_trace_Writes x0 x1 >>= fun v16 =>
 F_depend_Overlap v15 v16 >>= fun v17 =>
 some (!v17)
theorem P_legality_Commutes (x0 : gNest) (x1 : gStmtS) (x2 : gStmtS) (r : Bool) (h : F_legality_Commutes x0 x1 x2 = some r) : PU 7 [egNest x0, hgStmt x1, hgStmt x2] (eB r) :=
  Pu1 (hs := [(12, .c hgStmt), (14, .c hgStmt), (17, .split), (21, .split), (28, .split), (35, .split), (41, .c eT_gBuffer_B), (44, .split), (51, .cb), (56, .c eLgRegion), (59, .c eLgRegion), (60, .cb), (65, .c eLgRegion), (68, .c eLgRegion), (69, .c eB), (5000002, .l [] [] [] [3, 4, 5, 7, 36] [{ slot := 3 }, { slot := 4 }, { slot := 5 }, { slot := 7 }] (A_legality_Commutes_J5000002 (x0, x1, x2))), (5000005, .l [] [] [] [3, 4, 5, 53] [{ slot := 3 }, { slot := 4 }, { slot := 5 }] (A_legality_Commutes_J5000005 (x0, x1, x2)))]) (by kernel_rfl) ((kC (sh := hgStmt) (P_legality_core x1) fun v0 => (kC (sh := hgStmt) (P_legality_core x2) fun v1 => (kJb (id := 5000002) v0 (fun v2 ev2 v3 => (kIf (c := v0.fOp != (3 : Int)) (kXj (alts := A_legality_Commutes_J5000002 (x0, x1, x2)) ev2 true (.here () rfl (.refl _) (.refl _)))
 (kIf (c := v1.fOp != (3 : Int)) (kXj (alts := A_legality_Commutes_J5000002 (x0, x1, x2)) ev2 true (.here () rfl (.refl _) (.refl _)))
 (kIf (c := !v0.fName == v1.fName) (kXj (alts := A_legality_Commutes_J5000002 (x0, x1, x2)) ev2 true (.here () rfl (.refl _) (.refl _)))
 (kIf (c := v0.fFold != v1.fFold) (kXj (alts := A_legality_Commutes_J5000002 (x0, x1, x2)) ev2 true (.here () rfl (.refl _) (.refl _)))
 (kXj (alts := A_legality_Commutes_J5000002 (x0, x1, x2)) ev2 false (.next (.here () rfl (.refl _) (.refl _)))))))))
 (fun v2 => (kEr (enc := eB) false))
 (fun v2 => (kC (sh := eT_gBuffer_B) (P_loopnest_Buffer x0 v2.fName) fun v6 => (kJb (id := 5000005) () (fun v7 ev7 v8 => (kIf (c := v6.snd) (kCb (P_value_Reorderable v2.fFold v6.fst.fType) (kXj (alts := A_legality_Commutes_J5000005 (x0, x1, x2)) ev7 false (.next (.here () rfl (.refl _) (.refl _))))
 (kXj (alts := A_legality_Commutes_J5000005 (x0, x1, x2)) ev7 true (.here () rfl (.refl _) (.refl _))))
 (kXj (alts := A_legality_Commutes_J5000005 (x0, x1, x2)) ev7 true (.here () rfl (.refl _) (.refl _)))))
 (fun v7 => (kEr (enc := eB) false))
 (fun v7 => (kC (sh := eLgRegion) (P_trace_Reads x0 x1) fun v12 => (kC (sh := eLgRegion) (P_trace_Writes x0 x2) fun v13 => (kCb (P_depend_Overlap v12 v13) (kEr (enc := eB) false)
 (kC (sh := eLgRegion) (P_trace_Reads x0 x2) fun v15 => (kC (sh := eLgRegion) (P_trace_Writes x0 x1) fun v16 => (kC (sh := eB) (P_depend_Overlap v15 v16) fun v17 => (kEr (enc := eB) (!v17))))))))))))))) h)
def A_ref35_Commutes_J5000002 (s : (gNest × gStmtS × gStmtS)) (u : gStmtS) (o : Bool) : List Alt := [⟨fun (x : Unit) => true = o, .normal, fun x => [.ptr 0 0 0, .ptr 1 0 0, .ptr 2 0 0, .ptr 3 0 0, .bool true], fun x => [.cells 0 (egNest (s.1)).cells, .cells 0 (hgStmt (s.2.1)).cells, .cells 0 (hgStmt (s.2.2)).cells, .cells 0 (hgStmt u).cells]⟩, ⟨fun (x : Unit) => false = o, .normal, fun x => [.ptr 0 0 0, .ptr 1 0 0, .ptr 2 0 0, .ptr 3 0 0, .bool false], fun x => [.cells 0 (egNest (s.1)).cells, .cells 0 (hgStmt (s.2.1)).cells, .cells 0 (hgStmt (s.2.2)).cells, .cells 0 (hgStmt u).cells]⟩]
def A_ref35_Commutes_J5000005 (s : (gNest × gStmtS × gStmtS)) (u : Unit) (o : Bool) : List Alt := [⟨fun (x : Unit) => true = o, .normal, fun x => [.ptr 0 0 0, .ptr 1 0 0, .ptr 2 0 0, .bool true], fun x => [.cells 0 (egNest (s.1)).cells, .cells 0 (hgStmt (s.2.1)).cells, .cells 0 (hgStmt (s.2.2)).cells]⟩, ⟨fun (x : Unit) => false = o, .normal, fun x => [.ptr 0 0 0, .ptr 1 0 0, .ptr 2 0 0, .bool false], fun x => [.cells 0 (egNest (s.1)).cells, .cells 0 (hgStmt (s.2.1)).cells, .cells 0 (hgStmt (s.2.2)).cells]⟩]
noncomputable def F_ref35_Commutes (x0 : gNest) (x1 : gStmtS) (x2 : gStmtS) : Option Bool :=
 F_ref35_Core x1 >>= fun v0 =>
 F_ref35_Core x2 >>= fun v1 =>
 some v0 >>= fun v2 =>
 (if v0.fOp != (3 : Int) then
 some true
 else
 if v1.fOp != (3 : Int) then
 some true
 else
 if !v0.fName == v1.fName then
 some true
 else
 if v0.fFold != v1.fFold then
 some true
 else
 some false) >>= fun v3 => if v3 then
 some false
 else
 F_ref30_Buffer x0 v2.fName >>= fun v6 =>
 some () >>= fun v7 =>
 (if v6.snd then
 F_ref04_Reorderable v2.fFold v6.fst.fType >>= fun v9 => if v9 then
 some false
 else
 some true
 else
 some true) >>= fun v8 => if v8 then
 some false
 else
 F_ref33_Reads x0 x1 >>= fun v12 =>
 F_ref33_Writes x0 x2 >>= fun v13 =>
 F_ref34_Overlap v12 v13 >>= fun v14 => if v14 then
 some false
 else
 F_ref33_Reads x0 x2 >>= fun v15 =>
 F_ref33_Writes x0 x1 >>= fun v16 =>
 F_ref34_Overlap v15 v16 >>= fun v17 =>
 some (!v17)
theorem P_ref35_Commutes (x0 : gNest) (x1 : gStmtS) (x2 : gStmtS) (r : Bool) (h : F_ref35_Commutes x0 x1 x2 = some r) : PU 8 [egNest x0, hgStmt x1, hgStmt x2] (eB r) :=
  Pu1 (hs := [(12, .c hgStmt), (14, .c hgStmt), (17, .split), (21, .split), (28, .split), (35, .split), (41, .c eT_gBuffer_B), (44, .split), (51, .cb), (56, .c eLgRegion), (59, .c eLgRegion), (60, .cb), (65, .c eLgRegion), (68, .c eLgRegion), (69, .c eB), (5000002, .l [] [] [] [3, 4, 5, 7, 36] [{ slot := 3 }, { slot := 4 }, { slot := 5 }, { slot := 7 }] (A_ref35_Commutes_J5000002 (x0, x1, x2))), (5000005, .l [] [] [] [3, 4, 5, 53] [{ slot := 3 }, { slot := 4 }, { slot := 5 }] (A_ref35_Commutes_J5000005 (x0, x1, x2)))]) (by kernel_rfl) ((kC (sh := hgStmt) (P_ref35_Core x1) fun v0 => (kC (sh := hgStmt) (P_ref35_Core x2) fun v1 => (kJb (id := 5000002) v0 (fun v2 ev2 v3 => (kIf (c := v0.fOp != (3 : Int)) (kXj (alts := A_ref35_Commutes_J5000002 (x0, x1, x2)) ev2 true (.here () rfl (.refl _) (.refl _)))
 (kIf (c := v1.fOp != (3 : Int)) (kXj (alts := A_ref35_Commutes_J5000002 (x0, x1, x2)) ev2 true (.here () rfl (.refl _) (.refl _)))
 (kIf (c := !v0.fName == v1.fName) (kXj (alts := A_ref35_Commutes_J5000002 (x0, x1, x2)) ev2 true (.here () rfl (.refl _) (.refl _)))
 (kIf (c := v0.fFold != v1.fFold) (kXj (alts := A_ref35_Commutes_J5000002 (x0, x1, x2)) ev2 true (.here () rfl (.refl _) (.refl _)))
 (kXj (alts := A_ref35_Commutes_J5000002 (x0, x1, x2)) ev2 false (.next (.here () rfl (.refl _) (.refl _)))))))))
 (fun v2 => (kEr (enc := eB) false))
 (fun v2 => (kC (sh := eT_gBuffer_B) (P_ref30_Buffer x0 v2.fName) fun v6 => (kJb (id := 5000005) () (fun v7 ev7 v8 => (kIf (c := v6.snd) (kCb (P_ref04_Reorderable v2.fFold v6.fst.fType) (kXj (alts := A_ref35_Commutes_J5000005 (x0, x1, x2)) ev7 false (.next (.here () rfl (.refl _) (.refl _))))
 (kXj (alts := A_ref35_Commutes_J5000005 (x0, x1, x2)) ev7 true (.here () rfl (.refl _) (.refl _))))
 (kXj (alts := A_ref35_Commutes_J5000005 (x0, x1, x2)) ev7 true (.here () rfl (.refl _) (.refl _)))))
 (fun v7 => (kEr (enc := eB) false))
 (fun v7 => (kC (sh := eLgRegion) (P_ref33_Reads x0 x1) fun v12 => (kC (sh := eLgRegion) (P_ref33_Writes x0 x2) fun v13 => (kCb (P_ref34_Overlap v12 v13) (kEr (enc := eB) false)
 (kC (sh := eLgRegion) (P_ref33_Reads x0 x2) fun v15 => (kC (sh := eLgRegion) (P_ref33_Writes x0 x1) fun v16 => (kC (sh := eB) (P_ref34_Overlap v15 v16) fun v17 => (kEr (enc := eB) (!v17))))))))))))))) h)
end Go.Proofs.YtfpegbpngbchfaaGreatDoor
end
section
namespace Go.Proofs.YtfpegbpngbchfaaGreatDoor
open Go HY
set_option maxRecDepth 1000000
theorem cmpRun (a b : ByteArray) (w : World) : (callFunc 182 #[.string a, .string b]).run Tryz.prog w = .ok (.value (.int .i64 (Lib.compareBytes a.data.toList b.data.toList))) w := by
  rw [run_callFunc_extern (fn := Tryz.f182) (e := Extern.BytealgCompare.compare) (by kernel_rfl) (by kernel_rfl) (by kernel_rfl) (by kernel_rfl) (by kernel_rfl) #[.string a, .string b] w]
  rw [Lib.run_compareString]
  rfl
def xe0 : CallH := xcmp 182
theorem xe0_ok : CallH.Ok Tryz.prog gls xe0 := xcmp_ok cmpRun
def kws : List AV := [.str [115, 105, 122, 101],
  .str [119, 104, 101, 114, 101],
  .str [105, 110],
  .str [100, 101, 102],
  .str [111, 117, 116],
  .str [115, 117, 109],
  .str [112, 114, 111, 100],
  .str [109, 105, 110],
  .str [109, 97, 120],
  .str [115, 99, 97, 110],
  .str [111, 118, 101, 114],
  .str [105, 102],
  .str [99, 97, 115, 116],
  .str [102, 114, 97, 99],
  .str [105, 110, 116],
  .str [102, 105, 120],
  .str [99, 101, 105, 108],
  .str [102, 108, 111, 111, 114],
  .str [122, 101, 114, 111],
  .str [101, 118, 101, 110],
  .str [115, 97, 116],
  .str [119, 114, 97, 112]]
def memoKw : MemoT := [(118, [], .bs 0 0 1 0 22, pt .nil 0 (.cells 0 kws), 1)]
theorem memoKw_ok : MemoOk Tryz.prog gls memoKw := fun e he => by
  rw [memoKw, List.mem_singleton] at he
  subst he
  exact memo_norm (xcallM_ok progOk xe0_ok (T := []) (fun _ h => by cases h) 40 (fl := 100000)) (by kernel_rfl)
end Go.Proofs.YtfpegbpngbchfaaGreatDoor
end
