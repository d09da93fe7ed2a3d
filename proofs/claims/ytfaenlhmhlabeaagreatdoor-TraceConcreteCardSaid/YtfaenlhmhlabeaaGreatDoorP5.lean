/- A part of the proof of the statement that the last of these texts proves. -/
import Derived.Test.YtfaenlhmhlabeaaGreatDoorP4
set_option linter.unusedVariables false
set_option linter.unusedSimpArgs false
section
namespace Go.Proofs.YtfaenlhmhlabeaaGreatDoor
open Go HY
set_option maxRecDepth 1000000
set_option linter.unusedVariables false
def R_slices_Clone_api_Stmt (r : List gStmt) : AV := .ow 0 0 20 (List.length r)
def B_slices_Clone_api_Stmt (r : List gStmt) : List Box := [.own 0 20 (List.map egStmt r)]
theorem T_slices_Clone_api_Stmt {args : List AV} (r : List gStmt) (h : PH 70 args [] (R_slices_Clone_api_Stmt r) (B_slices_Clone_api_Stmt r)) : PU 70 args (eLgStmt r) := PuT1 h (by kernel_rfl) (And.intro (nM (sh := egStmt) r) (LeT.refl (eLgStmt r)))
noncomputable def F_slices_Clone_api_Stmt (x0 : List gStmt) : Option (List gStmt) := if List.length x0 * 256 ≤ 140737488355328 ∧ List.length x0 ≤ 9223372036854775807 then some x0 else none
theorem P_slices_Clone_api_Stmt (x0 : List gStmt) (r : List gStmt) (h : F_slices_Clone_api_Stmt x0 = some r) : PH 70 [eLgStmt x0] [] (R_slices_Clone_api_Stmt r) (B_slices_Clone_api_Stmt r) := by
  unfold F_slices_Clone_api_Stmt at h
  split at h
  · rename_i hc
    cases h
    exact PuH1 (kb := [{ slot := 0, path := [], own := 20 }]) (φ := (List.map egStmt x0 = [] → LeVs [.ow 0 0 20 0] [.ow 0 0 20 (List.length x0)] ∧ LeBs [.own 0 20 []] [.own 0 20 (List.map egStmt x0)]) ∧ (0 = 0 ∧ (0 + List.length (List.map egStmt x0)) * 256 ≤ 140737488355328 ∧ 0 + List.length (List.map egStmt x0) ≤ 9223372036854775807) ∧ ∃ l, (List.map egStmt l = [] ++ List.map egStmt x0 ∧ List.length l = 0 + List.length (List.map egStmt x0)) ∧ LeVs [.ow 0 0 20 (List.length l)] [.ow 0 0 20 (List.length x0)] ∧ LeBs [.own 0 20 (List.map egStmt l)] [.own 0 20 (List.map egStmt x0)])
      (hs := [(4, .nn), (7, .z [{ slot := 5, own := 20 }] (some (.n egStmt 7 (some .a))))]) (by kernel_rfl)
      ⟨fun e => by have e1 : x0 = [] := List.map_eq_nil_iff.1 e; subst e1; exact ⟨.refl _, .refl _⟩, ⟨rfl, by simpa using hc⟩, x0, ⟨by simp, by simp⟩, ⟨.refl _, .refl _⟩⟩
  · cases h
def R_slices_Clone_api_Index (r : List gIndex) : AV := .ow 0 0 4 (List.length r)
def B_slices_Clone_api_Index (r : List gIndex) : List Box := [.own 0 4 (List.map egIndex r)]
theorem T_slices_Clone_api_Index {args : List AV} (r : List gIndex) (h : PH 93 args [] (R_slices_Clone_api_Index r) (B_slices_Clone_api_Index r)) : PU 93 args (eLgIndex r) := PuT1 h (by kernel_rfl) (And.intro (nM (sh := egIndex) r) (LeT.refl (eLgIndex r)))
noncomputable def F_slices_Clone_api_Index (x0 : List gIndex) : Option (List gIndex) := if List.length x0 * 72 ≤ 140737488355328 ∧ List.length x0 ≤ 9223372036854775807 then some x0 else none
theorem P_slices_Clone_api_Index (x0 : List gIndex) (r : List gIndex) (h : F_slices_Clone_api_Index x0 = some r) : PH 93 [eLgIndex x0] [] (R_slices_Clone_api_Index r) (B_slices_Clone_api_Index r) := by
  unfold F_slices_Clone_api_Index at h
  split at h
  · rename_i hc
    cases h
    exact PuH1 (kb := [{ slot := 0, path := [], own := 4 }]) (φ := (List.map egIndex x0 = [] → LeVs [.ow 0 0 4 0] [.ow 0 0 4 (List.length x0)] ∧ LeBs [.own 0 4 []] [.own 0 4 (List.map egIndex x0)]) ∧ (0 = 0 ∧ (0 + List.length (List.map egIndex x0)) * 72 ≤ 140737488355328 ∧ 0 + List.length (List.map egIndex x0) ≤ 9223372036854775807) ∧ ∃ l, (List.map egIndex l = [] ++ List.map egIndex x0 ∧ List.length l = 0 + List.length (List.map egIndex x0)) ∧ LeVs [.ow 0 0 4 (List.length l)] [.ow 0 0 4 (List.length x0)] ∧ LeBs [.own 0 4 (List.map egIndex l)] [.own 0 4 (List.map egIndex x0)])
      (hs := [(4, .nn), (7, .z [{ slot := 5, own := 4 }] (some (.n egIndex 7 (some .a))))]) (by kernel_rfl)
      ⟨fun e => by have e1 : x0 = [] := List.map_eq_nil_iff.1 e; subst e1; exact ⟨.refl _, .refl _⟩, ⟨rfl, by simpa using hc⟩, x0, ⟨by simp, by simp⟩, ⟨.refl _, .refl _⟩⟩
  · cases h
def R_slices_Clone_api_Lin (r : List gLin) : AV := .ow 0 0 2 (List.length r)
def B_slices_Clone_api_Lin (r : List gLin) : List Box := [.own 0 2 (List.map egLin r)]
theorem T_slices_Clone_api_Lin {args : List AV} (r : List gLin) (h : PH 94 args [] (R_slices_Clone_api_Lin r) (B_slices_Clone_api_Lin r)) : PU 94 args (eLgLin r) := PuT1 h (by kernel_rfl) (And.intro (nM (sh := egLin) r) (LeT.refl (eLgLin r)))
noncomputable def F_slices_Clone_api_Lin (x0 : List gLin) : Option (List gLin) := if List.length x0 * 32 ≤ 140737488355328 ∧ List.length x0 ≤ 9223372036854775807 then some x0 else none
theorem P_slices_Clone_api_Lin (x0 : List gLin) (r : List gLin) (h : F_slices_Clone_api_Lin x0 = some r) : PH 94 [eLgLin x0] [] (R_slices_Clone_api_Lin r) (B_slices_Clone_api_Lin r) := by
  unfold F_slices_Clone_api_Lin at h
  split at h
  · rename_i hc
    cases h
    exact PuH1 (kb := [{ slot := 0, path := [], own := 2 }]) (φ := (List.map egLin x0 = [] → LeVs [.ow 0 0 2 0] [.ow 0 0 2 (List.length x0)] ∧ LeBs [.own 0 2 []] [.own 0 2 (List.map egLin x0)]) ∧ (0 = 0 ∧ (0 + List.length (List.map egLin x0)) * 32 ≤ 140737488355328 ∧ 0 + List.length (List.map egLin x0) ≤ 9223372036854775807) ∧ ∃ l, (List.map egLin l = [] ++ List.map egLin x0 ∧ List.length l = 0 + List.length (List.map egLin x0)) ∧ LeVs [.ow 0 0 2 (List.length l)] [.ow 0 0 2 (List.length x0)] ∧ LeBs [.own 0 2 (List.map egLin l)] [.own 0 2 (List.map egLin x0)])
      (hs := [(4, .nn), (7, .z [{ slot := 5, own := 2 }] (some (.n egLin 7 (some .a))))]) (by kernel_rfl)
      ⟨fun e => by have e1 : x0 = [] := List.map_eq_nil_iff.1 e; subst e1; exact ⟨.refl _, .refl _⟩, ⟨rfl, by simpa using hc⟩, x0, ⟨by simp, by simp⟩, ⟨.refl _, .refl _⟩⟩
  · cases h
def R_slices_Clone_api_Expr (r : List gExpr) : AV := .ow 0 0 13 (List.length r)
def B_slices_Clone_api_Expr (r : List gExpr) : List Box := [.own 0 13 (List.map egExpr r)]
theorem T_slices_Clone_api_Expr {args : List AV} (r : List gExpr) (h : PH 95 args [] (R_slices_Clone_api_Expr r) (B_slices_Clone_api_Expr r)) : PU 95 args (eLgExpr r) := PuT1 h (by kernel_rfl) (And.intro (nM (sh := egExpr) r) (LeT.refl (eLgExpr r)))
noncomputable def F_slices_Clone_api_Expr (x0 : List gExpr) : Option (List gExpr) := if List.length x0 * 160 ≤ 140737488355328 ∧ List.length x0 ≤ 9223372036854775807 then some x0 else none
theorem P_slices_Clone_api_Expr (x0 : List gExpr) (r : List gExpr) (h : F_slices_Clone_api_Expr x0 = some r) : PH 95 [eLgExpr x0] [] (R_slices_Clone_api_Expr r) (B_slices_Clone_api_Expr r) := by
  unfold F_slices_Clone_api_Expr at h
  split at h
  · rename_i hc
    cases h
    exact PuH1 (kb := [{ slot := 0, path := [], own := 13 }]) (φ := (List.map egExpr x0 = [] → LeVs [.ow 0 0 13 0] [.ow 0 0 13 (List.length x0)] ∧ LeBs [.own 0 13 []] [.own 0 13 (List.map egExpr x0)]) ∧ (0 = 0 ∧ (0 + List.length (List.map egExpr x0)) * 160 ≤ 140737488355328 ∧ 0 + List.length (List.map egExpr x0) ≤ 9223372036854775807) ∧ ∃ l, (List.map egExpr l = [] ++ List.map egExpr x0 ∧ List.length l = 0 + List.length (List.map egExpr x0)) ∧ LeVs [.ow 0 0 13 (List.length l)] [.ow 0 0 13 (List.length x0)] ∧ LeBs [.own 0 13 (List.map egExpr l)] [.own 0 13 (List.map egExpr x0)])
      (hs := [(4, .nn), (7, .z [{ slot := 5, own := 13 }] (some (.n egExpr 7 (some .a))))]) (by kernel_rfl)
      ⟨fun e => by have e1 : x0 = [] := List.map_eq_nil_iff.1 e; subst e1; exact ⟨.refl _, .refl _⟩, ⟨rfl, by simpa using hc⟩, x0, ⟨by simp, by simp⟩, ⟨.refl _, .refl _⟩⟩
  · cases h
noncomputable def F_slices_Clone_api_Mono (x0 : List gMono) : Option (List gMono) := if List.length x0 * 24 ≤ 140737488355328 ∧ List.length x0 ≤ 9223372036854775807 then some x0 else none
theorem P_slices_Clone_api_Mono (x0 : List gMono) (r : List gMono) (h : F_slices_Clone_api_Mono x0 = some r) : PU 92 [eLgMono x0] (eLgMono r) := by
  unfold F_slices_Clone_api_Mono at h
  split at h
  · rename_i hc
    cases h
    exact Pu1 (φ := (List.map egMono x0 = [] → LeT .nil (.sl 2 (List.map egMono x0))) ∧ (0 = 0 ∧ (0 + List.length (List.map egMono x0)) * 24 ≤ 140737488355328 ∧ 0 + List.length (List.map egMono x0) ≤ 9223372036854775807) ∧ ∃ l, (List.map egMono l = [] ++ List.map egMono x0 ∧ List.length l = 0 + List.length (List.map egMono x0)) ∧ List.length l = List.length (List.map egMono l) ∧ LeT (.sl 2 (List.map egMono l)) (.sl 2 (List.map egMono x0)))
      (hs := [(4, .nn), (7, .z [{ slot := 5, own := 2 }] (some (.n egMono 7 (some .a))))]) (by kernel_rfl)
      ⟨fun e => by rw [e]; exact .nil 2, ⟨rfl, by simpa using hc⟩, x0, ⟨by simp, by simp⟩, ⟨by simp, .refl _⟩⟩
  · cases h
end Go.Proofs.YtfaenlhmhlabeaaGreatDoor
end
section
namespace Go.Proofs.YtfaenlhmhlabeaaGreatDoor
open Go HY
set_option maxRecDepth 1000000
set_option linter.unusedVariables false
def A_trace_Static_L4 (s : Unit) (u : ((List gExpr) × Int)) (o : Unit ⊕ Bool) : List Alt := [⟨fun (x : Unit) => (Sum.inl x : Unit ⊕ Bool) = o, .exit 0, fun x => [.undef], fun x => []⟩, ⟨fun (x : Bool) => (Sum.inr x : Unit ⊕ Bool) = o, .ret, fun x => [.bool x], fun x => []⟩]
mutual
noncomputable def F_trace_Static (x0 : gExprS) : Option Bool :=
 if x0.fOp == (3 : Int) then
 some false
 else
 some (List.length x0.fArgs : Int) >>= fun v0 =>
 some (x0.fArgs, v0) >>= fun v1 =>
 F_trace_Static_L4 x0.fArgs v0 (0 : Int) >>= fun v2 => (match v2 with
 | (.inl v3) =>
 some true
 | (.inr v4) =>
 some v4)
  partial_fixpoint
noncomputable def F_trace_Static_L4 (x9 : List gExpr) (x10 : Int) (x11 : Int) : Option (Unit ⊕ Bool) :=
 if x11 < x10 then
 Option.map gExpr.f (ix x9 x11) >>= fun v0 =>
 F_trace_Static v0 >>= fun v1 => if v1 then
 F_trace_Static_L4 x9 x10 (IntKind.i64.wrap (x11 + (1 : Int)))
 else
 some (.inr false)
 else
 some (.inl ())
  partial_fixpoint
end
theorem PM_trace_Static  : (∀ (x0 : gExprS) (r : Bool), F_trace_Static x0 = some r → PU 10 [hgExpr x0] (eB r)) ∧ (∀ (x9 : List gExpr) (x10 : Int) (x11 : Int) (o : Unit ⊕ Bool), F_trace_Static_L4 x9 x10 x11 = some o → LO 10 4 19 [9, 10, 11] [.sl 13 (List.map egExpr x9), .int .i64 x10, .int .i64 x11] [] [2] (A_trace_Static_L4 () (x9, x10) o)) :=
  F_trace_Static.mutual_partial_correctness  (fun x0 r => PU 10 [hgExpr x0] (eB r)) (fun x9 x10 x11 o => LO 10 4 19 [9, 10, 11] [.sl 13 (List.map egExpr x9), .int .i64 x10, .int .i64 x11] [] [2] (A_trace_Static_L4 () (x9, x10) o))
  (fun F_trace_Static_L4 ih_trace_Static_L4 x0 r h  =>
  Pu1 (hs := [(7, .split), (10, .n eI 10 none), (3000005, .l [] [9, 10, 11] [] [2] [] (A_trace_Static_L4 ()))]) (by kernel_rfl) ((kIf (c := x0.fOp == (3 : Int)) (kEr (enc := eB) false)
 (kN _ (mLen (sh := egExpr) x0.fArgs) fun v0 => (kL2 (x0.fArgs, v0) (hL := (ih_trace_Static_L4 x0.fArgs v0 (0 : Int))) (hA := fun v1 v3 => (kEr (enc := eB) true))
 (hB := fun v1 v4 => (kEr (enc := eB) v4))))) h))
  (fun F_trace_Static F_trace_Static_L4 ih_trace_Static ih_trace_Static_L4 x9 x10 x11 o h  =>
  Lp1 (hs := [(12, .split), (13, .e hgExpr), (16, .cb)]) (kb := []) (kbx := []) (by kernel_rfl) (by kernel_rfl) ((kIfD (p := x11 < x10) (kIxR (l := x9) (k := x11) egExpr_f fun v0 => (kCb (ih_trace_Static v0) (kM0 (alts := A_trace_Static_L4 () (x9, x10)) (ih_trace_Static_L4 x9 x10 (IntKind.i64.wrap (x11 + (1 : Int)))))
 (kX (alts := A_trace_Static_L4 () (x9, x10)) (.inr false) (.next (.here _ rfl (.refl _) (.refl _))))))
 (kX (alts := A_trace_Static_L4 () (x9, x10)) (.inl ()) (.here _ rfl (.refl _) (.refl _)))) h))
theorem P_trace_Static (x0 : gExprS) (r : Bool) (h : F_trace_Static x0 = some r) : PU 10 [hgExpr x0] (eB r) := (PM_trace_Static ).1 x0 r h
theorem P_trace_Static_L4 (x9 : List gExpr) (x10 : Int) (x11 : Int) (o : Unit ⊕ Bool) (h : F_trace_Static_L4 x9 x10 x11 = some o) : LO 10 4 19 [9, 10, 11] [.sl 13 (List.map egExpr x9), .int .i64 x10, .int .i64 x11] [] [2] (A_trace_Static_L4 () (x9, x10) o) := (PM_trace_Static ).2 x9 x10 x11 o h
def A_ref33_Static_L2 (s : gExprS) (u : Unit) (o : Unit ⊕ Bool) : List Alt := [⟨fun (x : Unit) => (Sum.inl x : Unit ⊕ Bool) = o, .exit 0, fun x => [.ptr 0 0 0, .undef], fun x => [.cells 0 (hgExpr s).cells]⟩, ⟨fun (x : Bool) => (Sum.inr x : Unit ⊕ Bool) = o, .ret, fun x => [.ptr 0 0 0, .bool x], fun x => [.cells 0 (hgExpr s).cells]⟩]
mutual
noncomputable def F_ref33_Static (x0 : gExprS) : Option Bool :=
 some () >>= fun v0 =>
 F_ref33_Static_L2 x0 (0 : Int) >>= fun v1 => (match v1 with
 | (.inl v2) =>
 some (x0.fOp != (3 : Int))
 | (.inr v3) =>
 some v3)
  partial_fixpoint
noncomputable def F_ref33_Static_L2 (x1 : gExprS) (x3 : Int) : Option (Unit ⊕ Bool) :=
 some (List.length x1.fArgs : Int) >>= fun v0 =>
 if x3 < v0 then
 Option.map gExpr.f (ix x1.fArgs x3) >>= fun v1 =>
 F_ref33_Static v1 >>= fun v2 => if v2 then
 F_ref33_Static_L2 x1 (IntKind.i64.wrap (x3 + (1 : Int)))
 else
 some (.inr false)
 else
 some (.inl ())
  partial_fixpoint
end
theorem PM_ref33_Static  : (∀ (x0 : gExprS) (r : Bool), F_ref33_Static x0 = some r → PU 11 [hgExpr x0] (eB r)) ∧ (∀ (x1 : gExprS) (x3 : Int) (o : Unit ⊕ Bool), F_ref33_Static_L2 x1 x3 = some o → LO 11 2 21 [1, 3] [.ptr 0 0 0, .int .i64 x3] [.cells 0 (hgExpr x1).cells] [1, 2] (A_ref33_Static_L2 x1 () o)) :=
  F_ref33_Static.mutual_partial_correctness  (fun x0 r => PU 11 [hgExpr x0] (eB r)) (fun x1 x3 o => LO 11 2 21 [1, 3] [.ptr 0 0 0, .int .i64 x3] [.cells 0 (hgExpr x1).cells] [1, 2] (A_ref33_Static_L2 x1 () o))
  (fun F_ref33_Static_L2 ih_ref33_Static_L2 x0 r h  =>
  Pu1 (hs := [(3000003, .l [] [1, 3] [{ slot := 1 }] [1, 2] [{ slot := 1 }] (A_ref33_Static_L2 x0))]) (by kernel_rfl) ((kL2 () (hL := (ih_ref33_Static_L2 x0 (0 : Int))) (hA := fun v0 v2 => (kEr (enc := eB) (x0.fOp != (3 : Int))))
 (hB := fun v0 v3 => (kEr (enc := eB) v3))) h))
  (fun F_ref33_Static F_ref33_Static_L2 ih_ref33_Static ih_ref33_Static_L2 x1 x3 o h  =>
  Lp1 (hs := [(7, .n eI 7 none), (8, .split), (14, .e hgExpr), (16, .cb)]) (kb := [{ slot := 1 }]) (kbx := [{ slot := 1 }]) (by kernel_rfl) (by kernel_rfl) ((kN _ (mLen (sh := egExpr) x1.fArgs) fun v0 => (kIfD (p := x3 < v0) (kIxR (l := x1.fArgs) (k := x3) egExpr_f fun v1 => (kCb (ih_ref33_Static v1) (kM0 (alts := A_ref33_Static_L2 x1 ()) (ih_ref33_Static_L2 x1 (IntKind.i64.wrap (x3 + (1 : Int)))))
 (kX (alts := A_ref33_Static_L2 x1 ()) (.inr false) (.next (.here _ rfl (.refl _) (.refl _))))))
 (kX (alts := A_ref33_Static_L2 x1 ()) (.inl ()) (.here _ rfl (.refl _) (.refl _))))) h))
theorem P_ref33_Static (x0 : gExprS) (r : Bool) (h : F_ref33_Static x0 = some r) : PU 11 [hgExpr x0] (eB r) := (PM_ref33_Static ).1 x0 r h
theorem P_ref33_Static_L2 (x1 : gExprS) (x3 : Int) (o : Unit ⊕ Bool) (h : F_ref33_Static_L2 x1 x3 = some o) : LO 11 2 21 [1, 3] [.ptr 0 0 0, .int .i64 x3] [.cells 0 (hgExpr x1).cells] [1, 2] (A_ref33_Static_L2 x1 () o) := (PM_ref33_Static ).2 x1 x3 o h
def A_lin_reserved_J6000004 (s : Unit) (u : Unit) (o : Bool) : List Alt := [⟨fun (x : Unit) => true = o, .normal, fun x => [.bool true], fun x => []⟩, ⟨fun (x : Unit) => false = o, .normal, fun x => [.bool false], fun x => []⟩]
noncomputable def F_lin_reserved (x0 : Str) : Option Bool :=
 some () >>= fun v0 =>
 (if x0 == [(115 : UInt8), (105 : UInt8), (122 : UInt8), (101 : UInt8)] then
 some true
 else
 if x0 == [(119 : UInt8), (104 : UInt8), (101 : UInt8), (114 : UInt8), (101 : UInt8)] then
 some true
 else
 if x0 == [(105 : UInt8), (110 : UInt8)] then
 some true
 else
 if x0 == [(100 : UInt8), (101 : UInt8), (102 : UInt8)] then
 some true
 else
 if x0 == [(111 : UInt8), (117 : UInt8), (116 : UInt8)] then
 some true
 else
 if x0 == [(115 : UInt8), (117 : UInt8), (109 : UInt8)] then
 some true
 else
 if x0 == [(112 : UInt8), (114 : UInt8), (111 : UInt8), (100 : UInt8)] then
 some true
 else
 if x0 == [(109 : UInt8), (105 : UInt8), (110 : UInt8)] then
 some true
 else
 if x0 == [(109 : UInt8), (97 : UInt8), (120 : UInt8)] then
 some true
 else
 if x0 == [(115 : UInt8), (99 : UInt8), (97 : UInt8), (110 : UInt8)] then
 some true
 else
 if x0 == [(111 : UInt8), (118 : UInt8), (101 : UInt8), (114 : UInt8)] then
 some true
 else
 if x0 == [(105 : UInt8), (102 : UInt8)] then
 some true
 else
 if x0 == [(99 : UInt8), (97 : UInt8), (115 : UInt8), (116 : UInt8)] then
 some true
 else
 if x0 == [(102 : UInt8), (114 : UInt8), (97 : UInt8), (99 : UInt8)] then
 some true
 else
 if x0 == [(105 : UInt8), (110 : UInt8), (116 : UInt8)] then
 some true
 else
 if x0 == [(102 : UInt8), (105 : UInt8), (120 : UInt8)] then
 some true
 else
 if x0 == [(99 : UInt8), (101 : UInt8), (105 : UInt8), (108 : UInt8)] then
 some true
 else
 if x0 == [(102 : UInt8), (108 : UInt8), (111 : UInt8), (111 : UInt8), (114 : UInt8)] then
 some true
 else
 if x0 == [(122 : UInt8), (101 : UInt8), (114 : UInt8), (111 : UInt8)] then
 some true
 else
 if x0 == [(101 : UInt8), (118 : UInt8), (101 : UInt8), (110 : UInt8)] then
 some true
 else
 if x0 == [(115 : UInt8), (97 : UInt8), (116 : UInt8)] then
 some true
 else
 if x0 == [(119 : UInt8), (114 : UInt8), (97 : UInt8), (112 : UInt8)] then
 some true
 else
 some false) >>= fun v1 => if v1 then
 some true
 else
 some false
theorem P_lin_reserved (x0 : Str) (r : Bool) (h : F_lin_reserved x0 = some r) : PU 96 [eS x0] (eB r) :=
  Pu1 (hs := [(4, .split), (4, .split), (4, .split), (4, .split), (4, .split), (4, .split), (4, .split), (4, .split), (4, .split), (4, .split), (4, .split), (4, .split), (4, .split), (4, .split), (4, .split), (4, .split), (4, .split), (4, .split), (4, .split), (4, .split), (4, .split), (4, .split), (6000004, .l [] [] [] [4] [] (A_lin_reserved_J6000004 ()))]) (by kernel_rfl) ((kJb (id := 6000004) () (fun v0 ev0 v1 => (kIf (c := x0 == [(115 : UInt8), (105 : UInt8), (122 : UInt8), (101 : UInt8)]) (kXj (alts := A_lin_reserved_J6000004 ()) ev0 true (.here () rfl (.refl _) (.refl _)))
 (kIf (c := x0 == [(119 : UInt8), (104 : UInt8), (101 : UInt8), (114 : UInt8), (101 : UInt8)]) (kXj (alts := A_lin_reserved_J6000004 ()) ev0 true (.here () rfl (.refl _) (.refl _)))
 (kIf (c := x0 == [(105 : UInt8), (110 : UInt8)]) (kXj (alts := A_lin_reserved_J6000004 ()) ev0 true (.here () rfl (.refl _) (.refl _)))
 (kIf (c := x0 == [(100 : UInt8), (101 : UInt8), (102 : UInt8)]) (kXj (alts := A_lin_reserved_J6000004 ()) ev0 true (.here () rfl (.refl _) (.refl _)))
 (kIf (c := x0 == [(111 : UInt8), (117 : UInt8), (116 : UInt8)]) (kXj (alts := A_lin_reserved_J6000004 ()) ev0 true (.here () rfl (.refl _) (.refl _)))
 (kIf (c := x0 == [(115 : UInt8), (117 : UInt8), (109 : UInt8)]) (kXj (alts := A_lin_reserved_J6000004 ()) ev0 true (.here () rfl (.refl _) (.refl _)))
 (kIf (c := x0 == [(112 : UInt8), (114 : UInt8), (111 : UInt8), (100 : UInt8)]) (kXj (alts := A_lin_reserved_J6000004 ()) ev0 true (.here () rfl (.refl _) (.refl _)))
 (kIf (c := x0 == [(109 : UInt8), (105 : UInt8), (110 : UInt8)]) (kXj (alts := A_lin_reserved_J6000004 ()) ev0 true (.here () rfl (.refl _) (.refl _)))
 (kIf (c := x0 == [(109 : UInt8), (97 : UInt8), (120 : UInt8)]) (kXj (alts := A_lin_reserved_J6000004 ()) ev0 true (.here () rfl (.refl _) (.refl _)))
 (kIf (c := x0 == [(115 : UInt8), (99 : UInt8), (97 : UInt8), (110 : UInt8)]) (kXj (alts := A_lin_reserved_J6000004 ()) ev0 true (.here () rfl (.refl _) (.refl _)))
 (kIf (c := x0 == [(111 : UInt8), (118 : UInt8), (101 : UInt8), (114 : UInt8)]) (kXj (alts := A_lin_reserved_J6000004 ()) ev0 true (.here () rfl (.refl _) (.refl _)))
 (kIf (c := x0 == [(105 : UInt8), (102 : UInt8)]) (kXj (alts := A_lin_reserved_J6000004 ()) ev0 true (.here () rfl (.refl _) (.refl _)))
 (kIf (c := x0 == [(99 : UInt8), (97 : UInt8), (115 : UInt8), (116 : UInt8)]) (kXj (alts := A_lin_reserved_J6000004 ()) ev0 true (.here () rfl (.refl _) (.refl _)))
 (kIf (c := x0 == [(102 : UInt8), (114 : UInt8), (97 : UInt8), (99 : UInt8)]) (kXj (alts := A_lin_reserved_J6000004 ()) ev0 true (.here () rfl (.refl _) (.refl _)))
 (kIf (c := x0 == [(105 : UInt8), (110 : UInt8), (116 : UInt8)]) (kXj (alts := A_lin_reserved_J6000004 ()) ev0 true (.here () rfl (.refl _) (.refl _)))
 (kIf (c := x0 == [(102 : UInt8), (105 : UInt8), (120 : UInt8)]) (kXj (alts := A_lin_reserved_J6000004 ()) ev0 true (.here () rfl (.refl _) (.refl _)))
 (kIf (c := x0 == [(99 : UInt8), (101 : UInt8), (105 : UInt8), (108 : UInt8)]) (kXj (alts := A_lin_reserved_J6000004 ()) ev0 true (.here () rfl (.refl _) (.refl _)))
 (kIf (c := x0 == [(102 : UInt8), (108 : UInt8), (111 : UInt8), (111 : UInt8), (114 : UInt8)]) (kXj (alts := A_lin_reserved_J6000004 ()) ev0 true (.here () rfl (.refl _) (.refl _)))
 (kIf (c := x0 == [(122 : UInt8), (101 : UInt8), (114 : UInt8), (111 : UInt8)]) (kXj (alts := A_lin_reserved_J6000004 ()) ev0 true (.here () rfl (.refl _) (.refl _)))
 (kIf (c := x0 == [(101 : UInt8), (118 : UInt8), (101 : UInt8), (110 : UInt8)]) (kXj (alts := A_lin_reserved_J6000004 ()) ev0 true (.here () rfl (.refl _) (.refl _)))
 (kIf (c := x0 == [(115 : UInt8), (97 : UInt8), (116 : UInt8)]) (kXj (alts := A_lin_reserved_J6000004 ()) ev0 true (.here () rfl (.refl _) (.refl _)))
 (kIf (c := x0 == [(119 : UInt8), (114 : UInt8), (97 : UInt8), (112 : UInt8)]) (kXj (alts := A_lin_reserved_J6000004 ()) ev0 true (.here () rfl (.refl _) (.refl _)))
 (kXj (alts := A_lin_reserved_J6000004 ()) ev0 false (.next (.here () rfl (.refl _) (.refl _)))))))))))))))))))))))))))
 (fun v0 => (kEr (enc := eB) true))
 (fun v0 => (kEr (enc := eB) false))) h)
def A_lin_identifier_L4 (s : Str) (u : Int) (o : Unit ⊕ Bool) : List Alt := [⟨fun (x : Unit) => (Sum.inl x : Unit ⊕ Bool) = o, .exit 0, fun x => [.undef], fun x => []⟩, ⟨fun (x : Bool) => (Sum.inr x : Unit ⊕ Bool) = o, .ret, fun x => [.bool x], fun x => []⟩]
def A_lin_identifier_J5000007 (s : (Str × Int)) (u : Int) (o : Bool) : List Alt := [⟨fun (x : Unit) => true = o, .normal, fun x => [.str (s.1), .int .i64 (s.2), .int .i64 u, .bool true], fun x => []⟩, ⟨fun (x : Unit) => false = o, .normal, fun x => [.str (s.1), .int .i64 (s.2), .int .i64 u, .bool false], fun x => []⟩]
noncomputable def F_lin_identifier_L4 (x0 : Str) (x28 : Int) (x29 : Int) : Option (Unit ⊕ Bool) :=
 if x29 < x28 then
 ix x0 x29 >>= fun v0 =>
 some x29 >>= fun v1 =>
 (if (↑v0.toNat : Int) < (97 : Int) then
 if (↑v0.toNat : Int) < (48 : Int) then
 if (↑v0.toNat : Int) != (95 : Int) then
 some true
 else
 some false
 else
 if (57 : Int) < (↑v0.toNat : Int) then
 if (↑v0.toNat : Int) != (95 : Int) then
 some true
 else
 some false
 else
 some false
 else
 if (122 : Int) < (↑v0.toNat : Int) then
 if (↑v0.toNat : Int) < (48 : Int) then
 if (↑v0.toNat : Int) != (95 : Int) then
 some true
 else
 some false
 else
 if (57 : Int) < (↑v0.toNat : Int) then
 if (↑v0.toNat : Int) != (95 : Int) then
 some true
 else
 some false
 else
 some false
 else
 some false) >>= fun v2 => if v2 then
 some (.inr false)
 else
 F_lin_identifier_L4 x0 x28 (IntKind.i64.wrap (v1 + (1 : Int)))
 else
 some (.inl ())
  partial_fixpoint
theorem P_lin_identifier_L4 (x0 : Str) (x28 : Int) (x29 : Int) (o : Unit ⊕ Bool) (h : F_lin_identifier_L4 x0 x28 x29 = some o) : LO 74 4 54 [0, 28, 29] [.str x0, .int .i64 x28, .int .i64 x29] [] [2] (A_lin_identifier_L4 x0 x28 o) :=
  F_lin_identifier_L4.partial_correctness x0 x28 (fun x29 o => LO 74 4 54 [0, 28, 29] [.str x0, .int .i64 x28, .int .i64 x29] [] [2] (A_lin_identifier_L4 x0 x28 o))
  (fun F_lin_identifier_L4 ih_lin_identifier_L4 x29 o h  =>
  Lp1 (hs := [(30, .split), (34, .u), (36, .split), (39, .split), (43, .split), (46, .split), (51, .split), (5000007, .l [] [] [] [0, 28, 29, 52] [] (A_lin_identifier_J5000007 (x0, x28)))]) (kb := []) (kbx := []) (by kernel_rfl) (by kernel_rfl) ((kIfD (p := x29 < x28) (kU (s := x0) (k := x29) fun v0 => (kJb (id := 5000007) x29 (fun v1 ev1 v2 => (kIfD (p := (↑v0.toNat : Int) < (97 : Int)) (kIfD (p := (↑v0.toNat : Int) < (48 : Int)) (kIf (c := (↑v0.toNat : Int) != (95 : Int)) (kXj (alts := A_lin_identifier_J5000007 (x0, x28)) ev1 true (.here () rfl (.refl _) (.refl _)))
 (kXj (alts := A_lin_identifier_J5000007 (x0, x28)) ev1 false (.next (.here () rfl (.refl _) (.refl _)))))
 (kIfD (p := (57 : Int) < (↑v0.toNat : Int)) (kIf (c := (↑v0.toNat : Int) != (95 : Int)) (kXj (alts := A_lin_identifier_J5000007 (x0, x28)) ev1 true (.here () rfl (.refl _) (.refl _)))
 (kXj (alts := A_lin_identifier_J5000007 (x0, x28)) ev1 false (.next (.here () rfl (.refl _) (.refl _)))))
 (kXj (alts := A_lin_identifier_J5000007 (x0, x28)) ev1 false (.next (.here () rfl (.refl _) (.refl _))))))
 (kIfD (p := (122 : Int) < (↑v0.toNat : Int)) (kIfD (p := (↑v0.toNat : Int) < (48 : Int)) (kIf (c := (↑v0.toNat : Int) != (95 : Int)) (kXj (alts := A_lin_identifier_J5000007 (x0, x28)) ev1 true (.here () rfl (.refl _) (.refl _)))
 (kXj (alts := A_lin_identifier_J5000007 (x0, x28)) ev1 false (.next (.here () rfl (.refl _) (.refl _)))))
 (kIfD (p := (57 : Int) < (↑v0.toNat : Int)) (kIf (c := (↑v0.toNat : Int) != (95 : Int)) (kXj (alts := A_lin_identifier_J5000007 (x0, x28)) ev1 true (.here () rfl (.refl _) (.refl _)))
 (kXj (alts := A_lin_identifier_J5000007 (x0, x28)) ev1 false (.next (.here () rfl (.refl _) (.refl _)))))
 (kXj (alts := A_lin_identifier_J5000007 (x0, x28)) ev1 false (.next (.here () rfl (.refl _) (.refl _))))))
 (kXj (alts := A_lin_identifier_J5000007 (x0, x28)) ev1 false (.next (.here () rfl (.refl _) (.refl _)))))))
 (fun v1 => (kX (alts := A_lin_identifier_L4 x0 x28) (.inr false) (.next (.here _ rfl (.refl _) (.refl _)))))
 (fun v1 => (kM0 (alts := A_lin_identifier_L4 x0 x28) (ih_lin_identifier_L4 (IntKind.i64.wrap (v1 + (1 : Int))))))))
 (kX (alts := A_lin_identifier_L4 x0 x28) (.inl ()) (.here _ rfl (.refl _) (.refl _)))) h)) x29 o h
def A_lin_identifier_J5000001 (s : Str) (u : Unit) (o : Bool) : List Alt := [⟨fun (x : Unit) => true = o, .normal, fun x => [.str s, .bool true], fun x => []⟩, ⟨fun (x : Unit) => false = o, .normal, fun x => [.str s, .bool false], fun x => []⟩]
noncomputable def F_lin_identifier (x0 : Str) : Option Bool :=
 some () >>= fun v0 =>
 (if (↑(List.length x0) : Int) < (1 : Int) then
 some true
 else
 if (16 : Int) < (↑(List.length x0) : Int) then
 some true
 else
 F_lin_reserved x0 >>= fun v2 => if v2 then
 some true
 else
 ix x0 (0 : Int) >>= fun v3 =>
 if (↑v3.toNat : Int) < (97 : Int) then
 some true
 else
 ix x0 (0 : Int) >>= fun v4 =>
 if (122 : Int) < (↑v4.toNat : Int) then
 some true
 else
 some false) >>= fun v1 => if v1 then
 some false
 else
 some (↑(List.length x0) : Int) >>= fun v7 =>
 F_lin_identifier_L4 x0 (↑(List.length x0) : Int) (0 : Int) >>= fun v8 => (match v8 with
 | (.inl v9) =>
 some true
 | (.inr v10) =>
 some v10)
theorem P_lin_identifier (x0 : Str) (r : Bool) (h : F_lin_identifier x0 = some r) : PU 74 [eS x0] (eB r) :=
  Pu1 (hs := [(7, .split), (11, .split), (15, .cb), (19, .u), (20, .split), (24, .u), (25, .split), (3000005, .l [] [0, 28, 29] [] [2] [] (A_lin_identifier_L4 x0)), (5000001, .l [] [] [] [0, 26] [] (A_lin_identifier_J5000001 x0))]) (by kernel_rfl) ((kJb (id := 5000001) () (fun v0 ev0 v1 => (kIfD (p := (↑(List.length x0) : Int) < (1 : Int)) (kXj (alts := A_lin_identifier_J5000001 x0) ev0 true (.here () rfl (.refl _) (.refl _)))
 (kIfD (p := (16 : Int) < (↑(List.length x0) : Int)) (kXj (alts := A_lin_identifier_J5000001 x0) ev0 true (.here () rfl (.refl _) (.refl _)))
 (kCb (P_lin_reserved x0) (kXj (alts := A_lin_identifier_J5000001 x0) ev0 true (.here () rfl (.refl _) (.refl _)))
 (kU (s := x0) (k := (0 : Int)) fun v3 => (kIfD (p := (↑v3.toNat : Int) < (97 : Int)) (kXj (alts := A_lin_identifier_J5000001 x0) ev0 true (.here () rfl (.refl _) (.refl _)))
 (kU (s := x0) (k := (0 : Int)) fun v4 => (kIfD (p := (122 : Int) < (↑v4.toNat : Int)) (kXj (alts := A_lin_identifier_J5000001 x0) ev0 true (.here () rfl (.refl _) (.refl _)))
 (kXj (alts := A_lin_identifier_J5000001 x0) ev0 false (.next (.here () rfl (.refl _) (.refl _))))))))))))
 (fun v0 => (kEr (enc := eB) false))
 (fun v0 => (kL2 (↑(List.length x0) : Int) (hL := (P_lin_identifier_L4 x0 (↑(List.length x0) : Int) (0 : Int))) (hA := fun v7 v9 => (kEr (enc := eB) true))
 (hB := fun v7 v10 => (kEr (enc := eB) v10))))) h)
def A_lin_Validate_L2 (s : gLin) (u : ((List gMono) × Int)) (o : Unit ⊕ Int) : List Alt := [⟨fun (x : Unit) => (Sum.inl x : Unit ⊕ Int) = o, .exit 0, fun x => [.undef], fun x => []⟩, ⟨fun (x : Int) => (Sum.inr x : Unit ⊕ Int) = o, .ret, fun x => [.int .i64 x], fun x => []⟩]
def A_lin_Validate_J5000004 (s : (gLin × (List gMono) × Int)) (u : Int) (o : Bool) : List Alt := [⟨fun (x : Unit) => true = o, .normal, fun x => [.ptr 0 0 0, .sl 2 (List.map egMono (s.2.1)), .int .i64 (s.2.2), .int .i64 u, .bool true], fun x => [.cells 0 (egLin (s.1)).cells]⟩, ⟨fun (x : Unit) => false = o, .normal, fun x => [.ptr 0 0 0, .sl 2 (List.map egMono (s.2.1)), .int .i64 (s.2.2), .int .i64 u, .bool false], fun x => [.cells 0 (egLin (s.1)).cells]⟩]
noncomputable def F_lin_Validate_L2 (x1 : gLin) (x6 : List gMono) (x7 : Int) (x8 : Int) : Option (Unit ⊕ Int) :=
 if x8 < x7 then
 ix x6 x8 >>= fun v0 =>
 some x8 >>= fun v1 =>
 (F_lin_identifier v0.fName >>= fun v3 => if v3 then
 if v0.fBy == (0 : Int) then
 some true
 else
 if (0 : Int) < x8 then
 ix x1.fL (IntKind.i64.wrap (x8 - (1 : Int))) >>= fun v4 =>
 if !Op.bytesLess v4.fName v0.fName then
 some true
 else
 some false
 else
 some false
 else
 some true) >>= fun v2 => if v2 then
 some (.inr (1 : Int))
 else
 F_lin_Validate_L2 x1 x6 x7 (IntKind.i64.wrap (v1 + (1 : Int)))
 else
 some (.inl ())
  partial_fixpoint
theorem P_lin_Validate_L2 (x1 : gLin) (x6 : List gMono) (x7 : Int) (x8 : Int) (o : Unit ⊕ Int) (h : F_lin_Validate_L2 x1 x6 x7 x8 = some o) : LO 73 2 39 [1, 6, 7, 8] [.ptr 0 0 0, .sl 2 (List.map egMono x6), .int .i64 x7, .int .i64 x8] [.cells 0 (egLin x1).cells] [2] (A_lin_Validate_L2 x1 (x6, x7) o) :=
  F_lin_Validate_L2.partial_correctness x1 x6 x7 (fun x8 o => LO 73 2 39 [1, 6, 7, 8] [.ptr 0 0 0, .sl 2 (List.map egMono x6), .int .i64 x7, .int .i64 x8] [.cells 0 (egLin x1).cells] [2] (A_lin_Validate_L2 x1 (x6, x7) o))
  (fun F_lin_Validate_L2 ih_lin_Validate_L2 x8 o h  =>
  Lp1 (hs := [(9, .split), (11, .e egMono), (15, .cb), (20, .split), (24, .split), (30, .e egMono), (35, .split), (5000004, .l [] [] [] [1, 6, 7, 8, 37] [{ slot := 1 }] (A_lin_Validate_J5000004 (x1, x6, x7)))]) (kb := [{ slot := 1 }]) (kbx := []) (by kernel_rfl) (by kernel_rfl) ((kIfD (p := x8 < x7) (kIx (enc := egMono) (l := x6) (k := x8) fun v0 => (kJb (id := 5000004) x8 (fun v1 ev1 v2 => (kCb (P_lin_identifier v0.fName) (kIf (c := v0.fBy == (0 : Int)) (kXj (alts := A_lin_Validate_J5000004 (x1, x6, x7)) ev1 true (.here () rfl (.refl _) (.refl _)))
 (kIfD (p := (0 : Int) < x8) (kIx (enc := egMono) (l := x1.fL) (k := IntKind.i64.wrap (x8 - (1 : Int))) fun v4 => (kIf (c := !Op.bytesLess v4.fName v0.fName) (kXj (alts := A_lin_Validate_J5000004 (x1, x6, x7)) ev1 true (.here () rfl (.refl _) (.refl _)))
 (kXj (alts := A_lin_Validate_J5000004 (x1, x6, x7)) ev1 false (.next (.here () rfl (.refl _) (.refl _))))))
 (kXj (alts := A_lin_Validate_J5000004 (x1, x6, x7)) ev1 false (.next (.here () rfl (.refl _) (.refl _))))))
 (kXj (alts := A_lin_Validate_J5000004 (x1, x6, x7)) ev1 true (.here () rfl (.refl _) (.refl _)))))
 (fun v1 => (kX (alts := A_lin_Validate_L2 x1 (x6, x7)) (.inr (1 : Int)) (.next (.here _ rfl (.refl _) (.refl _)))))
 (fun v1 => (kM0 (alts := A_lin_Validate_L2 x1 (x6, x7)) (ih_lin_Validate_L2 (IntKind.i64.wrap (v1 + (1 : Int))))))))
 (kX (alts := A_lin_Validate_L2 x1 (x6, x7)) (.inl ()) (.here _ rfl (.refl _) (.refl _)))) h)) x8 o h
noncomputable def F_lin_Validate (x0 : gLin) : Option Int :=
 some (List.length x0.fL : Int) >>= fun v0 =>
 some (x0.fL, v0) >>= fun v1 =>
 F_lin_Validate_L2 x0 x0.fL v0 (0 : Int) >>= fun v2 => (match v2 with
 | (.inl v3) =>
 some (0 : Int)
 | (.inr v4) =>
 some v4)
theorem P_lin_Validate (x0 : gLin) (r : Int) (h : F_lin_Validate x0 = some r) : PU 73 [egLin x0] (eI r) :=
  Pu1 (hs := [(7, .n eI 7 none), (3000003, .l [] [1, 6, 7, 8] [{ slot := 1 }] [2] [] (A_lin_Validate_L2 x0))]) (by kernel_rfl) ((kN _ (mLen (sh := egMono) x0.fL) fun v0 => (kL2 (x0.fL, v0) (hL := (P_lin_Validate_L2 x0 x0.fL v0 (0 : Int))) (hA := fun v1 v3 => (kEr (enc := eI) (0 : Int)))
 (hB := fun v1 v4 => (kEr (enc := eI) v4)))) h)
noncomputable def F_lin_magnitude (x0 : Int) : Option Int :=
 if x0 < (0 : Int) then
 some (IntKind.u64.wrap ((0 : Int) - IntKind.u64.wrap x0))
 else
 some (IntKind.u64.wrap x0)
theorem P_lin_magnitude (x0 : Int) (r : Int) (h : F_lin_magnitude x0 = some r) : PU 126 [eI x0] (eU64 r) :=
  Pu1 (hs := [(4, .split)]) (by kernel_rfl) ((kIfD (p := x0 < (0 : Int)) (kEr (enc := eU64) (IntKind.u64.wrap ((0 : Int) - IntKind.u64.wrap x0)))
 (kEr (enc := eU64) (IntKind.u64.wrap x0))) h)
noncomputable def F_lin_product (x0 : Int) (x1 : Int) : Option (Int × Int) :=
 if (0 : Int) ≤ (32 : Int) then
 if (0 : Int) ≤ (32 : Int) then
 some (IntKind.u64.wrap (IntKind.u64.wrap (x0.fdiv ((2 : Int) ^ (32 : Nat)) * IntKind.u64.wrap (↑(BitVec.ofInt (64 : Nat) x1 &&& BitVec.ofInt (64 : Nat) (4294967295 : Int)).toNat : Int)) + (IntKind.u64.wrap (IntKind.u64.wrap (↑(BitVec.ofInt (64 : Nat) x0 &&& BitVec.ofInt (64 : Nat) (4294967295 : Int)).toNat : Int) * IntKind.u64.wrap (↑(BitVec.ofInt (64 : Nat) x1 &&& BitVec.ofInt (64 : Nat) (4294967295 : Int)).toNat : Int))).fdiv ((2 : Int) ^ (32 : Nat))) : Int) >>= fun v0 =>
 if (0 : Int) ≤ (32 : Int) then
 if (0 : Int) ≤ (32 : Int) then
 if (0 : Int) ≤ (32 : Int) then
 if (0 : Int) ≤ (32 : Int) then
 if (0 : Int) ≤ (32 : Int) then
 some ((IntKind.u64.wrap (IntKind.u64.wrap (IntKind.u64.wrap (x0.fdiv ((2 : Int) ^ (32 : Nat)) * x1.fdiv ((2 : Int) ^ (32 : Nat))) + v0.fdiv ((2 : Int) ^ (32 : Nat))) + (IntKind.u64.wrap (IntKind.u64.wrap (IntKind.u64.wrap (↑(BitVec.ofInt (64 : Nat) x0 &&& BitVec.ofInt (64 : Nat) (4294967295 : Int)).toNat : Int) * x1.fdiv ((2 : Int) ^ (32 : Nat))) + IntKind.u64.wrap (↑(BitVec.ofInt (64 : Nat) v0 &&& BitVec.ofInt (64 : Nat) (4294967295 : Int)).toNat : Int))).fdiv ((2 : Int) ^ (32 : Nat)))), (IntKind.u64.wrap (x0 * x1)))
 else none
 else none
 else none
 else none
 else none
 else none
 else none
theorem P_lin_product (x0 : Int) (x1 : Int) (r : (Int × Int)) (h : F_lin_product x0 x1 = some r) : PU 125 [eU64 x0, eU64 x1] (eT_U64_U64 r) :=
  Pu1 (hs := [(15, .s), (20, .s), (7, .n eU64 7 none), (25, .s), (31, .s), (33, .s), (36, .s), (39, .s)]) (by kernel_rfl) ((kG (p := (0 : Int) ≤ (32 : Int)) (kG (p := (0 : Int) ≤ (32 : Int)) (kN (IntKind.u64.wrap (IntKind.u64.wrap (x0.fdiv ((2 : Int) ^ (32 : Nat)) * IntKind.u64.wrap (↑(BitVec.ofInt (64 : Nat) x1 &&& BitVec.ofInt (64 : Nat) (4294967295 : Int)).toNat : Int)) + (IntKind.u64.wrap (IntKind.u64.wrap (↑(BitVec.ofInt (64 : Nat) x0 &&& BitVec.ofInt (64 : Nat) (4294967295 : Int)).toNat : Int) * IntKind.u64.wrap (↑(BitVec.ofInt (64 : Nat) x1 &&& BitVec.ofInt (64 : Nat) (4294967295 : Int)).toNat : Int))).fdiv ((2 : Int) ^ (32 : Nat)))) rfl fun v0 => (kG (p := (0 : Int) ≤ (32 : Int)) (kG (p := (0 : Int) ≤ (32 : Int)) (kG (p := (0 : Int) ≤ (32 : Int)) (kG (p := (0 : Int) ≤ (32 : Int)) (kG (p := (0 : Int) ≤ (32 : Int)) (kEr (enc := eT_U64_U64) ((IntKind.u64.wrap (IntKind.u64.wrap (IntKind.u64.wrap (x0.fdiv ((2 : Int) ^ (32 : Nat)) * x1.fdiv ((2 : Int) ^ (32 : Nat))) + v0.fdiv ((2 : Int) ^ (32 : Nat))) + (IntKind.u64.wrap (IntKind.u64.wrap (IntKind.u64.wrap (↑(BitVec.ofInt (64 : Nat) x0 &&& BitVec.ofInt (64 : Nat) (4294967295 : Int)).toNat : Int) * x1.fdiv ((2 : Int) ^ (32 : Nat))) + IntKind.u64.wrap (↑(BitVec.ofInt (64 : Nat) v0 &&& BitVec.ofInt (64 : Nat) (4294967295 : Int)).toNat : Int))).fdiv ((2 : Int) ^ (32 : Nat)))), (IntKind.u64.wrap (x0 * x1)))))))))))) h)
def A_lin_times_J5000003 (s : Unit) (u : (Int × Bool)) (o : Bool) : List Alt := [⟨fun (x : Unit) => true = o, .normal, fun x => [.int .u64 (u.1), .bool (u.2), .bool true], fun x => []⟩, ⟨fun (x : Unit) => false = o, .normal, fun x => [.int .u64 (u.1), .bool (u.2), .bool false], fun x => []⟩]
noncomputable def F_lin_times (x0 : Int) (x1 : Int) : Option (Int × Bool) :=
 F_lin_magnitude x0 >>= fun v0 =>
 F_lin_magnitude x1 >>= fun v1 =>
 F_lin_product v0 v1 >>= fun v2 =>
 some (v2.snd, (!decide (x0 < (0 : Int)) == decide (x1 < (0 : Int)))) >>= fun v3 =>
 (if v2.fst != (0 : Int) then
 some true
 else
 if (9223372036854775808 : Int) < v2.snd then
 some true
 else
 if v2.snd == (9223372036854775808 : Int) then
 if !decide (x0 < (0 : Int)) == decide (x1 < (0 : Int)) then
 some false
 else
 some true
 else
 some false) >>= fun v4 => if v4 then
 some ((0 : Int), false)
 else
 if v3.snd then
 some ((IntKind.i64.wrap (IntKind.u64.wrap ((0 : Int) - v3.fst))), true)
 else
 some ((IntKind.i64.wrap v3.fst), true)
theorem P_lin_times (x0 : Int) (x1 : Int) (r : (Int × Bool)) (h : F_lin_times x0 x1 = some r) : PU 97 [eI x0, eI x1] (eT_I_B r) :=
  Pu1 (hs := [(11, .c eU64), (13, .c eU64), (14, .c eT_U64_U64), (24, .split), (27, .split), (31, .split), (33, .split), (38, .split), (5000003, .l [] [] [] [7, 8, 22] [] (A_lin_times_J5000003 ()))]) (by kernel_rfl) ((kC (sh := eU64) (P_lin_magnitude x0) fun v0 => (kC (sh := eU64) (P_lin_magnitude x1) fun v1 => (kC (sh := eT_U64_U64) (P_lin_product v0 v1) fun v2 => (kJb (id := 5000003) (v2.snd, (!decide (x0 < (0 : Int)) == decide (x1 < (0 : Int)))) (fun v3 ev3 v4 => (kIf (c := v2.fst != (0 : Int)) (kXj (alts := A_lin_times_J5000003 ()) ev3 true (.here () rfl (.refl _) (.refl _)))
 (kIfD (p := (9223372036854775808 : Int) < v2.snd) (kXj (alts := A_lin_times_J5000003 ()) ev3 true (.here () rfl (.refl _) (.refl _)))
 (kIf (c := v2.snd == (9223372036854775808 : Int)) (kIf (c := !decide (x0 < (0 : Int)) == decide (x1 < (0 : Int))) (kXj (alts := A_lin_times_J5000003 ()) ev3 false (.next (.here () rfl (.refl _) (.refl _))))
 (kXj (alts := A_lin_times_J5000003 ()) ev3 true (.here () rfl (.refl _) (.refl _))))
 (kXj (alts := A_lin_times_J5000003 ()) ev3 false (.next (.here () rfl (.refl _) (.refl _))))))))
 (fun v3 => (kEr (enc := eT_I_B) ((0 : Int), false)))
 (fun v3 => (kIf (c := v3.snd) (kEr (enc := eT_I_B) ((IntKind.i64.wrap (IntKind.u64.wrap ((0 : Int) - v3.fst))), true))
 (kEr (enc := eT_I_B) ((IntKind.i64.wrap v3.fst), true)))))))) h)
def A_lin_Scale_L8 (s : Int) (u : (gLin × (List gMono) × Int)) (o : (Bool × gLin)) : List Alt := [⟨fun (x : (Bool × gLin)) => x = o, .exit 0, fun x => [.ptr 0 0 0, .bool x.1, .ptr 1 0 0], fun x => [.cells 0 (egLin u.1).cells, .cells 0 [.int .i64 x.2.fK, .ow 2 0 2 (List.length x.2.fL)], .own 0 2 (List.map egMono x.2.fL)]⟩]
def A_lin_Scale_J5000011 (s : (Int × gLin × (List gMono) × Int)) (u : (gLin × gMono × Int × Int)) (o : Bool) : List Alt := [⟨fun (x : Bool) => x = o, .normal, fun x => [.int .i64 (s.1), .ptr 0 0 0, .bool x, .ptr 1 0 0, .ptr 3 0 0, .int .i64 (u.2.2.1), .sl 2 (List.map egMono (s.2.2.1)), .int .i64 (s.2.2.2), .int .i64 (u.2.2.2)], fun x => [.cells 0 (egLin (s.2.1)).cells, .cells 0 [.int .i64 (u.1).fK, .ow 2 0 2 (List.length ((u.1).fL))], .own 0 2 (List.map egMono (u.1).fL), .cells 0 (egMono (u.2.1)).cells]⟩]
noncomputable def F_lin_Scale_L8 (x1 : Int) (x7 : Bool) (x8 : gLin) (x30 : List gMono) (x31 : Int) (x32 : Int) : Option (Bool × gLin) :=
 if x32 < x31 then
 ix x30 x32 >>= fun v0 =>
 F_lin_times v0.fBy x1 >>= fun v1 =>
 some (x8, v0, v1.fst, x32) >>= fun v2 =>
 (if x7 then
 some v1.snd
 else
 some false) >>= fun v4 =>
 some ((gMono.mk v2.snd.fst.fName v2.snd.snd.fst)) >>= fun v5 =>
 if (v2.fst.fL.length + (1 : Nat)) * (24 : Nat) ≤ (140737488355328 : Nat) ∧ v2.fst.fL.length + (1 : Nat) ≤ (9223372036854775807 : Nat) then
 some (v2.fst.fL ++ [v5]) >>= fun v6 =>
 F_lin_Scale_L8 x1 v4 (gLin.mk v2.fst.fK v6) x30 x31 (IntKind.i64.wrap (v2.snd.snd.snd + (1 : Int)))
 else none
 else
 some (x7, x8)
  partial_fixpoint
theorem P_lin_Scale_L8 (x1 : Int) (x4 : gLin) (x7 : Bool) (x8 : gLin) (x30 : List gMono) (x31 : Int) (x32 : Int) (o : (Bool × gLin)) (h : F_lin_Scale_L8 x1 x7 x8 x30 x31 x32 = some o) : LO 75 8 61 [1, 4, 7, 8, 30, 31, 32] [.int .i64 x1, .ptr 0 0 0, .bool x7, .ptr 1 0 0, .sl 2 (List.map egMono x30), .int .i64 x31, .int .i64 x32] [.cells 0 (egLin x4).cells, .cells 0 [.int .i64 x8.fK, .ow 2 0 2 (List.length x8.fL)], .own 0 2 (List.map egMono x8.fL)] [4, 7, 8] (A_lin_Scale_L8 x1 (x4, x30, x31) o) :=
  F_lin_Scale_L8.partial_correctness x1 x30 x31 (fun x7 x8 x32 o => ∀ (x4 : gLin), LO 75 8 61 [1, 4, 7, 8, 30, 31, 32] [.int .i64 x1, .ptr 0 0 0, .bool x7, .ptr 1 0 0, .sl 2 (List.map egMono x30), .int .i64 x31, .int .i64 x32] [.cells 0 (egLin x4).cells, .cells 0 [.int .i64 x8.fK, .ow 2 0 2 (List.length x8.fL)], .own 0 2 (List.map egMono x8.fL)] [4, 7, 8] (A_lin_Scale_L8 x1 (x4, x30, x31) o))
  (fun F_lin_Scale_L8 ih_lin_Scale_L8 x7 x8 x32 o h x4 =>
  Lp1 (hs := [(33, .split), (34, .e egMono), (40, .c eT_I_B), (43, .split), (52, .n egMono 52 none), (54, .z [{ slot := 48, own := 2 }] (some (.n egMono 54 (some .a)))), (5000011, .l [] [] [] [1, 4, 7, 8, 10, 11, 30, 31, 32] [{ slot := 4 }, { slot := 8 }, { slot := 8, path := [1], own := 2 }, { slot := 10 }] (A_lin_Scale_J5000011 (x1, x4, x30, x31)))]) (kb := [{ slot := 4 }, { slot := 8 }, { slot := 8, path := [1], own := 2 }]) (kbx := [{ slot := 4 }, { slot := 8 }, { slot := 8, path := [1], own := 2 }]) (by kernel_rfl) (by kernel_rfl) ((kIfD (p := x32 < x31) (kIx (enc := egMono) (l := x30) (k := x32) fun v0 => (kC (sh := eT_I_B) (P_lin_times v0.fBy x1) fun v1 => (kJ1 (id := 5000011) (x8, v0, v1.fst, x32) (fun v2 ev2 v3 => (kIf (c := x7) (kXj (alts := A_lin_Scale_J5000011 (x1, x4, x30, x31)) ev2 v1.snd (.here _ rfl (.refl _) (.refl _)))
 (kXj (alts := A_lin_Scale_J5000011 (x1, x4, x30, x31)) ev2 false (.here _ rfl (.refl _) (.refl _)))))
 (fun v2 v4 => (kW (sh := egMono) (gMono.mk v2.snd.fst.fName v2.snd.snd.fst) (LeV.refl _) fun v5 => (kA (q := (v2.fst.fL.length + (1 : Nat)) * (24 : Nat) ≤ (140737488355328 : Nat) ∧ v2.fst.fL.length + (1 : Nat) ≤ (9223372036854775807 : Nat)) (sh := egMono) (l := v2.fst.fL) (kO (sh := egMono) (v2.fst.fL ++ [v5]) (mA (sh := egMono) v2.fst.fL v5) (nA v2.fst.fL v5) fun v6 => (kM0 (alts := A_lin_Scale_L8 x1 (x4, x30, x31)) (fun y hy => ih_lin_Scale_L8 v4 (gLin.mk v2.fst.fK v6) (IntKind.i64.wrap (v2.snd.snd.snd + (1 : Int))) y hy x4)))))))))
 (kX (alts := A_lin_Scale_L8 x1 (x4, x30, x31)) (x7, x8) (.here _ rfl (.refl _) (.refl _)))) h)) x7 x8 x32 o h x4
noncomputable def F_lin_Scale (x0 : gLin) (x1 : Int) : Option (gLin × Int) :=
 F_lin_Validate x0 >>= fun v0 =>
 if v0 != (0 : Int) then
 some ((gLin.mk (0 : Int) [])) >>= fun v1 =>
 some (v1, (1 : Int))
 else
 if x1 == (0 : Int) then
 some ((gLin.mk (0 : Int) [])) >>= fun v2 =>
 some (v2, (0 : Int))
 else
 F_lin_times x0.fK x1 >>= fun v3 =>
 some (List.length x0.fL : Int) >>= fun v4 =>
 some ((gLin.mk (0 : Int) []), x0.fL, v4) >>= fun v5 =>
 F_lin_Scale_L8 x1 v3.snd (gLin.mk v3.fst []) x0.fL v4 (0 : Int) >>= fun v7 =>
 if v7.fst then
 some (v7.snd, (0 : Int))
 else
 some ((gLin.mk (0 : Int) [])) >>= fun v8 =>
 some (v8, (3 : Int))
theorem P_lin_Scale (x0 : gLin) (x1 : Int) (r : (gLin × Int)) (h : F_lin_Scale x0 x1 = some r) : PU 75 [egLin x0, eI x1] (eT_gLin_I r) :=
  Pu1 (hs := [(14, .c eI), (15, .split), (16, .n egLin 16 none), (18, .split), (19, .n egLin 19 none), (24, .c eT_I_B), (31, .n eI 31 none), (57, .split), (59, .n egLin 59 none), (3000009, .l [] [1, 4, 7, 8, 30, 31, 32] [{ slot := 4 }, { slot := 8 }, { slot := 8, path := [1], own := 2 }] [4, 7, 8] [{ slot := 4 }, { slot := 8 }, { slot := 8, path := [1], own := 2 }] (A_lin_Scale_L8 x1))]) (by kernel_rfl) ((kC (sh := eI) (P_lin_Validate x0) fun v0 => (kIf (c := v0 != (0 : Int)) (kW (sh := egLin) (gLin.mk (0 : Int) []) (LeV.agg (.cons (LeV.refl (AV.int IntKind.i64 (0 : Int))) (.cons (LeV.nil 2) .nil))) fun v1 => (kEr (enc := eT_gLin_I) (v1, (1 : Int))))
 (kIf (c := x1 == (0 : Int)) (kW (sh := egLin) (gLin.mk (0 : Int) []) (LeV.agg (.cons (LeV.refl (AV.int IntKind.i64 (0 : Int))) (.cons (LeV.nil 2) .nil))) fun v2 => (kEr (enc := eT_gLin_I) (v2, (0 : Int))))
 (kC (sh := eT_I_B) (P_lin_times x0.fK x1) fun v3 => (kN _ (mLen (sh := egMono) x0.fL) fun v4 => (kL1 ((gLin.mk (0 : Int) []), x0.fL, v4) (fun y hy => LoopOk.le (.cons (LeV.refl (AV.int IntKind.i64 x1)) (.cons (LeV.refl (AV.ptr (0 : Nat) (0 : Nat) (0 : Nat))) (.cons (LeV.refl (AV.bool v3.snd)) (.cons (LeV.refl (AV.ptr (1 : Nat) (0 : Nat) (0 : Nat))) (.cons (LeV.refl (AV.sl (2 : Nat) (List.map egMono x0.fL))) (.cons (LeV.refl (AV.int IntKind.i64 v4)) (.cons (LeV.refl (AV.int IntKind.i64 (0 : Int))) .nil))))))) (.cons (LeB.cells (0 : Nat) (.cons (LeV.refl (AV.int IntKind.i64 (0 : Int))) (.cons (LeV.nil 2) .nil))) (.cons (LeB.refl (Box.cells (0 : Nat) [AV.int IntKind.i64 v3.fst, AV.ow (2 : Nat) (0 : Nat) (2 : Nat) (0 : Nat)])) (.cons (LeB.refl (Box.own (0 : Nat) (2 : Nat) [])) .nil))) (P_lin_Scale_L8 x1 (gLin.mk (0 : Int) []) v3.snd (gLin.mk v3.fst []) x0.fL v4 (0 : Int) y hy)) fun v5 v7 => (kIf (c := v7.fst) (kT (nM (sh := egMono) v7.snd.fL) (kEr (enc := eT_gLin_I) (v7.snd, (0 : Int))))
 (kW (sh := egLin) (gLin.mk (0 : Int) []) (LeV.agg (.cons (LeV.refl (AV.int IntKind.i64 (0 : Int))) (.cons (LeV.nil 2) .nil))) fun v8 => (kEr (enc := eT_gLin_I) (v8, (3 : Int))))))))))) h)
noncomputable def F_lin_plus (x0 : Int) (x1 : Int) : Option (Int × Bool) :=
 some (IntKind.i64.wrap (x0 + x1) : Int) >>= fun v0 =>
 some (v0, (decide (x0 < v0) == decide ((0 : Int) < x1)))
theorem P_lin_plus (x0 : Int) (x1 : Int) (r : (Int × Bool)) (h : F_lin_plus x0 x1 = some r) : PU 98 [eI x0, eI x1] (eT_I_B r) :=
  Pu1 (hs := [(6, .n eI 6 none)]) (by kernel_rfl) ((kN (IntKind.i64.wrap (x0 + x1)) rfl fun v0 => (kEr (enc := eT_I_B) (v0, (decide (x0 < v0) == decide ((0 : Int) < x1))))) h)
def R_lin_Add_1 (r : (Bool × gLin)) : AV := .tup []
def B_lin_Add_1 (r : (Bool × gLin)) : List Box := [.cells 0 [.bool r.1], .cells 0 [.int .i64 r.2.fK, .ow 2 0 2 (List.length r.2.fL)], .own 0 2 (List.map egMono r.2.fL)]
def A_lin_Add_1_J5000001 (s : Str) (u : (gLin × Int)) (o : Bool) : List Alt := [⟨fun (x : Bool) => x = o, .normal, fun x => [.str s, .ptr 0 0 0, .ptr 1 0 0, .int .i64 (u.2)], fun x => [.cells 0 [.bool x], .cells 0 [.int .i64 (u.1).fK, .ow 2 0 2 (List.length ((u.1).fL))], .own 0 2 (List.map egMono (u.1).fL)]⟩]
noncomputable def F_lin_Add_1 (x0 : Str) (x1 : Int) (x2 : Int) (x3 : Bool) (x4 : gLin) : Option (Bool × gLin) :=
 F_lin_plus x1 x2 >>= fun v0 =>
 some (x4, v0.fst) >>= fun v1 =>
 (if x3 then
 some v0.snd
 else
 some false) >>= fun v3 =>
 if v1.snd != (0 : Int) then
 some ((gMono.mk x0 v1.snd)) >>= fun v4 =>
 if (v1.fst.fL.length + (1 : Nat)) * (24 : Nat) ≤ (140737488355328 : Nat) ∧ v1.fst.fL.length + (1 : Nat) ≤ (9223372036854775807 : Nat) then
 some (v1.fst.fL ++ [v4]) >>= fun v5 =>
 some (v3, (gLin.mk v1.fst.fK v5))
 else none
 else
 some (v3, v1.fst)
theorem P_lin_Add_1 (x0 : Str) (x1 : Int) (x2 : Int) (x3 : Bool) (x4 : gLin) (r : (Bool × gLin)) (h : F_lin_Add_1 x0 x1 x2 x3 x4 = some r) : PH 100 [eS x0, eI x1, eI x2, .ptr 0 0 0, .ptr 1 0 0] [.cells 0 [.bool x3], .cells 0 [.int .i64 x4.fK, .ow 2 0 2 (List.length x4.fL)], .own 0 2 (List.map egMono x4.fL)] (R_lin_Add_1 r) (B_lin_Add_1 r) :=
  PuH1 (hs := [(13, .c eT_I_B), (16, .split), (21, .split), (26, .n egMono 26 none), (28, .z [{ slot := 23, own := 2 }] (some (.n egMono 28 (some .a)))), (5000001, .l [] [] [] [0, 3, 4, 8] [{ slot := 3 }, { slot := 4 }, { slot := 4, path := [1], own := 2 }] (A_lin_Add_1_J5000001 x0))]) (kb := [{ slot := 1 }, { slot := 2 }, { slot := 2, path := [1], own := 2 }]) (by kernel_rfl) ((kC (sh := eT_I_B) (P_lin_plus x1 x2) fun v0 => (kJ1 (id := 5000001) (x4, v0.fst) (fun v1 ev1 v2 => (kIf (c := x3) (kXj (alts := A_lin_Add_1_J5000001 x0) ev1 v0.snd (.here _ rfl (.refl _) (.refl _)))
 (kXj (alts := A_lin_Add_1_J5000001 x0) ev1 false (.here _ rfl (.refl _) (.refl _)))))
 (fun v1 v3 => (kIf (c := v1.snd != (0 : Int)) (kW (sh := egMono) (gMono.mk x0 v1.snd) (LeV.refl _) fun v4 => (kA (q := (v1.fst.fL.length + (1 : Nat)) * (24 : Nat) ≤ (140737488355328 : Nat) ∧ v1.fst.fL.length + (1 : Nat) ≤ (9223372036854775807 : Nat)) (sh := egMono) (l := v1.fst.fL) (kO (sh := egMono) (v1.fst.fL ++ [v4]) (mA (sh := egMono) v1.fst.fL v4) (nA v1.fst.fL v4) fun v5 => (kEH (enc := R_lin_Add_1) (bt := B_lin_Add_1) (v3, (gLin.mk v1.fst.fK v5)) ⟨.refl _, .refl _⟩))))
 (kEH (enc := R_lin_Add_1) (bt := B_lin_Add_1) (v3, v1.fst) ⟨.refl _, .refl _⟩))))) h)
def A_lin_merge_c100_L0 (s : Unit) (u : Unit) (o : (Bool × gLin)) : List Alt := [⟨fun (x : (Bool × gLin)) => x = o, .exit 0, fun x => [.fn 100 [.ptr 0 0 0, .ptr 1 0 0]], fun x => [.cells 0 [.bool x.1], .cells 0 [.int .i64 x.2.fK, .ow 2 0 2 (List.length x.2.fL)], .own 0 2 (List.map egMono x.2.fL)]⟩]
def A_lin_merge_c100_J5000000 (s : Unit) (u : ((List gMono) × (List gMono) × (Bool × gLin))) (o : Bool) : List Alt := [⟨fun (x : Unit) => true = o, .normal, fun x => [.sl 2 (List.map egMono (u.1)), .sl 2 (List.map egMono (u.2.1)), .fn 100 [.ptr 0 0 0, .ptr 1 0 0], .bool true], fun x => [.cells 0 [.bool (u.2.2).1], .cells 0 [.int .i64 (u.2.2).2.fK, .ow 2 0 2 (List.length ((u.2.2).2.fL))], .own 0 2 (List.map egMono (u.2.2).2.fL)]⟩, ⟨fun (x : Unit) => false = o, .normal, fun x => [.sl 2 (List.map egMono (u.1)), .sl 2 (List.map egMono (u.2.1)), .fn 100 [.ptr 0 0 0, .ptr 1 0 0], .bool false], fun x => [.cells 0 [.bool (u.2.2).1], .cells 0 [.int .i64 (u.2.2).2.fK, .ow 2 0 2 (List.length ((u.2.2).2.fL))], .own 0 2 (List.map egMono (u.2.2).2.fL)]⟩]
def A_lin_merge_c100_J5000003 (s : Unit) (u : ((List gMono) × (List gMono) × (Bool × gLin))) (o : Bool) : List Alt := [⟨fun (x : Unit) => true = o, .normal, fun x => [.sl 2 (List.map egMono (u.1)), .sl 2 (List.map egMono (u.2.1)), .fn 100 [.ptr 0 0 0, .ptr 1 0 0], .bool true], fun x => [.cells 0 [.bool (u.2.2).1], .cells 0 [.int .i64 (u.2.2).2.fK, .ow 2 0 2 (List.length ((u.2.2).2.fL))], .own 0 2 (List.map egMono (u.2.2).2.fL)]⟩, ⟨fun (x : Unit) => false = o, .normal, fun x => [.sl 2 (List.map egMono (u.1)), .sl 2 (List.map egMono (u.2.1)), .fn 100 [.ptr 0 0 0, .ptr 1 0 0], .bool false], fun x => [.cells 0 [.bool (u.2.2).1], .cells 0 [.int .i64 (u.2.2).2.fK, .ow 2 0 2 (List.length ((u.2.2).2.fL))], .own 0 2 (List.map egMono (u.2.2).2.fL)]⟩]
def A_lin_merge_c100_J5000006 (s : Unit) (u : ((List gMono) × (List gMono) × (Bool × gLin))) (o : Bool) : List Alt := [⟨fun (x : Unit) => true = o, .normal, fun x => [.sl 2 (List.map egMono (u.1)), .sl 2 (List.map egMono (u.2.1)), .fn 100 [.ptr 0 0 0, .ptr 1 0 0], .bool true], fun x => [.cells 0 [.bool (u.2.2).1], .cells 0 [.int .i64 (u.2.2).2.fK, .ow 2 0 2 (List.length ((u.2.2).2.fL))], .own 0 2 (List.map egMono (u.2.2).2.fL)]⟩, ⟨fun (x : Unit) => false = o, .normal, fun x => [.sl 2 (List.map egMono (u.1)), .sl 2 (List.map egMono (u.2.1)), .fn 100 [.ptr 0 0 0, .ptr 1 0 0], .bool false], fun x => [.cells 0 [.bool (u.2.2).1], .cells 0 [.int .i64 (u.2.2).2.fK, .ow 2 0 2 (List.length ((u.2.2).2.fL))], .own 0 2 (List.map egMono (u.2.2).2.fL)]⟩]
noncomputable def F_lin_merge_c100_L0 (x0 : List gMono) (x1 : List gMono) (x2 : (Bool × gLin)) : Option (Bool × gLin) :=
 some (x0, x1, x2) >>= fun v0 =>
 (some (List.length x0 : Int) >>= fun v2 =>
 if (0 : Int) < v2 then
 some true
 else
 some (List.length x1 : Int) >>= fun v3 =>
 if (0 : Int) < v3 then
 some true
 else
 some false) >>= fun v1 => if v1 then
 some (v0.fst, v0.snd.fst, v0.snd.snd) >>= fun v5 =>
 (if (↑(List.map egMono v0.snd.fst).length : Int) == (0 : Int) then
 some (List.length v0.snd.fst : Int) >>= fun v7 =>
 some true
 else
 if (0 : Int) < (↑(List.map egMono v0.fst).length : Int) then
 ix v0.fst (0 : Int) >>= fun v8 =>
 ix v0.snd.fst (0 : Int) >>= fun v9 =>
 some (List.length v0.snd.fst : Int) >>= fun v10 =>
 some (List.length v0.fst : Int) >>= fun v11 =>
 if Op.bytesLess v8.fName v9.fName then
 some true
 else
 some false
 else
 some (List.length v0.snd.fst : Int) >>= fun v12 =>
 some (List.length v0.fst : Int) >>= fun v13 =>
 some false) >>= fun v6 => if v6 then
 ix v5.fst (0 : Int) >>= fun v15 =>
 ix v5.fst (0 : Int) >>= fun v16 =>
 F_lin_Add_1 v15.fName v16.fBy (0 : Int) v5.snd.snd.fst v5.snd.snd.snd >>= fun v17 =>
 if (0 : Int) ≤ (1 : Int) ∧ (1 : Int) ≤ (↑(List.map egMono v5.fst).length : Int) then
 some ((List.drop (1 : Nat) v5.fst) : List gMono) >>= fun v18 =>
 F_lin_merge_c100_L0 v18 v5.snd.fst v17
 else none
 else
 some (v5.fst, v5.snd.fst, v5.snd.snd) >>= fun v20 =>
 (if (↑(List.map egMono v5.fst).length : Int) == (0 : Int) then
 some (List.length v5.fst : Int) >>= fun v22 =>
 some true
 else
 ix v5.snd.fst (0 : Int) >>= fun v23 =>
 ix v5.fst (0 : Int) >>= fun v24 =>
 some (List.length v5.fst : Int) >>= fun v25 =>
 if Op.bytesLess v23.fName v24.fName then
 some true
 else
 some false) >>= fun v21 => if v21 then
 ix v20.snd.fst (0 : Int) >>= fun v27 =>
 ix v20.snd.fst (0 : Int) >>= fun v28 =>
 F_lin_Add_1 v27.fName (0 : Int) v28.fBy v20.snd.snd.fst v20.snd.snd.snd >>= fun v29 =>
 if (0 : Int) ≤ (1 : Int) ∧ (1 : Int) ≤ (↑(List.map egMono v20.snd.fst).length : Int) then
 some ((List.drop (1 : Nat) v20.snd.fst) : List gMono) >>= fun v30 =>
 F_lin_merge_c100_L0 v20.fst v30 v29
 else none
 else
 ix v20.fst (0 : Int) >>= fun v32 =>
 ix v20.fst (0 : Int) >>= fun v33 =>
 ix v20.snd.fst (0 : Int) >>= fun v34 =>
 F_lin_Add_1 v32.fName v33.fBy v34.fBy v20.snd.snd.fst v20.snd.snd.snd >>= fun v35 =>
 if (0 : Int) ≤ (1 : Int) ∧ (1 : Int) ≤ (↑(List.map egMono v20.fst).length : Int) then
 if (0 : Int) ≤ (1 : Int) ∧ (1 : Int) ≤ (↑(List.map egMono v20.snd.fst).length : Int) then
 some ((List.drop (1 : Nat) v20.fst) : List gMono) >>= fun v36 =>
 some ((List.drop (1 : Nat) v20.snd.fst) : List gMono) >>= fun v37 =>
 F_lin_merge_c100_L0 (List.drop (1 : Nat) v20.fst) v37 v35
 else none
 else none
 else
 some v0.snd.snd
  partial_fixpoint
theorem P_lin_merge_c100_L0 (x0 : List gMono) (x1 : List gMono) (x2 : (Bool × gLin)) (o : (Bool × gLin)) (h : F_lin_merge_c100_L0 x0 x1 x2 = some o) : LOp [.ptr 0 0 0, .ptr 1 0 0] 99 0 91 [0, 1, 2] [.sl 2 (List.map egMono x0), .sl 2 (List.map egMono x1), .fn 100 [.ptr 0 0 0, .ptr 1 0 0]] [.cells 0 [.bool x2.1], .cells 0 [.int .i64 x2.2.fK, .ow 2 0 2 (List.length x2.2.fL)], .own 0 2 (List.map egMono x2.2.fL)] [2] (A_lin_merge_c100_L0 () () o) :=
  F_lin_merge_c100_L0.partial_correctness  (fun x0 x1 x2 o => LOp [.ptr 0 0 0, .ptr 1 0 0] 99 0 91 [0, 1, 2] [.sl 2 (List.map egMono x0), .sl 2 (List.map egMono x1), .fn 100 [.ptr 0 0 0, .ptr 1 0 0]] [.cells 0 [.bool x2.1], .cells 0 [.int .i64 x2.2.fK, .ow 2 0 2 (List.length x2.2.fL)], .own 0 2 (List.map egMono x2.2.fL)] [2] (A_lin_merge_c100_L0 () () o))
  (fun F_lin_merge_c100_L0 ih_lin_merge_c100_L0 x0 x1 x2 o h  =>
  Lp1p (hs := [(7, .n eI 7 none), (8, .split), (11, .n eI 11 none), (12, .split), (34, .n eI 34 none), (35, .split), (38, .n eI 38 none), (39, .split), (42, .e egMono), (46, .e egMono), (49, .split), (54, .e egMono), (58, .e egMono), (61, .h [{ slot := 3 }, { slot := 4 }, { slot := 4, path := [1], own := 2 }] R_lin_Add_1 B_lin_Add_1), (63, .n eLgMono 63 (some .s)), (66, .n eI 66 none), (67, .split), (70, .e egMono), (74, .e egMono), (77, .split), (81, .e egMono), (85, .e egMono), (88, .h [{ slot := 3 }, { slot := 4 }, { slot := 4, path := [1], own := 2 }] R_lin_Add_1 B_lin_Add_1), (90, .n eLgMono 90 (some .s)), (16, .e egMono), (20, .e egMono), (24, .e egMono), (27, .h [{ slot := 3 }, { slot := 4 }, { slot := 4, path := [1], own := 2 }] R_lin_Add_1 B_lin_Add_1), (29, .n eLgMono 29 (some .s)), (31, .n eLgMono 31 (some .s)), (5000000, .l [] [] [] [0, 1, 2, 13] [{ slot := 2, path := [0] }, { slot := 2, path := [1] }, { slot := 2, path := [1, 1], own := 2 }] (A_lin_merge_c100_J5000000 ())), (5000003, .l [] [] [] [0, 1, 2, 32] [{ slot := 2, path := [0] }, { slot := 2, path := [1] }, { slot := 2, path := [1, 1], own := 2 }] (A_lin_merge_c100_J5000003 ())), (5000006, .l [] [] [] [0, 1, 2, 64] [{ slot := 2, path := [0] }, { slot := 2, path := [1] }, { slot := 2, path := [1, 1], own := 2 }] (A_lin_merge_c100_J5000006 ()))]) (kb := [{ slot := 2, path := [0] }, { slot := 2, path := [1] }, { slot := 2, path := [1, 1], own := 2 }]) (kbx := [{ slot := 2, path := [0] }, { slot := 2, path := [1] }, { slot := 2, path := [1, 1], own := 2 }]) (by kernel_rfl) (by kernel_rfl) ((kJb (id := 5000000) (x0, x1, x2) (fun v0 ev0 v1 => (kN _ (mLen (sh := egMono) x0) fun v2 => (kIfD (p := (0 : Int) < v2) (kXj (alts := A_lin_merge_c100_J5000000 ()) ev0 true (.here () rfl (.refl _) (.refl _)))
 (kN _ (mLen (sh := egMono) x1) fun v3 => (kIfD (p := (0 : Int) < v3) (kXj (alts := A_lin_merge_c100_J5000000 ()) ev0 true (.here () rfl (.refl _) (.refl _)))
 (kXj (alts := A_lin_merge_c100_J5000000 ()) ev0 false (.next (.here () rfl (.refl _) (.refl _)))))))))
 (fun v0 => (kJb (id := 5000003) (v0.fst, v0.snd.fst, v0.snd.snd) (fun v5 ev5 v6 => (kIf (c := (↑(List.map egMono v0.snd.fst).length : Int) == (0 : Int)) (kN _ (mLen (sh := egMono) v0.snd.fst) fun v7 => (kXj (alts := A_lin_merge_c100_J5000003 ()) ev5 true (.here () rfl (.refl _) (.refl _))))
 (kIfD (p := (0 : Int) < (↑(List.map egMono v0.fst).length : Int)) (kIx (enc := egMono) (l := v0.fst) (k := (0 : Int)) fun v8 => (kIx (enc := egMono) (l := v0.snd.fst) (k := (0 : Int)) fun v9 => (kN _ (mLen (sh := egMono) v0.snd.fst) fun v10 => (kN _ (mLen (sh := egMono) v0.fst) fun v11 => (kIf (c := Op.bytesLess v8.fName v9.fName) (kXj (alts := A_lin_merge_c100_J5000003 ()) ev5 true (.here () rfl (.refl _) (.refl _)))
 (kXj (alts := A_lin_merge_c100_J5000003 ()) ev5 false (.next (.here () rfl (.refl _) (.refl _)))))))))
 (kN _ (mLen (sh := egMono) v0.snd.fst) fun v12 => (kN _ (mLen (sh := egMono) v0.fst) fun v13 => (kXj (alts := A_lin_merge_c100_J5000003 ()) ev5 false (.next (.here () rfl (.refl _) (.refl _)))))))))
 (fun v5 => (kIx (enc := egMono) (l := v5.fst) (k := (0 : Int)) fun v15 => (kIx (enc := egMono) (l := v5.fst) (k := (0 : Int)) fun v16 => (kH (sh := R_lin_Add_1) (bt := B_lin_Add_1) (P_lin_Add_1 v15.fName v16.fBy (0 : Int) v5.snd.snd.fst v5.snd.snd.snd) fun v17 => (kG (p := (0 : Int) ≤ (1 : Int) ∧ (1 : Int) ≤ (↑(List.map egMono v5.fst).length : Int)) (kW (sh := eLgMono) (List.drop (1 : Nat) v5.fst) (leSl (mD (sh := egMono) v5.fst (1 : Nat))) fun v18 => (kM0 (alts := A_lin_merge_c100_L0 () ()) (ih_lin_merge_c100_L0 v18 v5.snd.fst v17))))))))
 (fun v5 => (kJb (id := 5000006) (v5.fst, v5.snd.fst, v5.snd.snd) (fun v20 ev20 v21 => (kIf (c := (↑(List.map egMono v5.fst).length : Int) == (0 : Int)) (kN _ (mLen (sh := egMono) v5.fst) fun v22 => (kXj (alts := A_lin_merge_c100_J5000006 ()) ev20 true (.here () rfl (.refl _) (.refl _))))
 (kIx (enc := egMono) (l := v5.snd.fst) (k := (0 : Int)) fun v23 => (kIx (enc := egMono) (l := v5.fst) (k := (0 : Int)) fun v24 => (kN _ (mLen (sh := egMono) v5.fst) fun v25 => (kIf (c := Op.bytesLess v23.fName v24.fName) (kXj (alts := A_lin_merge_c100_J5000006 ()) ev20 true (.here () rfl (.refl _) (.refl _)))
 (kXj (alts := A_lin_merge_c100_J5000006 ()) ev20 false (.next (.here () rfl (.refl _) (.refl _))))))))))
 (fun v20 => (kIx (enc := egMono) (l := v20.snd.fst) (k := (0 : Int)) fun v27 => (kIx (enc := egMono) (l := v20.snd.fst) (k := (0 : Int)) fun v28 => (kH (sh := R_lin_Add_1) (bt := B_lin_Add_1) (P_lin_Add_1 v27.fName (0 : Int) v28.fBy v20.snd.snd.fst v20.snd.snd.snd) fun v29 => (kG (p := (0 : Int) ≤ (1 : Int) ∧ (1 : Int) ≤ (↑(List.map egMono v20.snd.fst).length : Int)) (kW (sh := eLgMono) (List.drop (1 : Nat) v20.snd.fst) (leSl (mD (sh := egMono) v20.snd.fst (1 : Nat))) fun v30 => (kM0 (alts := A_lin_merge_c100_L0 () ()) (ih_lin_merge_c100_L0 v20.fst v30 v29))))))))
 (fun v20 => (kIx (enc := egMono) (l := v20.fst) (k := (0 : Int)) fun v32 => (kIx (enc := egMono) (l := v20.fst) (k := (0 : Int)) fun v33 => (kIx (enc := egMono) (l := v20.snd.fst) (k := (0 : Int)) fun v34 => (kH (sh := R_lin_Add_1) (bt := B_lin_Add_1) (P_lin_Add_1 v32.fName v33.fBy v34.fBy v20.snd.snd.fst v20.snd.snd.snd) fun v35 => (kG (p := (0 : Int) ≤ (1 : Int) ∧ (1 : Int) ≤ (↑(List.map egMono v20.fst).length : Int)) (kG (p := (0 : Int) ≤ (1 : Int) ∧ (1 : Int) ≤ (↑(List.map egMono v20.snd.fst).length : Int)) (kW (sh := eLgMono) (List.drop (1 : Nat) v20.fst) (leSl (mD (sh := egMono) v20.fst (1 : Nat))) fun v36 => (kW (sh := eLgMono) (List.drop (1 : Nat) v20.snd.fst) (leSl (mD (sh := egMono) v20.snd.fst (1 : Nat))) fun v37 => (kM (alts := A_lin_merge_c100_L0 () ()) (.cons (leSl (mD (sh := egMono) v20.fst (1 : Nat))) (.cons (LeV.refl (AV.sl (2 : Nat) (List.map egMono v37))) (.cons (LeV.refl (AV.fn (100 : Nat) [AV.ptr (0 : Nat) (0 : Nat) (0 : Nat), AV.ptr (1 : Nat) (0 : Nat) (0 : Nat)])) .nil))) (.refl _) (ih_lin_merge_c100_L0 (List.drop (1 : Nat) v20.fst) v37 v35)))))))))))))))
 (fun v0 => (kX (alts := A_lin_merge_c100_L0 () ()) v0.snd.snd (.here _ rfl (.refl _) (.refl _))))) h)) x0 x1 x2 o h
def R_lin_merge_c100 (r : (Bool × gLin)) : AV := .tup []
def B_lin_merge_c100 (r : (Bool × gLin)) : List Box := [.cells 0 [.bool r.1], .cells 0 [.int .i64 r.2.fK, .ow 2 0 2 (List.length r.2.fL)], .own 0 2 (List.map egMono r.2.fL)]
noncomputable def F_lin_merge_c100 (x0 : List gMono) (x1 : List gMono) (x2 : (Bool × gLin)) : Option (Bool × gLin) :=
 some () >>= fun v0 =>
 F_lin_merge_c100_L0 x0 x1 x2 >>= fun v2 =>
 some (v2.fst, v2.snd)
theorem P_lin_merge_c100 (x0 : List gMono) (x1 : List gMono) (x2 : (Bool × gLin)) (r : (Bool × gLin)) (h : F_lin_merge_c100 x0 x1 x2 = some r) : PH 99 [eLgMono x0, eLgMono x1, .fn 100 [.ptr 0 0 0, .ptr 1 0 0]] [.cells 0 [.bool x2.1], .cells 0 [.int .i64 x2.2.fK, .ow 2 0 2 (List.length x2.2.fL)], .own 0 2 (List.map egMono x2.2.fL)] (R_lin_merge_c100 r) (B_lin_merge_c100 r) :=
  PuH1 (hs := [(3000001, .l [] [0, 1, 2] [{ slot := 2, path := [0] }, { slot := 2, path := [1] }, { slot := 2, path := [1, 1], own := 2 }] [2] [{ slot := 2, path := [0] }, { slot := 2, path := [1] }, { slot := 2, path := [1, 1], own := 2 }] (A_lin_merge_c100_L0 ()))]) (kb := [{ slot := 1 }, { slot := 2 }, { slot := 2, path := [1], own := 2 }]) (by kernel_rfl) ((kL1 () (P_lin_merge_c100_L0 x0 x1 x2) fun v0 v2 => (kEH (enc := R_lin_merge_c100) (bt := B_lin_merge_c100) (v2.fst, v2.snd) ⟨.refl _, .refl _⟩)) h)
def A_lin_Add_J5000001 (s : (gLin × gLin)) (u : gLin) (o : Bool) : List Alt := [⟨fun (x : Unit) => true = o, .normal, fun x => [.ptr 0 0 0, .ptr 1 0 0, .ptr 2 0 0, .bool true], fun x => [.cells 0 (egLin (s.1)).cells, .cells 0 (egLin (s.2)).cells, .cells 0 (egLin u).cells]⟩, ⟨fun (x : Unit) => false = o, .normal, fun x => [.ptr 0 0 0, .ptr 1 0 0, .ptr 2 0 0, .bool false], fun x => [.cells 0 (egLin (s.1)).cells, .cells 0 (egLin (s.2)).cells, .cells 0 (egLin u).cells]⟩]
noncomputable def F_lin_Add (x0 : gLin) (x1 : gLin) : Option (gLin × Int) :=
 some (gLin.mk (0 : Int) []) >>= fun v0 =>
 (F_lin_Validate x0 >>= fun v2 =>
 if v2 != (0 : Int) then
 some true
 else
 F_lin_Validate x1 >>= fun v3 =>
 if v3 != (0 : Int) then
 some true
 else
 some false) >>= fun v1 => if v1 then
 some ((gLin.mk (0 : Int) [])) >>= fun v5 =>
 some (v5, (1 : Int))
 else
 F_lin_plus x0.fK x1.fK >>= fun v7 =>
 F_lin_merge_c100 x0.fL x1.fL (v7.snd, (gLin.mk v7.fst [])) >>= fun v8 =>
 if v8.fst then
 some (v8.snd, (0 : Int))
 else
 some ((gLin.mk (0 : Int) [])) >>= fun v9 =>
 some (v9, (3 : Int))
theorem P_lin_Add (x0 : gLin) (x1 : gLin) (r : (gLin × Int)) (h : F_lin_Add x0 x1 = some r) : PU 76 [egLin x0, egLin x1] (eT_gLin_I r) :=
  Pu1 (hs := [(9, .c eI), (10, .split), (13, .c eI), (14, .split), (16, .n egLin 16 none), (22, .c eT_I_B), (31, .h [{ slot := 2, path := [0] }, { slot := 2, path := [1] }, { slot := 2, path := [1, 1], own := 2 }] R_lin_merge_c100 B_lin_merge_c100), (32, .split), (34, .n egLin 34 none), (5000001, .l [] [] [] [2, 3, 4, 15] [{ slot := 2 }, { slot := 3 }, { slot := 4 }] (A_lin_Add_J5000001 (x0, x1)))]) (by kernel_rfl) ((kJb (id := 5000001) (gLin.mk (0 : Int) []) (fun v0 ev0 v1 => (kC (sh := eI) (P_lin_Validate x0) fun v2 => (kIf (c := v2 != (0 : Int)) (kXj (alts := A_lin_Add_J5000001 (x0, x1)) ev0 true (.here () rfl (.cons (LeV.refl (AV.ptr (0 : Nat) (0 : Nat) (0 : Nat))) (.cons (LeV.refl (AV.ptr (1 : Nat) (0 : Nat) (0 : Nat))) (.cons (LeV.refl (AV.ptr (2 : Nat) (0 : Nat) (0 : Nat))) (.cons (LeV.refl (AV.bool true)) .nil)))) (.cons (LeB.refl (Box.cells (0 : Nat) [AV.int IntKind.i64 x0.fK, AV.sl (2 : Nat) (List.map egMono x0.fL)])) (.cons (LeB.refl (Box.cells (0 : Nat) [AV.int IntKind.i64 x1.fK, AV.sl (2 : Nat) (List.map egMono x1.fL)])) (.cons (LeB.cells (0 : Nat) (.cons (LeV.refl (AV.int IntKind.i64 (0 : Int))) (.cons (LeV.nil 2) .nil))) .nil)))))
 (kC (sh := eI) (P_lin_Validate x1) fun v3 => (kIf (c := v3 != (0 : Int)) (kXj (alts := A_lin_Add_J5000001 (x0, x1)) ev0 true (.here () rfl (.cons (LeV.refl (AV.ptr (0 : Nat) (0 : Nat) (0 : Nat))) (.cons (LeV.refl (AV.ptr (1 : Nat) (0 : Nat) (0 : Nat))) (.cons (LeV.refl (AV.ptr (2 : Nat) (0 : Nat) (0 : Nat))) (.cons (LeV.refl (AV.bool true)) .nil)))) (.cons (LeB.refl (Box.cells (0 : Nat) [AV.int IntKind.i64 x0.fK, AV.sl (2 : Nat) (List.map egMono x0.fL)])) (.cons (LeB.refl (Box.cells (0 : Nat) [AV.int IntKind.i64 x1.fK, AV.sl (2 : Nat) (List.map egMono x1.fL)])) (.cons (LeB.cells (0 : Nat) (.cons (LeV.refl (AV.int IntKind.i64 (0 : Int))) (.cons (LeV.nil 2) .nil))) .nil)))))
 (kXj (alts := A_lin_Add_J5000001 (x0, x1)) ev0 false (.next (.here () rfl (.cons (LeV.refl (AV.ptr (0 : Nat) (0 : Nat) (0 : Nat))) (.cons (LeV.refl (AV.ptr (1 : Nat) (0 : Nat) (0 : Nat))) (.cons (LeV.refl (AV.ptr (2 : Nat) (0 : Nat) (0 : Nat))) (.cons (LeV.refl (AV.bool false)) .nil)))) (.cons (LeB.refl (Box.cells (0 : Nat) [AV.int IntKind.i64 x0.fK, AV.sl (2 : Nat) (List.map egMono x0.fL)])) (.cons (LeB.refl (Box.cells (0 : Nat) [AV.int IntKind.i64 x1.fK, AV.sl (2 : Nat) (List.map egMono x1.fL)])) (.cons (LeB.cells (0 : Nat) (.cons (LeV.refl (AV.int IntKind.i64 (0 : Int))) (.cons (LeV.nil 2) .nil))) .nil)))))))))))
 (fun v0 => (kW (sh := egLin) (gLin.mk (0 : Int) []) (LeV.agg (.cons (LeV.refl (AV.int IntKind.i64 (0 : Int))) (.cons (LeV.nil 2) .nil))) fun v5 => (kEr (enc := eT_gLin_I) (v5, (1 : Int)))))
 (fun v0 => (kC (sh := eT_I_B) (P_lin_plus x0.fK x1.fK) fun v7 => (kH (sh := R_lin_merge_c100) (bt := B_lin_merge_c100) (P_lin_merge_c100 x0.fL x1.fL (v7.snd, (gLin.mk v7.fst []))) fun v8 => (kIf (c := v8.fst) (kT (nM (sh := egMono) v8.snd.fL) (kEr (enc := eT_gLin_I) (v8.snd, (0 : Int))))
 (kW (sh := egLin) (gLin.mk (0 : Int) []) (LeV.agg (.cons (LeV.refl (AV.int IntKind.i64 (0 : Int))) (.cons (LeV.nil 2) .nil))) fun v9 => (kEr (enc := eT_gLin_I) (v9, (3 : Int))))))))) h)
def A_lin_Substitute_L6 (s : (Str × gLin)) (u : (gLin × (List gMono) × Int)) (o : (gLin × Int)) : List Alt := [⟨fun (x : (gLin × Int)) => x = o, .exit 0, fun x => [.ptr 0 0 0, .ptr 1 0 0, .ptr 2 0 0, .int .i64 x.2], fun x => [.cells 0 (egLin s.2).cells, .cells 0 (egLin u.1).cells, .cells 0 [.int .i64 x.1.fK, .ow 3 0 2 (List.length x.1.fL)], .own 0 2 (List.map egMono x.1.fL)]⟩]
def A_lin_Substitute_J7000001 (s : (Str × gLin × gLin × (List gMono) × Int)) (u : Int) (o : (gLin × Int)) : List Alt := [⟨fun (x : (gLin × Int)) => x = o, .normal, fun x => [.str (s.1), .ptr 0 0 0, .ptr 1 0 0, .ptr 2 0 0, .int .i64 (x.2), .sl 2 (List.map egMono (s.2.2.2.1)), .int .i64 (s.2.2.2.2), .int .i64 u], fun x => [.cells 0 (egLin (s.2.1)).cells, .cells 0 (egLin (s.2.2.1)).cells, .cells 0 [.int .i64 (x.1).fK, .ow 3 0 2 (List.length ((x.1).fL))], .own 0 2 (List.map egMono (x.1).fL)]⟩]
noncomputable def F_lin_Substitute_L6 (x1 : Str) (x8 : gLin) (x9 : Int) (x32 : List gMono) (x33 : Int) (x34 : Int) : Option (gLin × Int) :=
 if x34 < x33 then
 some x34 >>= fun v0 =>
 (ix x32 x34 >>= fun v2 =>
 if v2.fName == x1 then
 some (x8, v2.fBy)
 else
 if (x8.fL.length + (1 : Nat)) * (24 : Nat) ≤ (140737488355328 : Nat) ∧ x8.fL.length + (1 : Nat) ≤ (9223372036854775807 : Nat) then
 some (x8.fL ++ [v2]) >>= fun v3 =>
 some ((gLin.mk x8.fK v3), x9)
 else none) >>= fun v4 =>
 F_lin_Substitute_L6 x1 v4.fst v4.snd x32 x33 (IntKind.i64.wrap (v0 + (1 : Int)))
 else
 some (x8, x9)
  partial_fixpoint
theorem P_lin_Substitute_L6 (x1 : Str) (x5 : gLin) (x6 : gLin) (x8 : gLin) (x9 : Int) (x32 : List gMono) (x33 : Int) (x34 : Int) (o : (gLin × Int)) (h : F_lin_Substitute_L6 x1 x8 x9 x32 x33 x34 = some o) : LO 46 6 66 [1, 5, 6, 8, 9, 32, 33, 34] [.str x1, .ptr 0 0 0, .ptr 1 0 0, .ptr 2 0 0, .int .i64 x9, .sl 2 (List.map egMono x32), .int .i64 x33, .int .i64 x34] [.cells 0 (egLin x5).cells, .cells 0 (egLin x6).cells, .cells 0 [.int .i64 x8.fK, .ow 3 0 2 (List.length x8.fL)], .own 0 2 (List.map egMono x8.fL)] [5, 6, 8, 9] (A_lin_Substitute_L6 (x1, x5) (x6, x32, x33) o) :=
  F_lin_Substitute_L6.partial_correctness x1 x32 x33 (fun x8 x9 x34 o => ∀ (x5 : gLin) (x6 : gLin), LO 46 6 66 [1, 5, 6, 8, 9, 32, 33, 34] [.str x1, .ptr 0 0 0, .ptr 1 0 0, .ptr 2 0 0, .int .i64 x9, .sl 2 (List.map egMono x32), .int .i64 x33, .int .i64 x34] [.cells 0 (egLin x5).cells, .cells 0 (egLin x6).cells, .cells 0 [.int .i64 x8.fK, .ow 3 0 2 (List.length x8.fL)], .own 0 2 (List.map egMono x8.fL)] [5, 6, 8, 9] (A_lin_Substitute_L6 (x1, x5) (x6, x32, x33) o))
  (fun F_lin_Substitute_L6 ih_lin_Substitute_L6 x8 x9 x34 o h x5 x6 =>
  Lp1 (hs := [(35, .split), (36, .e egMono), (41, .split), (48, .z [{ slot := 45, own := 2 }] (some (.n egMono 48 (some .a)))), (7000001, .l [] [] [] [1, 5, 6, 8, 9, 32, 33, 34] [{ slot := 5 }, { slot := 6 }, { slot := 8 }, { slot := 8, path := [1], own := 2 }] (A_lin_Substitute_J7000001 (x1, x5, x6, x32, x33)))]) (kb := [{ slot := 5 }, { slot := 6 }, { slot := 8 }, { slot := 8, path := [1], own := 2 }]) (kbx := [{ slot := 5 }, { slot := 6 }, { slot := 8 }, { slot := 8, path := [1], own := 2 }]) (by kernel_rfl) (by kernel_rfl) ((kIfD (p := x34 < x33) (kJ1 (id := 7000001) x34 (fun v0 ev0 v1 => (kIx (enc := egMono) (l := x32) (k := x34) fun v2 => (kIf (c := v2.fName == x1) (kXj (alts := A_lin_Substitute_J7000001 (x1, x5, x6, x32, x33)) ev0 (x8, v2.fBy) (.here _ rfl (.refl _) (.refl _)))
 (kA (q := (x8.fL.length + (1 : Nat)) * (24 : Nat) ≤ (140737488355328 : Nat) ∧ x8.fL.length + (1 : Nat) ≤ (9223372036854775807 : Nat)) (sh := egMono) (l := x8.fL) (kO (sh := egMono) (x8.fL ++ [v2]) (mA (sh := egMono) x8.fL v2) (nA x8.fL v2) fun v3 => (kXj (alts := A_lin_Substitute_J7000001 (x1, x5, x6, x32, x33)) ev0 ((gLin.mk x8.fK v3), x9) (.here _ rfl (.refl _) (.refl _))))))))
 (fun v0 v4 => (kM0 (alts := A_lin_Substitute_L6 (x1, x5) (x6, x32, x33)) (fun y hy => ih_lin_Substitute_L6 v4.fst v4.snd (IntKind.i64.wrap (v0 + (1 : Int))) y hy x5 x6))))
 (kX (alts := A_lin_Substitute_L6 (x1, x5) (x6, x32, x33)) (x8, x9) (.here _ rfl (.refl _) (.refl _)))) h)) x8 x9 x34 o h x5 x6
def A_lin_Substitute_J5000001 (s : (Str × gLin × gLin)) (u : gLin) (o : Bool) : List Alt := [⟨fun (x : Unit) => true = o, .normal, fun x => [.str (s.1), .ptr 0 0 0, .ptr 1 0 0, .ptr 2 0 0, .bool true], fun x => [.cells 0 (egLin (s.2.1)).cells, .cells 0 (egLin (s.2.2)).cells, .cells 0 (egLin u).cells]⟩, ⟨fun (x : Unit) => false = o, .normal, fun x => [.str (s.1), .ptr 0 0 0, .ptr 1 0 0, .ptr 2 0 0, .bool false], fun x => [.cells 0 (egLin (s.2.1)).cells, .cells 0 (egLin (s.2.2)).cells, .cells 0 (egLin u).cells]⟩]
noncomputable def F_lin_Substitute (x0 : gLin) (x1 : Str) (x2 : gLin) : Option (gLin × Int) :=
 some (gLin.mk (0 : Int) []) >>= fun v0 =>
 (F_lin_Validate x0 >>= fun v2 =>
 if v2 != (0 : Int) then
 some true
 else
 F_lin_identifier x1 >>= fun v3 => if v3 then
 F_lin_Validate x2 >>= fun v4 =>
 if v4 != (0 : Int) then
 some true
 else
 some false
 else
 some true) >>= fun v1 => if v1 then
 some ((gLin.mk (0 : Int) [])) >>= fun v6 =>
 some (v6, (1 : Int))
 else
 some (List.length x0.fL : Int) >>= fun v8 =>
 some (v0, x0.fL, v8) >>= fun v9 =>
 F_lin_Substitute_L6 x1 (gLin.mk x0.fK []) (0 : Int) x0.fL v8 (0 : Int) >>= fun v11 =>
 F_lin_Scale x2 v11.snd >>= fun v12 =>
 if v12.snd != (0 : Int) then
 some ((gLin.mk (0 : Int) [])) >>= fun v13 =>
 some (v13, v12.snd)
 else
 F_lin_Add v11.fst v12.fst >>= fun v14 =>
 some (v14.fst, v14.snd)
theorem P_lin_Substitute (x0 : gLin) (x1 : Str) (x2 : gLin) (r : (gLin × Int)) (h : F_lin_Substitute x0 x1 x2 = some r) : PU 46 [egLin x0, eS x1, egLin x2] (eT_gLin_I r) :=
  Pu1 (hs := [(15, .c eI), (16, .split), (19, .cb), (24, .c eI), (25, .split), (27, .n egLin 27 none), (33, .n eI 33 none), (54, .c eT_gLin_I), (58, .split), (59, .n egLin 59 none), (63, .z [{ slot := 61, path := [1], fz := true }] (some (.c eT_gLin_I))), (3000007, .l [] [1, 5, 6, 8, 9, 32, 33, 34] [{ slot := 5 }, { slot := 6 }, { slot := 8 }, { slot := 8, path := [1], own := 2 }] [5, 6, 8, 9] [{ slot := 5 }, { slot := 6 }, { slot := 8 }, { slot := 8, path := [1], own := 2 }] (A_lin_Substitute_L6 (x1, x2))), (5000001, .l [] [] [] [1, 3, 5, 6, 26] [{ slot := 3 }, { slot := 5 }, { slot := 6 }] (A_lin_Substitute_J5000001 (x1, x0, x2)))]) (by kernel_rfl) ((kJb (id := 5000001) (gLin.mk (0 : Int) []) (fun v0 ev0 v1 => (kC (sh := eI) (P_lin_Validate x0) fun v2 => (kIf (c := v2 != (0 : Int)) (kXj (alts := A_lin_Substitute_J5000001 (x1, x0, x2)) ev0 true (.here () rfl (.cons (LeV.refl (AV.str x1)) (.cons (LeV.refl (AV.ptr (0 : Nat) (0 : Nat) (0 : Nat))) (.cons (LeV.refl (AV.ptr (1 : Nat) (0 : Nat) (0 : Nat))) (.cons (LeV.refl (AV.ptr (2 : Nat) (0 : Nat) (0 : Nat))) (.cons (LeV.refl (AV.bool true)) .nil))))) (.cons (LeB.refl (Box.cells (0 : Nat) [AV.int IntKind.i64 x0.fK, AV.sl (2 : Nat) (List.map egMono x0.fL)])) (.cons (LeB.refl (Box.cells (0 : Nat) [AV.int IntKind.i64 x2.fK, AV.sl (2 : Nat) (List.map egMono x2.fL)])) (.cons (LeB.cells (0 : Nat) (.cons (LeV.refl (AV.int IntKind.i64 (0 : Int))) (.cons (LeV.nil 2) .nil))) .nil)))))
 (kCb (P_lin_identifier x1) (kC (sh := eI) (P_lin_Validate x2) fun v4 => (kIf (c := v4 != (0 : Int)) (kXj (alts := A_lin_Substitute_J5000001 (x1, x0, x2)) ev0 true (.here () rfl (.cons (LeV.refl (AV.str x1)) (.cons (LeV.refl (AV.ptr (0 : Nat) (0 : Nat) (0 : Nat))) (.cons (LeV.refl (AV.ptr (1 : Nat) (0 : Nat) (0 : Nat))) (.cons (LeV.refl (AV.ptr (2 : Nat) (0 : Nat) (0 : Nat))) (.cons (LeV.refl (AV.bool true)) .nil))))) (.cons (LeB.refl (Box.cells (0 : Nat) [AV.int IntKind.i64 x0.fK, AV.sl (2 : Nat) (List.map egMono x0.fL)])) (.cons (LeB.refl (Box.cells (0 : Nat) [AV.int IntKind.i64 x2.fK, AV.sl (2 : Nat) (List.map egMono x2.fL)])) (.cons (LeB.cells (0 : Nat) (.cons (LeV.refl (AV.int IntKind.i64 (0 : Int))) (.cons (LeV.nil 2) .nil))) .nil)))))
 (kXj (alts := A_lin_Substitute_J5000001 (x1, x0, x2)) ev0 false (.next (.here () rfl (.cons (LeV.refl (AV.str x1)) (.cons (LeV.refl (AV.ptr (0 : Nat) (0 : Nat) (0 : Nat))) (.cons (LeV.refl (AV.ptr (1 : Nat) (0 : Nat) (0 : Nat))) (.cons (LeV.refl (AV.ptr (2 : Nat) (0 : Nat) (0 : Nat))) (.cons (LeV.refl (AV.bool false)) .nil))))) (.cons (LeB.refl (Box.cells (0 : Nat) [AV.int IntKind.i64 x0.fK, AV.sl (2 : Nat) (List.map egMono x0.fL)])) (.cons (LeB.refl (Box.cells (0 : Nat) [AV.int IntKind.i64 x2.fK, AV.sl (2 : Nat) (List.map egMono x2.fL)])) (.cons (LeB.cells (0 : Nat) (.cons (LeV.refl (AV.int IntKind.i64 (0 : Int))) (.cons (LeV.nil 2) .nil))) .nil))))))))
 (kXj (alts := A_lin_Substitute_J5000001 (x1, x0, x2)) ev0 true (.here () rfl (.cons (LeV.refl (AV.str x1)) (.cons (LeV.refl (AV.ptr (0 : Nat) (0 : Nat) (0 : Nat))) (.cons (LeV.refl (AV.ptr (1 : Nat) (0 : Nat) (0 : Nat))) (.cons (LeV.refl (AV.ptr (2 : Nat) (0 : Nat) (0 : Nat))) (.cons (LeV.refl (AV.bool true)) .nil))))) (.cons (LeB.refl (Box.cells (0 : Nat) [AV.int IntKind.i64 x0.fK, AV.sl (2 : Nat) (List.map egMono x0.fL)])) (.cons (LeB.refl (Box.cells (0 : Nat) [AV.int IntKind.i64 x2.fK, AV.sl (2 : Nat) (List.map egMono x2.fL)])) (.cons (LeB.cells (0 : Nat) (.cons (LeV.refl (AV.int IntKind.i64 (0 : Int))) (.cons (LeV.nil 2) .nil))) .nil)))))))))
 (fun v0 => (kW (sh := egLin) (gLin.mk (0 : Int) []) (LeV.agg (.cons (LeV.refl (AV.int IntKind.i64 (0 : Int))) (.cons (LeV.nil 2) .nil))) fun v6 => (kEr (enc := eT_gLin_I) (v6, (1 : Int)))))
 (fun v0 => (kN _ (mLen (sh := egMono) x0.fL) fun v8 => (kL1 (v0, x0.fL, v8) (P_lin_Substitute_L6 x1 x2 v0 (gLin.mk x0.fK []) (0 : Int) x0.fL v8 (0 : Int)) fun v9 v11 => (kC (sh := eT_gLin_I) (P_lin_Scale x2 v11.snd) fun v12 => (kIf (c := v12.snd != (0 : Int)) (kW (sh := egLin) (gLin.mk (0 : Int) []) (LeV.agg (.cons (LeV.refl (AV.int IntKind.i64 (0 : Int))) (.cons (LeV.nil 2) .nil))) fun v13 => (kEr (enc := eT_gLin_I) (v13, v12.snd)))
 (kT (nM (sh := egMono) v11.fst.fL) (kC (sh := eT_gLin_I) (P_lin_Add v11.fst v12.fst) fun v14 => (kEr (enc := eT_gLin_I) (v14.fst, v14.snd)))))))))) h)
noncomputable def F_loopnest_Substitute_1 (x0 : gLin) (x1 : Str) (x2 : gLin) : Option (gLin × Int) :=
 F_lin_Substitute x0 x1 x2 >>= fun v0 =>
 some (v0.fst, v0.snd)
theorem P_loopnest_Substitute_1 (x0 : gLin) (x1 : Str) (x2 : gLin) (r : (gLin × Int)) (h : F_loopnest_Substitute_1 x0 x1 x2 = some r) : PU 45 [egLin x0, .ip 1 [.agg [.str x1]] 0 0, .ip 2 [.agg [.int .i64 x2.fK, .sl 2 (List.map egMono x2.fL)]] 0 0] (eT_gLin_I r) :=
  Pu1 (hs := [(9, .c eT_gLin_I)]) (by kernel_rfl) ((kC (sh := eT_gLin_I) (P_lin_Substitute x0 x1 x2) fun v0 => (kEr (enc := eT_gLin_I) (v0.fst, v0.snd))) h)
noncomputable def F_loopnest_same (x0 : Str) : Option Str :=
 some x0
theorem P_loopnest_same (x0 : Str) (r : Str) (h : F_loopnest_same x0 = some r) : PU 47 [eS x0] (eS r) :=
  Pu1 (hs := []) (by kernel_rfl) ((kEr (enc := eS) x0) h)
def A_loopnest_mapIndices_c45_L11 (s : ((List gIndex) × (Str × gLin) × Int)) (u : (Int × Int × Int)) (o : (List gIndex × List gLin) ⊕ ((List gIndex) × Int × (List gIndex))) : List Alt := [⟨fun (x : (List gIndex × List gLin)) => (Sum.inl x : (List gIndex × List gLin) ⊕ ((List gIndex) × Int × (List gIndex))) = o, .exit 2, fun x => [.sl 4 (List.map egIndex s.1), .fn 45 [.ip 1 [.agg [.str s.2.1.1]] 0 0, .ip 2 [.agg [.int .i64 s.2.1.2.fK, .sl 2 (List.map egMono s.2.1.2.fL)]] 0 0], .undef, .undef, .ow 0 0 4 (List.length x.1), .int .i64 s.2.2, .int .i64 u.2.1], fun x => [.hol 0 4 (List.map egIndex x.1) (Int.toNat u.1) 3 (.ow 1 0 2 (List.length x.2)), .own 0 2 (List.map egLin x.2)]⟩, ⟨fun (x : ((List gIndex) × Int × (List gIndex))) => (Sum.inr x : (List gIndex × List gLin) ⊕ ((List gIndex) × Int × (List gIndex))) = o, .ret, fun x => [.sl 4 (List.map egIndex s.1), .fn 45 [.ip 1 [.agg [.str s.2.1.1]] 0 0, .ip 2 [.agg [.int .i64 s.2.1.2.fK, .sl 2 (List.map egMono s.2.1.2.fL)]] 0 0], .sl 4 (List.map egIndex x.1), .int .i64 x.2.1, .ow 0 0 4 (List.length x.2.2), .int .i64 s.2.2, .int .i64 u.2.1], fun x => [.own 0 4 (List.map egIndex x.2.2)]⟩]
noncomputable def F_loopnest_mapIndices_c45_L11 (x0 : List gIndex) (x1 : (Str × gLin)) (x6 : (List gIndex × List gLin)) (x8 : Int) (x49 : Int) (x50 : Int) : Option ((List gIndex × List gLin) ⊕ ((List gIndex) × Int × (List gIndex))) :=
 if x50 < x49 then
 if (0 : Int) ≤ x8 ∧ x8 < (↑x6.fst.length : Int) then
 ix x0 x8 >>= fun v0 =>
 ix v0.fAt x50 >>= fun v1 =>
 F_loopnest_Substitute_1 v1 x1.fst x1.snd >>= fun v2 =>
 if (0 : Int) ≤ x50 ∧ x50 < (↑x6.snd.length : Int) then
 if x50.toNat < (List.map egLin x6.snd).length then
 some (List.set x6.snd x50.toNat v2.fst) >>= fun v3 =>
 if v2.snd != (0 : Int) then
 if x6.snd.length = (List.map egLin v3).length then
 x6.fst[x8.toNat]? >>= fun v4 =>
 some (List.set x6.fst x8.toNat (gIndex.mk v4.fLin v4.fFrom v3)) >>= fun v5 =>
 some (.inr ([], v2.snd, v5))
 else none
 else
 F_loopnest_mapIndices_c45_L11 x0 x1 (x6.fst, v3) x8 x49 (IntKind.i64.wrap (x50 + (1 : Int)))
 else none
 else none
 else none
 else
 some (.inl x6)
  partial_fixpoint
theorem P_loopnest_mapIndices_c45_L11 (x0 : List gIndex) (x1 : (Str × gLin)) (x6 : (List gIndex × List gLin)) (x8 : Int) (x13 : Int) (x14 : Int) (x49 : Int) (x50 : Int) (o : (List gIndex × List gLin) ⊕ ((List gIndex) × Int × (List gIndex))) (h : F_loopnest_mapIndices_c45_L11 x0 x1 x6 x8 x49 x50 = some o) : LO 71 11 79 [0, 1, 6, 8, 13, 14, 49, 50] [.sl 4 (List.map egIndex x0), .fn 45 [.ip 1 [.agg [.str x1.1]] 0 0, .ip 2 [.agg [.int .i64 x1.2.fK, .sl 2 (List.map egMono x1.2.fL)]] 0 0], .ow 0 0 4 (List.length x6.1), .int .i64 x8, .int .i64 x13, .int .i64 x14, .int .i64 x49, .int .i64 x50] [.hol 0 4 (List.map egIndex x6.1) (Int.toNat x8) 3 (.ow 1 0 2 (List.length x6.2)), .own 0 2 (List.map egLin x6.2)] [0, 1, 4, 5, 6, 13, 14] (A_loopnest_mapIndices_c45_L11 (x0, x1, x13) (x8, x14, x49) o) :=
  F_loopnest_mapIndices_c45_L11.partial_correctness x0 x1 x8 x49 (fun x6 x50 o => ∀ (x13 : Int) (x14 : Int), LO 71 11 79 [0, 1, 6, 8, 13, 14, 49, 50] [.sl 4 (List.map egIndex x0), .fn 45 [.ip 1 [.agg [.str x1.1]] 0 0, .ip 2 [.agg [.int .i64 x1.2.fK, .sl 2 (List.map egMono x1.2.fL)]] 0 0], .ow 0 0 4 (List.length x6.1), .int .i64 x8, .int .i64 x13, .int .i64 x14, .int .i64 x49, .int .i64 x50] [.hol 0 4 (List.map egIndex x6.1) (Int.toNat x8) 3 (.ow 1 0 2 (List.length x6.2)), .own 0 2 (List.map egLin x6.2)] [0, 1, 4, 5, 6, 13, 14] (A_loopnest_mapIndices_c45_L11 (x0, x1, x13) (x8, x14, x49) o))
  (fun F_loopnest_mapIndices_c45_L11 ih_loopnest_mapIndices_c45_L11 x6 x50 o h x13 x14 =>
  Lp1 (hs := [(51, .split), (56, .s), (58, .s), (63, .e egIndex), (67, .e egLin), (69, .c eT_gLin_I), (72, .s), (1000072, .n egLin 72 (some .s)), (74, .split), (75, .fl egIndex 6 none)]) (kb := [{ slot := 6 }, { slot := 6, path := [0] }]) (kbx := [{ slot := 4, fz := true }, { slot := 6 }, { slot := 6, path := [0] }]) (by kernel_rfl) (by kernel_rfl) ((kIfD (p := x50 < x49) (kG (p := (0 : Int) ≤ x8 ∧ x8 < (↑x6.fst.length : Int)) (kT (rfl : x8.toNat = x8.toNat) (kIx (enc := egIndex) (l := x0) (k := x8) fun v0 => (kIx (enc := egLin) (l := v0.fAt) (k := x50) fun v1 => (kC (sh := eT_gLin_I) (P_loopnest_Substitute_1 v1 x1.fst x1.snd) fun v2 => (kG (p := (0 : Int) ≤ x50 ∧ x50 < (↑x6.snd.length : Int)) (kG (p := x50.toNat < (List.map egLin x6.snd).length) (kBE (sh := egLin) (List.set x6.snd x50.toNat v2.fst) (mS (sh := egLin) x6.snd x50.toNat v2.fst) fun v3 ev3 => (kIf (c := v2.snd != (0 : Int)) (kG (p := x6.snd.length = (List.map egLin v3).length) (kOx (enc := egIndex) (l := x6.fst) (k := x8.toNat) fun v4 => (kBE (sh := egIndex) (List.set x6.fst x8.toNat (gIndex.mk v4.fLin v4.fFrom v3)) (mS (sh := egIndex) x6.fst x8.toNat (gIndex.mk v4.fLin v4.fFrom v3)) fun v5 ev5 => (kX (alts := A_loopnest_mapIndices_c45_L11 (x0, x1, x13) (x8, x14, x49)) (.inr ([], v2.snd, v5)) (.next (.here _ rfl (.cons (LeV.refl (AV.sl (4 : Nat) (List.map egIndex x0))) (.cons (LeV.refl (AV.fn (45 : Nat) [AV.ip (1 : Nat) [AV.agg [AV.str x1.fst]] (0 : Nat) (0 : Nat), AV.ip (2 : Nat) [AV.agg [AV.int IntKind.i64 x1.snd.fK, AV.sl (2 : Nat) (List.map egMono x1.snd.fL)]] (0 : Nat) (0 : Nat)])) (.cons (LeV.nil 4) (.cons (LeV.refl (AV.int IntKind.i64 v2.snd)) (.cons (LeV.owl (by simp [ev5, ev3] : x6.fst.length = List.length v5)) (.cons (LeV.refl (AV.int IntKind.i64 x13)) (.cons (LeV.refl (AV.int IntKind.i64 x14)) .nil))))))) (.refl _)))))))
 (kM (alts := A_loopnest_mapIndices_c45_L11 (x0, x1, x13) (x8, x14, x49)) (.cons (LeV.refl (AV.sl (4 : Nat) (List.map egIndex x0))) (.cons (LeV.refl (AV.fn (45 : Nat) [AV.ip (1 : Nat) [AV.agg [AV.str x1.fst]] (0 : Nat) (0 : Nat), AV.ip (2 : Nat) [AV.agg [AV.int IntKind.i64 x1.snd.fK, AV.sl (2 : Nat) (List.map egMono x1.snd.fL)]] (0 : Nat) (0 : Nat)])) (.cons (LeV.refl (AV.ow (0 : Nat) (0 : Nat) (4 : Nat) x6.fst.length)) (.cons (LeV.refl (AV.int IntKind.i64 x8)) (.cons (LeV.refl (AV.int IntKind.i64 x13)) (.cons (LeV.refl (AV.int IntKind.i64 x14)) (.cons (LeV.refl (AV.int IntKind.i64 x49)) (.cons (LeV.refl (AV.int IntKind.i64 (IntKind.i64.wrap (x50 + (1 : Int))))) .nil)))))))) (.cons (LeB.hol (0 : Nat) (4 : Nat) (List.map egIndex x6.fst) x8.toNat (3 : Nat) (LeV.owl (by simp [ev3] : x6.snd.length = List.length v3))) (.cons (LeB.refl (Box.own (0 : Nat) (2 : Nat) (List.map egLin v3))) .nil)) (fun y hy => ih_loopnest_mapIndices_c45_L11 (x6.fst, v3) (IntKind.i64.wrap (x50 + (1 : Int))) y hy x13 x14)))))))))))
 (kX (alts := A_loopnest_mapIndices_c45_L11 (x0, x1, x13) (x8, x14, x49)) (.inl x6) (.here _ rfl (.refl _) (.refl _)))) h)) x6 x50 o h x13 x14
def A_loopnest_mapIndices_c45_L4 (s : ((List gIndex) × (Str × gLin))) (u : Int) (o : (List gIndex) ⊕ ((List gIndex) × Int)) : List Alt := [⟨fun (x : List gIndex) => (Sum.inl x : (List gIndex) ⊕ ((List gIndex) × Int)) = o, .exit 0, fun x => [.undef, .undef, .sl 4 (List.map egIndex x)], fun x => []⟩, ⟨fun (x : ((List gIndex) × Int)) => (Sum.inr x : (List gIndex) ⊕ ((List gIndex) × Int)) = o, .ret, fun x => [.sl 4 (List.map egIndex x.1), .int .i64 x.2, .undef], fun x => []⟩]
noncomputable def F_loopnest_mapIndices_c45_L4 (x0 : List gIndex) (x1 : (Str × gLin)) (x6 : List gIndex) (x13 : Int) (x14 : Int) : Option ((List gIndex) ⊕ ((List gIndex) × Int)) :=
 if x14 < x13 then
 ix x0 x14 >>= fun v0 =>
 F_loopnest_Substitute_1 v0.fLin x1.fst x1.snd >>= fun v1 =>
 if (0 : Int) ≤ x14 ∧ x14 < (↑x6.length : Int) then
 x6[x14.toNat]? >>= fun v2 =>
 some (List.set x6 x14.toNat (gIndex.mk v1.fst v2.fFrom v2.fAt)) >>= fun v3 =>
 if v1.snd != (0 : Int) then
 if x6.length = (List.map egIndex v3).length then
 some (.inr ([], v1.snd))
 else none
 else
 ix x0 x14 >>= fun v4 =>
 F_slices_Clone_api_Lin v4.fAt >>= fun v5 =>
 if (0 : Int) ≤ x14 ∧ x14 < (↑x6.length : Int) then
 if x14.toNat < (List.map egIndex v3).length then
 ix x0 x14 >>= fun v6 =>
 some (List.length v6.fAt : Int) >>= fun v7 =>
 some (x14, x14, v7) >>= fun v8 =>
 F_loopnest_mapIndices_c45_L11 x0 x1 (v3, v5) x14 v7 (0 : Int) >>= fun v9 => (match v9 with
 | (.inl v10) =>
 v10.fst[v8.fst.toNat]? >>= fun v11 =>
 some (List.set v10.fst v8.fst.toNat (gIndex.mk v11.fLin v11.fFrom v10.snd)) >>= fun v12 =>
 F_loopnest_mapIndices_c45_L4 x0 x1 v12 x13 (IntKind.i64.wrap (v8.snd.fst + (1 : Int)))
 | (.inr v13) =>
 some (.inr (v13.fst, v13.snd.fst)))
 else none
 else none
 else none
 else
 some (.inl x6)
  partial_fixpoint
theorem P_loopnest_mapIndices_c45_L4 (x0 : List gIndex) (x1 : (Str × gLin)) (x6 : List gIndex) (x13 : Int) (x14 : Int) (o : (List gIndex) ⊕ ((List gIndex) × Int)) (h : F_loopnest_mapIndices_c45_L4 x0 x1 x6 x13 x14 = some o) : LO 71 4 79 [0, 1, 6, 13, 14] [.sl 4 (List.map egIndex x0), .fn 45 [.ip 1 [.agg [.str x1.1]] 0 0, .ip 2 [.agg [.int .i64 x1.2.fK, .sl 2 (List.map egMono x1.2.fL)]] 0 0], .ow 0 0 4 (List.length x6), .int .i64 x13, .int .i64 x14] [.own 0 4 (List.map egIndex x6)] [4, 5, 6] (A_loopnest_mapIndices_c45_L4 (x0, x1) x13 o) :=
  F_loopnest_mapIndices_c45_L4.partial_correctness x0 x1 x13 (fun x6 x14 o => LO 71 4 79 [0, 1, 6, 13, 14] [.sl 4 (List.map egIndex x0), .fn 45 [.ip 1 [.agg [.str x1.1]] 0 0, .ip 2 [.agg [.int .i64 x1.2.fK, .sl 2 (List.map egMono x1.2.fL)]] 0 0], .ow 0 0 4 (List.length x6), .int .i64 x13, .int .i64 x14] [.own 0 4 (List.map egIndex x6)] [4, 5, 6] (A_loopnest_mapIndices_c45_L4 (x0, x1) x13 o))
  (fun F_loopnest_mapIndices_c45_L4 ih_loopnest_mapIndices_c45_L4 x6 x14 o h  =>
  Lp1 (hs := [(15, .split), (23, .e egIndex), (26, .c eT_gLin_I), (29, .s), (1000030, .n egIndex 30 (some (.e egIndex))), (32, .split), (38, .e egIndex), (41, .h [] R_slices_Clone_api_Lin B_slices_Clone_api_Lin), (42, .s), (1000043, .s), (46, .e egIndex), (49, .n eI 49 none), (77, .fl egIndex 6 none), (3000012, .l [] [0, 1, 6, 8, 13, 14, 49, 50] [{ slot := 6 }, { slot := 6, path := [0] }] [0, 1, 4, 5, 6, 13, 14] [{ slot := 4, fz := true }, { slot := 6 }, { slot := 6, path := [0] }] (A_loopnest_mapIndices_c45_L11 (x0, x1, x13)))]) (kb := [{ slot := 6, own := 4 }]) (kbx := [{ slot := 4, fz := true }, { slot := 6, fz := true }]) (by kernel_rfl) (by kernel_rfl) ((kIfD (p := x14 < x13) (kIx (enc := egIndex) (l := x0) (k := x14) fun v0 => (kC (sh := eT_gLin_I) (P_loopnest_Substitute_1 v0.fLin x1.fst x1.snd) fun v1 => (kG (p := (0 : Int) ≤ x14 ∧ x14 < (↑x6.length : Int)) (kOx (enc := egIndex) (l := x6) (k := x14.toNat) fun v2 => (kBE (sh := egIndex) (List.set x6 x14.toNat (gIndex.mk v1.fst v2.fFrom v2.fAt)) (mS (sh := egIndex) x6 x14.toNat (gIndex.mk v1.fst v2.fFrom v2.fAt)) fun v3 ev3 => (kIf (c := v1.snd != (0 : Int)) (kG (p := x6.length = (List.map egIndex v3).length) (kX (alts := A_loopnest_mapIndices_c45_L4 (x0, x1) x13) (.inr ([], v1.snd)) (.next (.here _ rfl (.cons (LeV.nil 4) (.cons (LeV.refl (AV.int IntKind.i64 v1.snd)) (.cons (LeV.undef (AV.sl (4 : Nat) (List.map egIndex v3))) .nil))) (.refl _)))))
 (kIx (enc := egIndex) (l := x0) (k := x14) fun v4 => (kH (sh := R_slices_Clone_api_Lin) (bt := B_slices_Clone_api_Lin) (P_slices_Clone_api_Lin v4.fAt) fun v5 => (kG (p := (0 : Int) ≤ x14 ∧ x14 < (↑x6.length : Int)) (kG (p := x14.toNat < (List.map egIndex v3).length) (kIx (enc := egIndex) (l := x0) (k := x14) fun v6 => (kN _ (mLen (sh := egLin) v6.fAt) fun v7 => (kL2 (x14, x14, v7) (hL := (fun y hy => LoopOk.le (.cons (LeV.refl (AV.sl (4 : Nat) (List.map egIndex x0))) (.cons (LeV.refl (AV.fn (45 : Nat) [AV.ip (1 : Nat) [AV.agg [AV.str x1.fst]] (0 : Nat) (0 : Nat), AV.ip (2 : Nat) [AV.agg [AV.int IntKind.i64 x1.snd.fK, AV.sl (2 : Nat) (List.map egMono x1.snd.fL)]] (0 : Nat) (0 : Nat)])) (.cons (LeV.owl (by simp [ev3] : x6.length = List.length v3)) (.cons (LeV.refl (AV.int IntKind.i64 x14)) (.cons (LeV.refl (AV.int IntKind.i64 x13)) (.cons (LeV.refl (AV.int IntKind.i64 x14)) (.cons (LeV.refl (AV.int IntKind.i64 v7)) (.cons (LeV.refl (AV.int IntKind.i64 (0 : Int))) .nil)))))))) (.refl _) (P_loopnest_mapIndices_c45_L11 x0 x1 (v3, v5) x14 x13 x14 v7 (0 : Int) y hy))) (hA := fun v8 v10 => (kT (nM (sh := egLin) v10.snd) (kOx (enc := egIndex) (l := v10.fst) (k := v8.fst.toNat) fun v11 => (kBE (sh := egIndex) (List.set v10.fst v8.fst.toNat (gIndex.mk v11.fLin v11.fFrom v10.snd)) (mS (sh := egIndex) v10.fst v8.fst.toNat (gIndex.mk v11.fLin v11.fFrom v10.snd)) fun v12 ev12 => (kM (alts := A_loopnest_mapIndices_c45_L4 (x0, x1) x13) (.cons (LeV.refl (AV.sl (4 : Nat) (List.map egIndex x0))) (.cons (LeV.refl (AV.fn (45 : Nat) [AV.ip (1 : Nat) [AV.agg [AV.str x1.fst]] (0 : Nat) (0 : Nat), AV.ip (2 : Nat) [AV.agg [AV.int IntKind.i64 x1.snd.fK, AV.sl (2 : Nat) (List.map egMono x1.snd.fL)]] (0 : Nat) (0 : Nat)])) (.cons (LeV.owl (by simp [ev12, ev3] : v10.fst.length = List.length v12)) (.cons (LeV.refl (AV.int IntKind.i64 x13)) (.cons (LeV.refl (AV.int IntKind.i64 (IntKind.i64.wrap (v8.snd.fst + (1 : Int))))) .nil))))) (.refl _) (ih_loopnest_mapIndices_c45_L4 v12 (IntKind.i64.wrap (v8.snd.fst + (1 : Int)))))))))
 (hB := fun v8 v13 => (kT (nM (sh := egIndex) v13.snd.snd) (kX (alts := A_loopnest_mapIndices_c45_L4 (x0, x1) x13) (.inr (v13.fst, v13.snd.fst)) (.next (.here _ rfl (.cons (LeV.refl (AV.sl (4 : Nat) (List.map egIndex v13.fst))) (.cons (LeV.refl (AV.int IntKind.i64 v13.snd.fst)) (.cons (LeV.undef (AV.sl (4 : Nat) (List.map egIndex v13.snd.snd))) .nil))) (.refl _)))))))))))))))))))
 (kT (nM (sh := egIndex) x6) (kX (alts := A_loopnest_mapIndices_c45_L4 (x0, x1) x13) (.inl x6) (.here _ rfl (.refl _) (.refl _))))) h)) x6 x14 o h
noncomputable def F_loopnest_mapIndices_c45 (x0 : List gIndex) (x1 : (Str × gLin)) : Option (List gIndex × Int) :=
 F_slices_Clone_api_Index x0 >>= fun v0 =>
 some (List.length x0 : Int) >>= fun v1 =>
 some v1 >>= fun v2 =>
 F_loopnest_mapIndices_c45_L4 x0 x1 v0 v1 (0 : Int) >>= fun v3 => (match v3 with
 | (.inl v4) =>
 some (v4, (0 : Int))
 | (.inr v5) =>
 some (v5.fst, v5.snd))
theorem P_loopnest_mapIndices_c45 (x0 : List gIndex) (x1 : (Str × gLin)) (r : (List gIndex × Int)) (h : F_loopnest_mapIndices_c45 x0 x1 = some r) : PU 71 [eLgIndex x0, .fn 45 [.ip 1 [.agg [.str x1.1]] 0 0, .ip 2 [.agg [.int .i64 x1.2.fK, .sl 2 (List.map egMono x1.2.fL)]] 0 0]] (eT_LgIndex_I r) :=
  Pu1 (hs := [(11, .h [] R_slices_Clone_api_Index B_slices_Clone_api_Index), (13, .n eI 13 none), (3000005, .l [] [0, 1, 6, 13, 14] [{ slot := 6, own := 4 }] [4, 5, 6] [{ slot := 4, fz := true }, { slot := 6, fz := true }] (A_loopnest_mapIndices_c45_L4 (x0, x1)))]) (by kernel_rfl) ((kH (sh := R_slices_Clone_api_Index) (bt := B_slices_Clone_api_Index) (P_slices_Clone_api_Index x0) fun v0 => (kN _ (mLen (sh := egIndex) x0) fun v1 => (kL2 v1 (hL := (P_loopnest_mapIndices_c45_L4 x0 x1 v0 v1 (0 : Int))) (hA := fun v2 v4 => (kEr (enc := eT_LgIndex_I) (v4, (0 : Int))))
 (hB := fun v2 v5 => (kEr (enc := eT_LgIndex_I) (v5.fst, v5.snd)))))) h)
def A_loopnest_mapExpr_c45_L11 (s : ((Str × gLin) × gExprS)) (u : Int) (o : (gExprS × gExprS) ⊕ (gExprS × Int × gExprS)) : List Alt := [⟨fun (x : (gExprS × gExprS)) => (Sum.inl x : (gExprS × gExprS) ⊕ (gExprS × Int × gExprS)) = o, .exit 0, fun x => [.ptr 0 0 0, .undef, .ptr 1 0 0], fun x => [.cells 0 (hgExpr x.1).cells, .cells 0 [.int .i64 x.2.fOp, .str x.2.fName, .int .i64 x.2.fVal.fN, .int .i64 x.2.fVal.fD, .int .i64 x.2.fType.fKind, .int .i64 x.2.fType.fBits, .int .i64 x.2.fType.fFrac, .int .i64 x.2.fType.fRound, .int .i64 x.2.fType.fOver, .int .i64 x.2.fLin.fK, .sl 2 (List.map egMono x.2.fLin.fL), .sl 4 (List.map egIndex x.2.fIdx), .ow 2 0 13 (List.length x.2.fArgs)], .own 0 13 (List.map egExpr x.2.fArgs)]⟩, ⟨fun (x : (gExprS × Int × gExprS)) => (Sum.inr x : (gExprS × gExprS) ⊕ (gExprS × Int × gExprS)) = o, .ret, fun x => [.ptr 0 0 0, .int .i64 x.2.1, .ptr 1 0 0], fun x => [.cells 0 (hgExpr x.1).cells, .cells 0 [.int .i64 x.2.2.fOp, .str x.2.2.fName, .int .i64 x.2.2.fVal.fN, .int .i64 x.2.2.fVal.fD, .int .i64 x.2.2.fType.fKind, .int .i64 x.2.2.fType.fBits, .int .i64 x.2.2.fType.fFrac, .int .i64 x.2.2.fType.fRound, .int .i64 x.2.2.fType.fOver, .int .i64 x.2.2.fLin.fK, .sl 2 (List.map egMono x.2.2.fLin.fL), .sl 4 (List.map egIndex x.2.2.fIdx), .ow 2 0 13 (List.length x.2.2.fArgs)], .own 0 13 (List.map egExpr x.2.2.fArgs)]⟩]
mutual
noncomputable def F_loopnest_mapExpr_c45 (x0 : gExprS) (x1 : (Str × gLin)) : Option (gExprS × Int) :=
 F_loopnest_Substitute_1 x0.fLin x1.fst x1.snd >>= fun v0 =>
 if v0.snd != (0 : Int) then
 some ((gExprF.mk (0 : Int) [] (gVal.mk (0 : Int) (0 : Int)) (gType.mk (0 : Int) (0 : Int) (0 : Int) (0 : Int) (0 : Int)) (gLin.mk (0 : Int) []) [] [] : gExprS)) >>= fun v1 =>
 some (v1, v0.snd)
 else
 F_loopnest_mapIndices_c45 x0.fIdx x1 >>= fun v2 =>
 if v2.snd != (0 : Int) then
 some ((gExprF.mk (0 : Int) [] (gVal.mk (0 : Int) (0 : Int)) (gType.mk (0 : Int) (0 : Int) (0 : Int) (0 : Int) (0 : Int)) (gLin.mk (0 : Int) []) [] [] : gExprS)) >>= fun v3 =>
 some (v3, v2.snd)
 else
 F_slices_Clone_api_Expr x0.fArgs >>= fun v4 =>
 some (List.length x0.fArgs : Int) >>= fun v5 =>
 some v5 >>= fun v6 =>
 F_loopnest_mapExpr_c45_L11 x1 x0 (gExprF.mk (0 : Int) [] (gVal.mk (0 : Int) (0 : Int)) (gType.mk (0 : Int) (0 : Int) (0 : Int) (0 : Int) (0 : Int)) (gLin.mk (0 : Int) []) [] [] : gExprS) (gExprF.mk x0.fOp x0.fName x0.fVal x0.fType v0.fst v2.fst v4 : gExprS) v5 (0 : Int) >>= fun v7 => (match v7 with
 | (.inl v8) =>
 some (v8.snd, (0 : Int))
 | (.inr v9) =>
 some (v9.fst, v9.snd.fst))
  partial_fixpoint
noncomputable def F_loopnest_mapExpr_c45_L11 (x1 : (Str × gLin)) (x2 : gExprS) (x4 : gExprS) (x6 : gExprS) (x40 : Int) (x41 : Int) : Option ((gExprS × gExprS) ⊕ (gExprS × Int × gExprS)) :=
 if x41 < x40 then
 Option.map gExpr.f (ix x2.fArgs x41) >>= fun v0 =>
 F_loopnest_mapExpr_c45 v0 x1 >>= fun v1 =>
 if (0 : Int) ≤ x41 ∧ x41 < (↑x6.fArgs.length : Int) then
 if x41.toNat < (List.map egExpr x6.fArgs).length then
 some (List.set x6.fArgs x41.toNat (gExpr.mk v1.fst)) >>= fun v2 =>
 if v1.snd != (0 : Int) then
 some ((gExprF.mk (0 : Int) [] (gVal.mk (0 : Int) (0 : Int)) (gType.mk (0 : Int) (0 : Int) (0 : Int) (0 : Int) (0 : Int)) (gLin.mk (0 : Int) []) [] [] : gExprS)) >>= fun v3 =>
 some (.inr (v3, v1.snd, (gExprF.mk x6.fOp x6.fName x6.fVal x6.fType x6.fLin x6.fIdx v2 : gExprS)))
 else
 F_loopnest_mapExpr_c45_L11 x1 x2 x4 (gExprF.mk x6.fOp x6.fName x6.fVal x6.fType x6.fLin x6.fIdx v2 : gExprS) x40 (IntKind.i64.wrap (x41 + (1 : Int)))
 else none
 else none
 else
 some (.inl (x4, x6))
  partial_fixpoint
end
theorem PM_loopnest_mapExpr_c45 (x1 : (Str × gLin)) : (∀ (x0 : gExprS) (r : (gExprS × Int)), F_loopnest_mapExpr_c45 x0 x1 = some r → PU 72 [hgExpr x0, .fn 45 [.ip 1 [.agg [.str x1.1]] 0 0, .ip 2 [.agg [.int .i64 x1.2.fK, .sl 2 (List.map egMono x1.2.fL)]] 0 0]] (eT_gExpr_I r)) ∧ (∀ (x2 : gExprS) (x4 : gExprS) (x6 : gExprS) (x40 : Int) (x41 : Int) (o : (gExprS × gExprS) ⊕ (gExprS × Int × gExprS)), F_loopnest_mapExpr_c45_L11 x1 x2 x4 x6 x40 x41 = some o → LO 72 11 64 [1, 2, 4, 6, 40, 41] [.fn 45 [.ip 1 [.agg [.str x1.1]] 0 0, .ip 2 [.agg [.int .i64 x1.2.fK, .sl 2 (List.map egMono x1.2.fL)]] 0 0], .ptr 0 0 0, .ptr 1 0 0, .ptr 2 0 0, .int .i64 x40, .int .i64 x41] [.cells 0 (hgExpr x2).cells, .cells 0 (hgExpr x4).cells, .cells 0 [.int .i64 x6.fOp, .str x6.fName, .int .i64 x6.fVal.fN, .int .i64 x6.fVal.fD, .int .i64 x6.fType.fKind, .int .i64 x6.fType.fBits, .int .i64 x6.fType.fFrac, .int .i64 x6.fType.fRound, .int .i64 x6.fType.fOver, .int .i64 x6.fLin.fK, .sl 2 (List.map egMono x6.fLin.fL), .sl 4 (List.map egIndex x6.fIdx), .ow 3 0 13 (List.length x6.fArgs)], .own 0 13 (List.map egExpr x6.fArgs)] [4, 5, 6] (A_loopnest_mapExpr_c45_L11 (x1, x2) x40 o)) :=
  F_loopnest_mapExpr_c45.mutual_partial_correctness x1 (fun x0 r => PU 72 [hgExpr x0, .fn 45 [.ip 1 [.agg [.str x1.1]] 0 0, .ip 2 [.agg [.int .i64 x1.2.fK, .sl 2 (List.map egMono x1.2.fL)]] 0 0]] (eT_gExpr_I r)) (fun x2 x4 x6 x40 x41 o => LO 72 11 64 [1, 2, 4, 6, 40, 41] [.fn 45 [.ip 1 [.agg [.str x1.1]] 0 0, .ip 2 [.agg [.int .i64 x1.2.fK, .sl 2 (List.map egMono x1.2.fL)]] 0 0], .ptr 0 0 0, .ptr 1 0 0, .ptr 2 0 0, .int .i64 x40, .int .i64 x41] [.cells 0 (hgExpr x2).cells, .cells 0 (hgExpr x4).cells, .cells 0 [.int .i64 x6.fOp, .str x6.fName, .int .i64 x6.fVal.fN, .int .i64 x6.fVal.fD, .int .i64 x6.fType.fKind, .int .i64 x6.fType.fBits, .int .i64 x6.fType.fFrac, .int .i64 x6.fType.fRound, .int .i64 x6.fType.fOver, .int .i64 x6.fLin.fK, .sl 2 (List.map egMono x6.fLin.fL), .sl 4 (List.map egIndex x6.fIdx), .ow 3 0 13 (List.length x6.fArgs)], .own 0 13 (List.map egExpr x6.fArgs)] [4, 5, 6] (A_loopnest_mapExpr_c45_L11 (x1, x2) x40 o))
  (fun F_loopnest_mapExpr_c45_L11 ih_loopnest_mapExpr_c45_L11 x0 r h  =>
  Pu1 (hs := [(14, .c eT_gLin_I), (19, .split), (20, .n hgExpr 20 none), (26, .c eT_LgIndex_I), (31, .split), (32, .n hgExpr 32 none), (36, .h [] R_slices_Clone_api_Expr B_slices_Clone_api_Expr), (40, .n eI 40 none), (3000012, .l [] [1, 2, 4, 6, 40, 41] [{ slot := 2 }, { slot := 4 }, { slot := 6 }, { slot := 6, path := [12], own := 13 }] [4, 5, 6] [{ slot := 4 }, { slot := 6 }, { slot := 6, path := [12], own := 13 }] (A_loopnest_mapExpr_c45_L11 (x1, x0)))]) (by kernel_rfl) ((kC (sh := eT_gLin_I) (P_loopnest_Substitute_1 x0.fLin x1.fst x1.snd) fun v0 => (kIf (c := v0.snd != (0 : Int)) (kW (sh := hgExpr) (gExprF.mk (0 : Int) [] (gVal.mk (0 : Int) (0 : Int)) (gType.mk (0 : Int) (0 : Int) (0 : Int) (0 : Int) (0 : Int)) (gLin.mk (0 : Int) []) [] [] : gExprS) (LeV.agg (.cons (LeV.refl (AV.int IntKind.i64 (0 : Int))) (.cons (LeV.refl (AV.str [])) (.cons (LeV.refl (AV.int IntKind.i64 (0 : Int))) (.cons (LeV.refl (AV.int IntKind.i64 (0 : Int))) (.cons (LeV.refl (AV.int IntKind.i64 (0 : Int))) (.cons (LeV.refl (AV.int IntKind.i64 (0 : Int))) (.cons (LeV.refl (AV.int IntKind.i64 (0 : Int))) (.cons (LeV.refl (AV.int IntKind.i64 (0 : Int))) (.cons (LeV.refl (AV.int IntKind.i64 (0 : Int))) (.cons (LeV.refl (AV.int IntKind.i64 (0 : Int))) (.cons (LeV.nil 2) (.cons (LeV.nil 4) (.cons (LeV.nil 13) .nil)))))))))))))) fun v1 => (kEr (enc := eT_gExpr_I) (v1, v0.snd)))
 (kC (sh := eT_LgIndex_I) (P_loopnest_mapIndices_c45 x0.fIdx x1) fun v2 => (kIf (c := v2.snd != (0 : Int)) (kW (sh := hgExpr) (gExprF.mk (0 : Int) [] (gVal.mk (0 : Int) (0 : Int)) (gType.mk (0 : Int) (0 : Int) (0 : Int) (0 : Int) (0 : Int)) (gLin.mk (0 : Int) []) [] [] : gExprS) (LeV.agg (.cons (LeV.refl (AV.int IntKind.i64 (0 : Int))) (.cons (LeV.refl (AV.str [])) (.cons (LeV.refl (AV.int IntKind.i64 (0 : Int))) (.cons (LeV.refl (AV.int IntKind.i64 (0 : Int))) (.cons (LeV.refl (AV.int IntKind.i64 (0 : Int))) (.cons (LeV.refl (AV.int IntKind.i64 (0 : Int))) (.cons (LeV.refl (AV.int IntKind.i64 (0 : Int))) (.cons (LeV.refl (AV.int IntKind.i64 (0 : Int))) (.cons (LeV.refl (AV.int IntKind.i64 (0 : Int))) (.cons (LeV.refl (AV.int IntKind.i64 (0 : Int))) (.cons (LeV.nil 2) (.cons (LeV.nil 4) (.cons (LeV.nil 13) .nil)))))))))))))) fun v3 => (kEr (enc := eT_gExpr_I) (v3, v2.snd)))
 (kH (sh := R_slices_Clone_api_Expr) (bt := B_slices_Clone_api_Expr) (P_slices_Clone_api_Expr x0.fArgs) fun v4 => (kN _ (mLen (sh := egExpr) x0.fArgs) fun v5 => (kL2 v5 (hL := (fun y hy => LoopOk.le (.cons (LeV.refl (AV.fn (45 : Nat) [AV.ip (1 : Nat) [AV.agg [AV.str x1.fst]] (0 : Nat) (0 : Nat), AV.ip (2 : Nat) [AV.agg [AV.int IntKind.i64 x1.snd.fK, AV.sl (2 : Nat) (List.map egMono x1.snd.fL)]] (0 : Nat) (0 : Nat)])) (.cons (LeV.refl (AV.ptr (0 : Nat) (0 : Nat) (0 : Nat))) (.cons (LeV.refl (AV.ptr (1 : Nat) (0 : Nat) (0 : Nat))) (.cons (LeV.refl (AV.ptr (2 : Nat) (0 : Nat) (0 : Nat))) (.cons (LeV.refl (AV.int IntKind.i64 v5)) (.cons (LeV.refl (AV.int IntKind.i64 (0 : Int))) .nil)))))) (.cons (LeB.refl (Box.cells (0 : Nat) [AV.int IntKind.i64 x0.fOp, AV.str x0.fName, AV.int IntKind.i64 x0.fVal.fN, AV.int IntKind.i64 x0.fVal.fD, AV.int IntKind.i64 x0.fType.fKind, AV.int IntKind.i64 x0.fType.fBits, AV.int IntKind.i64 x0.fType.fFrac, AV.int IntKind.i64 x0.fType.fRound, AV.int IntKind.i64 x0.fType.fOver, AV.int IntKind.i64 x0.fLin.fK, AV.sl (2 : Nat) (List.map egMono x0.fLin.fL), AV.sl (4 : Nat) (List.map egIndex x0.fIdx), AV.sl (13 : Nat) (List.map egExpr x0.fArgs)])) (.cons (LeB.cells (0 : Nat) (.cons (LeV.refl (AV.int IntKind.i64 (0 : Int))) (.cons (LeV.refl (AV.str [])) (.cons (LeV.refl (AV.int IntKind.i64 (0 : Int))) (.cons (LeV.refl (AV.int IntKind.i64 (0 : Int))) (.cons (LeV.refl (AV.int IntKind.i64 (0 : Int))) (.cons (LeV.refl (AV.int IntKind.i64 (0 : Int))) (.cons (LeV.refl (AV.int IntKind.i64 (0 : Int))) (.cons (LeV.refl (AV.int IntKind.i64 (0 : Int))) (.cons (LeV.refl (AV.int IntKind.i64 (0 : Int))) (.cons (LeV.refl (AV.int IntKind.i64 (0 : Int))) (.cons (LeV.nil 2) (.cons (LeV.nil 4) (.cons (LeV.nil 13) .nil)))))))))))))) (.cons (LeB.refl (Box.cells (0 : Nat) [AV.int IntKind.i64 x0.fOp, AV.str x0.fName, AV.int IntKind.i64 x0.fVal.fN, AV.int IntKind.i64 x0.fVal.fD, AV.int IntKind.i64 x0.fType.fKind, AV.int IntKind.i64 x0.fType.fBits, AV.int IntKind.i64 x0.fType.fFrac, AV.int IntKind.i64 x0.fType.fRound, AV.int IntKind.i64 x0.fType.fOver, AV.int IntKind.i64 v0.fst.fK, AV.sl (2 : Nat) (List.map egMono v0.fst.fL), AV.sl (4 : Nat) (List.map egIndex v2.fst), AV.ow (3 : Nat) (0 : Nat) (13 : Nat) v4.length])) (.cons (LeB.refl (Box.own (0 : Nat) (13 : Nat) (List.map egExpr v4))) .nil)))) (ih_loopnest_mapExpr_c45_L11 x0 (gExprF.mk (0 : Int) [] (gVal.mk (0 : Int) (0 : Int)) (gType.mk (0 : Int) (0 : Int) (0 : Int) (0 : Int) (0 : Int)) (gLin.mk (0 : Int) []) [] [] : gExprS) (gExprF.mk x0.fOp x0.fName x0.fVal x0.fType v0.fst v2.fst v4 : gExprS) v5 (0 : Int) y hy))) (hA := fun v6 v8 => (kT (nM (sh := egExpr) v8.snd.fArgs) (kEr (enc := eT_gExpr_I) (v8.snd, (0 : Int)))))
 (hB := fun v6 v9 => (kEr (enc := eT_gExpr_I) (v9.fst, v9.snd.fst)))))))))) h))
  (fun F_loopnest_mapExpr_c45 F_loopnest_mapExpr_c45_L11 ih_loopnest_mapExpr_c45 ih_loopnest_mapExpr_c45_L11 x2 x4 x6 x40 x41 o h  =>
  Lp1 (hs := [(42, .split), (51, .e hgExpr), (54, .c eT_gExpr_I), (57, .s), (1000057, .n egExpr 57 (some .s)), (59, .split), (60, .n hgExpr 60 none)]) (kb := [{ slot := 2 }, { slot := 4 }, { slot := 6 }, { slot := 6, path := [12], own := 13 }]) (kbx := [{ slot := 4 }, { slot := 6 }, { slot := 6, path := [12], own := 13 }]) (by kernel_rfl) (by kernel_rfl) ((kIfD (p := x41 < x40) (kIxR (l := x2.fArgs) (k := x41) egExpr_f fun v0 => (kC (sh := eT_gExpr_I) (ih_loopnest_mapExpr_c45 v0) fun v1 => (kG (p := (0 : Int) ≤ x41 ∧ x41 < (↑x6.fArgs.length : Int)) (kG (p := x41.toNat < (List.map egExpr x6.fArgs).length) (kBE (sh := egExpr) (List.set x6.fArgs x41.toNat (gExpr.mk v1.fst)) (mSR egExpr_mk x6.fArgs x41.toNat v1.fst) fun v2 ev2 => (kIf (c := v1.snd != (0 : Int)) (kW (sh := hgExpr) (gExprF.mk (0 : Int) [] (gVal.mk (0 : Int) (0 : Int)) (gType.mk (0 : Int) (0 : Int) (0 : Int) (0 : Int) (0 : Int)) (gLin.mk (0 : Int) []) [] [] : gExprS) (LeV.agg (.cons (LeV.refl (AV.int IntKind.i64 (0 : Int))) (.cons (LeV.refl (AV.str [])) (.cons (LeV.refl (AV.int IntKind.i64 (0 : Int))) (.cons (LeV.refl (AV.int IntKind.i64 (0 : Int))) (.cons (LeV.refl (AV.int IntKind.i64 (0 : Int))) (.cons (LeV.refl (AV.int IntKind.i64 (0 : Int))) (.cons (LeV.refl (AV.int IntKind.i64 (0 : Int))) (.cons (LeV.refl (AV.int IntKind.i64 (0 : Int))) (.cons (LeV.refl (AV.int IntKind.i64 (0 : Int))) (.cons (LeV.refl (AV.int IntKind.i64 (0 : Int))) (.cons (LeV.nil 2) (.cons (LeV.nil 4) (.cons (LeV.nil 13) .nil)))))))))))))) fun v3 => (kX (alts := A_loopnest_mapExpr_c45_L11 (x1, x2) x40) (.inr (v3, v1.snd, (gExprF.mk x6.fOp x6.fName x6.fVal x6.fType x6.fLin x6.fIdx v2 : gExprS))) (.next (.here _ rfl (.cons (LeV.refl (AV.ptr (0 : Nat) (0 : Nat) (0 : Nat))) (.cons (LeV.refl (AV.int IntKind.i64 v1.snd)) (.cons (LeV.refl (AV.ptr (1 : Nat) (0 : Nat) (0 : Nat))) .nil))) (.cons (LeB.refl (Box.cells (0 : Nat) [AV.int IntKind.i64 v3.fOp, AV.str v3.fName, AV.int IntKind.i64 v3.fVal.fN, AV.int IntKind.i64 v3.fVal.fD, AV.int IntKind.i64 v3.fType.fKind, AV.int IntKind.i64 v3.fType.fBits, AV.int IntKind.i64 v3.fType.fFrac, AV.int IntKind.i64 v3.fType.fRound, AV.int IntKind.i64 v3.fType.fOver, AV.int IntKind.i64 v3.fLin.fK, AV.sl (2 : Nat) (List.map egMono v3.fLin.fL), AV.sl (4 : Nat) (List.map egIndex v3.fIdx), AV.sl (13 : Nat) (List.map egExpr v3.fArgs)])) (.cons (LeB.cells (0 : Nat) (.cons (LeV.refl (AV.int IntKind.i64 x6.fOp)) (.cons (LeV.refl (AV.str x6.fName)) (.cons (LeV.refl (AV.int IntKind.i64 x6.fVal.fN)) (.cons (LeV.refl (AV.int IntKind.i64 x6.fVal.fD)) (.cons (LeV.refl (AV.int IntKind.i64 x6.fType.fKind)) (.cons (LeV.refl (AV.int IntKind.i64 x6.fType.fBits)) (.cons (LeV.refl (AV.int IntKind.i64 x6.fType.fFrac)) (.cons (LeV.refl (AV.int IntKind.i64 x6.fType.fRound)) (.cons (LeV.refl (AV.int IntKind.i64 x6.fType.fOver)) (.cons (LeV.refl (AV.int IntKind.i64 x6.fLin.fK)) (.cons (LeV.refl (AV.sl (2 : Nat) (List.map egMono x6.fLin.fL))) (.cons (LeV.refl (AV.sl (4 : Nat) (List.map egIndex x6.fIdx))) (.cons (LeV.owl (by simp [ev2] : x6.fArgs.length = List.length v2)) .nil)))))))))))))) (.cons (LeB.refl (Box.own (0 : Nat) (13 : Nat) (List.map egExpr v2))) .nil)))))))
 (kM (alts := A_loopnest_mapExpr_c45_L11 (x1, x2) x40) (.cons (LeV.refl (AV.fn (45 : Nat) [AV.ip (1 : Nat) [AV.agg [AV.str x1.fst]] (0 : Nat) (0 : Nat), AV.ip (2 : Nat) [AV.agg [AV.int IntKind.i64 x1.snd.fK, AV.sl (2 : Nat) (List.map egMono x1.snd.fL)]] (0 : Nat) (0 : Nat)])) (.cons (LeV.refl (AV.ptr (0 : Nat) (0 : Nat) (0 : Nat))) (.cons (LeV.refl (AV.ptr (1 : Nat) (0 : Nat) (0 : Nat))) (.cons (LeV.refl (AV.ptr (2 : Nat) (0 : Nat) (0 : Nat))) (.cons (LeV.refl (AV.int IntKind.i64 x40)) (.cons (LeV.refl (AV.int IntKind.i64 (IntKind.i64.wrap (x41 + (1 : Int))))) .nil)))))) (.cons (LeB.refl (Box.cells (0 : Nat) [AV.int IntKind.i64 x2.fOp, AV.str x2.fName, AV.int IntKind.i64 x2.fVal.fN, AV.int IntKind.i64 x2.fVal.fD, AV.int IntKind.i64 x2.fType.fKind, AV.int IntKind.i64 x2.fType.fBits, AV.int IntKind.i64 x2.fType.fFrac, AV.int IntKind.i64 x2.fType.fRound, AV.int IntKind.i64 x2.fType.fOver, AV.int IntKind.i64 x2.fLin.fK, AV.sl (2 : Nat) (List.map egMono x2.fLin.fL), AV.sl (4 : Nat) (List.map egIndex x2.fIdx), AV.sl (13 : Nat) (List.map egExpr x2.fArgs)])) (.cons (LeB.refl (Box.cells (0 : Nat) [AV.int IntKind.i64 x4.fOp, AV.str x4.fName, AV.int IntKind.i64 x4.fVal.fN, AV.int IntKind.i64 x4.fVal.fD, AV.int IntKind.i64 x4.fType.fKind, AV.int IntKind.i64 x4.fType.fBits, AV.int IntKind.i64 x4.fType.fFrac, AV.int IntKind.i64 x4.fType.fRound, AV.int IntKind.i64 x4.fType.fOver, AV.int IntKind.i64 x4.fLin.fK, AV.sl (2 : Nat) (List.map egMono x4.fLin.fL), AV.sl (4 : Nat) (List.map egIndex x4.fIdx), AV.sl (13 : Nat) (List.map egExpr x4.fArgs)])) (.cons (LeB.cells (0 : Nat) (.cons (LeV.refl (AV.int IntKind.i64 x6.fOp)) (.cons (LeV.refl (AV.str x6.fName)) (.cons (LeV.refl (AV.int IntKind.i64 x6.fVal.fN)) (.cons (LeV.refl (AV.int IntKind.i64 x6.fVal.fD)) (.cons (LeV.refl (AV.int IntKind.i64 x6.fType.fKind)) (.cons (LeV.refl (AV.int IntKind.i64 x6.fType.fBits)) (.cons (LeV.refl (AV.int IntKind.i64 x6.fType.fFrac)) (.cons (LeV.refl (AV.int IntKind.i64 x6.fType.fRound)) (.cons (LeV.refl (AV.int IntKind.i64 x6.fType.fOver)) (.cons (LeV.refl (AV.int IntKind.i64 x6.fLin.fK)) (.cons (LeV.refl (AV.sl (2 : Nat) (List.map egMono x6.fLin.fL))) (.cons (LeV.refl (AV.sl (4 : Nat) (List.map egIndex x6.fIdx))) (.cons (LeV.owl (by simp [ev2] : x6.fArgs.length = List.length v2)) .nil)))))))))))))) (.cons (LeB.refl (Box.own (0 : Nat) (13 : Nat) (List.map egExpr v2))) .nil)))) (ih_loopnest_mapExpr_c45_L11 x2 x4 (gExprF.mk x6.fOp x6.fName x6.fVal x6.fType x6.fLin x6.fIdx v2 : gExprS) x40 (IntKind.i64.wrap (x41 + (1 : Int)))))))))))
 (kX (alts := A_loopnest_mapExpr_c45_L11 (x1, x2) x40) (.inl (x4, x6)) (.here _ rfl (.refl _) (.refl _)))) h))
theorem P_loopnest_mapExpr_c45 (x0 : gExprS) (x1 : (Str × gLin)) (r : (gExprS × Int)) (h : F_loopnest_mapExpr_c45 x0 x1 = some r) : PU 72 [hgExpr x0, .fn 45 [.ip 1 [.agg [.str x1.1]] 0 0, .ip 2 [.agg [.int .i64 x1.2.fK, .sl 2 (List.map egMono x1.2.fL)]] 0 0]] (eT_gExpr_I r) := (PM_loopnest_mapExpr_c45 x1).1 x0 r h
theorem P_loopnest_mapExpr_c45_L11 (x1 : (Str × gLin)) (x2 : gExprS) (x4 : gExprS) (x6 : gExprS) (x40 : Int) (x41 : Int) (o : (gExprS × gExprS) ⊕ (gExprS × Int × gExprS)) (h : F_loopnest_mapExpr_c45_L11 x1 x2 x4 x6 x40 x41 = some o) : LO 72 11 64 [1, 2, 4, 6, 40, 41] [.fn 45 [.ip 1 [.agg [.str x1.1]] 0 0, .ip 2 [.agg [.int .i64 x1.2.fK, .sl 2 (List.map egMono x1.2.fL)]] 0 0], .ptr 0 0 0, .ptr 1 0 0, .ptr 2 0 0, .int .i64 x40, .int .i64 x41] [.cells 0 (hgExpr x2).cells, .cells 0 (hgExpr x4).cells, .cells 0 [.int .i64 x6.fOp, .str x6.fName, .int .i64 x6.fVal.fN, .int .i64 x6.fVal.fD, .int .i64 x6.fType.fKind, .int .i64 x6.fType.fBits, .int .i64 x6.fType.fFrac, .int .i64 x6.fType.fRound, .int .i64 x6.fType.fOver, .int .i64 x6.fLin.fK, .sl 2 (List.map egMono x6.fLin.fL), .sl 4 (List.map egIndex x6.fIdx), .ow 3 0 13 (List.length x6.fArgs)], .own 0 13 (List.map egExpr x6.fArgs)] [4, 5, 6] (A_loopnest_mapExpr_c45_L11 (x1, x2) x40 o) := (PM_loopnest_mapExpr_c45 x1).2 x2 x4 x6 x40 x41 o h
def A_loopnest_mapStmts_c45_c47_L4 (s : ((List gStmt) × (Str × gLin))) (u : Int) (o : (List gStmt) ⊕ ((List gStmt) × Int)) : List Alt := [⟨fun (x : List gStmt) => (Sum.inl x : (List gStmt) ⊕ ((List gStmt) × Int)) = o, .exit 0, fun x => [.undef, .undef, .sl 20 (List.map egStmt x)], fun x => []⟩, ⟨fun (x : ((List gStmt) × Int)) => (Sum.inr x : (List gStmt) ⊕ ((List gStmt) × Int)) = o, .ret, fun x => [.sl 20 (List.map egStmt x.1), .int .i64 x.2, .undef], fun x => []⟩]
def A_loopnest_mapStmts_c45_c47_J6000008 (s : ((List gStmt) × (Str × gLin) × Int)) (u : (Int × Int)) (o : List gStmt) : List Alt := [⟨fun (x : List gStmt) => x = o, .normal, fun x => [.sl 20 (List.map egStmt (s.1)), .fn 45 [.ip 1 [.agg [.str ((s.2.1).1)]] 0 0, .ip 2 [.agg [.int .i64 ((s.2.1).2).fK, .sl 2 (List.map egMono ((s.2.1).2).fL)]] 0 0], .fn 47 [], .ow 0 0 20 (List.length x), .int .i64 (u.1), .int .i64 (s.2.2), .int .i64 (u.2)], fun x => [.own 0 20 (List.map egStmt x)]⟩]
mutual
noncomputable def F_loopnest_mapStmts_c45_c47 (x0 : List gStmt) (x1 : (Str × gLin)) : Option (List gStmt × Int) :=
 F_slices_Clone_api_Stmt x0 >>= fun v0 =>
 some (List.length x0 : Int) >>= fun v1 =>
 some v1 >>= fun v2 =>
 F_loopnest_mapStmts_c45_c47_L4 x0 x1 v0 v1 (0 : Int) >>= fun v3 => (match v3 with
 | (.inl v4) =>
 some (v4, (0 : Int))
 | (.inr v5) =>
 some (v5.fst, v5.snd))
  partial_fixpoint
noncomputable def F_loopnest_mapStmts_c45_c47_L4 (x0 : List gStmt) (x1 : (Str × gLin)) (x8 : List gStmt) (x14 : Int) (x15 : Int) : Option ((List gStmt) ⊕ ((List gStmt) × Int)) :=
 if x15 < x14 then
 some (x15, x15) >>= fun v0 =>
 (Option.map gStmt.f (ix x0 x15) >>= fun v2 =>
 if v2.fOp == (1 : Int) then
 Option.map gStmt.f (ix x0 x15) >>= fun v3 =>
 F_loopnest_same v3.fName >>= fun v4 =>
 if (0 : Int) ≤ x15 ∧ x15 < (↑x8.length : Int) then
 Option.map gStmt.f x8[x15.toNat]? >>= fun v5 =>
 some (List.set x8 x15.toNat (gStmt.mk (gStmtF.mk v5.fOp v4 v5.fMany v5.fMark v5.fFold v5.fIdx v5.fExpr v5.fBody : gStmtS))) >>= fun v6 =>
 some v6
 else none
 else
 some x8) >>= fun v7 =>
 Option.map gStmt.f (ix x0 v0.fst) >>= fun v8 =>
 F_loopnest_mapIndices_c45 v8.fIdx x1 >>= fun v9 =>
 if (0 : Int) ≤ v0.fst ∧ v0.fst < (↑(List.length v7) : Int) then
 Option.map gStmt.f v7[v0.fst.toNat]? >>= fun v10 =>
 some (List.set v7 v0.fst.toNat (gStmt.mk (gStmtF.mk v10.fOp v10.fName v10.fMany v10.fMark v10.fFold v9.fst v10.fExpr v10.fBody : gStmtS))) >>= fun v11 =>
 if v9.snd != (0 : Int) then
 if List.length v7 = (List.map egStmt v11).length then
 some (.inr ([], v9.snd))
 else none
 else
 Option.map gStmt.f (ix x0 v0.fst) >>= fun v12 =>
 F_loopnest_mapExpr_c45 v12.fExpr x1 >>= fun v13 =>
 if (0 : Int) ≤ v0.fst ∧ v0.fst < (↑(List.length v7) : Int) then
 Option.map gStmt.f v11[v0.fst.toNat]? >>= fun v14 =>
 some (List.set v11 v0.fst.toNat (gStmt.mk (gStmtF.mk v14.fOp v14.fName v14.fMany v14.fMark v14.fFold v14.fIdx v13.fst v14.fBody : gStmtS))) >>= fun v15 =>
 if v13.snd != (0 : Int) then
 if List.length v7 = (List.map egStmt v15).length then
 some (.inr ([], v13.snd))
 else none
 else
 Option.map gStmt.f (ix x0 v0.fst) >>= fun v16 =>
 F_loopnest_mapStmts_c45_c47 v16.fBody x1 >>= fun v17 =>
 if (0 : Int) ≤ v0.fst ∧ v0.fst < (↑(List.length v7) : Int) then
 Option.map gStmt.f v15[v0.fst.toNat]? >>= fun v18 =>
 some (List.set v15 v0.fst.toNat (gStmt.mk (gStmtF.mk v18.fOp v18.fName v18.fMany v18.fMark v18.fFold v18.fIdx v18.fExpr v17.fst : gStmtS))) >>= fun v19 =>
 if v17.snd != (0 : Int) then
 if List.length v7 = (List.map egStmt v19).length then
 some (.inr ([], v17.snd))
 else none
 else
 F_loopnest_mapStmts_c45_c47_L4 x0 x1 v19 x14 (IntKind.i64.wrap (v0.snd + (1 : Int)))
 else none
 else none
 else none
 else
 some (.inl x8)
  partial_fixpoint
end
theorem PM_loopnest_mapStmts_c45_c47 (x1 : (Str × gLin)) : (∀ (x0 : List gStmt) (r : (List gStmt × Int)), F_loopnest_mapStmts_c45_c47 x0 x1 = some r → PU 44 [eLgStmt x0, .fn 45 [.ip 1 [.agg [.str x1.1]] 0 0, .ip 2 [.agg [.int .i64 x1.2.fK, .sl 2 (List.map egMono x1.2.fL)]] 0 0], .fn 47 []] (eT_LgStmt_I r)) ∧ (∀ (x0 : List gStmt) (x8 : List gStmt) (x14 : Int) (x15 : Int) (o : (List gStmt) ⊕ ((List gStmt) × Int)), F_loopnest_mapStmts_c45_c47_L4 x0 x1 x8 x14 x15 = some o → LO 44 4 89 [0, 1, 2, 8, 14, 15] [.sl 20 (List.map egStmt x0), .fn 45 [.ip 1 [.agg [.str x1.1]] 0 0, .ip 2 [.agg [.int .i64 x1.2.fK, .sl 2 (List.map egMono x1.2.fL)]] 0 0], .fn 47 [], .ow 0 0 20 (List.length x8), .int .i64 x14, .int .i64 x15] [.own 0 20 (List.map egStmt x8)] [6, 7, 8] (A_loopnest_mapStmts_c45_c47_L4 (x0, x1) x14 o)) :=
  F_loopnest_mapStmts_c45_c47.mutual_partial_correctness x1 (fun x0 r => PU 44 [eLgStmt x0, .fn 45 [.ip 1 [.agg [.str x1.1]] 0 0, .ip 2 [.agg [.int .i64 x1.2.fK, .sl 2 (List.map egMono x1.2.fL)]] 0 0], .fn 47 []] (eT_LgStmt_I r)) (fun x0 x8 x14 x15 o => LO 44 4 89 [0, 1, 2, 8, 14, 15] [.sl 20 (List.map egStmt x0), .fn 45 [.ip 1 [.agg [.str x1.1]] 0 0, .ip 2 [.agg [.int .i64 x1.2.fK, .sl 2 (List.map egMono x1.2.fL)]] 0 0], .fn 47 [], .ow 0 0 20 (List.length x8), .int .i64 x14, .int .i64 x15] [.own 0 20 (List.map egStmt x8)] [6, 7, 8] (A_loopnest_mapStmts_c45_c47_L4 (x0, x1) x14 o))
  (fun F_loopnest_mapStmts_c45_c47_L4 ih_loopnest_mapStmts_c45_c47_L4 x0 r h  =>
  Pu1 (hs := [(12, .h [] R_slices_Clone_api_Stmt B_slices_Clone_api_Stmt), (14, .n eI 14 none), (3000005, .l [] [0, 1, 2, 8, 14, 15] [{ slot := 8, own := 20 }] [6, 7, 8] [{ slot := 6, fz := true }, { slot := 8, fz := true }] (A_loopnest_mapStmts_c45_c47_L4 (x0, x1)))]) (by kernel_rfl) ((kH (sh := R_slices_Clone_api_Stmt) (bt := B_slices_Clone_api_Stmt) (P_slices_Clone_api_Stmt x0) fun v0 => (kN _ (mLen (sh := egStmt) x0) fun v1 => (kL2 v1 (hL := (ih_loopnest_mapStmts_c45_c47_L4 x0 v0 v1 (0 : Int))) (hA := fun v2 v4 => (kEr (enc := eT_LgStmt_I) (v4, (0 : Int))))
 (hB := fun v2 v5 => (kEr (enc := eT_LgStmt_I) (v5.fst, v5.snd)))))) h))
  (fun F_loopnest_mapStmts_c45_c47 F_loopnest_mapStmts_c45_c47_L4 ih_loopnest_mapStmts_c45_c47 ih_loopnest_mapStmts_c45_c47_L4 x0 x8 x14 x15 o h  =>
  Lp1 (hs := [(16, .split), (20, .e hgStmt), (23, .split), (29, .e hgStmt), (32, .c eS), (33, .s), (1000034, .n egStmt 34 (some (.e hgStmt))), (40, .e hgStmt), (44, .c eT_LgIndex_I), (47, .s), (1000048, .n egStmt 48 (some (.e hgStmt))), (50, .split), (57, .e hgStmt), (61, .c eT_gExpr_I), (64, .s), (1000065, .n egStmt 65 (some (.e hgStmt))), (67, .split), (74, .e hgStmt), (79, .c eT_LgStmt_I), (82, .s), (1000083, .n egStmt 83 (some (.e hgStmt))), (85, .split), (6000008, .l [] [] [] [0, 1, 2, 8, 10, 14, 15] [{ slot := 8, own := 20 }] (A_loopnest_mapStmts_c45_c47_J6000008 (x0, x1, x14)))]) (kb := [{ slot := 8, own := 20 }]) (kbx := [{ slot := 6, fz := true }, { slot := 8, fz := true }]) (by kernel_rfl) (by kernel_rfl) ((kIfD (p := x15 < x14) (kJ1 (id := 6000008) (x15, x15) (fun v0 ev0 v1 => (kIxR (l := x0) (k := x15) egStmt_f fun v2 => (kIf (c := v2.fOp == (1 : Int)) (kIxR (l := x0) (k := x15) egStmt_f fun v3 => (kC (sh := eS) (P_loopnest_same v3.fName) fun v4 => (kG (p := (0 : Int) ≤ x15 ∧ x15 < (↑x8.length : Int)) (kOxR (l := x8) (k := x15.toNat) egStmt_f fun v5 => (kBE (sh := egStmt) (List.set x8 x15.toNat (gStmt.mk (gStmtF.mk v5.fOp v4 v5.fMany v5.fMark v5.fFold v5.fIdx v5.fExpr v5.fBody : gStmtS))) (mSR egStmt_mk x8 x15.toNat (gStmtF.mk v5.fOp v4 v5.fMany v5.fMark v5.fFold v5.fIdx v5.fExpr v5.fBody : gStmtS)) fun v6 ev6 => (kXj (alts := A_loopnest_mapStmts_c45_c47_J6000008 (x0, x1, x14)) ev0 v6 (.here _ rfl (.cons (LeV.refl (AV.sl (20 : Nat) (List.map egStmt x0))) (.cons (LeV.refl (AV.fn (45 : Nat) [AV.ip (1 : Nat) [AV.agg [AV.str x1.fst]] (0 : Nat) (0 : Nat), AV.ip (2 : Nat) [AV.agg [AV.int IntKind.i64 x1.snd.fK, AV.sl (2 : Nat) (List.map egMono x1.snd.fL)]] (0 : Nat) (0 : Nat)])) (.cons (LeV.refl (AV.fn (47 : Nat) [])) (.cons (LeV.owl (by simp [ev6] : x8.length = List.length v6)) (.cons (LeV.refl (AV.int IntKind.i64 x15)) (.cons (LeV.refl (AV.int IntKind.i64 x14)) (.cons (LeV.refl (AV.int IntKind.i64 x15)) .nil))))))) (.refl _))))))))
 (kXj (alts := A_loopnest_mapStmts_c45_c47_J6000008 (x0, x1, x14)) ev0 x8 (.here _ rfl (.refl _) (.refl _))))))
 (fun v0 v7 => (kIxR (l := x0) (k := v0.fst) egStmt_f fun v8 => (kC (sh := eT_LgIndex_I) (P_loopnest_mapIndices_c45 v8.fIdx x1) fun v9 => (kG (p := (0 : Int) ≤ v0.fst ∧ v0.fst < (↑(List.length v7) : Int)) (kOxR (l := v7) (k := v0.fst.toNat) egStmt_f fun v10 => (kBE (sh := egStmt) (List.set v7 v0.fst.toNat (gStmt.mk (gStmtF.mk v10.fOp v10.fName v10.fMany v10.fMark v10.fFold v9.fst v10.fExpr v10.fBody : gStmtS))) (mSR egStmt_mk v7 v0.fst.toNat (gStmtF.mk v10.fOp v10.fName v10.fMany v10.fMark v10.fFold v9.fst v10.fExpr v10.fBody : gStmtS)) fun v11 ev11 => (kIf (c := v9.snd != (0 : Int)) (kG (p := List.length v7 = (List.map egStmt v11).length) (kX (alts := A_loopnest_mapStmts_c45_c47_L4 (x0, x1) x14) (.inr ([], v9.snd)) (.next (.here _ rfl (.cons (LeV.nil 20) (.cons (LeV.refl (AV.int IntKind.i64 v9.snd)) (.cons (LeV.undef (AV.sl (20 : Nat) (List.map egStmt v11))) .nil))) (.refl _)))))
 (kIxR (l := x0) (k := v0.fst) egStmt_f fun v12 => (kC (sh := eT_gExpr_I) (P_loopnest_mapExpr_c45 v12.fExpr x1) fun v13 => (kG (p := (0 : Int) ≤ v0.fst ∧ v0.fst < (↑(List.length v7) : Int)) (kOxR (l := v11) (k := v0.fst.toNat) egStmt_f fun v14 => (kBE (sh := egStmt) (List.set v11 v0.fst.toNat (gStmt.mk (gStmtF.mk v14.fOp v14.fName v14.fMany v14.fMark v14.fFold v14.fIdx v13.fst v14.fBody : gStmtS))) (mSR egStmt_mk v11 v0.fst.toNat (gStmtF.mk v14.fOp v14.fName v14.fMany v14.fMark v14.fFold v14.fIdx v13.fst v14.fBody : gStmtS)) fun v15 ev15 => (kIf (c := v13.snd != (0 : Int)) (kG (p := List.length v7 = (List.map egStmt v15).length) (kX (alts := A_loopnest_mapStmts_c45_c47_L4 (x0, x1) x14) (.inr ([], v13.snd)) (.next (.here _ rfl (.cons (LeV.nil 20) (.cons (LeV.refl (AV.int IntKind.i64 v13.snd)) (.cons (LeV.undef (AV.sl (20 : Nat) (List.map egStmt v15))) .nil))) (.refl _)))))
 (kIxR (l := x0) (k := v0.fst) egStmt_f fun v16 => (kC (sh := eT_LgStmt_I) (ih_loopnest_mapStmts_c45_c47 v16.fBody) fun v17 => (kG (p := (0 : Int) ≤ v0.fst ∧ v0.fst < (↑(List.length v7) : Int)) (kOxR (l := v15) (k := v0.fst.toNat) egStmt_f fun v18 => (kBE (sh := egStmt) (List.set v15 v0.fst.toNat (gStmt.mk (gStmtF.mk v18.fOp v18.fName v18.fMany v18.fMark v18.fFold v18.fIdx v18.fExpr v17.fst : gStmtS))) (mSR egStmt_mk v15 v0.fst.toNat (gStmtF.mk v18.fOp v18.fName v18.fMany v18.fMark v18.fFold v18.fIdx v18.fExpr v17.fst : gStmtS)) fun v19 ev19 => (kIf (c := v17.snd != (0 : Int)) (kG (p := List.length v7 = (List.map egStmt v19).length) (kX (alts := A_loopnest_mapStmts_c45_c47_L4 (x0, x1) x14) (.inr ([], v17.snd)) (.next (.here _ rfl (.cons (LeV.nil 20) (.cons (LeV.refl (AV.int IntKind.i64 v17.snd)) (.cons (LeV.undef (AV.sl (20 : Nat) (List.map egStmt v19))) .nil))) (.refl _)))))
 (kM (alts := A_loopnest_mapStmts_c45_c47_L4 (x0, x1) x14) (.cons (LeV.refl (AV.sl (20 : Nat) (List.map egStmt x0))) (.cons (LeV.refl (AV.fn (45 : Nat) [AV.ip (1 : Nat) [AV.agg [AV.str x1.fst]] (0 : Nat) (0 : Nat), AV.ip (2 : Nat) [AV.agg [AV.int IntKind.i64 x1.snd.fK, AV.sl (2 : Nat) (List.map egMono x1.snd.fL)]] (0 : Nat) (0 : Nat)])) (.cons (LeV.refl (AV.fn (47 : Nat) [])) (.cons (LeV.owl (by simp [ev19, ev15, ev11] : List.length v7 = List.length v19)) (.cons (LeV.refl (AV.int IntKind.i64 x14)) (.cons (LeV.refl (AV.int IntKind.i64 (IntKind.i64.wrap (v0.snd + (1 : Int))))) .nil)))))) (.refl _) (ih_loopnest_mapStmts_c45_c47_L4 x0 v19 x14 (IntKind.i64.wrap (v0.snd + (1 : Int)))))))))))))))))))))))))
 (kT (nM (sh := egStmt) x8) (kX (alts := A_loopnest_mapStmts_c45_c47_L4 (x0, x1) x14) (.inl x8) (.here _ rfl (.refl _) (.refl _))))) h))
theorem P_loopnest_mapStmts_c45_c47 (x0 : List gStmt) (x1 : (Str × gLin)) (r : (List gStmt × Int)) (h : F_loopnest_mapStmts_c45_c47 x0 x1 = some r) : PU 44 [eLgStmt x0, .fn 45 [.ip 1 [.agg [.str x1.1]] 0 0, .ip 2 [.agg [.int .i64 x1.2.fK, .sl 2 (List.map egMono x1.2.fL)]] 0 0], .fn 47 []] (eT_LgStmt_I r) := (PM_loopnest_mapStmts_c45_c47 x1).1 x0 r h
theorem P_loopnest_mapStmts_c45_c47_L4 (x0 : List gStmt) (x1 : (Str × gLin)) (x8 : List gStmt) (x14 : Int) (x15 : Int) (o : (List gStmt) ⊕ ((List gStmt) × Int)) (h : F_loopnest_mapStmts_c45_c47_L4 x0 x1 x8 x14 x15 = some o) : LO 44 4 89 [0, 1, 2, 8, 14, 15] [.sl 20 (List.map egStmt x0), .fn 45 [.ip 1 [.agg [.str x1.1]] 0 0, .ip 2 [.agg [.int .i64 x1.2.fK, .sl 2 (List.map egMono x1.2.fL)]] 0 0], .fn 47 [], .ow 0 0 20 (List.length x8), .int .i64 x14, .int .i64 x15] [.own 0 20 (List.map egStmt x8)] [6, 7, 8] (A_loopnest_mapStmts_c45_c47_L4 (x0, x1) x14 o) := (PM_loopnest_mapStmts_c45_c47 x1).2 x0 x8 x14 x15 o h
noncomputable def F_loopnest_Substitute (x0 : List gStmt) (x1 : Str) (x2 : gLin) : Option (List gStmt × Int) :=
 F_loopnest_mapStmts_c45_c47 x0 (x1, x2) >>= fun v0 =>
 some (v0.fst, v0.snd)
theorem P_loopnest_Substitute (x0 : List gStmt) (x1 : Str) (x2 : gLin) (r : (List gStmt × Int)) (h : F_loopnest_Substitute x0 x1 x2 = some r) : PU 22 [eLgStmt x0, eS x1, egLin x2] (eT_LgStmt_I r) :=
  Pu1 (hs := [(9, .z [{ slot := 4, fz := true }, { slot := 5, fz := true }] none), (10, .c eT_LgStmt_I)]) (by kernel_rfl) ((kC (sh := eT_LgStmt_I) (P_loopnest_mapStmts_c45_c47 x0 (x1, x2)) fun v0 => (kEr (enc := eT_LgStmt_I) (v0.fst, v0.snd))) h)
noncomputable def F_lin_Const (x0 : Int) : Option gLin :=
 some ((gLin.mk x0 [])) >>= fun v0 =>
 some v0
theorem P_lin_Const (x0 : Int) (r : gLin) (h : F_lin_Const x0 = some r) : PU 23 [eI x0] (egLin r) :=
  Pu1 (hs := [(4, .n egLin 4 none)]) (by kernel_rfl) ((kW (sh := egLin) (gLin.mk x0 []) (LeV.agg (.cons (LeV.refl (AV.int IntKind.i64 x0)) (.cons (LeV.nil 2) .nil))) fun v0 => (kEr (enc := egLin) v0)) h)
noncomputable def F_loopnest_copyLin (x0 : gLin) : Option gLin :=
 F_slices_Clone_api_Mono x0.fL >>= fun v0 =>
 some ((gLin.mk x0.fK v0)) >>= fun v1 =>
 some v1
theorem P_loopnest_copyLin (x0 : gLin) (r : gLin) (h : F_loopnest_copyLin x0 = some r) : PU 69 [egLin x0] (egLin r) :=
  Pu1 (hs := [(7, .c eLgMono), (8, .n egLin 8 none)]) (by kernel_rfl) ((kC (sh := eLgMono) (P_slices_Clone_api_Mono x0.fL) fun v0 => (kW (sh := egLin) (gLin.mk x0.fK v0) (LeV.refl _) fun v1 => (kEr (enc := egLin) v1))) h)
noncomputable def F_loopnest_copyStmts_1 (x0 : gLin) : Option (gLin × Int) :=
 F_loopnest_copyLin x0 >>= fun v0 =>
 some (v0, (0 : Int))
theorem P_loopnest_copyStmts_1 (x0 : gLin) (r : (gLin × Int)) (h : F_loopnest_copyStmts_1 x0 = some r) : PU 68 [egLin x0] (eT_gLin_I r) :=
  Pu1 (hs := [(5, .c egLin)]) (by kernel_rfl) ((kC (sh := egLin) (P_loopnest_copyLin x0) fun v0 => (kEr (enc := eT_gLin_I) (v0, (0 : Int)))) h)
end Go.Proofs.YtfaenlhmhlabeaaGreatDoor
end
section
namespace Go.Proofs.YtfaenlhmhlabeaaGreatDoor
open Go HY
set_option maxRecDepth 1000000
set_option linter.unusedVariables false
def A_loopnest_mapIndices_c68_L11 (s : ((List gIndex) × Int)) (u : (Int × Int × Int)) (o : (List gIndex × List gLin) ⊕ ((List gIndex) × Int × (List gIndex))) : List Alt := [⟨fun (x : (List gIndex × List gLin)) => (Sum.inl x : (List gIndex × List gLin) ⊕ ((List gIndex) × Int × (List gIndex))) = o, .exit 2, fun x => [.sl 4 (List.map egIndex s.1), .fn 68 [], .undef, .undef, .ow 0 0 4 (List.length x.1), .int .i64 s.2, .int .i64 u.2.1], fun x => [.hol 0 4 (List.map egIndex x.1) (Int.toNat u.1) 3 (.ow 1 0 2 (List.length x.2)), .own 0 2 (List.map egLin x.2)]⟩, ⟨fun (x : ((List gIndex) × Int × (List gIndex))) => (Sum.inr x : (List gIndex × List gLin) ⊕ ((List gIndex) × Int × (List gIndex))) = o, .ret, fun x => [.sl 4 (List.map egIndex s.1), .fn 68 [], .sl 4 (List.map egIndex x.1), .int .i64 x.2.1, .ow 0 0 4 (List.length x.2.2), .int .i64 s.2, .int .i64 u.2.1], fun x => [.own 0 4 (List.map egIndex x.2.2)]⟩]
noncomputable def F_loopnest_mapIndices_c68_L11 (x0 : List gIndex) (x6 : (List gIndex × List gLin)) (x8 : Int) (x49 : Int) (x50 : Int) : Option ((List gIndex × List gLin) ⊕ ((List gIndex) × Int × (List gIndex))) :=
 if x50 < x49 then
 if (0 : Int) ≤ x8 ∧ x8 < (↑x6.fst.length : Int) then
 ix x0 x8 >>= fun v0 =>
 ix v0.fAt x50 >>= fun v1 =>
 F_loopnest_copyStmts_1 v1 >>= fun v2 =>
 if (0 : Int) ≤ x50 ∧ x50 < (↑x6.snd.length : Int) then
 if x50.toNat < (List.map egLin x6.snd).length then
 some (List.set x6.snd x50.toNat v2.fst) >>= fun v3 =>
 if v2.snd != (0 : Int) then
 if x6.snd.length = (List.map egLin v3).length then
 x6.fst[x8.toNat]? >>= fun v4 =>
 some (List.set x6.fst x8.toNat (gIndex.mk v4.fLin v4.fFrom v3)) >>= fun v5 =>
 some (.inr ([], v2.snd, v5))
 else none
 else
 F_loopnest_mapIndices_c68_L11 x0 (x6.fst, v3) x8 x49 (IntKind.i64.wrap (x50 + (1 : Int)))
 else none
 else none
 else none
 else
 some (.inl x6)
  partial_fixpoint
theorem P_loopnest_mapIndices_c68_L11 (x0 : List gIndex) (x6 : (List gIndex × List gLin)) (x8 : Int) (x13 : Int) (x14 : Int) (x49 : Int) (x50 : Int) (o : (List gIndex × List gLin) ⊕ ((List gIndex) × Int × (List gIndex))) (h : F_loopnest_mapIndices_c68_L11 x0 x6 x8 x49 x50 = some o) : LO 71 11 79 [0, 1, 6, 8, 13, 14, 49, 50] [.sl 4 (List.map egIndex x0), .fn 68 [], .ow 0 0 4 (List.length x6.1), .int .i64 x8, .int .i64 x13, .int .i64 x14, .int .i64 x49, .int .i64 x50] [.hol 0 4 (List.map egIndex x6.1) (Int.toNat x8) 3 (.ow 1 0 2 (List.length x6.2)), .own 0 2 (List.map egLin x6.2)] [0, 1, 4, 5, 6, 13, 14] (A_loopnest_mapIndices_c68_L11 (x0, x13) (x8, x14, x49) o) :=
  F_loopnest_mapIndices_c68_L11.partial_correctness x0 x8 x49 (fun x6 x50 o => ∀ (x13 : Int) (x14 : Int), LO 71 11 79 [0, 1, 6, 8, 13, 14, 49, 50] [.sl 4 (List.map egIndex x0), .fn 68 [], .ow 0 0 4 (List.length x6.1), .int .i64 x8, .int .i64 x13, .int .i64 x14, .int .i64 x49, .int .i64 x50] [.hol 0 4 (List.map egIndex x6.1) (Int.toNat x8) 3 (.ow 1 0 2 (List.length x6.2)), .own 0 2 (List.map egLin x6.2)] [0, 1, 4, 5, 6, 13, 14] (A_loopnest_mapIndices_c68_L11 (x0, x13) (x8, x14, x49) o))
  (fun F_loopnest_mapIndices_c68_L11 ih_loopnest_mapIndices_c68_L11 x6 x50 o h x13 x14 =>
  Lp1 (hs := [(51, .split), (56, .s), (58, .s), (63, .e egIndex), (67, .e egLin), (69, .c eT_gLin_I), (72, .s), (1000072, .n egLin 72 (some .s)), (74, .split), (75, .fl egIndex 6 none)]) (kb := [{ slot := 6 }, { slot := 6, path := [0] }]) (kbx := [{ slot := 4, fz := true }, { slot := 6 }, { slot := 6, path := [0] }]) (by kernel_rfl) (by kernel_rfl) ((kIfD (p := x50 < x49) (kG (p := (0 : Int) ≤ x8 ∧ x8 < (↑x6.fst.length : Int)) (kT (rfl : x8.toNat = x8.toNat) (kIx (enc := egIndex) (l := x0) (k := x8) fun v0 => (kIx (enc := egLin) (l := v0.fAt) (k := x50) fun v1 => (kC (sh := eT_gLin_I) (P_loopnest_copyStmts_1 v1) fun v2 => (kG (p := (0 : Int) ≤ x50 ∧ x50 < (↑x6.snd.length : Int)) (kG (p := x50.toNat < (List.map egLin x6.snd).length) (kBE (sh := egLin) (List.set x6.snd x50.toNat v2.fst) (mS (sh := egLin) x6.snd x50.toNat v2.fst) fun v3 ev3 => (kIf (c := v2.snd != (0 : Int)) (kG (p := x6.snd.length = (List.map egLin v3).length) (kOx (enc := egIndex) (l := x6.fst) (k := x8.toNat) fun v4 => (kBE (sh := egIndex) (List.set x6.fst x8.toNat (gIndex.mk v4.fLin v4.fFrom v3)) (mS (sh := egIndex) x6.fst x8.toNat (gIndex.mk v4.fLin v4.fFrom v3)) fun v5 ev5 => (kX (alts := A_loopnest_mapIndices_c68_L11 (x0, x13) (x8, x14, x49)) (.inr ([], v2.snd, v5)) (.next (.here _ rfl (.cons (LeV.refl (AV.sl (4 : Nat) (List.map egIndex x0))) (.cons (LeV.refl (AV.fn (68 : Nat) [])) (.cons (LeV.nil 4) (.cons (LeV.refl (AV.int IntKind.i64 v2.snd)) (.cons (LeV.owl (by simp [ev5, ev3] : x6.fst.length = List.length v5)) (.cons (LeV.refl (AV.int IntKind.i64 x13)) (.cons (LeV.refl (AV.int IntKind.i64 x14)) .nil))))))) (.refl _)))))))
 (kM (alts := A_loopnest_mapIndices_c68_L11 (x0, x13) (x8, x14, x49)) (.cons (LeV.refl (AV.sl (4 : Nat) (List.map egIndex x0))) (.cons (LeV.refl (AV.fn (68 : Nat) [])) (.cons (LeV.refl (AV.ow (0 : Nat) (0 : Nat) (4 : Nat) x6.fst.length)) (.cons (LeV.refl (AV.int IntKind.i64 x8)) (.cons (LeV.refl (AV.int IntKind.i64 x13)) (.cons (LeV.refl (AV.int IntKind.i64 x14)) (.cons (LeV.refl (AV.int IntKind.i64 x49)) (.cons (LeV.refl (AV.int IntKind.i64 (IntKind.i64.wrap (x50 + (1 : Int))))) .nil)))))))) (.cons (LeB.hol (0 : Nat) (4 : Nat) (List.map egIndex x6.fst) x8.toNat (3 : Nat) (LeV.owl (by simp [ev3] : x6.snd.length = List.length v3))) (.cons (LeB.refl (Box.own (0 : Nat) (2 : Nat) (List.map egLin v3))) .nil)) (fun y hy => ih_loopnest_mapIndices_c68_L11 (x6.fst, v3) (IntKind.i64.wrap (x50 + (1 : Int))) y hy x13 x14)))))))))))
 (kX (alts := A_loopnest_mapIndices_c68_L11 (x0, x13) (x8, x14, x49)) (.inl x6) (.here _ rfl (.refl _) (.refl _)))) h)) x6 x50 o h x13 x14
def A_loopnest_mapIndices_c68_L4 (s : List gIndex) (u : Int) (o : (List gIndex) ⊕ ((List gIndex) × Int)) : List Alt := [⟨fun (x : List gIndex) => (Sum.inl x : (List gIndex) ⊕ ((List gIndex) × Int)) = o, .exit 0, fun x => [.undef, .undef, .sl 4 (List.map egIndex x)], fun x => []⟩, ⟨fun (x : ((List gIndex) × Int)) => (Sum.inr x : (List gIndex) ⊕ ((List gIndex) × Int)) = o, .ret, fun x => [.sl 4 (List.map egIndex x.1), .int .i64 x.2, .undef], fun x => []⟩]
noncomputable def F_loopnest_mapIndices_c68_L4 (x0 : List gIndex) (x6 : List gIndex) (x13 : Int) (x14 : Int) : Option ((List gIndex) ⊕ ((List gIndex) × Int)) :=
 if x14 < x13 then
 ix x0 x14 >>= fun v0 =>
 F_loopnest_copyStmts_1 v0.fLin >>= fun v1 =>
 if (0 : Int) ≤ x14 ∧ x14 < (↑x6.length : Int) then
 x6[x14.toNat]? >>= fun v2 =>
 some (List.set x6 x14.toNat (gIndex.mk v1.fst v2.fFrom v2.fAt)) >>= fun v3 =>
 if v1.snd != (0 : Int) then
 if x6.length = (List.map egIndex v3).length then
 some (.inr ([], v1.snd))
 else none
 else
 ix x0 x14 >>= fun v4 =>
 F_slices_Clone_api_Lin v4.fAt >>= fun v5 =>
 if (0 : Int) ≤ x14 ∧ x14 < (↑x6.length : Int) then
 if x14.toNat < (List.map egIndex v3).length then
 ix x0 x14 >>= fun v6 =>
 some (List.length v6.fAt : Int) >>= fun v7 =>
 some (x14, x14, v7) >>= fun v8 =>
 F_loopnest_mapIndices_c68_L11 x0 (v3, v5) x14 v7 (0 : Int) >>= fun v9 => (match v9 with
 | (.inl v10) =>
 v10.fst[v8.fst.toNat]? >>= fun v11 =>
 some (List.set v10.fst v8.fst.toNat (gIndex.mk v11.fLin v11.fFrom v10.snd)) >>= fun v12 =>
 F_loopnest_mapIndices_c68_L4 x0 v12 x13 (IntKind.i64.wrap (v8.snd.fst + (1 : Int)))
 | (.inr v13) =>
 some (.inr (v13.fst, v13.snd.fst)))
 else none
 else none
 else none
 else
 some (.inl x6)
  partial_fixpoint
theorem P_loopnest_mapIndices_c68_L4 (x0 : List gIndex) (x6 : List gIndex) (x13 : Int) (x14 : Int) (o : (List gIndex) ⊕ ((List gIndex) × Int)) (h : F_loopnest_mapIndices_c68_L4 x0 x6 x13 x14 = some o) : LO 71 4 79 [0, 1, 6, 13, 14] [.sl 4 (List.map egIndex x0), .fn 68 [], .ow 0 0 4 (List.length x6), .int .i64 x13, .int .i64 x14] [.own 0 4 (List.map egIndex x6)] [4, 5, 6] (A_loopnest_mapIndices_c68_L4 x0 x13 o) :=
  F_loopnest_mapIndices_c68_L4.partial_correctness x0 x13 (fun x6 x14 o => LO 71 4 79 [0, 1, 6, 13, 14] [.sl 4 (List.map egIndex x0), .fn 68 [], .ow 0 0 4 (List.length x6), .int .i64 x13, .int .i64 x14] [.own 0 4 (List.map egIndex x6)] [4, 5, 6] (A_loopnest_mapIndices_c68_L4 x0 x13 o))
  (fun F_loopnest_mapIndices_c68_L4 ih_loopnest_mapIndices_c68_L4 x6 x14 o h  =>
  Lp1 (hs := [(15, .split), (23, .e egIndex), (26, .c eT_gLin_I), (29, .s), (1000030, .n egIndex 30 (some (.e egIndex))), (32, .split), (38, .e egIndex), (41, .h [] R_slices_Clone_api_Lin B_slices_Clone_api_Lin), (42, .s), (1000043, .s), (46, .e egIndex), (49, .n eI 49 none), (77, .fl egIndex 6 none), (3000012, .l [] [0, 1, 6, 8, 13, 14, 49, 50] [{ slot := 6 }, { slot := 6, path := [0] }] [0, 1, 4, 5, 6, 13, 14] [{ slot := 4, fz := true }, { slot := 6 }, { slot := 6, path := [0] }] (A_loopnest_mapIndices_c68_L11 (x0, x13)))]) (kb := [{ slot := 6, own := 4 }]) (kbx := [{ slot := 4, fz := true }, { slot := 6, fz := true }]) (by kernel_rfl) (by kernel_rfl) ((kIfD (p := x14 < x13) (kIx (enc := egIndex) (l := x0) (k := x14) fun v0 => (kC (sh := eT_gLin_I) (P_loopnest_copyStmts_1 v0.fLin) fun v1 => (kG (p := (0 : Int) ≤ x14 ∧ x14 < (↑x6.length : Int)) (kOx (enc := egIndex) (l := x6) (k := x14.toNat) fun v2 => (kBE (sh := egIndex) (List.set x6 x14.toNat (gIndex.mk v1.fst v2.fFrom v2.fAt)) (mS (sh := egIndex) x6 x14.toNat (gIndex.mk v1.fst v2.fFrom v2.fAt)) fun v3 ev3 => (kIf (c := v1.snd != (0 : Int)) (kG (p := x6.length = (List.map egIndex v3).length) (kX (alts := A_loopnest_mapIndices_c68_L4 x0 x13) (.inr ([], v1.snd)) (.next (.here _ rfl (.cons (LeV.nil 4) (.cons (LeV.refl (AV.int IntKind.i64 v1.snd)) (.cons (LeV.undef (AV.sl (4 : Nat) (List.map egIndex v3))) .nil))) (.refl _)))))
 (kIx (enc := egIndex) (l := x0) (k := x14) fun v4 => (kH (sh := R_slices_Clone_api_Lin) (bt := B_slices_Clone_api_Lin) (P_slices_Clone_api_Lin v4.fAt) fun v5 => (kG (p := (0 : Int) ≤ x14 ∧ x14 < (↑x6.length : Int)) (kG (p := x14.toNat < (List.map egIndex v3).length) (kIx (enc := egIndex) (l := x0) (k := x14) fun v6 => (kN _ (mLen (sh := egLin) v6.fAt) fun v7 => (kL2 (x14, x14, v7) (hL := (fun y hy => LoopOk.le (.cons (LeV.refl (AV.sl (4 : Nat) (List.map egIndex x0))) (.cons (LeV.refl (AV.fn (68 : Nat) [])) (.cons (LeV.owl (by simp [ev3] : x6.length = List.length v3)) (.cons (LeV.refl (AV.int IntKind.i64 x14)) (.cons (LeV.refl (AV.int IntKind.i64 x13)) (.cons (LeV.refl (AV.int IntKind.i64 x14)) (.cons (LeV.refl (AV.int IntKind.i64 v7)) (.cons (LeV.refl (AV.int IntKind.i64 (0 : Int))) .nil)))))))) (.refl _) (P_loopnest_mapIndices_c68_L11 x0 (v3, v5) x14 x13 x14 v7 (0 : Int) y hy))) (hA := fun v8 v10 => (kT (nM (sh := egLin) v10.snd) (kOx (enc := egIndex) (l := v10.fst) (k := v8.fst.toNat) fun v11 => (kBE (sh := egIndex) (List.set v10.fst v8.fst.toNat (gIndex.mk v11.fLin v11.fFrom v10.snd)) (mS (sh := egIndex) v10.fst v8.fst.toNat (gIndex.mk v11.fLin v11.fFrom v10.snd)) fun v12 ev12 => (kM (alts := A_loopnest_mapIndices_c68_L4 x0 x13) (.cons (LeV.refl (AV.sl (4 : Nat) (List.map egIndex x0))) (.cons (LeV.refl (AV.fn (68 : Nat) [])) (.cons (LeV.owl (by simp [ev12, ev3] : v10.fst.length = List.length v12)) (.cons (LeV.refl (AV.int IntKind.i64 x13)) (.cons (LeV.refl (AV.int IntKind.i64 (IntKind.i64.wrap (v8.snd.fst + (1 : Int))))) .nil))))) (.refl _) (ih_loopnest_mapIndices_c68_L4 v12 (IntKind.i64.wrap (v8.snd.fst + (1 : Int)))))))))
 (hB := fun v8 v13 => (kT (nM (sh := egIndex) v13.snd.snd) (kX (alts := A_loopnest_mapIndices_c68_L4 x0 x13) (.inr (v13.fst, v13.snd.fst)) (.next (.here _ rfl (.cons (LeV.refl (AV.sl (4 : Nat) (List.map egIndex v13.fst))) (.cons (LeV.refl (AV.int IntKind.i64 v13.snd.fst)) (.cons (LeV.undef (AV.sl (4 : Nat) (List.map egIndex v13.snd.snd))) .nil))) (.refl _)))))))))))))))))))
 (kT (nM (sh := egIndex) x6) (kX (alts := A_loopnest_mapIndices_c68_L4 x0 x13) (.inl x6) (.here _ rfl (.refl _) (.refl _))))) h)) x6 x14 o h
noncomputable def F_loopnest_mapIndices_c68 (x0 : List gIndex) : Option (List gIndex × Int) :=
 F_slices_Clone_api_Index x0 >>= fun v0 =>
 some (List.length x0 : Int) >>= fun v1 =>
 some v1 >>= fun v2 =>
 F_loopnest_mapIndices_c68_L4 x0 v0 v1 (0 : Int) >>= fun v3 => (match v3 with
 | (.inl v4) =>
 some (v4, (0 : Int))
 | (.inr v5) =>
 some (v5.fst, v5.snd))
theorem P_loopnest_mapIndices_c68 (x0 : List gIndex) (r : (List gIndex × Int)) (h : F_loopnest_mapIndices_c68 x0 = some r) : PU 71 [eLgIndex x0, .fn 68 []] (eT_LgIndex_I r) :=
  Pu1 (hs := [(11, .h [] R_slices_Clone_api_Index B_slices_Clone_api_Index), (13, .n eI 13 none), (3000005, .l [] [0, 1, 6, 13, 14] [{ slot := 6, own := 4 }] [4, 5, 6] [{ slot := 4, fz := true }, { slot := 6, fz := true }] (A_loopnest_mapIndices_c68_L4 x0))]) (by kernel_rfl) ((kH (sh := R_slices_Clone_api_Index) (bt := B_slices_Clone_api_Index) (P_slices_Clone_api_Index x0) fun v0 => (kN _ (mLen (sh := egIndex) x0) fun v1 => (kL2 v1 (hL := (P_loopnest_mapIndices_c68_L4 x0 v0 v1 (0 : Int))) (hA := fun v2 v4 => (kEr (enc := eT_LgIndex_I) (v4, (0 : Int))))
 (hB := fun v2 v5 => (kEr (enc := eT_LgIndex_I) (v5.fst, v5.snd)))))) h)
def A_loopnest_mapExpr_c68_L11 (s : gExprS) (u : Int) (o : (gExprS × gExprS) ⊕ (gExprS × Int × gExprS)) : List Alt := [⟨fun (x : (gExprS × gExprS)) => (Sum.inl x : (gExprS × gExprS) ⊕ (gExprS × Int × gExprS)) = o, .exit 0, fun x => [.ptr 0 0 0, .undef, .ptr 1 0 0], fun x => [.cells 0 (hgExpr x.1).cells, .cells 0 [.int .i64 x.2.fOp, .str x.2.fName, .int .i64 x.2.fVal.fN, .int .i64 x.2.fVal.fD, .int .i64 x.2.fType.fKind, .int .i64 x.2.fType.fBits, .int .i64 x.2.fType.fFrac, .int .i64 x.2.fType.fRound, .int .i64 x.2.fType.fOver, .int .i64 x.2.fLin.fK, .sl 2 (List.map egMono x.2.fLin.fL), .sl 4 (List.map egIndex x.2.fIdx), .ow 2 0 13 (List.length x.2.fArgs)], .own 0 13 (List.map egExpr x.2.fArgs)]⟩, ⟨fun (x : (gExprS × Int × gExprS)) => (Sum.inr x : (gExprS × gExprS) ⊕ (gExprS × Int × gExprS)) = o, .ret, fun x => [.ptr 0 0 0, .int .i64 x.2.1, .ptr 1 0 0], fun x => [.cells 0 (hgExpr x.1).cells, .cells 0 [.int .i64 x.2.2.fOp, .str x.2.2.fName, .int .i64 x.2.2.fVal.fN, .int .i64 x.2.2.fVal.fD, .int .i64 x.2.2.fType.fKind, .int .i64 x.2.2.fType.fBits, .int .i64 x.2.2.fType.fFrac, .int .i64 x.2.2.fType.fRound, .int .i64 x.2.2.fType.fOver, .int .i64 x.2.2.fLin.fK, .sl 2 (List.map egMono x.2.2.fLin.fL), .sl 4 (List.map egIndex x.2.2.fIdx), .ow 2 0 13 (List.length x.2.2.fArgs)], .own 0 13 (List.map egExpr x.2.2.fArgs)]⟩]
mutual
noncomputable def F_loopnest_mapExpr_c68 (x0 : gExprS) : Option (gExprS × Int) :=
 F_loopnest_copyStmts_1 x0.fLin >>= fun v0 =>
 if v0.snd != (0 : Int) then
 some ((gExprF.mk (0 : Int) [] (gVal.mk (0 : Int) (0 : Int)) (gType.mk (0 : Int) (0 : Int) (0 : Int) (0 : Int) (0 : Int)) (gLin.mk (0 : Int) []) [] [] : gExprS)) >>= fun v1 =>
 some (v1, v0.snd)
 else
 F_loopnest_mapIndices_c68 x0.fIdx >>= fun v2 =>
 if v2.snd != (0 : Int) then
 some ((gExprF.mk (0 : Int) [] (gVal.mk (0 : Int) (0 : Int)) (gType.mk (0 : Int) (0 : Int) (0 : Int) (0 : Int) (0 : Int)) (gLin.mk (0 : Int) []) [] [] : gExprS)) >>= fun v3 =>
 some (v3, v2.snd)
 else
 F_slices_Clone_api_Expr x0.fArgs >>= fun v4 =>
 some (List.length x0.fArgs : Int) >>= fun v5 =>
 some v5 >>= fun v6 =>
 F_loopnest_mapExpr_c68_L11 x0 (gExprF.mk (0 : Int) [] (gVal.mk (0 : Int) (0 : Int)) (gType.mk (0 : Int) (0 : Int) (0 : Int) (0 : Int) (0 : Int)) (gLin.mk (0 : Int) []) [] [] : gExprS) (gExprF.mk x0.fOp x0.fName x0.fVal x0.fType v0.fst v2.fst v4 : gExprS) v5 (0 : Int) >>= fun v7 => (match v7 with
 | (.inl v8) =>
 some (v8.snd, (0 : Int))
 | (.inr v9) =>
 some (v9.fst, v9.snd.fst))
  partial_fixpoint
noncomputable def F_loopnest_mapExpr_c68_L11 (x2 : gExprS) (x4 : gExprS) (x6 : gExprS) (x40 : Int) (x41 : Int) : Option ((gExprS × gExprS) ⊕ (gExprS × Int × gExprS)) :=
 if x41 < x40 then
 Option.map gExpr.f (ix x2.fArgs x41) >>= fun v0 =>
 F_loopnest_mapExpr_c68 v0 >>= fun v1 =>
 if (0 : Int) ≤ x41 ∧ x41 < (↑x6.fArgs.length : Int) then
 if x41.toNat < (List.map egExpr x6.fArgs).length then
 some (List.set x6.fArgs x41.toNat (gExpr.mk v1.fst)) >>= fun v2 =>
 if v1.snd != (0 : Int) then
 some ((gExprF.mk (0 : Int) [] (gVal.mk (0 : Int) (0 : Int)) (gType.mk (0 : Int) (0 : Int) (0 : Int) (0 : Int) (0 : Int)) (gLin.mk (0 : Int) []) [] [] : gExprS)) >>= fun v3 =>
 some (.inr (v3, v1.snd, (gExprF.mk x6.fOp x6.fName x6.fVal x6.fType x6.fLin x6.fIdx v2 : gExprS)))
 else
 F_loopnest_mapExpr_c68_L11 x2 x4 (gExprF.mk x6.fOp x6.fName x6.fVal x6.fType x6.fLin x6.fIdx v2 : gExprS) x40 (IntKind.i64.wrap (x41 + (1 : Int)))
 else none
 else none
 else
 some (.inl (x4, x6))
  partial_fixpoint
end
theorem PM_loopnest_mapExpr_c68  : (∀ (x0 : gExprS) (r : (gExprS × Int)), F_loopnest_mapExpr_c68 x0 = some r → PU 72 [hgExpr x0, .fn 68 []] (eT_gExpr_I r)) ∧ (∀ (x2 : gExprS) (x4 : gExprS) (x6 : gExprS) (x40 : Int) (x41 : Int) (o : (gExprS × gExprS) ⊕ (gExprS × Int × gExprS)), F_loopnest_mapExpr_c68_L11 x2 x4 x6 x40 x41 = some o → LO 72 11 64 [1, 2, 4, 6, 40, 41] [.fn 68 [], .ptr 0 0 0, .ptr 1 0 0, .ptr 2 0 0, .int .i64 x40, .int .i64 x41] [.cells 0 (hgExpr x2).cells, .cells 0 (hgExpr x4).cells, .cells 0 [.int .i64 x6.fOp, .str x6.fName, .int .i64 x6.fVal.fN, .int .i64 x6.fVal.fD, .int .i64 x6.fType.fKind, .int .i64 x6.fType.fBits, .int .i64 x6.fType.fFrac, .int .i64 x6.fType.fRound, .int .i64 x6.fType.fOver, .int .i64 x6.fLin.fK, .sl 2 (List.map egMono x6.fLin.fL), .sl 4 (List.map egIndex x6.fIdx), .ow 3 0 13 (List.length x6.fArgs)], .own 0 13 (List.map egExpr x6.fArgs)] [4, 5, 6] (A_loopnest_mapExpr_c68_L11 x2 x40 o)) :=
  F_loopnest_mapExpr_c68.mutual_partial_correctness  (fun x0 r => PU 72 [hgExpr x0, .fn 68 []] (eT_gExpr_I r)) (fun x2 x4 x6 x40 x41 o => LO 72 11 64 [1, 2, 4, 6, 40, 41] [.fn 68 [], .ptr 0 0 0, .ptr 1 0 0, .ptr 2 0 0, .int .i64 x40, .int .i64 x41] [.cells 0 (hgExpr x2).cells, .cells 0 (hgExpr x4).cells, .cells 0 [.int .i64 x6.fOp, .str x6.fName, .int .i64 x6.fVal.fN, .int .i64 x6.fVal.fD, .int .i64 x6.fType.fKind, .int .i64 x6.fType.fBits, .int .i64 x6.fType.fFrac, .int .i64 x6.fType.fRound, .int .i64 x6.fType.fOver, .int .i64 x6.fLin.fK, .sl 2 (List.map egMono x6.fLin.fL), .sl 4 (List.map egIndex x6.fIdx), .ow 3 0 13 (List.length x6.fArgs)], .own 0 13 (List.map egExpr x6.fArgs)] [4, 5, 6] (A_loopnest_mapExpr_c68_L11 x2 x40 o))
  (fun F_loopnest_mapExpr_c68_L11 ih_loopnest_mapExpr_c68_L11 x0 r h  =>
  Pu1 (hs := [(14, .c eT_gLin_I), (19, .split), (20, .n hgExpr 20 none), (26, .c eT_LgIndex_I), (31, .split), (32, .n hgExpr 32 none), (36, .h [] R_slices_Clone_api_Expr B_slices_Clone_api_Expr), (40, .n eI 40 none), (3000012, .l [] [1, 2, 4, 6, 40, 41] [{ slot := 2 }, { slot := 4 }, { slot := 6 }, { slot := 6, path := [12], own := 13 }] [4, 5, 6] [{ slot := 4 }, { slot := 6 }, { slot := 6, path := [12], own := 13 }] (A_loopnest_mapExpr_c68_L11 x0))]) (by kernel_rfl) ((kC (sh := eT_gLin_I) (P_loopnest_copyStmts_1 x0.fLin) fun v0 => (kIf (c := v0.snd != (0 : Int)) (kW (sh := hgExpr) (gExprF.mk (0 : Int) [] (gVal.mk (0 : Int) (0 : Int)) (gType.mk (0 : Int) (0 : Int) (0 : Int) (0 : Int) (0 : Int)) (gLin.mk (0 : Int) []) [] [] : gExprS) (LeV.agg (.cons (LeV.refl (AV.int IntKind.i64 (0 : Int))) (.cons (LeV.refl (AV.str [])) (.cons (LeV.refl (AV.int IntKind.i64 (0 : Int))) (.cons (LeV.refl (AV.int IntKind.i64 (0 : Int))) (.cons (LeV.refl (AV.int IntKind.i64 (0 : Int))) (.cons (LeV.refl (AV.int IntKind.i64 (0 : Int))) (.cons (LeV.refl (AV.int IntKind.i64 (0 : Int))) (.cons (LeV.refl (AV.int IntKind.i64 (0 : Int))) (.cons (LeV.refl (AV.int IntKind.i64 (0 : Int))) (.cons (LeV.refl (AV.int IntKind.i64 (0 : Int))) (.cons (LeV.nil 2) (.cons (LeV.nil 4) (.cons (LeV.nil 13) .nil)))))))))))))) fun v1 => (kEr (enc := eT_gExpr_I) (v1, v0.snd)))
 (kC (sh := eT_LgIndex_I) (P_loopnest_mapIndices_c68 x0.fIdx) fun v2 => (kIf (c := v2.snd != (0 : Int)) (kW (sh := hgExpr) (gExprF.mk (0 : Int) [] (gVal.mk (0 : Int) (0 : Int)) (gType.mk (0 : Int) (0 : Int) (0 : Int) (0 : Int) (0 : Int)) (gLin.mk (0 : Int) []) [] [] : gExprS) (LeV.agg (.cons (LeV.refl (AV.int IntKind.i64 (0 : Int))) (.cons (LeV.refl (AV.str [])) (.cons (LeV.refl (AV.int IntKind.i64 (0 : Int))) (.cons (LeV.refl (AV.int IntKind.i64 (0 : Int))) (.cons (LeV.refl (AV.int IntKind.i64 (0 : Int))) (.cons (LeV.refl (AV.int IntKind.i64 (0 : Int))) (.cons (LeV.refl (AV.int IntKind.i64 (0 : Int))) (.cons (LeV.refl (AV.int IntKind.i64 (0 : Int))) (.cons (LeV.refl (AV.int IntKind.i64 (0 : Int))) (.cons (LeV.refl (AV.int IntKind.i64 (0 : Int))) (.cons (LeV.nil 2) (.cons (LeV.nil 4) (.cons (LeV.nil 13) .nil)))))))))))))) fun v3 => (kEr (enc := eT_gExpr_I) (v3, v2.snd)))
 (kH (sh := R_slices_Clone_api_Expr) (bt := B_slices_Clone_api_Expr) (P_slices_Clone_api_Expr x0.fArgs) fun v4 => (kN _ (mLen (sh := egExpr) x0.fArgs) fun v5 => (kL2 v5 (hL := (fun y hy => LoopOk.le (.cons (LeV.refl (AV.fn (68 : Nat) [])) (.cons (LeV.refl (AV.ptr (0 : Nat) (0 : Nat) (0 : Nat))) (.cons (LeV.refl (AV.ptr (1 : Nat) (0 : Nat) (0 : Nat))) (.cons (LeV.refl (AV.ptr (2 : Nat) (0 : Nat) (0 : Nat))) (.cons (LeV.refl (AV.int IntKind.i64 v5)) (.cons (LeV.refl (AV.int IntKind.i64 (0 : Int))) .nil)))))) (.cons (LeB.refl (Box.cells (0 : Nat) [AV.int IntKind.i64 x0.fOp, AV.str x0.fName, AV.int IntKind.i64 x0.fVal.fN, AV.int IntKind.i64 x0.fVal.fD, AV.int IntKind.i64 x0.fType.fKind, AV.int IntKind.i64 x0.fType.fBits, AV.int IntKind.i64 x0.fType.fFrac, AV.int IntKind.i64 x0.fType.fRound, AV.int IntKind.i64 x0.fType.fOver, AV.int IntKind.i64 x0.fLin.fK, AV.sl (2 : Nat) (List.map egMono x0.fLin.fL), AV.sl (4 : Nat) (List.map egIndex x0.fIdx), AV.sl (13 : Nat) (List.map egExpr x0.fArgs)])) (.cons (LeB.cells (0 : Nat) (.cons (LeV.refl (AV.int IntKind.i64 (0 : Int))) (.cons (LeV.refl (AV.str [])) (.cons (LeV.refl (AV.int IntKind.i64 (0 : Int))) (.cons (LeV.refl (AV.int IntKind.i64 (0 : Int))) (.cons (LeV.refl (AV.int IntKind.i64 (0 : Int))) (.cons (LeV.refl (AV.int IntKind.i64 (0 : Int))) (.cons (LeV.refl (AV.int IntKind.i64 (0 : Int))) (.cons (LeV.refl (AV.int IntKind.i64 (0 : Int))) (.cons (LeV.refl (AV.int IntKind.i64 (0 : Int))) (.cons (LeV.refl (AV.int IntKind.i64 (0 : Int))) (.cons (LeV.nil 2) (.cons (LeV.nil 4) (.cons (LeV.nil 13) .nil)))))))))))))) (.cons (LeB.refl (Box.cells (0 : Nat) [AV.int IntKind.i64 x0.fOp, AV.str x0.fName, AV.int IntKind.i64 x0.fVal.fN, AV.int IntKind.i64 x0.fVal.fD, AV.int IntKind.i64 x0.fType.fKind, AV.int IntKind.i64 x0.fType.fBits, AV.int IntKind.i64 x0.fType.fFrac, AV.int IntKind.i64 x0.fType.fRound, AV.int IntKind.i64 x0.fType.fOver, AV.int IntKind.i64 v0.fst.fK, AV.sl (2 : Nat) (List.map egMono v0.fst.fL), AV.sl (4 : Nat) (List.map egIndex v2.fst), AV.ow (3 : Nat) (0 : Nat) (13 : Nat) v4.length])) (.cons (LeB.refl (Box.own (0 : Nat) (13 : Nat) (List.map egExpr v4))) .nil)))) (ih_loopnest_mapExpr_c68_L11 x0 (gExprF.mk (0 : Int) [] (gVal.mk (0 : Int) (0 : Int)) (gType.mk (0 : Int) (0 : Int) (0 : Int) (0 : Int) (0 : Int)) (gLin.mk (0 : Int) []) [] [] : gExprS) (gExprF.mk x0.fOp x0.fName x0.fVal x0.fType v0.fst v2.fst v4 : gExprS) v5 (0 : Int) y hy))) (hA := fun v6 v8 => (kT (nM (sh := egExpr) v8.snd.fArgs) (kEr (enc := eT_gExpr_I) (v8.snd, (0 : Int)))))
 (hB := fun v6 v9 => (kEr (enc := eT_gExpr_I) (v9.fst, v9.snd.fst)))))))))) h))
  (fun F_loopnest_mapExpr_c68 F_loopnest_mapExpr_c68_L11 ih_loopnest_mapExpr_c68 ih_loopnest_mapExpr_c68_L11 x2 x4 x6 x40 x41 o h  =>
  Lp1 (hs := [(42, .split), (51, .e hgExpr), (54, .c eT_gExpr_I), (57, .s), (1000057, .n egExpr 57 (some .s)), (59, .split), (60, .n hgExpr 60 none)]) (kb := [{ slot := 2 }, { slot := 4 }, { slot := 6 }, { slot := 6, path := [12], own := 13 }]) (kbx := [{ slot := 4 }, { slot := 6 }, { slot := 6, path := [12], own := 13 }]) (by kernel_rfl) (by kernel_rfl) ((kIfD (p := x41 < x40) (kIxR (l := x2.fArgs) (k := x41) egExpr_f fun v0 => (kC (sh := eT_gExpr_I) (ih_loopnest_mapExpr_c68 v0) fun v1 => (kG (p := (0 : Int) ≤ x41 ∧ x41 < (↑x6.fArgs.length : Int)) (kG (p := x41.toNat < (List.map egExpr x6.fArgs).length) (kBE (sh := egExpr) (List.set x6.fArgs x41.toNat (gExpr.mk v1.fst)) (mSR egExpr_mk x6.fArgs x41.toNat v1.fst) fun v2 ev2 => (kIf (c := v1.snd != (0 : Int)) (kW (sh := hgExpr) (gExprF.mk (0 : Int) [] (gVal.mk (0 : Int) (0 : Int)) (gType.mk (0 : Int) (0 : Int) (0 : Int) (0 : Int) (0 : Int)) (gLin.mk (0 : Int) []) [] [] : gExprS) (LeV.agg (.cons (LeV.refl (AV.int IntKind.i64 (0 : Int))) (.cons (LeV.refl (AV.str [])) (.cons (LeV.refl (AV.int IntKind.i64 (0 : Int))) (.cons (LeV.refl (AV.int IntKind.i64 (0 : Int))) (.cons (LeV.refl (AV.int IntKind.i64 (0 : Int))) (.cons (LeV.refl (AV.int IntKind.i64 (0 : Int))) (.cons (LeV.refl (AV.int IntKind.i64 (0 : Int))) (.cons (LeV.refl (AV.int IntKind.i64 (0 : Int))) (.cons (LeV.refl (AV.int IntKind.i64 (0 : Int))) (.cons (LeV.refl (AV.int IntKind.i64 (0 : Int))) (.cons (LeV.nil 2) (.cons (LeV.nil 4) (.cons (LeV.nil 13) .nil)))))))))))))) fun v3 => (kX (alts := A_loopnest_mapExpr_c68_L11 x2 x40) (.inr (v3, v1.snd, (gExprF.mk x6.fOp x6.fName x6.fVal x6.fType x6.fLin x6.fIdx v2 : gExprS))) (.next (.here _ rfl (.cons (LeV.refl (AV.ptr (0 : Nat) (0 : Nat) (0 : Nat))) (.cons (LeV.refl (AV.int IntKind.i64 v1.snd)) (.cons (LeV.refl (AV.ptr (1 : Nat) (0 : Nat) (0 : Nat))) .nil))) (.cons (LeB.refl (Box.cells (0 : Nat) [AV.int IntKind.i64 v3.fOp, AV.str v3.fName, AV.int IntKind.i64 v3.fVal.fN, AV.int IntKind.i64 v3.fVal.fD, AV.int IntKind.i64 v3.fType.fKind, AV.int IntKind.i64 v3.fType.fBits, AV.int IntKind.i64 v3.fType.fFrac, AV.int IntKind.i64 v3.fType.fRound, AV.int IntKind.i64 v3.fType.fOver, AV.int IntKind.i64 v3.fLin.fK, AV.sl (2 : Nat) (List.map egMono v3.fLin.fL), AV.sl (4 : Nat) (List.map egIndex v3.fIdx), AV.sl (13 : Nat) (List.map egExpr v3.fArgs)])) (.cons (LeB.cells (0 : Nat) (.cons (LeV.refl (AV.int IntKind.i64 x6.fOp)) (.cons (LeV.refl (AV.str x6.fName)) (.cons (LeV.refl (AV.int IntKind.i64 x6.fVal.fN)) (.cons (LeV.refl (AV.int IntKind.i64 x6.fVal.fD)) (.cons (LeV.refl (AV.int IntKind.i64 x6.fType.fKind)) (.cons (LeV.refl (AV.int IntKind.i64 x6.fType.fBits)) (.cons (LeV.refl (AV.int IntKind.i64 x6.fType.fFrac)) (.cons (LeV.refl (AV.int IntKind.i64 x6.fType.fRound)) (.cons (LeV.refl (AV.int IntKind.i64 x6.fType.fOver)) (.cons (LeV.refl (AV.int IntKind.i64 x6.fLin.fK)) (.cons (LeV.refl (AV.sl (2 : Nat) (List.map egMono x6.fLin.fL))) (.cons (LeV.refl (AV.sl (4 : Nat) (List.map egIndex x6.fIdx))) (.cons (LeV.owl (by simp [ev2] : x6.fArgs.length = List.length v2)) .nil)))))))))))))) (.cons (LeB.refl (Box.own (0 : Nat) (13 : Nat) (List.map egExpr v2))) .nil)))))))
 (kM (alts := A_loopnest_mapExpr_c68_L11 x2 x40) (.cons (LeV.refl (AV.fn (68 : Nat) [])) (.cons (LeV.refl (AV.ptr (0 : Nat) (0 : Nat) (0 : Nat))) (.cons (LeV.refl (AV.ptr (1 : Nat) (0 : Nat) (0 : Nat))) (.cons (LeV.refl (AV.ptr (2 : Nat) (0 : Nat) (0 : Nat))) (.cons (LeV.refl (AV.int IntKind.i64 x40)) (.cons (LeV.refl (AV.int IntKind.i64 (IntKind.i64.wrap (x41 + (1 : Int))))) .nil)))))) (.cons (LeB.refl (Box.cells (0 : Nat) [AV.int IntKind.i64 x2.fOp, AV.str x2.fName, AV.int IntKind.i64 x2.fVal.fN, AV.int IntKind.i64 x2.fVal.fD, AV.int IntKind.i64 x2.fType.fKind, AV.int IntKind.i64 x2.fType.fBits, AV.int IntKind.i64 x2.fType.fFrac, AV.int IntKind.i64 x2.fType.fRound, AV.int IntKind.i64 x2.fType.fOver, AV.int IntKind.i64 x2.fLin.fK, AV.sl (2 : Nat) (List.map egMono x2.fLin.fL), AV.sl (4 : Nat) (List.map egIndex x2.fIdx), AV.sl (13 : Nat) (List.map egExpr x2.fArgs)])) (.cons (LeB.refl (Box.cells (0 : Nat) [AV.int IntKind.i64 x4.fOp, AV.str x4.fName, AV.int IntKind.i64 x4.fVal.fN, AV.int IntKind.i64 x4.fVal.fD, AV.int IntKind.i64 x4.fType.fKind, AV.int IntKind.i64 x4.fType.fBits, AV.int IntKind.i64 x4.fType.fFrac, AV.int IntKind.i64 x4.fType.fRound, AV.int IntKind.i64 x4.fType.fOver, AV.int IntKind.i64 x4.fLin.fK, AV.sl (2 : Nat) (List.map egMono x4.fLin.fL), AV.sl (4 : Nat) (List.map egIndex x4.fIdx), AV.sl (13 : Nat) (List.map egExpr x4.fArgs)])) (.cons (LeB.cells (0 : Nat) (.cons (LeV.refl (AV.int IntKind.i64 x6.fOp)) (.cons (LeV.refl (AV.str x6.fName)) (.cons (LeV.refl (AV.int IntKind.i64 x6.fVal.fN)) (.cons (LeV.refl (AV.int IntKind.i64 x6.fVal.fD)) (.cons (LeV.refl (AV.int IntKind.i64 x6.fType.fKind)) (.cons (LeV.refl (AV.int IntKind.i64 x6.fType.fBits)) (.cons (LeV.refl (AV.int IntKind.i64 x6.fType.fFrac)) (.cons (LeV.refl (AV.int IntKind.i64 x6.fType.fRound)) (.cons (LeV.refl (AV.int IntKind.i64 x6.fType.fOver)) (.cons (LeV.refl (AV.int IntKind.i64 x6.fLin.fK)) (.cons (LeV.refl (AV.sl (2 : Nat) (List.map egMono x6.fLin.fL))) (.cons (LeV.refl (AV.sl (4 : Nat) (List.map egIndex x6.fIdx))) (.cons (LeV.owl (by simp [ev2] : x6.fArgs.length = List.length v2)) .nil)))))))))))))) (.cons (LeB.refl (Box.own (0 : Nat) (13 : Nat) (List.map egExpr v2))) .nil)))) (ih_loopnest_mapExpr_c68_L11 x2 x4 (gExprF.mk x6.fOp x6.fName x6.fVal x6.fType x6.fLin x6.fIdx v2 : gExprS) x40 (IntKind.i64.wrap (x41 + (1 : Int)))))))))))
 (kX (alts := A_loopnest_mapExpr_c68_L11 x2 x40) (.inl (x4, x6)) (.here _ rfl (.refl _) (.refl _)))) h))
theorem P_loopnest_mapExpr_c68 (x0 : gExprS) (r : (gExprS × Int)) (h : F_loopnest_mapExpr_c68 x0 = some r) : PU 72 [hgExpr x0, .fn 68 []] (eT_gExpr_I r) := (PM_loopnest_mapExpr_c68 ).1 x0 r h
theorem P_loopnest_mapExpr_c68_L11 (x2 : gExprS) (x4 : gExprS) (x6 : gExprS) (x40 : Int) (x41 : Int) (o : (gExprS × gExprS) ⊕ (gExprS × Int × gExprS)) (h : F_loopnest_mapExpr_c68_L11 x2 x4 x6 x40 x41 = some o) : LO 72 11 64 [1, 2, 4, 6, 40, 41] [.fn 68 [], .ptr 0 0 0, .ptr 1 0 0, .ptr 2 0 0, .int .i64 x40, .int .i64 x41] [.cells 0 (hgExpr x2).cells, .cells 0 (hgExpr x4).cells, .cells 0 [.int .i64 x6.fOp, .str x6.fName, .int .i64 x6.fVal.fN, .int .i64 x6.fVal.fD, .int .i64 x6.fType.fKind, .int .i64 x6.fType.fBits, .int .i64 x6.fType.fFrac, .int .i64 x6.fType.fRound, .int .i64 x6.fType.fOver, .int .i64 x6.fLin.fK, .sl 2 (List.map egMono x6.fLin.fL), .sl 4 (List.map egIndex x6.fIdx), .ow 3 0 13 (List.length x6.fArgs)], .own 0 13 (List.map egExpr x6.fArgs)] [4, 5, 6] (A_loopnest_mapExpr_c68_L11 x2 x40 o) := (PM_loopnest_mapExpr_c68 ).2 x2 x4 x6 x40 x41 o h
def A_loopnest_mapStmts_c68_c47_L4 (s : List gStmt) (u : Int) (o : (List gStmt) ⊕ ((List gStmt) × Int)) : List Alt := [⟨fun (x : List gStmt) => (Sum.inl x : (List gStmt) ⊕ ((List gStmt) × Int)) = o, .exit 0, fun x => [.undef, .undef, .sl 20 (List.map egStmt x)], fun x => []⟩, ⟨fun (x : ((List gStmt) × Int)) => (Sum.inr x : (List gStmt) ⊕ ((List gStmt) × Int)) = o, .ret, fun x => [.sl 20 (List.map egStmt x.1), .int .i64 x.2, .undef], fun x => []⟩]
def A_loopnest_mapStmts_c68_c47_J6000008 (s : ((List gStmt) × Int)) (u : (Int × Int)) (o : List gStmt) : List Alt := [⟨fun (x : List gStmt) => x = o, .normal, fun x => [.sl 20 (List.map egStmt (s.1)), .fn 68 [], .fn 47 [], .ow 0 0 20 (List.length x), .int .i64 (u.1), .int .i64 (s.2), .int .i64 (u.2)], fun x => [.own 0 20 (List.map egStmt x)]⟩]
mutual
noncomputable def F_loopnest_mapStmts_c68_c47 (x0 : List gStmt) : Option (List gStmt × Int) :=
 F_slices_Clone_api_Stmt x0 >>= fun v0 =>
 some (List.length x0 : Int) >>= fun v1 =>
 some v1 >>= fun v2 =>
 F_loopnest_mapStmts_c68_c47_L4 x0 v0 v1 (0 : Int) >>= fun v3 => (match v3 with
 | (.inl v4) =>
 some (v4, (0 : Int))
 | (.inr v5) =>
 some (v5.fst, v5.snd))
  partial_fixpoint
noncomputable def F_loopnest_mapStmts_c68_c47_L4 (x0 : List gStmt) (x8 : List gStmt) (x14 : Int) (x15 : Int) : Option ((List gStmt) ⊕ ((List gStmt) × Int)) :=
 if x15 < x14 then
 some (x15, x15) >>= fun v0 =>
 (Option.map gStmt.f (ix x0 x15) >>= fun v2 =>
 if v2.fOp == (1 : Int) then
 Option.map gStmt.f (ix x0 x15) >>= fun v3 =>
 F_loopnest_same v3.fName >>= fun v4 =>
 if (0 : Int) ≤ x15 ∧ x15 < (↑x8.length : Int) then
 Option.map gStmt.f x8[x15.toNat]? >>= fun v5 =>
 some (List.set x8 x15.toNat (gStmt.mk (gStmtF.mk v5.fOp v4 v5.fMany v5.fMark v5.fFold v5.fIdx v5.fExpr v5.fBody : gStmtS))) >>= fun v6 =>
 some v6
 else none
 else
 some x8) >>= fun v7 =>
 Option.map gStmt.f (ix x0 v0.fst) >>= fun v8 =>
 F_loopnest_mapIndices_c68 v8.fIdx >>= fun v9 =>
 if (0 : Int) ≤ v0.fst ∧ v0.fst < (↑(List.length v7) : Int) then
 Option.map gStmt.f v7[v0.fst.toNat]? >>= fun v10 =>
 some (List.set v7 v0.fst.toNat (gStmt.mk (gStmtF.mk v10.fOp v10.fName v10.fMany v10.fMark v10.fFold v9.fst v10.fExpr v10.fBody : gStmtS))) >>= fun v11 =>
 if v9.snd != (0 : Int) then
 if List.length v7 = (List.map egStmt v11).length then
 some (.inr ([], v9.snd))
 else none
 else
 Option.map gStmt.f (ix x0 v0.fst) >>= fun v12 =>
 F_loopnest_mapExpr_c68 v12.fExpr >>= fun v13 =>
 if (0 : Int) ≤ v0.fst ∧ v0.fst < (↑(List.length v7) : Int) then
 Option.map gStmt.f v11[v0.fst.toNat]? >>= fun v14 =>
 some (List.set v11 v0.fst.toNat (gStmt.mk (gStmtF.mk v14.fOp v14.fName v14.fMany v14.fMark v14.fFold v14.fIdx v13.fst v14.fBody : gStmtS))) >>= fun v15 =>
 if v13.snd != (0 : Int) then
 if List.length v7 = (List.map egStmt v15).length then
 some (.inr ([], v13.snd))
 else none
 else
 Option.map gStmt.f (ix x0 v0.fst) >>= fun v16 =>
 F_loopnest_mapStmts_c68_c47 v16.fBody >>= fun v17 =>
 if (0 : Int) ≤ v0.fst ∧ v0.fst < (↑(List.length v7) : Int) then
 Option.map gStmt.f v15[v0.fst.toNat]? >>= fun v18 =>
 some (List.set v15 v0.fst.toNat (gStmt.mk (gStmtF.mk v18.fOp v18.fName v18.fMany v18.fMark v18.fFold v18.fIdx v18.fExpr v17.fst : gStmtS))) >>= fun v19 =>
 if v17.snd != (0 : Int) then
 if List.length v7 = (List.map egStmt v19).length then
 some (.inr ([], v17.snd))
 else none
 else
 F_loopnest_mapStmts_c68_c47_L4 x0 v19 x14 (IntKind.i64.wrap (v0.snd + (1 : Int)))
 else none
 else none
 else none
 else
 some (.inl x8)
  partial_fixpoint
end
theorem PM_loopnest_mapStmts_c68_c47  : (∀ (x0 : List gStmt) (r : (List gStmt × Int)), F_loopnest_mapStmts_c68_c47 x0 = some r → PU 44 [eLgStmt x0, .fn 68 [], .fn 47 []] (eT_LgStmt_I r)) ∧ (∀ (x0 : List gStmt) (x8 : List gStmt) (x14 : Int) (x15 : Int) (o : (List gStmt) ⊕ ((List gStmt) × Int)), F_loopnest_mapStmts_c68_c47_L4 x0 x8 x14 x15 = some o → LO 44 4 89 [0, 1, 2, 8, 14, 15] [.sl 20 (List.map egStmt x0), .fn 68 [], .fn 47 [], .ow 0 0 20 (List.length x8), .int .i64 x14, .int .i64 x15] [.own 0 20 (List.map egStmt x8)] [6, 7, 8] (A_loopnest_mapStmts_c68_c47_L4 x0 x14 o)) :=
  F_loopnest_mapStmts_c68_c47.mutual_partial_correctness  (fun x0 r => PU 44 [eLgStmt x0, .fn 68 [], .fn 47 []] (eT_LgStmt_I r)) (fun x0 x8 x14 x15 o => LO 44 4 89 [0, 1, 2, 8, 14, 15] [.sl 20 (List.map egStmt x0), .fn 68 [], .fn 47 [], .ow 0 0 20 (List.length x8), .int .i64 x14, .int .i64 x15] [.own 0 20 (List.map egStmt x8)] [6, 7, 8] (A_loopnest_mapStmts_c68_c47_L4 x0 x14 o))
  (fun F_loopnest_mapStmts_c68_c47_L4 ih_loopnest_mapStmts_c68_c47_L4 x0 r h  =>
  Pu1 (hs := [(12, .h [] R_slices_Clone_api_Stmt B_slices_Clone_api_Stmt), (14, .n eI 14 none), (3000005, .l [] [0, 1, 2, 8, 14, 15] [{ slot := 8, own := 20 }] [6, 7, 8] [{ slot := 6, fz := true }, { slot := 8, fz := true }] (A_loopnest_mapStmts_c68_c47_L4 x0))]) (by kernel_rfl) ((kH (sh := R_slices_Clone_api_Stmt) (bt := B_slices_Clone_api_Stmt) (P_slices_Clone_api_Stmt x0) fun v0 => (kN _ (mLen (sh := egStmt) x0) fun v1 => (kL2 v1 (hL := (ih_loopnest_mapStmts_c68_c47_L4 x0 v0 v1 (0 : Int))) (hA := fun v2 v4 => (kEr (enc := eT_LgStmt_I) (v4, (0 : Int))))
 (hB := fun v2 v5 => (kEr (enc := eT_LgStmt_I) (v5.fst, v5.snd)))))) h))
  (fun F_loopnest_mapStmts_c68_c47 F_loopnest_mapStmts_c68_c47_L4 ih_loopnest_mapStmts_c68_c47 ih_loopnest_mapStmts_c68_c47_L4 x0 x8 x14 x15 o h  =>
  Lp1 (hs := [(16, .split), (20, .e hgStmt), (23, .split), (29, .e hgStmt), (32, .c eS), (33, .s), (1000034, .n egStmt 34 (some (.e hgStmt))), (40, .e hgStmt), (44, .c eT_LgIndex_I), (47, .s), (1000048, .n egStmt 48 (some (.e hgStmt))), (50, .split), (57, .e hgStmt), (61, .c eT_gExpr_I), (64, .s), (1000065, .n egStmt 65 (some (.e hgStmt))), (67, .split), (74, .e hgStmt), (79, .c eT_LgStmt_I), (82, .s), (1000083, .n egStmt 83 (some (.e hgStmt))), (85, .split), (6000008, .l [] [] [] [0, 1, 2, 8, 10, 14, 15] [{ slot := 8, own := 20 }] (A_loopnest_mapStmts_c68_c47_J6000008 (x0, x14)))]) (kb := [{ slot := 8, own := 20 }]) (kbx := [{ slot := 6, fz := true }, { slot := 8, fz := true }]) (by kernel_rfl) (by kernel_rfl) ((kIfD (p := x15 < x14) (kJ1 (id := 6000008) (x15, x15) (fun v0 ev0 v1 => (kIxR (l := x0) (k := x15) egStmt_f fun v2 => (kIf (c := v2.fOp == (1 : Int)) (kIxR (l := x0) (k := x15) egStmt_f fun v3 => (kC (sh := eS) (P_loopnest_same v3.fName) fun v4 => (kG (p := (0 : Int) ≤ x15 ∧ x15 < (↑x8.length : Int)) (kOxR (l := x8) (k := x15.toNat) egStmt_f fun v5 => (kBE (sh := egStmt) (List.set x8 x15.toNat (gStmt.mk (gStmtF.mk v5.fOp v4 v5.fMany v5.fMark v5.fFold v5.fIdx v5.fExpr v5.fBody : gStmtS))) (mSR egStmt_mk x8 x15.toNat (gStmtF.mk v5.fOp v4 v5.fMany v5.fMark v5.fFold v5.fIdx v5.fExpr v5.fBody : gStmtS)) fun v6 ev6 => (kXj (alts := A_loopnest_mapStmts_c68_c47_J6000008 (x0, x14)) ev0 v6 (.here _ rfl (.cons (LeV.refl (AV.sl (20 : Nat) (List.map egStmt x0))) (.cons (LeV.refl (AV.fn (68 : Nat) [])) (.cons (LeV.refl (AV.fn (47 : Nat) [])) (.cons (LeV.owl (by simp [ev6] : x8.length = List.length v6)) (.cons (LeV.refl (AV.int IntKind.i64 x15)) (.cons (LeV.refl (AV.int IntKind.i64 x14)) (.cons (LeV.refl (AV.int IntKind.i64 x15)) .nil))))))) (.refl _))))))))
 (kXj (alts := A_loopnest_mapStmts_c68_c47_J6000008 (x0, x14)) ev0 x8 (.here _ rfl (.refl _) (.refl _))))))
 (fun v0 v7 => (kIxR (l := x0) (k := v0.fst) egStmt_f fun v8 => (kC (sh := eT_LgIndex_I) (P_loopnest_mapIndices_c68 v8.fIdx) fun v9 => (kG (p := (0 : Int) ≤ v0.fst ∧ v0.fst < (↑(List.length v7) : Int)) (kOxR (l := v7) (k := v0.fst.toNat) egStmt_f fun v10 => (kBE (sh := egStmt) (List.set v7 v0.fst.toNat (gStmt.mk (gStmtF.mk v10.fOp v10.fName v10.fMany v10.fMark v10.fFold v9.fst v10.fExpr v10.fBody : gStmtS))) (mSR egStmt_mk v7 v0.fst.toNat (gStmtF.mk v10.fOp v10.fName v10.fMany v10.fMark v10.fFold v9.fst v10.fExpr v10.fBody : gStmtS)) fun v11 ev11 => (kIf (c := v9.snd != (0 : Int)) (kG (p := List.length v7 = (List.map egStmt v11).length) (kX (alts := A_loopnest_mapStmts_c68_c47_L4 x0 x14) (.inr ([], v9.snd)) (.next (.here _ rfl (.cons (LeV.nil 20) (.cons (LeV.refl (AV.int IntKind.i64 v9.snd)) (.cons (LeV.undef (AV.sl (20 : Nat) (List.map egStmt v11))) .nil))) (.refl _)))))
 (kIxR (l := x0) (k := v0.fst) egStmt_f fun v12 => (kC (sh := eT_gExpr_I) (P_loopnest_mapExpr_c68 v12.fExpr) fun v13 => (kG (p := (0 : Int) ≤ v0.fst ∧ v0.fst < (↑(List.length v7) : Int)) (kOxR (l := v11) (k := v0.fst.toNat) egStmt_f fun v14 => (kBE (sh := egStmt) (List.set v11 v0.fst.toNat (gStmt.mk (gStmtF.mk v14.fOp v14.fName v14.fMany v14.fMark v14.fFold v14.fIdx v13.fst v14.fBody : gStmtS))) (mSR egStmt_mk v11 v0.fst.toNat (gStmtF.mk v14.fOp v14.fName v14.fMany v14.fMark v14.fFold v14.fIdx v13.fst v14.fBody : gStmtS)) fun v15 ev15 => (kIf (c := v13.snd != (0 : Int)) (kG (p := List.length v7 = (List.map egStmt v15).length) (kX (alts := A_loopnest_mapStmts_c68_c47_L4 x0 x14) (.inr ([], v13.snd)) (.next (.here _ rfl (.cons (LeV.nil 20) (.cons (LeV.refl (AV.int IntKind.i64 v13.snd)) (.cons (LeV.undef (AV.sl (20 : Nat) (List.map egStmt v15))) .nil))) (.refl _)))))
 (kIxR (l := x0) (k := v0.fst) egStmt_f fun v16 => (kC (sh := eT_LgStmt_I) (ih_loopnest_mapStmts_c68_c47 v16.fBody) fun v17 => (kG (p := (0 : Int) ≤ v0.fst ∧ v0.fst < (↑(List.length v7) : Int)) (kOxR (l := v15) (k := v0.fst.toNat) egStmt_f fun v18 => (kBE (sh := egStmt) (List.set v15 v0.fst.toNat (gStmt.mk (gStmtF.mk v18.fOp v18.fName v18.fMany v18.fMark v18.fFold v18.fIdx v18.fExpr v17.fst : gStmtS))) (mSR egStmt_mk v15 v0.fst.toNat (gStmtF.mk v18.fOp v18.fName v18.fMany v18.fMark v18.fFold v18.fIdx v18.fExpr v17.fst : gStmtS)) fun v19 ev19 => (kIf (c := v17.snd != (0 : Int)) (kG (p := List.length v7 = (List.map egStmt v19).length) (kX (alts := A_loopnest_mapStmts_c68_c47_L4 x0 x14) (.inr ([], v17.snd)) (.next (.here _ rfl (.cons (LeV.nil 20) (.cons (LeV.refl (AV.int IntKind.i64 v17.snd)) (.cons (LeV.undef (AV.sl (20 : Nat) (List.map egStmt v19))) .nil))) (.refl _)))))
 (kM (alts := A_loopnest_mapStmts_c68_c47_L4 x0 x14) (.cons (LeV.refl (AV.sl (20 : Nat) (List.map egStmt x0))) (.cons (LeV.refl (AV.fn (68 : Nat) [])) (.cons (LeV.refl (AV.fn (47 : Nat) [])) (.cons (LeV.owl (by simp [ev19, ev15, ev11] : List.length v7 = List.length v19)) (.cons (LeV.refl (AV.int IntKind.i64 x14)) (.cons (LeV.refl (AV.int IntKind.i64 (IntKind.i64.wrap (v0.snd + (1 : Int))))) .nil)))))) (.refl _) (ih_loopnest_mapStmts_c68_c47_L4 x0 v19 x14 (IntKind.i64.wrap (v0.snd + (1 : Int)))))))))))))))))))))))))
 (kT (nM (sh := egStmt) x8) (kX (alts := A_loopnest_mapStmts_c68_c47_L4 x0 x14) (.inl x8) (.here _ rfl (.refl _) (.refl _))))) h))
theorem P_loopnest_mapStmts_c68_c47 (x0 : List gStmt) (r : (List gStmt × Int)) (h : F_loopnest_mapStmts_c68_c47 x0 = some r) : PU 44 [eLgStmt x0, .fn 68 [], .fn 47 []] (eT_LgStmt_I r) := (PM_loopnest_mapStmts_c68_c47 ).1 x0 r h
theorem P_loopnest_mapStmts_c68_c47_L4 (x0 : List gStmt) (x8 : List gStmt) (x14 : Int) (x15 : Int) (o : (List gStmt) ⊕ ((List gStmt) × Int)) (h : F_loopnest_mapStmts_c68_c47_L4 x0 x8 x14 x15 = some o) : LO 44 4 89 [0, 1, 2, 8, 14, 15] [.sl 20 (List.map egStmt x0), .fn 68 [], .fn 47 [], .ow 0 0 20 (List.length x8), .int .i64 x14, .int .i64 x15] [.own 0 20 (List.map egStmt x8)] [6, 7, 8] (A_loopnest_mapStmts_c68_c47_L4 x0 x14 o) := (PM_loopnest_mapStmts_c68_c47 ).2 x0 x8 x14 x15 o h
noncomputable def F_loopnest_copyStmts (x0 : List gStmt) : Option (List gStmt) :=
 F_loopnest_mapStmts_c68_c47 x0 >>= fun v0 =>
 some v0.fst
theorem P_loopnest_copyStmts (x0 : List gStmt) (r : List gStmt) (h : F_loopnest_copyStmts x0 = some r) : PU 42 [eLgStmt x0] (eLgStmt r) :=
  Pu1 (hs := [(7, .c eT_LgStmt_I)]) (by kernel_rfl) ((kC (sh := eT_LgStmt_I) (P_loopnest_mapStmts_c68_c47 x0) fun v0 => (kEr (enc := eLgStmt) v0.fst)) h)
end Go.Proofs.YtfaenlhmhlabeaaGreatDoor
end
section
namespace Go.Proofs.YtfaenlhmhlabeaaGreatDoor
open Go HY
set_option maxRecDepth 1000000
set_option linter.unusedVariables false
def A_ref33_indices_L7 (s : List gIndex) (u : Int) (o : Int) : List Alt := [⟨fun (x : Int) => x = o, .exit 2, fun x => [.sl 4 (List.map egIndex s), .int .i64 x, .int .i64 u], fun x => []⟩]
noncomputable def F_ref33_indices_L7 (x0 : List gIndex) (x3 : Int) (x4 : Int) (x5 : Int) : Option Int :=
 ix x0 x4 >>= fun v0 =>
 some (List.length v0.fAt : Int) >>= fun v1 =>
 if x5 < v1 then
 ix x0 x4 >>= fun v2 =>
 ix v2.fAt x5 >>= fun v3 =>
 some (List.length v3.fL : Int) >>= fun v4 =>
 some (IntKind.i64.wrap (x3 + IntKind.i64.wrap ((1 : Int) + v4)) : Int) >>= fun v5 =>
 F_ref33_indices_L7 x0 v5 x4 (IntKind.i64.wrap (x5 + (1 : Int)))
 else
 some x3
  partial_fixpoint
theorem P_ref33_indices_L7 (x0 : List gIndex) (x3 : Int) (x4 : Int) (x5 : Int) (o : Int) (h : F_ref33_indices_L7 x0 x3 x4 x5 = some o) : LO 36 7 47 [0, 3, 4, 5] [.sl 4 (List.map egIndex x0), .int .i64 x3, .int .i64 x4, .int .i64 x5] [] [0, 3, 4] (A_ref33_indices_L7 x0 x4 o) :=
  F_ref33_indices_L7.partial_correctness x0 x4 (fun x3 x5 o => LO 36 7 47 [0, 3, 4, 5] [.sl 4 (List.map egIndex x0), .int .i64 x3, .int .i64 x4, .int .i64 x5] [] [0, 3, 4] (A_ref33_indices_L7 x0 x4 o))
  (fun F_ref33_indices_L7 ih_ref33_indices_L7 x3 x5 o h  =>
  Lp1 (hs := [(3, .n eI 3 none), (26, .e egIndex), (29, .n eI 29 none), (30, .split), (36, .e egIndex), (40, .e egLin), (43, .n eI 43 none), (3, .n eI 3 none)]) (kb := []) (kbx := []) (by kernel_rfl) (by kernel_rfl) ((kIx (enc := egIndex) (l := x0) (k := x4) fun v0 => (kN _ (mLen (sh := egLin) v0.fAt) fun v1 => (kIfD (p := x5 < v1) (kIx (enc := egIndex) (l := x0) (k := x4) fun v2 => (kIx (enc := egLin) (l := v2.fAt) (k := x5) fun v3 => (kN _ (mLen (sh := egMono) v3.fL) fun v4 => (kN (IntKind.i64.wrap (x3 + IntKind.i64.wrap ((1 : Int) + v4))) rfl fun v5 => (kM0 (alts := A_ref33_indices_L7 x0 x4) (ih_ref33_indices_L7 v5 (IntKind.i64.wrap (x5 + (1 : Int)))))))))
 (kX (alts := A_ref33_indices_L7 x0 x4) x3 (.here _ rfl (.refl _) (.refl _)))))) h)) x3 x5 o h
def A_ref33_indices_L3 (s : List gIndex) (u : Unit) (o : Int) : List Alt := [⟨fun (x : Int) => x = o, .exit 0, fun x => [.int .i64 x], fun x => []⟩]
noncomputable def F_ref33_indices_L3 (x0 : List gIndex) (x3 : Int) (x4 : Int) : Option Int :=
 some (List.length x0 : Int) >>= fun v0 =>
 if x4 < v0 then
 ix x0 x4 >>= fun v1 =>
 some (List.length v1.fLin.fL : Int) >>= fun v2 =>
 some (IntKind.i64.wrap (x3 + v2) : Int) >>= fun v3 =>
 some x4 >>= fun v4 =>
 F_ref33_indices_L7 x0 v3 x4 (0 : Int) >>= fun v6 =>
 F_ref33_indices_L3 x0 v6 (IntKind.i64.wrap (v4 + (1 : Int)))
 else
 some x3
  partial_fixpoint
theorem P_ref33_indices_L3 (x0 : List gIndex) (x3 : Int) (x4 : Int) (o : Int) (h : F_ref33_indices_L3 x0 x3 x4 = some o) : LO 36 3 47 [0, 3, 4] [.sl 4 (List.map egIndex x0), .int .i64 x3, .int .i64 x4] [] [3] (A_ref33_indices_L3 x0 () o) :=
  F_ref33_indices_L3.partial_correctness x0 (fun x3 x4 o => LO 36 3 47 [0, 3, 4] [.sl 4 (List.map egIndex x0), .int .i64 x3, .int .i64 x4] [] [3] (A_ref33_indices_L3 x0 () o))
  (fun F_ref33_indices_L3 ih_ref33_indices_L3 x3 x4 o h  =>
  Lp1 (hs := [(10, .n eI 10 none), (11, .split), (17, .e egIndex), (21, .n eI 21 none), (3, .n eI 3 none), (3, .n eI 3 none), (3000008, .l [] [0, 3, 4, 5] [] [0, 3, 4] [] (A_ref33_indices_L7 x0))]) (kb := []) (kbx := []) (by kernel_rfl) (by kernel_rfl) ((kN _ (mLen (sh := egIndex) x0) fun v0 => (kIfD (p := x4 < v0) (kIx (enc := egIndex) (l := x0) (k := x4) fun v1 => (kN _ (mLen (sh := egMono) v1.fLin.fL) fun v2 => (kN (IntKind.i64.wrap (x3 + v2)) rfl fun v3 => (kL1 x4 (P_ref33_indices_L7 x0 v3 x4 (0 : Int)) fun v4 v6 => (kM0 (alts := A_ref33_indices_L3 x0 ()) (ih_ref33_indices_L3 v6 (IntKind.i64.wrap (v4 + (1 : Int)))))))))
 (kX (alts := A_ref33_indices_L3 x0 ()) x3 (.here _ rfl (.refl _) (.refl _))))) h)) x3 x4 o h
noncomputable def F_ref33_indices (x0 : List gIndex) : Option Int :=
 some (List.length x0 : Int) >>= fun v0 =>
 some (v0 : Int) >>= fun v1 =>
 some () >>= fun v2 =>
 F_ref33_indices_L3 x0 v1 (0 : Int) >>= fun v4 =>
 some v4
theorem P_ref33_indices (x0 : List gIndex) (r : Int) (h : F_ref33_indices x0 = some r) : PU 36 [eLgIndex x0] (eI r) :=
  Pu1 (hs := [(7, .n eI 7 none), (3, .n eI 3 none), (3, .n eI 3 none), (3000004, .l [] [0, 3, 4] [] [3] [] (A_ref33_indices_L3 x0))]) (by kernel_rfl) ((kN _ (mLen (sh := egIndex) x0) fun v0 => (kN v0 rfl fun v1 => (kL1 () (P_ref33_indices_L3 x0 v1 (0 : Int)) fun v2 v4 => (kEr (enc := eI) v4)))) h)
def A_ref33_nodes_L3 (s : (Int × gExprS)) (u : Unit) (o : Int) : List Alt := [⟨fun (x : Int) => x = o, .exit 0, fun x => [.int .i64 x], fun x => []⟩]
def A_ref33_nodes_J5000003 (s : (Int × gExprS)) (u : (Int × Int)) (o : Bool) : List Alt := [⟨fun (x : Unit) => true = o, .normal, fun x => [.int .i64 (s.1), .ptr 0 0 0, .int .i64 (u.1), .int .i64 (u.2), .bool true], fun x => [.cells 0 (hgExpr (s.2)).cells]⟩, ⟨fun (x : Unit) => false = o, .normal, fun x => [.int .i64 (s.1), .ptr 0 0 0, .int .i64 (u.1), .int .i64 (u.2), .bool false], fun x => [.cells 0 (hgExpr (s.2)).cells]⟩]
mutual
noncomputable def F_ref33_nodes (x0 : gExprS) (x1 : Int) : Option Int :=
 F_ref33_indices x0.fIdx >>= fun v0 =>
 some (List.length x0.fLin.fL : Int) >>= fun v1 =>
 some (IntKind.i64.wrap (IntKind.i64.wrap ((1 : Int) + (↑(List.map egMono x0.fLin.fL).length : Int)) + v0) : Int) >>= fun v2 =>
 some () >>= fun v3 =>
 F_ref33_nodes_L3 x1 x0 v2 (0 : Int) >>= fun v5 =>
 some v5
  partial_fixpoint
noncomputable def F_ref33_nodes_L3 (x1 : Int) (x2 : gExprS) (x5 : Int) (x6 : Int) : Option Int :=
 some (x5, x6) >>= fun v0 =>
 (some (List.length x2.fArgs : Int) >>= fun v2 =>
 if x6 < v2 then
 if x5 ≤ x1 then
 some true
 else
 some false
 else
 some false) >>= fun v1 => if v1 then
 Option.map gExpr.f (ix x2.fArgs v0.snd) >>= fun v4 =>
 F_ref33_nodes v4 (IntKind.i64.wrap (x1 - v0.fst)) >>= fun v5 =>
 some (IntKind.i64.wrap (v0.fst + v5) : Int) >>= fun v6 =>
 F_ref33_nodes_L3 x1 x2 v6 (IntKind.i64.wrap (v0.snd + (1 : Int)))
 else
 some v0.fst
  partial_fixpoint
end
theorem PM_ref33_nodes  : (∀ (x0 : gExprS) (x1 : Int) (r : Int), F_ref33_nodes x0 x1 = some r → PU 35 [hgExpr x0, eI x1] (eI r)) ∧ (∀ (x1 : Int) (x2 : gExprS) (x5 : Int) (x6 : Int) (o : Int), F_ref33_nodes_L3 x1 x2 x5 x6 = some o → LO 35 3 40 [1, 2, 5, 6] [.int .i64 x1, .ptr 0 0 0, .int .i64 x5, .int .i64 x6] [.cells 0 (hgExpr x2).cells] [5] (A_ref33_nodes_L3 (x1, x2) () o)) :=
  F_ref33_nodes.mutual_partial_correctness  (fun x0 x1 r => PU 35 [hgExpr x0, eI x1] (eI r)) (fun x1 x2 x5 x6 o => LO 35 3 40 [1, 2, 5, 6] [.int .i64 x1, .ptr 0 0 0, .int .i64 x5, .int .i64 x6] [.cells 0 (hgExpr x2).cells] [5] (A_ref33_nodes_L3 (x1, x2) () o))
  (fun F_ref33_nodes_L3 ih_ref33_nodes_L3 x0 x1 r h  =>
  Pu1 (hs := [(10, .n eI 10 none), (14, .c eI), (5, .n eI 5 none), (5, .n eI 5 none), (3000004, .l [] [1, 2, 5, 6] [{ slot := 2 }] [5] [] (A_ref33_nodes_L3 (x1, x0)))]) (by kernel_rfl) ((kC (sh := eI) (P_ref33_indices x0.fIdx) fun v0 => (kN _ (mLen (sh := egMono) x0.fLin.fL) fun v1 => (kN (IntKind.i64.wrap (IntKind.i64.wrap ((1 : Int) + (↑(List.map egMono x0.fLin.fL).length : Int)) + v0)) rfl fun v2 => (kL1 () (ih_ref33_nodes_L3 x1 x0 v2 (0 : Int)) fun v3 v5 => (kEr (enc := eI) v5))))) h))
  (fun F_ref33_nodes F_ref33_nodes_L3 ih_ref33_nodes ih_ref33_nodes_L3 x1 x2 x5 x6 o h  =>
  Lp1 (hs := [(5, .n eI 5 none), (19, .n eI 19 none), (20, .split), (24, .split), (32, .e hgExpr), (37, .c eI), (5, .n eI 5 none), (5000003, .l [] [] [] [1, 2, 5, 6, 25] [{ slot := 2 }] (A_ref33_nodes_J5000003 (x1, x2)))]) (kb := [{ slot := 2 }]) (kbx := []) (by kernel_rfl) (by kernel_rfl) ((kJb (id := 5000003) (x5, x6) (fun v0 ev0 v1 => (kN _ (mLen (sh := egExpr) x2.fArgs) fun v2 => (kIfD (p := x6 < v2) (kIfD (p := x5 ≤ x1) (kXj (alts := A_ref33_nodes_J5000003 (x1, x2)) ev0 true (.here () rfl (.refl _) (.refl _)))
 (kXj (alts := A_ref33_nodes_J5000003 (x1, x2)) ev0 false (.next (.here () rfl (.refl _) (.refl _)))))
 (kXj (alts := A_ref33_nodes_J5000003 (x1, x2)) ev0 false (.next (.here () rfl (.refl _) (.refl _)))))))
 (fun v0 => (kIxR (l := x2.fArgs) (k := v0.snd) egExpr_f fun v4 => (kC (sh := eI) (ih_ref33_nodes v4 (IntKind.i64.wrap (x1 - v0.fst))) fun v5 => (kN (IntKind.i64.wrap (v0.fst + v5)) rfl fun v6 => (kM0 (alts := A_ref33_nodes_L3 (x1, x2) ()) (ih_ref33_nodes_L3 x1 x2 v6 (IntKind.i64.wrap (v0.snd + (1 : Int)))))))))
 (fun v0 => (kX (alts := A_ref33_nodes_L3 (x1, x2) ()) v0.fst (.here _ rfl (.refl _) (.refl _))))) h))
theorem P_ref33_nodes (x0 : gExprS) (x1 : Int) (r : Int) (h : F_ref33_nodes x0 x1 = some r) : PU 35 [hgExpr x0, eI x1] (eI r) := (PM_ref33_nodes ).1 x0 x1 r h
theorem P_ref33_nodes_L3 (x1 : Int) (x2 : gExprS) (x5 : Int) (x6 : Int) (o : Int) (h : F_ref33_nodes_L3 x1 x2 x5 x6 = some o) : LO 35 3 40 [1, 2, 5, 6] [.int .i64 x1, .ptr 0 0 0, .int .i64 x5, .int .i64 x6] [.cells 0 (hgExpr x2).cells] [5] (A_ref33_nodes_L3 (x1, x2) () o) := (PM_ref33_nodes ).2 x1 x2 x5 x6 o h
def A_ref33_weigh_L3 (s : ((List gStmt) × Int)) (u : Unit) (o : Int) : List Alt := [⟨fun (x : Int) => x = o, .exit 0, fun x => [.int .i64 x], fun x => []⟩]
def A_ref33_weigh_J5000003 (s : ((List gStmt) × Int)) (u : (Int × Int)) (o : Bool) : List Alt := [⟨fun (x : Unit) => true = o, .normal, fun x => [.sl 20 (List.map egStmt (s.1)), .int .i64 (s.2), .int .i64 (u.1), .int .i64 (u.2), .bool true], fun x => []⟩, ⟨fun (x : Unit) => false = o, .normal, fun x => [.sl 20 (List.map egStmt (s.1)), .int .i64 (s.2), .int .i64 (u.1), .int .i64 (u.2), .bool false], fun x => []⟩]
mutual
noncomputable def F_ref33_weigh (x0 : List gStmt) (x1 : Int) : Option Int :=
 some (List.length x0 : Int) >>= fun v0 =>
 some (v0 : Int) >>= fun v1 =>
 some () >>= fun v2 =>
 F_ref33_weigh_L3 x0 x1 v1 (0 : Int) >>= fun v4 =>
 some v4
  partial_fixpoint
noncomputable def F_ref33_weigh_L3 (x0 : List gStmt) (x1 : Int) (x5 : Int) (x6 : Int) : Option Int :=
 some (x5, x6) >>= fun v0 =>
 (some (List.length x0 : Int) >>= fun v2 =>
 if x6 < v2 then
 if x5 ≤ x1 then
 some true
 else
 some false
 else
 some false) >>= fun v1 => if v1 then
 Option.map gStmt.f (ix x0 v0.snd) >>= fun v4 =>
 F_ref33_nodes v4.fExpr (IntKind.i64.wrap (x1 - v0.fst)) >>= fun v5 =>
 Option.map gStmt.f (ix x0 v0.snd) >>= fun v6 =>
 F_ref33_indices v6.fIdx >>= fun v7 =>
 Option.map gStmt.f (ix x0 v0.snd) >>= fun v8 =>
 F_ref33_weigh v8.fBody (if true = true then max (0 : Int) (IntKind.i64.wrap (x1 - v0.fst)) else min (0 : Int) (IntKind.i64.wrap (x1 - v0.fst))) >>= fun v9 =>
 some (IntKind.i64.wrap (v0.fst + IntKind.i64.wrap (IntKind.i64.wrap (v5 + v7) + v9)) : Int) >>= fun v10 =>
 F_ref33_weigh_L3 x0 x1 v10 (IntKind.i64.wrap (v0.snd + (1 : Int)))
 else
 some v0.fst
  partial_fixpoint
end
theorem PM_ref33_weigh  : (∀ (x0 : List gStmt) (x1 : Int) (r : Int), F_ref33_weigh x0 x1 = some r → PU 17 [eLgStmt x0, eI x1] (eI r)) ∧ (∀ (x0 : List gStmt) (x1 : Int) (x5 : Int) (x6 : Int) (o : Int), F_ref33_weigh_L3 x0 x1 x5 x6 = some o → LO 17 3 50 [0, 1, 5, 6] [.sl 20 (List.map egStmt x0), .int .i64 x1, .int .i64 x5, .int .i64 x6] [] [5] (A_ref33_weigh_L3 (x0, x1) () o)) :=
  F_ref33_weigh.mutual_partial_correctness  (fun x0 x1 r => PU 17 [eLgStmt x0, eI x1] (eI r)) (fun x0 x1 x5 x6 o => LO 17 3 50 [0, 1, 5, 6] [.sl 20 (List.map egStmt x0), .int .i64 x1, .int .i64 x5, .int .i64 x6] [] [5] (A_ref33_weigh_L3 (x0, x1) () o))
  (fun F_ref33_weigh_L3 ih_ref33_weigh_L3 x0 x1 r h  =>
  Pu1 (hs := [(8, .n eI 8 none), (5, .n eI 5 none), (3000004, .l [] [0, 1, 5, 6] [] [5] [] (A_ref33_weigh_L3 (x0, x1)))]) (by kernel_rfl) ((kN _ (mLen (sh := egStmt) x0) fun v0 => (kN v0 rfl fun v1 => (kL1 () (ih_ref33_weigh_L3 x0 x1 v1 (0 : Int)) fun v2 v4 => (kEr (enc := eI) v4)))) h))
  (fun F_ref33_weigh F_ref33_weigh_L3 ih_ref33_weigh ih_ref33_weigh_L3 x0 x1 x5 x6 o h  =>
  Lp1 (hs := [(11, .n eI 11 none), (12, .split), (16, .split), (23, .e hgStmt), (29, .c eI), (32, .e hgStmt), (35, .c eI), (39, .e hgStmt), (46, .c eI), (5, .n eI 5 none), (5000003, .l [] [] [] [0, 1, 5, 6, 17] [] (A_ref33_weigh_J5000003 (x0, x1)))]) (kb := []) (kbx := []) (by kernel_rfl) (by kernel_rfl) ((kJb (id := 5000003) (x5, x6) (fun v0 ev0 v1 => (kN _ (mLen (sh := egStmt) x0) fun v2 => (kIfD (p := x6 < v2) (kIfD (p := x5 ≤ x1) (kXj (alts := A_ref33_weigh_J5000003 (x0, x1)) ev0 true (.here () rfl (.refl _) (.refl _)))
 (kXj (alts := A_ref33_weigh_J5000003 (x0, x1)) ev0 false (.next (.here () rfl (.refl _) (.refl _)))))
 (kXj (alts := A_ref33_weigh_J5000003 (x0, x1)) ev0 false (.next (.here () rfl (.refl _) (.refl _)))))))
 (fun v0 => (kIxR (l := x0) (k := v0.snd) egStmt_f fun v4 => (kC (sh := eI) (P_ref33_nodes v4.fExpr (IntKind.i64.wrap (x1 - v0.fst))) fun v5 => (kIxR (l := x0) (k := v0.snd) egStmt_f fun v6 => (kC (sh := eI) (P_ref33_indices v6.fIdx) fun v7 => (kIxR (l := x0) (k := v0.snd) egStmt_f fun v8 => (kC (sh := eI) (ih_ref33_weigh v8.fBody (if true = true then max (0 : Int) (IntKind.i64.wrap (x1 - v0.fst)) else min (0 : Int) (IntKind.i64.wrap (x1 - v0.fst)))) fun v9 => (kN (IntKind.i64.wrap (v0.fst + IntKind.i64.wrap (IntKind.i64.wrap (v5 + v7) + v9))) rfl fun v10 => (kM0 (alts := A_ref33_weigh_L3 (x0, x1) ()) (ih_ref33_weigh_L3 x0 x1 v10 (IntKind.i64.wrap (v0.snd + (1 : Int)))))))))))))
 (fun v0 => (kX (alts := A_ref33_weigh_L3 (x0, x1) ()) v0.fst (.here _ rfl (.refl _) (.refl _))))) h))
theorem P_ref33_weigh (x0 : List gStmt) (x1 : Int) (r : Int) (h : F_ref33_weigh x0 x1 = some r) : PU 17 [eLgStmt x0, eI x1] (eI r) := (PM_ref33_weigh ).1 x0 x1 r h
theorem P_ref33_weigh_L3 (x0 : List gStmt) (x1 : Int) (x5 : Int) (x6 : Int) (o : Int) (h : F_ref33_weigh_L3 x0 x1 x5 x6 = some o) : LO 17 3 50 [0, 1, 5, 6] [.sl 20 (List.map egStmt x0), .int .i64 x1, .int .i64 x5, .int .i64 x6] [] [5] (A_ref33_weigh_L3 (x0, x1) () o) := (PM_ref33_weigh ).2 x0 x1 x5 x6 o h
def A_ref33_Long_L4 (s : (Int × gNest)) (u : Unit) (o : Unit ⊕ Bool) : List Alt := [⟨fun (x : Unit) => (Sum.inl x : Unit ⊕ Bool) = o, .exit 0, fun x => [.int .i64 s.1, .ptr 0 0 0, .undef], fun x => [.cells 0 (egNest s.2).cells]⟩, ⟨fun (x : Bool) => (Sum.inr x : Unit ⊕ Bool) = o, .ret, fun x => [.int .i64 s.1, .ptr 0 0 0, .bool x], fun x => [.cells 0 (egNest s.2).cells]⟩]
def A_ref33_Long_J5000006 (s : (Int × gNest)) (u : Int) (o : Bool) : List Alt := [⟨fun (x : Unit) => true = o, .normal, fun x => [.int .i64 (s.1), .ptr 0 0 0, .int .i64 u, .bool true], fun x => [.cells 0 (egNest (s.2)).cells]⟩, ⟨fun (x : Unit) => false = o, .normal, fun x => [.int .i64 (s.1), .ptr 0 0 0, .int .i64 u, .bool false], fun x => [.cells 0 (egNest (s.2)).cells]⟩]
noncomputable def F_ref33_Long_L4 (x2 : gNest) (x5 : Int) : Option (Unit ⊕ Bool) :=
 some (List.length x2.fBufs : Int) >>= fun v0 =>
 if x5 < v0 then
 some x5 >>= fun v1 =>
 (ix x2.fBufs x5 >>= fun v3 =>
 some (List.length v3.fDims : Int) >>= fun v4 =>
 if (12 : Int) < v4 then
 some true
 else
 ix x2.fBufs x5 >>= fun v5 =>
 if (100 : Int) < (↑(List.length v5.fName) : Int) then
 some true
 else
 some false) >>= fun v2 => if v2 then
 some (.inr true)
 else
 F_ref33_Long_L4 x2 (IntKind.i64.wrap (v1 + (1 : Int)))
 else
 some (.inl ())
  partial_fixpoint
theorem P_ref33_Long_L4 (x1 : Int) (x2 : gNest) (x5 : Int) (o : Unit ⊕ Bool) (h : F_ref33_Long_L4 x2 x5 = some o) : LO 5 4 41 [1, 2, 5] [.int .i64 x1, .ptr 0 0 0, .int .i64 x5] [.cells 0 (egNest x2).cells] [1, 2, 4] (A_ref33_Long_L4 (x1, x2) () o) :=
  F_ref33_Long_L4.partial_correctness x2 (fun x5 o => ∀ (x1 : Int), LO 5 4 41 [1, 2, 5] [.int .i64 x1, .ptr 0 0 0, .int .i64 x5] [.cells 0 (egNest x2).cells] [1, 2, 4] (A_ref33_Long_L4 (x1, x2) () o))
  (fun F_ref33_Long_L4 ih_ref33_Long_L4 x5 o h x1 =>
  Lp1 (hs := [(13, .n eI 13 none), (14, .split), (20, .e egBuffer), (23, .n eI 23 none), (24, .split), (29, .e egBuffer), (33, .split), (5000006, .l [] [] [] [1, 2, 5, 34] [{ slot := 2 }] (A_ref33_Long_J5000006 (x1, x2)))]) (kb := [{ slot := 2 }]) (kbx := [{ slot := 2 }]) (by kernel_rfl) (by kernel_rfl) ((kN _ (mLen (sh := egBuffer) x2.fBufs) fun v0 => (kIfD (p := x5 < v0) (kJb (id := 5000006) x5 (fun v1 ev1 v2 => (kIx (enc := egBuffer) (l := x2.fBufs) (k := x5) fun v3 => (kN _ (mLen (sh := eI) v3.fDims) fun v4 => (kIfD (p := (12 : Int) < v4) (kXj (alts := A_ref33_Long_J5000006 (x1, x2)) ev1 true (.here () rfl (.refl _) (.refl _)))
 (kIx (enc := egBuffer) (l := x2.fBufs) (k := x5) fun v5 => (kIfD (p := (100 : Int) < (↑(List.length v5.fName) : Int)) (kXj (alts := A_ref33_Long_J5000006 (x1, x2)) ev1 true (.here () rfl (.refl _) (.refl _)))
 (kXj (alts := A_ref33_Long_J5000006 (x1, x2)) ev1 false (.next (.here () rfl (.refl _) (.refl _))))))))))
 (fun v1 => (kX (alts := A_ref33_Long_L4 (x1, x2) ()) (.inr true) (.next (.here _ rfl (.refl _) (.refl _)))))
 (fun v1 => (kM0 (alts := A_ref33_Long_L4 (x1, x2) ()) (fun y hy => ih_ref33_Long_L4 (IntKind.i64.wrap (v1 + (1 : Int))) y hy x1))))
 (kX (alts := A_ref33_Long_L4 (x1, x2) ()) (.inl ()) (.here _ rfl (.refl _) (.refl _))))) h)) x5 o h x1
noncomputable def F_ref33_Long (x0 : gNest) (x1 : Int) : Option Bool :=
 some (List.length x0.fBufs : Int) >>= fun v0 =>
 if (20 : Int) < v0 then
 some true
 else
 some () >>= fun v1 =>
 F_ref33_Long_L4 x0 (0 : Int) >>= fun v2 => (match v2 with
 | (.inl v3) =>
 F_ref33_weigh x0.fBody x1 >>= fun v4 =>
 some (decide (x1 < v4))
 | (.inr v5) =>
 some v5)
theorem P_ref33_Long (x0 : gNest) (x1 : Int) (r : Bool) (h : F_ref33_Long x0 x1 = some r) : PU 5 [egNest x0, eI x1] (eB r) :=
  Pu1 (hs := [(8, .n eI 8 none), (9, .split), (38, .c eI), (3000005, .l [] [1, 2, 5] [{ slot := 2 }] [1, 2, 4] [{ slot := 2 }] (A_ref33_Long_L4 (x1, x0)))]) (by kernel_rfl) ((kN _ (mLen (sh := egBuffer) x0.fBufs) fun v0 => (kIfD (p := (20 : Int) < v0) (kEr (enc := eB) true)
 (kL2 () (hL := (P_ref33_Long_L4 x1 x0 (0 : Int))) (hA := fun v1 v3 => (kC (sh := eI) (P_ref33_weigh x0.fBody x1) fun v4 => (kEr (enc := eB) (decide (x1 < v4)))))
 (hB := fun v1 v5 => (kEr (enc := eB) v5))))) h)
noncomputable def F_loopnest_copyBuffer (x0 : gBuffer) : Option gBuffer :=
 F_slices_Clone_int x0.fDims >>= fun v0 =>
 some (gBuffer.mk x0.fName x0.fType v0 x0.fUse)
theorem P_loopnest_copyBuffer (x0 : gBuffer) (r : gBuffer) (h : F_loopnest_copyBuffer x0 = some r) : PU 43 [egBuffer x0] (egBuffer r) :=
  Pu1 (hs := [(5, .c eLI)]) (by kernel_rfl) ((kC (sh := eLI) (P_slices_Clone_int x0.fDims) fun v0 => (kEr (enc := egBuffer) (gBuffer.mk x0.fName x0.fType v0 x0.fUse))) h)
end Go.Proofs.YtfaenlhmhlabeaaGreatDoor
end
