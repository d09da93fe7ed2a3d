/- A part of the proof of the statement that the last of these texts proves. -/
import Derived.Test.YtfaenlhmhlabeaaGreatDoorP5
import Derived.Lib.Bytealg
set_option linter.unusedVariables false
set_option linter.unusedSimpArgs false
section
namespace Go.Proofs.YtfaenlhmhlabeaaGreatDoor
open Go HY
set_option maxRecDepth 1000000
set_option linter.unusedVariables false
def A_loopnest_Copy_L3 (s : gNest) (u : (gNest × Int)) (o : gNest) : List Alt := [⟨fun (x : gNest) => x = o, .exit 0, fun x => [.ptr 0 0 0, .ptr 1 0 0], fun x => [.cells 0 (egNest u.1).cells, .cells 0 [.ow 2 0 8 (List.length x.fBufs), .sl 20 (List.map egStmt x.fBody)], .own 0 8 (List.map egBuffer x.fBufs)]⟩]
noncomputable def F_loopnest_Copy_L3 (x1 : gNest) (x3 : gNest) (x11 : Int) (x12 : Int) : Option gNest :=
 if x12 < x11 then
 ix x1.fBufs x12 >>= fun v0 =>
 F_loopnest_copyBuffer v0 >>= fun v1 =>
 if (x3.fBufs.length + (1 : Nat)) * (88 : Nat) ≤ (140737488355328 : Nat) ∧ x3.fBufs.length + (1 : Nat) ≤ (9223372036854775807 : Nat) then
 some (x3.fBufs ++ [v1]) >>= fun v2 =>
 F_loopnest_Copy_L3 x1 (gNest.mk v2 x3.fBody) x11 (IntKind.i64.wrap (x12 + (1 : Int)))
 else none
 else
 some x3
  partial_fixpoint
theorem P_loopnest_Copy_L3 (x1 : gNest) (x2 : gNest) (x3 : gNest) (x11 : Int) (x12 : Int) (o : gNest) (h : F_loopnest_Copy_L3 x1 x3 x11 x12 = some o) : LO 21 3 28 [1, 2, 3, 11, 12] [.ptr 0 0 0, .ptr 1 0 0, .ptr 2 0 0, .int .i64 x11, .int .i64 x12] [.cells 0 (egNest x1).cells, .cells 0 (egNest x2).cells, .cells 0 [.ow 3 0 8 (List.length x3.fBufs), .sl 20 (List.map egStmt x3.fBody)], .own 0 8 (List.map egBuffer x3.fBufs)] [2, 3] (A_loopnest_Copy_L3 x1 (x2, x11) o) :=
  F_loopnest_Copy_L3.partial_correctness x1 x11 (fun x3 x12 o => ∀ (x2 : gNest), LO 21 3 28 [1, 2, 3, 11, 12] [.ptr 0 0 0, .ptr 1 0 0, .ptr 2 0 0, .int .i64 x11, .int .i64 x12] [.cells 0 (egNest x1).cells, .cells 0 (egNest x2).cells, .cells 0 [.ow 3 0 8 (List.length x3.fBufs), .sl 20 (List.map egStmt x3.fBody)], .own 0 8 (List.map egBuffer x3.fBufs)] [2, 3] (A_loopnest_Copy_L3 x1 (x2, x11) o))
  (fun F_loopnest_Copy_L3 ih_loopnest_Copy_L3 x3 x12 o h x2 =>
  Lp1 (hs := [(13, .split), (20, .e egBuffer), (22, .c egBuffer), (24, .z [{ slot := 16, own := 8 }] (some (.n egBuffer 24 (some .a))))]) (kb := [{ slot := 1 }, { slot := 2 }, { slot := 3 }, { slot := 3, path := [0], own := 8 }]) (kbx := [{ slot := 2 }, { slot := 3 }, { slot := 3, path := [0], own := 8 }]) (by kernel_rfl) (by kernel_rfl) ((kIfD (p := x12 < x11) (kIx (enc := egBuffer) (l := x1.fBufs) (k := x12) fun v0 => (kC (sh := egBuffer) (P_loopnest_copyBuffer v0) fun v1 => (kA (q := (x3.fBufs.length + (1 : Nat)) * (88 : Nat) ≤ (140737488355328 : Nat) ∧ x3.fBufs.length + (1 : Nat) ≤ (9223372036854775807 : Nat)) (sh := egBuffer) (l := x3.fBufs) (kO (sh := egBuffer) (x3.fBufs ++ [v1]) (mA (sh := egBuffer) x3.fBufs v1) (nA x3.fBufs v1) fun v2 => (kM0 (alts := A_loopnest_Copy_L3 x1 (x2, x11)) (fun y hy => ih_loopnest_Copy_L3 (gNest.mk v2 x3.fBody) (IntKind.i64.wrap (x12 + (1 : Int))) y hy x2))))))
 (kX (alts := A_loopnest_Copy_L3 x1 (x2, x11)) x3 (.here _ rfl (.refl _) (.refl _)))) h)) x3 x12 o h x2
noncomputable def F_loopnest_Copy (x0 : gNest) : Option gNest :=
 F_loopnest_copyStmts x0.fBody >>= fun v0 =>
 some (List.length x0.fBufs : Int) >>= fun v1 =>
 some ((gNest.mk [] []), v1) >>= fun v2 =>
 F_loopnest_Copy_L3 x0 (gNest.mk [] v0) v1 (0 : Int) >>= fun v4 =>
 some v4
theorem P_loopnest_Copy (x0 : gNest) (r : gNest) (h : F_loopnest_Copy x0 = some r) : PU 21 [egNest x0] (egNest r) :=
  Pu1 (hs := [(7, .c eLgStmt), (11, .n eI 11 none), (3000004, .l [] [1, 2, 3, 11, 12] [{ slot := 1 }, { slot := 2 }, { slot := 3 }, { slot := 3, path := [0], own := 8 }] [2, 3] [{ slot := 2 }, { slot := 3 }, { slot := 3, path := [0], own := 8 }] (A_loopnest_Copy_L3 x0))]) (by kernel_rfl) ((kC (sh := eLgStmt) (P_loopnest_copyStmts x0.fBody) fun v0 => (kN _ (mLen (sh := egBuffer) x0.fBufs) fun v1 => (kL1 ((gNest.mk [] []), v1) (fun y hy => LoopOk.le (.cons (LeV.refl (AV.ptr (0 : Nat) (0 : Nat) (0 : Nat))) (.cons (LeV.refl (AV.ptr (1 : Nat) (0 : Nat) (0 : Nat))) (.cons (LeV.refl (AV.ptr (2 : Nat) (0 : Nat) (0 : Nat))) (.cons (LeV.refl (AV.int IntKind.i64 v1)) (.cons (LeV.refl (AV.int IntKind.i64 (0 : Int))) .nil))))) (.cons (LeB.refl (Box.cells (0 : Nat) [AV.sl (8 : Nat) (List.map egBuffer x0.fBufs), AV.sl (20 : Nat) (List.map egStmt x0.fBody)])) (.cons (LeB.cells (0 : Nat) (.cons (LeV.nil 8) (.cons (LeV.nil 20) .nil))) (.cons (LeB.refl (Box.cells (0 : Nat) [AV.ow (3 : Nat) (0 : Nat) (8 : Nat) (0 : Nat), AV.sl (20 : Nat) (List.map egStmt v0)])) (.cons (LeB.refl (Box.own (0 : Nat) (8 : Nat) [])) .nil)))) (P_loopnest_Copy_L3 x0 (gNest.mk [] []) (gNest.mk [] v0) v1 (0 : Int) y hy)) fun v2 v4 => (kT (nM (sh := egBuffer) v4.fBufs) (kEr (enc := egNest) v4))))) h)
def A_trace_Concrete_L3 (s : Unit) (u : ((List gBinding) × Int)) (o : (gStmtS × (List gStmt)) ⊕ (gStmtS × Int)) : List Alt := [⟨fun (x : (gStmtS × (List gStmt))) => (Sum.inl x : (gStmtS × (List gStmt)) ⊕ (gStmtS × Int)) = o, .exit 0, fun x => [.ptr 0 0 0, .undef, .sl 20 (List.map egStmt x.2)], fun x => [.cells 0 (hgStmt x.1).cells]⟩, ⟨fun (x : (gStmtS × Int)) => (Sum.inr x : (gStmtS × (List gStmt)) ⊕ (gStmtS × Int)) = o, .ret, fun x => [.ptr 0 0 0, .int .i64 x.2, .undef], fun x => [.cells 0 (hgStmt x.1).cells]⟩]
noncomputable def F_trace_Concrete_L3 (x4 : gStmtS) (x6 : List gStmt) (x16 : List gBinding) (x17 : Int) (x18 : Int) : Option ((gStmtS × (List gStmt)) ⊕ (gStmtS × Int)) :=
 if x18 < x17 then
 ix x16 x18 >>= fun v0 =>
 F_lin_Const v0.fVal >>= fun v1 =>
 F_loopnest_Substitute x6 v0.fName v1 >>= fun v2 =>
 if v2.snd != (0 : Int) then
 some ((gStmtF.mk (0 : Int) [] (0 : Int) (0 : Int) (0 : Int) [] (gExprF.mk (0 : Int) [] (gVal.mk (0 : Int) (0 : Int)) (gType.mk (0 : Int) (0 : Int) (0 : Int) (0 : Int) (0 : Int)) (gLin.mk (0 : Int) []) [] [] : gExprS) [] : gStmtS)) >>= fun v3 =>
 some (.inr (v3, v2.snd))
 else
 F_trace_Concrete_L3 x4 v2.fst x16 x17 (IntKind.i64.wrap (x18 + (1 : Int)))
 else
 some (.inl (x4, x6))
  partial_fixpoint
theorem P_trace_Concrete_L3 (x4 : gStmtS) (x6 : List gStmt) (x16 : List gBinding) (x17 : Int) (x18 : Int) (o : (gStmtS × (List gStmt)) ⊕ (gStmtS × Int)) (h : F_trace_Concrete_L3 x4 x6 x16 x17 x18 = some o) : LO 7 3 41 [4, 6, 16, 17, 18] [.ptr 0 0 0, .sl 20 (List.map egStmt x6), .sl 2 (List.map egBinding x16), .int .i64 x17, .int .i64 x18] [.cells 0 (hgStmt x4).cells] [4, 5, 6] (A_trace_Concrete_L3 () (x16, x17) o) :=
  F_trace_Concrete_L3.partial_correctness x4 x16 x17 (fun x6 x18 o => LO 7 3 41 [4, 6, 16, 17, 18] [.ptr 0 0 0, .sl 20 (List.map egStmt x6), .sl 2 (List.map egBinding x16), .int .i64 x17, .int .i64 x18] [.cells 0 (hgStmt x4).cells] [4, 5, 6] (A_trace_Concrete_L3 () (x16, x17) o))
  (fun F_trace_Concrete_L3 ih_trace_Concrete_L3 x6 x18 o h  =>
  Lp1 (hs := [(19, .split), (20, .e egBinding), (28, .c egLin), (29, .c eT_LgStmt_I), (33, .split), (34, .n hgStmt 34 none)]) (kb := [{ slot := 4 }]) (kbx := [{ slot := 4 }]) (by kernel_rfl) (by kernel_rfl) ((kIfD (p := x18 < x17) (kIx (enc := egBinding) (l := x16) (k := x18) fun v0 => (kC (sh := egLin) (P_lin_Const v0.fVal) fun v1 => (kC (sh := eT_LgStmt_I) (P_loopnest_Substitute x6 v0.fName v1) fun v2 => (kIf (c := v2.snd != (0 : Int)) (kW (sh := hgStmt) (gStmtF.mk (0 : Int) [] (0 : Int) (0 : Int) (0 : Int) [] (gExprF.mk (0 : Int) [] (gVal.mk (0 : Int) (0 : Int)) (gType.mk (0 : Int) (0 : Int) (0 : Int) (0 : Int) (0 : Int)) (gLin.mk (0 : Int) []) [] [] : gExprS) [] : gStmtS) (LeV.agg (.cons (LeV.refl (AV.int IntKind.i64 (0 : Int))) (.cons (LeV.refl (AV.str [])) (.cons (LeV.refl (AV.int IntKind.i64 (0 : Int))) (.cons (LeV.refl (AV.int IntKind.i64 (0 : Int))) (.cons (LeV.refl (AV.int IntKind.i64 (0 : Int))) (.cons (LeV.nil 4) (.cons (LeV.refl (AV.int IntKind.i64 (0 : Int))) (.cons (LeV.refl (AV.str [])) (.cons (LeV.refl (AV.int IntKind.i64 (0 : Int))) (.cons (LeV.refl (AV.int IntKind.i64 (0 : Int))) (.cons (LeV.refl (AV.int IntKind.i64 (0 : Int))) (.cons (LeV.refl (AV.int IntKind.i64 (0 : Int))) (.cons (LeV.refl (AV.int IntKind.i64 (0 : Int))) (.cons (LeV.refl (AV.int IntKind.i64 (0 : Int))) (.cons (LeV.refl (AV.int IntKind.i64 (0 : Int))) (.cons (LeV.refl (AV.int IntKind.i64 (0 : Int))) (.cons (LeV.nil 2) (.cons (LeV.nil 4) (.cons (LeV.nil 13) (.cons (LeV.nil 20) .nil))))))))))))))))))))) fun v3 => (kX (alts := A_trace_Concrete_L3 () (x16, x17)) (.inr (v3, v2.snd)) (.next (.here _ rfl (.cons (LeV.refl (AV.ptr (0 : Nat) (0 : Nat) (0 : Nat))) (.cons (LeV.refl (AV.int IntKind.i64 v2.snd)) (.cons (LeV.undef (AV.sl (20 : Nat) (List.map egStmt x6))) .nil))) (.refl _)))))
 (kM0 (alts := A_trace_Concrete_L3 () (x16, x17)) (ih_trace_Concrete_L3 v2.fst (IntKind.i64.wrap (x18 + (1 : Int)))))))))
 (kX (alts := A_trace_Concrete_L3 () (x16, x17)) (.inl (x4, x6)) (.here _ rfl (.refl _) (.refl _)))) h)) x6 x18 o h
noncomputable def F_trace_Concrete (x0 : gStmtS) (x1 : List gBinding) : Option (gStmtS × Int) :=
 some ((gNest.mk [] [(gStmt.mk x0)])) >>= fun v0 =>
 F_loopnest_Copy v0 >>= fun v1 =>
 some (List.length x1 : Int) >>= fun v2 =>
 some (x1, v2) >>= fun v3 =>
 F_trace_Concrete_L3 (gStmtF.mk (0 : Int) [] (0 : Int) (0 : Int) (0 : Int) [] (gExprF.mk (0 : Int) [] (gVal.mk (0 : Int) (0 : Int)) (gType.mk (0 : Int) (0 : Int) (0 : Int) (0 : Int) (0 : Int)) (gLin.mk (0 : Int) []) [] [] : gExprS) [] : gStmtS) v1.fBody x1 v2 (0 : Int) >>= fun v4 => (match v4 with
 | (.inl v5) =>
 Option.map gStmt.f (ix v5.snd (0 : Int)) >>= fun v6 =>
 some (v6, (0 : Int))
 | (.inr v7) =>
 some (v7.fst, v7.snd))
theorem P_trace_Concrete (x0 : gStmtS) (x1 : List gBinding) (r : (gStmtS × Int)) (h : F_trace_Concrete x0 x1 = some r) : PU 7 [hgStmt x0, eLgBinding x1] (eT_gStmt_I r) :=
  Pu1 (hs := [(13, .z [{ slot := 12, own := 20 }, { slot := 12, fz := true }] (some (.n egNest 13 none))), (14, .c egNest), (17, .n eI 17 none), (39, .e hgStmt), (3000004, .l [] [4, 6, 16, 17, 18] [{ slot := 4 }] [4, 5, 6] [{ slot := 4 }] (A_trace_Concrete_L3 ()))]) (by kernel_rfl) ((kT (rfl : (1 : Nat) = (1 : Nat)) (kW (sh := egNest) (gNest.mk [] [(gStmt.mk x0)]) (LeV.agg (.cons (LeV.nil 8) (.cons (LeV.sl (.cons (legStmt x0) .nil)) .nil))) fun v0 => (kC (sh := egNest) (P_loopnest_Copy v0) fun v1 => (kN _ (mLen (sh := egBinding) x1) fun v2 => (kL2 (x1, v2) (hL := (fun y hy => LoopOk.le (.cons (LeV.refl (AV.ptr (0 : Nat) (0 : Nat) (0 : Nat))) (.cons (LeV.refl (AV.sl (20 : Nat) (List.map egStmt v1.fBody))) (.cons (LeV.refl (AV.sl (2 : Nat) (List.map egBinding x1))) (.cons (LeV.refl (AV.int IntKind.i64 v2)) (.cons (LeV.refl (AV.int IntKind.i64 (0 : Int))) .nil))))) (.cons (LeB.cells (0 : Nat) (.cons (LeV.refl (AV.int IntKind.i64 (0 : Int))) (.cons (LeV.refl (AV.str [])) (.cons (LeV.refl (AV.int IntKind.i64 (0 : Int))) (.cons (LeV.refl (AV.int IntKind.i64 (0 : Int))) (.cons (LeV.refl (AV.int IntKind.i64 (0 : Int))) (.cons (LeV.nil 4) (.cons (LeV.refl (AV.int IntKind.i64 (0 : Int))) (.cons (LeV.refl (AV.str [])) (.cons (LeV.refl (AV.int IntKind.i64 (0 : Int))) (.cons (LeV.refl (AV.int IntKind.i64 (0 : Int))) (.cons (LeV.refl (AV.int IntKind.i64 (0 : Int))) (.cons (LeV.refl (AV.int IntKind.i64 (0 : Int))) (.cons (LeV.refl (AV.int IntKind.i64 (0 : Int))) (.cons (LeV.refl (AV.int IntKind.i64 (0 : Int))) (.cons (LeV.refl (AV.int IntKind.i64 (0 : Int))) (.cons (LeV.refl (AV.int IntKind.i64 (0 : Int))) (.cons (LeV.nil 2) (.cons (LeV.nil 4) (.cons (LeV.nil 13) (.cons (LeV.nil 20) .nil))))))))))))))))))))) .nil) (P_trace_Concrete_L3 (gStmtF.mk (0 : Int) [] (0 : Int) (0 : Int) (0 : Int) [] (gExprF.mk (0 : Int) [] (gVal.mk (0 : Int) (0 : Int)) (gType.mk (0 : Int) (0 : Int) (0 : Int) (0 : Int) (0 : Int)) (gLin.mk (0 : Int) []) [] [] : gExprS) [] : gStmtS) v1.fBody x1 v2 (0 : Int) y hy))) (hA := fun v3 v5 => (kIxR (l := v5.snd) (k := (0 : Int)) egStmt_f fun v6 => (kEr (enc := eT_gStmt_I) (v6, (0 : Int)))))
 (hB := fun v3 v7 => (kEr (enc := eT_gStmt_I) (v7.fst, v7.snd)))))))) h)
noncomputable def F_base_Words  : Option (List Str) :=
 some [[(115 : UInt8), (105 : UInt8), (122 : UInt8), (101 : UInt8)], [(119 : UInt8), (104 : UInt8), (101 : UInt8), (114 : UInt8), (101 : UInt8)], [(105 : UInt8), (110 : UInt8)], [(100 : UInt8), (101 : UInt8), (102 : UInt8)], [(111 : UInt8), (117 : UInt8), (116 : UInt8)], [(115 : UInt8), (117 : UInt8), (109 : UInt8)], [(112 : UInt8), (114 : UInt8), (111 : UInt8), (100 : UInt8)], [(109 : UInt8), (105 : UInt8), (110 : UInt8)], [(109 : UInt8), (97 : UInt8), (120 : UInt8)], [(115 : UInt8), (99 : UInt8), (97 : UInt8), (110 : UInt8)], [(111 : UInt8), (118 : UInt8), (101 : UInt8), (114 : UInt8)], [(105 : UInt8), (102 : UInt8)], [(99 : UInt8), (97 : UInt8), (115 : UInt8), (116 : UInt8)], [(102 : UInt8), (114 : UInt8), (97 : UInt8), (99 : UInt8)], [(105 : UInt8), (110 : UInt8), (116 : UInt8)], [(102 : UInt8), (105 : UInt8), (120 : UInt8)], [(99 : UInt8), (101 : UInt8), (105 : UInt8), (108 : UInt8)], [(102 : UInt8), (108 : UInt8), (111 : UInt8), (111 : UInt8), (114 : UInt8)], [(122 : UInt8), (101 : UInt8), (114 : UInt8), (111 : UInt8)], [(101 : UInt8), (118 : UInt8), (101 : UInt8), (110 : UInt8)], [(115 : UInt8), (97 : UInt8), (116 : UInt8)], [(119 : UInt8), (114 : UInt8), (97 : UInt8), (112 : UInt8)]]
theorem P_base_Words  (r : List Str) (h : F_base_Words  = some r) : PU 128 [] (eLS r) :=
  Pu1 (hs := [(0, .z [{ slot := 1, own := 1 }, { slot := 1, fz := true }] none)]) (by kernel_rfl) ((kT (rfl : (22 : Nat) = (22 : Nat)) (kEr (enc := eLS) [[(115 : UInt8), (105 : UInt8), (122 : UInt8), (101 : UInt8)], [(119 : UInt8), (104 : UInt8), (101 : UInt8), (114 : UInt8), (101 : UInt8)], [(105 : UInt8), (110 : UInt8)], [(100 : UInt8), (101 : UInt8), (102 : UInt8)], [(111 : UInt8), (117 : UInt8), (116 : UInt8)], [(115 : UInt8), (117 : UInt8), (109 : UInt8)], [(112 : UInt8), (114 : UInt8), (111 : UInt8), (100 : UInt8)], [(109 : UInt8), (105 : UInt8), (110 : UInt8)], [(109 : UInt8), (97 : UInt8), (120 : UInt8)], [(115 : UInt8), (99 : UInt8), (97 : UInt8), (110 : UInt8)], [(111 : UInt8), (118 : UInt8), (101 : UInt8), (114 : UInt8)], [(105 : UInt8), (102 : UInt8)], [(99 : UInt8), (97 : UInt8), (115 : UInt8), (116 : UInt8)], [(102 : UInt8), (114 : UInt8), (97 : UInt8), (99 : UInt8)], [(105 : UInt8), (110 : UInt8), (116 : UInt8)], [(102 : UInt8), (105 : UInt8), (120 : UInt8)], [(99 : UInt8), (101 : UInt8), (105 : UInt8), (108 : UInt8)], [(102 : UInt8), (108 : UInt8), (111 : UInt8), (111 : UInt8), (114 : UInt8)], [(122 : UInt8), (101 : UInt8), (114 : UInt8), (111 : UInt8)], [(101 : UInt8), (118 : UInt8), (101 : UInt8), (110 : UInt8)], [(115 : UInt8), (97 : UInt8), (116 : UInt8)], [(119 : UInt8), (114 : UInt8), (97 : UInt8), (112 : UInt8)]])) h)
def A_base_Has_L2 (s : ((List Str) × Str)) (u : Unit) (o : Unit ⊕ Bool) : List Alt := [⟨fun (x : Unit) => (Sum.inl x : Unit ⊕ Bool) = o, .exit 0, fun x => [.undef], fun x => []⟩, ⟨fun (x : Bool) => (Sum.inr x : Unit ⊕ Bool) = o, .ret, fun x => [.bool x], fun x => []⟩]
noncomputable def F_base_Has_L2 (x0 : List Str) (x1 : Str) (x5 : Int) : Option (Unit ⊕ Bool) :=
 some (List.length x0 : Int) >>= fun v0 =>
 if x5 < v0 then
 ix x0 x5 >>= fun v1 =>
 if v1 == x1 then
 some (.inr true)
 else
 F_base_Has_L2 x0 x1 (IntKind.i64.wrap (x5 + (1 : Int)))
 else
 some (.inl ())
  partial_fixpoint
theorem P_base_Has_L2 (x0 : List Str) (x1 : Str) (x5 : Int) (o : Unit ⊕ Bool) (h : F_base_Has_L2 x0 x1 x5 = some o) : LO 127 2 18 [0, 1, 5] [.sl 1 (List.map eS x0), .str x1, .int .i64 x5] [] [4] (A_base_Has_L2 (x0, x1) () o) :=
  F_base_Has_L2.partial_correctness x0 x1 (fun x5 o => LO 127 2 18 [0, 1, 5] [.sl 1 (List.map eS x0), .str x1, .int .i64 x5] [] [4] (A_base_Has_L2 (x0, x1) () o))
  (fun F_base_Has_L2 ih_base_Has_L2 x5 o h  =>
  Lp1 (hs := [(8, .n eI 8 none), (9, .split), (14, .e eS), (17, .split)]) (kb := []) (kbx := []) (by kernel_rfl) (by kernel_rfl) ((kN _ (mLen (sh := eS) x0) fun v0 => (kIfD (p := x5 < v0) (kIx (enc := eS) (l := x0) (k := x5) fun v1 => (kIf (c := v1 == x1) (kX (alts := A_base_Has_L2 (x0, x1) ()) (.inr true) (.next (.here _ rfl (.refl _) (.refl _))))
 (kM0 (alts := A_base_Has_L2 (x0, x1) ()) (ih_base_Has_L2 (IntKind.i64.wrap (x5 + (1 : Int)))))))
 (kX (alts := A_base_Has_L2 (x0, x1) ()) (.inl ()) (.here _ rfl (.refl _) (.refl _))))) h)) x5 o h
noncomputable def F_base_Has (x0 : List Str) (x1 : Str) : Option Bool :=
 some () >>= fun v0 =>
 F_base_Has_L2 x0 x1 (0 : Int) >>= fun v1 => (match v1 with
 | (.inl v2) =>
 some false
 | (.inr v3) =>
 some v3)
theorem P_base_Has (x0 : List Str) (x1 : Str) (r : Bool) (h : F_base_Has x0 x1 = some r) : PU 127 [eLS x0, eS x1] (eB r) :=
  Pu1 (hs := [(3000003, .l [] [0, 1, 5] [] [4] [] (A_base_Has_L2 (x0, x1)))]) (by kernel_rfl) ((kL2 () (hL := (P_base_Has_L2 x0 x1 (0 : Int))) (hA := fun v0 v2 => (kEr (enc := eB) false))
 (hB := fun v0 v3 => (kEr (enc := eB) v3))) h)
def A_base_Name_L4 (s : Str) (u : Unit) (o : Unit ⊕ Bool) : List Alt := [⟨fun (x : Unit) => (Sum.inl x : Unit ⊕ Bool) = o, .exit 0, fun x => [.undef], fun x => []⟩, ⟨fun (x : Bool) => (Sum.inr x : Unit ⊕ Bool) = o, .ret, fun x => [.bool x], fun x => []⟩]
def A_base_Name_J5000007 (s : Str) (u : Int) (o : Bool) : List Alt := [⟨fun (x : Unit) => true = o, .normal, fun x => [.str s, .int .i64 u, .bool true], fun x => []⟩, ⟨fun (x : Unit) => false = o, .normal, fun x => [.str s, .int .i64 u, .bool false], fun x => []⟩]
noncomputable def F_base_Name_L4 (x0 : Str) (x3 : Int) : Option (Unit ⊕ Bool) :=
 if x3 < (↑(List.length x0) : Int) then
 ix x0 x3 >>= fun v0 =>
 some x3 >>= fun v1 =>
 (if (97 : Int) ≤ (↑v0.toNat : Int) then
 if (↑v0.toNat : Int) ≤ (122 : Int) then
 some false
 else
 if (0 : Int) < x3 then
 if (48 : Int) ≤ (↑v0.toNat : Int) then
 if (↑v0.toNat : Int) ≤ (57 : Int) then
 some false
 else
 if (↑v0.toNat : Int) == (95 : Int) then
 some false
 else
 some true
 else
 if (↑v0.toNat : Int) == (95 : Int) then
 some false
 else
 some true
 else
 some true
 else
 if (0 : Int) < x3 then
 if (48 : Int) ≤ (↑v0.toNat : Int) then
 if (↑v0.toNat : Int) ≤ (57 : Int) then
 some false
 else
 if (↑v0.toNat : Int) == (95 : Int) then
 some false
 else
 some true
 else
 if (↑v0.toNat : Int) == (95 : Int) then
 some false
 else
 some true
 else
 some true) >>= fun v2 => if v2 then
 some (.inr false)
 else
 F_base_Name_L4 x0 (IntKind.i64.wrap (v1 + (1 : Int)))
 else
 some (.inl ())
  partial_fixpoint
theorem P_base_Name_L4 (x0 : Str) (x3 : Int) (o : Unit ⊕ Bool) (h : F_base_Name_L4 x0 x3 = some o) : LO 102 4 50 [0, 3] [.str x0, .int .i64 x3] [] [2] (A_base_Name_L4 x0 () o) :=
  F_base_Name_L4.partial_correctness x0 (fun x3 o => LO 102 4 50 [0, 3] [.str x0, .int .i64 x3] [] [2] (A_base_Name_L4 x0 () o))
  (fun F_base_Name_L4 ih_base_Name_L4 x3 o h  =>
  Lp1 (hs := [(21, .split), (26, .u), (28, .split), (31, .split), (35, .split), (38, .split), (41, .split), (45, .split), (5000007, .l [] [] [] [0, 3, 49] [] (A_base_Name_J5000007 x0))]) (kb := []) (kbx := []) (by kernel_rfl) (by kernel_rfl) ((kIfD (p := x3 < (↑(List.length x0) : Int)) (kU (s := x0) (k := x3) fun v0 => (kJb (id := 5000007) x3 (fun v1 ev1 v2 => (kIfD (p := (97 : Int) ≤ (↑v0.toNat : Int)) (kIfD (p := (↑v0.toNat : Int) ≤ (122 : Int)) (kXj (alts := A_base_Name_J5000007 x0) ev1 false (.next (.here () rfl (.refl _) (.refl _))))
 (kIfD (p := (0 : Int) < x3) (kIfD (p := (48 : Int) ≤ (↑v0.toNat : Int)) (kIfD (p := (↑v0.toNat : Int) ≤ (57 : Int)) (kXj (alts := A_base_Name_J5000007 x0) ev1 false (.next (.here () rfl (.refl _) (.refl _))))
 (kIf (c := (↑v0.toNat : Int) == (95 : Int)) (kXj (alts := A_base_Name_J5000007 x0) ev1 false (.next (.here () rfl (.refl _) (.refl _))))
 (kXj (alts := A_base_Name_J5000007 x0) ev1 true (.here () rfl (.refl _) (.refl _)))))
 (kIf (c := (↑v0.toNat : Int) == (95 : Int)) (kXj (alts := A_base_Name_J5000007 x0) ev1 false (.next (.here () rfl (.refl _) (.refl _))))
 (kXj (alts := A_base_Name_J5000007 x0) ev1 true (.here () rfl (.refl _) (.refl _)))))
 (kXj (alts := A_base_Name_J5000007 x0) ev1 true (.here () rfl (.refl _) (.refl _)))))
 (kIfD (p := (0 : Int) < x3) (kIfD (p := (48 : Int) ≤ (↑v0.toNat : Int)) (kIfD (p := (↑v0.toNat : Int) ≤ (57 : Int)) (kXj (alts := A_base_Name_J5000007 x0) ev1 false (.next (.here () rfl (.refl _) (.refl _))))
 (kIf (c := (↑v0.toNat : Int) == (95 : Int)) (kXj (alts := A_base_Name_J5000007 x0) ev1 false (.next (.here () rfl (.refl _) (.refl _))))
 (kXj (alts := A_base_Name_J5000007 x0) ev1 true (.here () rfl (.refl _) (.refl _)))))
 (kIf (c := (↑v0.toNat : Int) == (95 : Int)) (kXj (alts := A_base_Name_J5000007 x0) ev1 false (.next (.here () rfl (.refl _) (.refl _))))
 (kXj (alts := A_base_Name_J5000007 x0) ev1 true (.here () rfl (.refl _) (.refl _)))))
 (kXj (alts := A_base_Name_J5000007 x0) ev1 true (.here () rfl (.refl _) (.refl _))))))
 (fun v1 => (kX (alts := A_base_Name_L4 x0 ()) (.inr false) (.next (.here _ rfl (.refl _) (.refl _)))))
 (fun v1 => (kM0 (alts := A_base_Name_L4 x0 ()) (ih_base_Name_L4 (IntKind.i64.wrap (v1 + (1 : Int))))))))
 (kX (alts := A_base_Name_L4 x0 ()) (.inl ()) (.here _ rfl (.refl _) (.refl _)))) h)) x3 o h
def A_base_Name_J5000001 (s : Str) (u : Unit) (o : Bool) : List Alt := [⟨fun (x : Unit) => true = o, .normal, fun x => [.str s, .bool true], fun x => []⟩, ⟨fun (x : Unit) => false = o, .normal, fun x => [.str s, .bool false], fun x => []⟩]
noncomputable def F_base_Name (x0 : Str) : Option Bool :=
 some () >>= fun v0 =>
 (if (↑(List.length x0) : Int) < (1 : Int) then
 some true
 else
 if (16 : Int) < (↑(List.length x0) : Int) then
 some true
 else
 F_base_Words >>= fun v2 =>
 F_base_Has v2 x0 >>= fun v3 => if v3 then
 some true
 else
 some false) >>= fun v1 => if v1 then
 some false
 else
 some () >>= fun v6 =>
 F_base_Name_L4 x0 (0 : Int) >>= fun v7 => (match v7 with
 | (.inl v8) =>
 some true
 | (.inr v9) =>
 some v9)
theorem P_base_Name (x0 : Str) (r : Bool) (h : F_base_Name x0 = some r) : PU 102 [eS x0] (eB r) :=
  Pu1 (hs := [(7, .split), (11, .split), (14, .c eLS), (16, .cb), (3000005, .l [] [0, 3] [] [2] [] (A_base_Name_L4 x0)), (5000001, .l [] [] [] [0, 17] [] (A_base_Name_J5000001 x0))]) (by kernel_rfl) ((kJb (id := 5000001) () (fun v0 ev0 v1 => (kIfD (p := (↑(List.length x0) : Int) < (1 : Int)) (kXj (alts := A_base_Name_J5000001 x0) ev0 true (.here () rfl (.refl _) (.refl _)))
 (kIfD (p := (16 : Int) < (↑(List.length x0) : Int)) (kXj (alts := A_base_Name_J5000001 x0) ev0 true (.here () rfl (.refl _) (.refl _)))
 (kC (sh := eLS) (P_base_Words) fun v2 => (kCb (P_base_Has v2 x0) (kXj (alts := A_base_Name_J5000001 x0) ev0 true (.here () rfl (.refl _) (.refl _)))
 (kXj (alts := A_base_Name_J5000001 x0) ev0 false (.next (.here () rfl (.refl _) (.refl _)))))))))
 (fun v0 => (kEr (enc := eB) false))
 (fun v0 => (kL2 () (hL := (P_base_Name_L4 x0 (0 : Int))) (hA := fun v6 v8 => (kEr (enc := eB) true))
 (hB := fun v6 v9 => (kEr (enc := eB) v9))))) h)
def A_base_LinRight_L2 (s : gLin) (u : Unit) (o : Unit ⊕ Bool) : List Alt := [⟨fun (x : Unit) => (Sum.inl x : Unit ⊕ Bool) = o, .exit 0, fun x => [.undef], fun x => []⟩, ⟨fun (x : Bool) => (Sum.inr x : Unit ⊕ Bool) = o, .ret, fun x => [.bool x], fun x => []⟩]
def A_base_LinRight_J5000004 (s : gLin) (u : Int) (o : Bool) : List Alt := [⟨fun (x : Unit) => true = o, .normal, fun x => [.ptr 0 0 0, .int .i64 u, .bool true], fun x => [.cells 0 (egLin s).cells]⟩, ⟨fun (x : Unit) => false = o, .normal, fun x => [.ptr 0 0 0, .int .i64 u, .bool false], fun x => [.cells 0 (egLin s).cells]⟩]
noncomputable def F_base_LinRight_L2 (x1 : gLin) (x3 : Int) : Option (Unit ⊕ Bool) :=
 some (List.length x1.fL : Int) >>= fun v0 =>
 if x3 < v0 then
 some x3 >>= fun v1 =>
 (ix x1.fL x3 >>= fun v3 =>
 F_base_Name v3.fName >>= fun v4 => if v4 then
 ix x1.fL x3 >>= fun v5 =>
 if v5.fBy == (0 : Int) then
 some true
 else
 if (0 : Int) < x3 then
 ix x1.fL (IntKind.i64.wrap (x3 - (1 : Int))) >>= fun v6 =>
 ix x1.fL x3 >>= fun v7 =>
 if !Op.bytesLess v6.fName v7.fName then
 some true
 else
 some false
 else
 some false
 else
 some true) >>= fun v2 => if v2 then
 some (.inr false)
 else
 F_base_LinRight_L2 x1 (IntKind.i64.wrap (v1 + (1 : Int)))
 else
 some (.inl ())
  partial_fixpoint
theorem P_base_LinRight_L2 (x1 : gLin) (x3 : Int) (o : Unit ⊕ Bool) (h : F_base_LinRight_L2 x1 x3 = some o) : LO 101 2 48 [1, 3] [.ptr 0 0 0, .int .i64 x3] [.cells 0 (egLin x1).cells] [2] (A_base_LinRight_L2 x1 () o) :=
  F_base_LinRight_L2.partial_correctness x1 (fun x3 o => LO 101 2 48 [1, 3] [.ptr 0 0 0, .int .i64 x3] [.cells 0 (egLin x1).cells] [2] (A_base_LinRight_L2 x1 () o))
  (fun F_base_LinRight_L2 ih_base_LinRight_L2 x3 o h  =>
  Lp1 (hs := [(7, .n eI 7 none), (8, .split), (14, .e egMono), (17, .cb), (23, .e egMono), (26, .split), (30, .split), (36, .e egMono), (42, .e egMono), (45, .split), (5000004, .l [] [] [] [1, 3, 47] [{ slot := 1 }] (A_base_LinRight_J5000004 x1))]) (kb := [{ slot := 1 }]) (kbx := []) (by kernel_rfl) (by kernel_rfl) ((kN _ (mLen (sh := egMono) x1.fL) fun v0 => (kIfD (p := x3 < v0) (kJb (id := 5000004) x3 (fun v1 ev1 v2 => (kIx (enc := egMono) (l := x1.fL) (k := x3) fun v3 => (kCb (P_base_Name v3.fName) (kIx (enc := egMono) (l := x1.fL) (k := x3) fun v5 => (kIf (c := v5.fBy == (0 : Int)) (kXj (alts := A_base_LinRight_J5000004 x1) ev1 true (.here () rfl (.refl _) (.refl _)))
 (kIfD (p := (0 : Int) < x3) (kIx (enc := egMono) (l := x1.fL) (k := IntKind.i64.wrap (x3 - (1 : Int))) fun v6 => (kIx (enc := egMono) (l := x1.fL) (k := x3) fun v7 => (kIf (c := !Op.bytesLess v6.fName v7.fName) (kXj (alts := A_base_LinRight_J5000004 x1) ev1 true (.here () rfl (.refl _) (.refl _)))
 (kXj (alts := A_base_LinRight_J5000004 x1) ev1 false (.next (.here () rfl (.refl _) (.refl _)))))))
 (kXj (alts := A_base_LinRight_J5000004 x1) ev1 false (.next (.here () rfl (.refl _) (.refl _)))))))
 (kXj (alts := A_base_LinRight_J5000004 x1) ev1 true (.here () rfl (.refl _) (.refl _))))))
 (fun v1 => (kX (alts := A_base_LinRight_L2 x1 ()) (.inr false) (.next (.here _ rfl (.refl _) (.refl _)))))
 (fun v1 => (kM0 (alts := A_base_LinRight_L2 x1 ()) (ih_base_LinRight_L2 (IntKind.i64.wrap (v1 + (1 : Int)))))))
 (kX (alts := A_base_LinRight_L2 x1 ()) (.inl ()) (.here _ rfl (.refl _) (.refl _))))) h)) x3 o h
noncomputable def F_base_LinRight (x0 : gLin) : Option Bool :=
 some () >>= fun v0 =>
 F_base_LinRight_L2 x0 (0 : Int) >>= fun v1 => (match v1 with
 | (.inl v2) =>
 some true
 | (.inr v3) =>
 some v3)
theorem P_base_LinRight (x0 : gLin) (r : Bool) (h : F_base_LinRight x0 = some r) : PU 101 [egLin x0] (eB r) :=
  Pu1 (hs := [(3000003, .l [] [1, 3] [{ slot := 1 }] [2] [] (A_base_LinRight_L2 x0))]) (by kernel_rfl) ((kL2 () (hL := (P_base_LinRight_L2 x0 (0 : Int))) (hA := fun v0 v2 => (kEr (enc := eB) true))
 (hB := fun v0 v3 => (kEr (enc := eB) v3))) h)
def A_ref14_wide_J6000005 (s : Int) (u : (Bool × Int)) (o : Int) : List Alt := [⟨fun (x : Int) => x = o, .normal, fun x => [.int .i64 s, .bool (u.1), .int .u64 x, .int .u64 (u.2)], fun x => []⟩]
def A_ref14_wide_J6000007 (s : Unit) (u : (Bool × Int)) (o : Int) : List Alt := [⟨fun (x : Int) => x = o, .normal, fun x => [.bool (u.1), .int .u64 (u.2), .int .u64 x], fun x => []⟩]
def A_ref14_wide_J6000014 (s : Unit) (u : Unit) (o : (Int × Int)) : List Alt := [⟨fun (x : (Int × Int)) => x = o, .normal, fun x => [.int .u64 (x.1), .int .u64 (x.2)], fun x => []⟩]
noncomputable def F_ref14_wide (x0 : Int) (x1 : Int) : Option (Int × Int) :=
 some (IntKind.u64.wrap x0 : Int) >>= fun v0 =>
 some (IntKind.u64.wrap x1 : Int) >>= fun v1 =>
 some ((!decide (x0 < (0 : Int)) == decide (x1 < (0 : Int))), v1) >>= fun v2 =>
 (if x0 < (0 : Int) then
 some (IntKind.u64.wrap ((0 : Int) - v0) : Int) >>= fun v4 =>
 some v4
 else
 some v0) >>= fun v5 =>
 some (v2.fst, v5) >>= fun v6 =>
 (if x1 < (0 : Int) then
 some (IntKind.u64.wrap ((0 : Int) - v2.snd) : Int) >>= fun v8 =>
 some v8
 else
 some v2.snd) >>= fun v9 =>
 if (0 : Int) ≤ (32 : Int) then
 if (0 : Int) ≤ (32 : Int) then
 some (v6.snd.fdiv ((2 : Int) ^ (32 : Nat)) : Int) >>= fun v10 =>
 some (IntKind.u64.wrap (↑(BitVec.ofInt (64 : Nat) v6.snd &&& BitVec.ofInt (64 : Nat) (4294967295 : Int)).toNat : Int) : Int) >>= fun v11 =>
 some (Int.fdiv v9 ((2 : Int) ^ (32 : Nat)) : Int) >>= fun v12 =>
 some (IntKind.u64.wrap (↑(BitVec.ofInt (64 : Nat) v9 &&& BitVec.ofInt (64 : Nat) (4294967295 : Int)).toNat : Int) : Int) >>= fun v13 =>
 some (IntKind.u64.wrap (v11 * v13) : Int) >>= fun v14 =>
 some (IntKind.u64.wrap (v10 * v13) : Int) >>= fun v15 =>
 some (IntKind.u64.wrap (v11 * v12) : Int) >>= fun v16 =>
 if (0 : Int) ≤ (32 : Int) then
 some (IntKind.u64.wrap (IntKind.u64.wrap (v14.fdiv ((2 : Int) ^ (32 : Nat)) + IntKind.u64.wrap (↑(BitVec.ofInt (64 : Nat) v15 &&& BitVec.ofInt (64 : Nat) (4294967295 : Int)).toNat : Int)) + IntKind.u64.wrap (↑(BitVec.ofInt (64 : Nat) v16 &&& BitVec.ofInt (64 : Nat) (4294967295 : Int)).toNat : Int)) : Int) >>= fun v17 =>
 if (0 : Int) ≤ (32 : Int) then
 some (IntKind.u64.wrap (↑(BitVec.ofInt (64 : Nat) (IntKind.u64.wrap (↑(BitVec.ofInt (64 : Nat) v14 &&& BitVec.ofInt (64 : Nat) (4294967295 : Int)).toNat : Int)) ||| BitVec.ofInt (64 : Nat) (IntKind.u64.wrap (v17 * (2 : Int) ^ (32 : Nat)))).toNat : Int) : Int) >>= fun v18 =>
 if (0 : Int) ≤ (32 : Int) then
 if (0 : Int) ≤ (32 : Int) then
 if (0 : Int) ≤ (32 : Int) then
 some (IntKind.u64.wrap (IntKind.u64.wrap (IntKind.u64.wrap (IntKind.u64.wrap (v10 * v12) + v15.fdiv ((2 : Int) ^ (32 : Nat))) + v16.fdiv ((2 : Int) ^ (32 : Nat))) + v17.fdiv ((2 : Int) ^ (32 : Nat))) : Int) >>= fun v19 =>
 some () >>= fun v20 =>
 (if v6.fst then
 some (IntKind.u64.wrap ((0 : Int) - v18) : Int) >>= fun v22 =>
 some (IntKind.u64.wrap (↑(BitVec.ofInt (64 : Nat) (if false = true then (-1 : Int) else IntKind.u64.max) ^^^ BitVec.ofInt (64 : Nat) v19).toNat : Int) : Int) >>= fun v23 =>
 if v22 == (0 : Int) then
 some (IntKind.u64.wrap (v23 + (1 : Int)) : Int) >>= fun v24 =>
 some (v22, v24)
 else
 some (v22, v23)
 else
 some (v18, v19)) >>= fun v25 =>
 some ((IntKind.i64.wrap v25.snd), v25.fst)
 else none
 else none
 else none
 else none
 else none
 else none
 else none
theorem P_ref14_wide (x0 : Int) (x1 : Int) (r : (Int × Int)) (h : F_ref14_wide x0 x1 = some r) : PU 150 [eI x0, eI x1] (eT_I_U64 r) :=
  Pu1 (hs := [(7, .n eU64 7 none), (8, .n eU64 8 none), (30, .split), (7, .n eU64 7 none), (34, .split), (8, .n eU64 8 none), (38, .s), (42, .s), (9, .n eU64 9 none), (10, .n eU64 10 none), (11, .n eU64 11 none), (12, .n eU64 12 none), (13, .n eU64 13 none), (14, .n eU64 14 none), (15, .n eU64 15 none), (58, .s), (17, .n eU64 17 none), (68, .s), (18, .n eU64 18 none), (72, .s), (75, .s), (78, .s), (19, .n eU64 19 none), (80, .split), (18, .n eU64 18 none), (86, .split), (6000005, .l [] [] [] [1, 6, 7, 8] [] (A_ref14_wide_J6000005 x1)), (6000007, .l [] [] [] [6, 7, 8] [] (A_ref14_wide_J6000007 ())), (6000014, .l [] [] [] [18, 19] [] (A_ref14_wide_J6000014 ()))]) (by kernel_rfl) ((kN (IntKind.u64.wrap x0) rfl fun v0 => (kN (IntKind.u64.wrap x1) rfl fun v1 => (kJ1 (id := 6000005) ((!decide (x0 < (0 : Int)) == decide (x1 < (0 : Int))), v1) (fun v2 ev2 v3 => (kIfD (p := x0 < (0 : Int)) (kN (IntKind.u64.wrap ((0 : Int) - v0)) rfl fun v4 => (kXj (alts := A_ref14_wide_J6000005 x1) ev2 v4 (.here _ rfl (.refl _) (.refl _))))
 (kXj (alts := A_ref14_wide_J6000005 x1) ev2 v0 (.here _ rfl (.refl _) (.refl _)))))
 (fun v2 v5 => (kJ1 (id := 6000007) (v2.fst, v5) (fun v6 ev6 v7 => (kIfD (p := x1 < (0 : Int)) (kN (IntKind.u64.wrap ((0 : Int) - v2.snd)) rfl fun v8 => (kXj (alts := A_ref14_wide_J6000007 ()) ev6 v8 (.here _ rfl (.refl _) (.refl _))))
 (kXj (alts := A_ref14_wide_J6000007 ()) ev6 v2.snd (.here _ rfl (.refl _) (.refl _)))))
 (fun v6 v9 => (kG (p := (0 : Int) ≤ (32 : Int)) (kG (p := (0 : Int) ≤ (32 : Int)) (kN (v6.snd.fdiv ((2 : Int) ^ (32 : Nat))) rfl fun v10 => (kN (IntKind.u64.wrap (↑(BitVec.ofInt (64 : Nat) v6.snd &&& BitVec.ofInt (64 : Nat) (4294967295 : Int)).toNat : Int)) rfl fun v11 => (kN (Int.fdiv v9 ((2 : Int) ^ (32 : Nat))) rfl fun v12 => (kN (IntKind.u64.wrap (↑(BitVec.ofInt (64 : Nat) v9 &&& BitVec.ofInt (64 : Nat) (4294967295 : Int)).toNat : Int)) rfl fun v13 => (kN (IntKind.u64.wrap (v11 * v13)) rfl fun v14 => (kN (IntKind.u64.wrap (v10 * v13)) rfl fun v15 => (kN (IntKind.u64.wrap (v11 * v12)) rfl fun v16 => (kG (p := (0 : Int) ≤ (32 : Int)) (kN (IntKind.u64.wrap (IntKind.u64.wrap (v14.fdiv ((2 : Int) ^ (32 : Nat)) + IntKind.u64.wrap (↑(BitVec.ofInt (64 : Nat) v15 &&& BitVec.ofInt (64 : Nat) (4294967295 : Int)).toNat : Int)) + IntKind.u64.wrap (↑(BitVec.ofInt (64 : Nat) v16 &&& BitVec.ofInt (64 : Nat) (4294967295 : Int)).toNat : Int))) rfl fun v17 => (kG (p := (0 : Int) ≤ (32 : Int)) (kN (IntKind.u64.wrap (↑(BitVec.ofInt (64 : Nat) (IntKind.u64.wrap (↑(BitVec.ofInt (64 : Nat) v14 &&& BitVec.ofInt (64 : Nat) (4294967295 : Int)).toNat : Int)) ||| BitVec.ofInt (64 : Nat) (IntKind.u64.wrap (v17 * (2 : Int) ^ (32 : Nat)))).toNat : Int)) rfl fun v18 => (kG (p := (0 : Int) ≤ (32 : Int)) (kG (p := (0 : Int) ≤ (32 : Int)) (kG (p := (0 : Int) ≤ (32 : Int)) (kN (IntKind.u64.wrap (IntKind.u64.wrap (IntKind.u64.wrap (IntKind.u64.wrap (v10 * v12) + v15.fdiv ((2 : Int) ^ (32 : Nat))) + v16.fdiv ((2 : Int) ^ (32 : Nat))) + v17.fdiv ((2 : Int) ^ (32 : Nat)))) rfl fun v19 => (kJ1 (id := 6000014) () (fun v20 ev20 v21 => (kIf (c := v6.fst) (kN (IntKind.u64.wrap ((0 : Int) - v18)) rfl fun v22 => (kN (IntKind.u64.wrap (↑(BitVec.ofInt (64 : Nat) (if false = true then (-1 : Int) else IntKind.u64.max) ^^^ BitVec.ofInt (64 : Nat) v19).toNat : Int)) rfl fun v23 => (kIf (c := v22 == (0 : Int)) (kN (IntKind.u64.wrap (v23 + (1 : Int))) rfl fun v24 => (kXj (alts := A_ref14_wide_J6000014 ()) ev20 (v22, v24) (.here _ rfl (.refl _) (.refl _))))
 (kXj (alts := A_ref14_wide_J6000014 ()) ev20 (v22, v23) (.here _ rfl (.refl _) (.refl _))))))
 (kXj (alts := A_ref14_wide_J6000014 ()) ev20 (v18, v19) (.here _ rfl (.refl _) (.refl _)))))
 (fun v20 v25 => (kEr (enc := eT_I_U64) ((IntKind.i64.wrap v25.snd), v25.fst))))))))))))))))))))))))))) h)
def A_ref14_both_J6000006 (s : Int) (u : (Int × Int)) (o : Int) : List Alt := [⟨fun (x : Int) => x = o, .normal, fun x => [.int .i64 s, .int .i64 (u.1), .int .u64 (u.2), .int .i64 x], fun x => []⟩]
def A_ref14_both_J6000009 (s : Unit) (u : Int) (o : Int) : List Alt := [⟨fun (x : Int) => x = o, .normal, fun x => [.int .u64 u, .int .i64 x], fun x => []⟩]
noncomputable def F_ref14_both (x0 : Int) (x1 : Int) (x2 : Int) : Option (Int × Bool) :=
 F_ref14_wide x1 x2 >>= fun v0 =>
 some (IntKind.u64.wrap (v0.snd + IntKind.u64.wrap x0) : Int) >>= fun v1 =>
 some (v0.fst, v1) >>= fun v2 =>
 (if v1 < v0.snd then
 some (1 : Int)
 else
 some (0 : Int)) >>= fun v4 =>
 some (IntKind.i64.wrap (v2.fst + v4) : Int) >>= fun v5 =>
 some v2.snd >>= fun v6 =>
 (if x0 < (0 : Int) then
 some (IntKind.i64.wrap (v5 - (1 : Int)) : Int) >>= fun v8 =>
 some v8
 else
 some v5) >>= fun v9 =>
 some (IntKind.i64.wrap v6 : Int) >>= fun v10 =>
 if v9 == (0 : Int) then
 if (0 : Int) ≤ v10 then
 some (v10, true)
 else
 if v9 == (-1 : Int) then
 some (v10, (decide (v10 < (0 : Int))))
 else
 some (v10, false)
 else
 if v9 == (-1 : Int) then
 some (v10, (decide (v10 < (0 : Int))))
 else
 some (v10, false)
theorem P_ref14_both (x0 : Int) (x1 : Int) (x2 : Int) (r : (Int × Bool)) (h : F_ref14_both x0 x1 x2 = some r) : PU 129 [eI x0, eI x1, eI x2] (eT_I_B r) :=
  Pu1 (hs := [(17, .c eT_I_U64), (10, .n eU64 10 none), (26, .split), (12, .n eI 12 none), (31, .split), (13, .n eI 13 none), (38, .split), (41, .split), (45, .split), (6000006, .l [] [] [] [0, 8, 10, 11] [] (A_ref14_both_J6000006 x0)), (6000009, .l [] [] [] [10, 12] [] (A_ref14_both_J6000009 ()))]) (by kernel_rfl) ((kC (sh := eT_I_U64) (P_ref14_wide x1 x2) fun v0 => (kN (IntKind.u64.wrap (v0.snd + IntKind.u64.wrap x0)) rfl fun v1 => (kJ1 (id := 6000006) (v0.fst, v1) (fun v2 ev2 v3 => (kIfD (p := v1 < v0.snd) (kXj (alts := A_ref14_both_J6000006 x0) ev2 (1 : Int) (.here _ rfl (.refl _) (.refl _)))
 (kXj (alts := A_ref14_both_J6000006 x0) ev2 (0 : Int) (.here _ rfl (.refl _) (.refl _)))))
 (fun v2 v4 => (kN (IntKind.i64.wrap (v2.fst + v4)) rfl fun v5 => (kJ1 (id := 6000009) v2.snd (fun v6 ev6 v7 => (kIfD (p := x0 < (0 : Int)) (kN (IntKind.i64.wrap (v5 - (1 : Int))) rfl fun v8 => (kXj (alts := A_ref14_both_J6000009 ()) ev6 v8 (.here _ rfl (.refl _) (.refl _))))
 (kXj (alts := A_ref14_both_J6000009 ()) ev6 v5 (.here _ rfl (.refl _) (.refl _)))))
 (fun v6 v9 => (kN (IntKind.i64.wrap v6) rfl fun v10 => (kIf (c := v9 == (0 : Int)) (kIfD (p := (0 : Int) ≤ v10) (kEr (enc := eT_I_B) (v10, true))
 (kIf (c := v9 == (-1 : Int)) (kEr (enc := eT_I_B) (v10, (decide (v10 < (0 : Int)))))
 (kEr (enc := eT_I_B) (v10, false))))
 (kIf (c := v9 == (-1 : Int)) (kEr (enc := eT_I_B) (v10, (decide (v10 < (0 : Int)))))
 (kEr (enc := eT_I_B) (v10, false)))))))))))) h)
def A_ref14_scales_L5 (s : (Int × gLin)) (u : Unit) (o : Unit ⊕ Bool) : List Alt := [⟨fun (x : Unit) => (Sum.inl x : Unit ⊕ Bool) = o, .exit 0, fun x => [.undef], fun x => []⟩, ⟨fun (x : Bool) => (Sum.inr x : Unit ⊕ Bool) = o, .ret, fun x => [.bool x], fun x => []⟩]
noncomputable def F_ref14_scales_L5 (x1 : Int) (x2 : gLin) (x7 : Int) : Option (Unit ⊕ Bool) :=
 some (List.length x2.fL : Int) >>= fun v0 =>
 if x7 < v0 then
 ix x2.fL x7 >>= fun v1 =>
 F_ref14_both (0 : Int) v1.fBy x1 >>= fun v2 =>
 if v2.snd then
 F_ref14_scales_L5 x1 x2 (IntKind.i64.wrap (x7 + (1 : Int)))
 else
 some (.inr false)
 else
 some (.inl ())
  partial_fixpoint
theorem P_ref14_scales_L5 (x1 : Int) (x2 : gLin) (x7 : Int) (o : Unit ⊕ Bool) (h : F_ref14_scales_L5 x1 x2 x7 = some o) : LO 103 5 39 [1, 2, 7] [.int .i64 x1, .ptr 0 0 0, .int .i64 x7] [.cells 0 (egLin x2).cells] [4] (A_ref14_scales_L5 (x1, x2) () o) :=
  F_ref14_scales_L5.partial_correctness x1 x2 (fun x7 o => LO 103 5 39 [1, 2, 7] [.int .i64 x1, .ptr 0 0 0, .int .i64 x7] [.cells 0 (egLin x2).cells] [4] (A_ref14_scales_L5 (x1, x2) () o))
  (fun F_ref14_scales_L5 ih_ref14_scales_L5 x7 o h  =>
  Lp1 (hs := [(22, .n eI 22 none), (23, .split), (30, .e egMono), (34, .c eT_I_B), (37, .split)]) (kb := [{ slot := 2 }]) (kbx := []) (by kernel_rfl) (by kernel_rfl) ((kN _ (mLen (sh := egMono) x2.fL) fun v0 => (kIfD (p := x7 < v0) (kIx (enc := egMono) (l := x2.fL) (k := x7) fun v1 => (kC (sh := eT_I_B) (P_ref14_both (0 : Int) v1.fBy x1) fun v2 => (kIf (c := v2.snd) (kM0 (alts := A_ref14_scales_L5 (x1, x2) ()) (ih_ref14_scales_L5 (IntKind.i64.wrap (x7 + (1 : Int)))))
 (kX (alts := A_ref14_scales_L5 (x1, x2) ()) (.inr false) (.next (.here _ rfl (.refl _) (.refl _)))))))
 (kX (alts := A_ref14_scales_L5 (x1, x2) ()) (.inl ()) (.here _ rfl (.refl _) (.refl _))))) h)) x7 o h
noncomputable def F_ref14_scales (x0 : gLin) (x1 : Int) : Option Bool :=
 F_ref14_both (0 : Int) x0.fK x1 >>= fun v0 =>
 if v0.snd then
 some () >>= fun v1 =>
 F_ref14_scales_L5 x1 x0 (0 : Int) >>= fun v2 => (match v2 with
 | (.inl v3) =>
 some true
 | (.inr v4) =>
 some v4)
 else
 some false
theorem P_ref14_scales (x0 : gLin) (x1 : Int) (r : Bool) (h : F_ref14_scales x0 x1 = some r) : PU 103 [egLin x0, eI x1] (eB r) :=
  Pu1 (hs := [(14, .c eT_I_B), (17, .split), (3000006, .l [] [1, 2, 7] [{ slot := 2 }] [4] [] (A_ref14_scales_L5 (x1, x0)))]) (by kernel_rfl) ((kC (sh := eT_I_B) (P_ref14_both (0 : Int) x0.fK x1) fun v0 => (kIf (c := v0.snd) (kL2 () (hL := (P_ref14_scales_L5 x1 x0 (0 : Int))) (hA := fun v1 v3 => (kEr (enc := eB) true))
 (hB := fun v1 v4 => (kEr (enc := eB) v4)))
 (kEr (enc := eB) false))) h)
def A_ref14_sum_L4 (s : (Int × gLin × gLin)) (u : gLin) (o : (Bool × gLin)) : List Alt := [⟨fun (x : (Bool × gLin)) => x = o, .exit 0, fun x => [.ptr 0 0 0, .bool x.1, .ptr 1 0 0], fun x => [.cells 0 (egLin u).cells, .cells 0 [.int .i64 x.2.fK, .ow 2 0 2 (List.length x.2.fL)], .own 0 2 (List.map egMono x.2.fL)]⟩]
def A_ref14_sum_J5000004 (s : (Int × gLin × gLin × gLin)) (u : (Bool × gLin × Int × Int)) (o : Bool) : List Alt := [⟨fun (x : Unit) => true = o, .normal, fun x => [.int .i64 (s.1), .ptr 0 0 0, .ptr 1 0 0, .ptr 2 0 0, .bool (u.1), .ptr 3 0 0, .int .i64 (u.2.2.1), .int .i64 (u.2.2.2), .bool true], fun x => [.cells 0 (egLin (s.2.1)).cells, .cells 0 (egLin (s.2.2.1)).cells, .cells 0 (egLin (s.2.2.2)).cells, .cells 0 [.int .i64 (u.2.1).fK, .ow 4 0 2 (List.length ((u.2.1).fL))], .own 0 2 (List.map egMono (u.2.1).fL)]⟩, ⟨fun (x : Unit) => false = o, .normal, fun x => [.int .i64 (s.1), .ptr 0 0 0, .ptr 1 0 0, .ptr 2 0 0, .bool (u.1), .ptr 3 0 0, .int .i64 (u.2.2.1), .int .i64 (u.2.2.2), .bool false], fun x => [.cells 0 (egLin (s.2.1)).cells, .cells 0 (egLin (s.2.2.1)).cells, .cells 0 (egLin (s.2.2.2)).cells, .cells 0 [.int .i64 (u.2.1).fK, .ow 4 0 2 (List.length ((u.2.1).fL))], .own 0 2 (List.map egMono (u.2.1).fL)]⟩]
def A_ref14_sum_J5000006 (s : (Int × gLin × gLin × gLin)) (u : (Bool × gLin × Int × Int × Int × Int)) (o : Bool) : List Alt := [⟨fun (x : Unit) => true = o, .normal, fun x => [.int .i64 (s.1), .ptr 0 0 0, .ptr 1 0 0, .ptr 2 0 0, .bool (u.1), .ptr 3 0 0, .int .i64 (u.2.2.1), .int .i64 (u.2.2.2.1), .int .i64 (u.2.2.2.2.1), .int .i64 (u.2.2.2.2.2), .bool true], fun x => [.cells 0 (egLin (s.2.1)).cells, .cells 0 (egLin (s.2.2.1)).cells, .cells 0 (egLin (s.2.2.2)).cells, .cells 0 [.int .i64 (u.2.1).fK, .ow 4 0 2 (List.length ((u.2.1).fL))], .own 0 2 (List.map egMono (u.2.1).fL)]⟩, ⟨fun (x : Unit) => false = o, .normal, fun x => [.int .i64 (s.1), .ptr 0 0 0, .ptr 1 0 0, .ptr 2 0 0, .bool (u.1), .ptr 3 0 0, .int .i64 (u.2.2.1), .int .i64 (u.2.2.2.1), .int .i64 (u.2.2.2.2.1), .int .i64 (u.2.2.2.2.2), .bool false], fun x => [.cells 0 (egLin (s.2.1)).cells, .cells 0 (egLin (s.2.2.1)).cells, .cells 0 (egLin (s.2.2.2)).cells, .cells 0 [.int .i64 (u.2.1).fK, .ow 4 0 2 (List.length ((u.2.1).fL))], .own 0 2 (List.map egMono (u.2.1).fL)]⟩]
def A_ref14_sum_J6000008 (s : (Int × gLin × gLin × gLin)) (u : (Bool × gLin × Int × Int × Int)) (o : (Int × Str)) : List Alt := [⟨fun (x : (Int × Str)) => x = o, .normal, fun x => [.int .i64 (s.1), .ptr 0 0 0, .ptr 1 0 0, .ptr 2 0 0, .bool (u.1), .ptr 3 0 0, .int .i64 (u.2.2.1), .int .i64 (u.2.2.2.1), .int .i64 (x.1), .int .i64 (u.2.2.2.2), .str (x.2)], fun x => [.cells 0 (egLin (s.2.1)).cells, .cells 0 (egLin (s.2.2.1)).cells, .cells 0 (egLin (s.2.2.2)).cells, .cells 0 [.int .i64 (u.2.1).fK, .ow 4 0 2 (List.length ((u.2.1).fL))], .own 0 2 (List.map egMono (u.2.1).fL)]⟩]
def A_ref14_sum_J5000010 (s : (Int × gLin × gLin × gLin)) (u : (Bool × gLin × Int × Int × Int × Int × Str)) (o : Bool) : List Alt := [⟨fun (x : Unit) => true = o, .normal, fun x => [.int .i64 (s.1), .ptr 0 0 0, .ptr 1 0 0, .ptr 2 0 0, .bool (u.1), .ptr 3 0 0, .int .i64 (u.2.2.1), .int .i64 (u.2.2.2.1), .int .i64 (u.2.2.2.2.1), .int .i64 (u.2.2.2.2.2.1), .str (u.2.2.2.2.2.2), .bool true], fun x => [.cells 0 (egLin (s.2.1)).cells, .cells 0 (egLin (s.2.2.1)).cells, .cells 0 (egLin (s.2.2.2)).cells, .cells 0 [.int .i64 (u.2.1).fK, .ow 4 0 2 (List.length ((u.2.1).fL))], .own 0 2 (List.map egMono (u.2.1).fL)]⟩, ⟨fun (x : Unit) => false = o, .normal, fun x => [.int .i64 (s.1), .ptr 0 0 0, .ptr 1 0 0, .ptr 2 0 0, .bool (u.1), .ptr 3 0 0, .int .i64 (u.2.2.1), .int .i64 (u.2.2.2.1), .int .i64 (u.2.2.2.2.1), .int .i64 (u.2.2.2.2.2.1), .str (u.2.2.2.2.2.2), .bool false], fun x => [.cells 0 (egLin (s.2.1)).cells, .cells 0 (egLin (s.2.2.1)).cells, .cells 0 (egLin (s.2.2.2)).cells, .cells 0 [.int .i64 (u.2.1).fK, .ow 4 0 2 (List.length ((u.2.1).fL))], .own 0 2 (List.map egMono (u.2.1).fL)]⟩]
def A_ref14_sum_J6000012 (s : (Int × gLin × gLin × gLin)) (u : (Bool × gLin × Int × Int × Str)) (o : (Int × Int)) : List Alt := [⟨fun (x : (Int × Int)) => x = o, .normal, fun x => [.int .i64 (s.1), .ptr 0 0 0, .ptr 1 0 0, .ptr 2 0 0, .bool (u.1), .ptr 3 0 0, .int .i64 (u.2.2.1), .int .i64 (x.1), .int .i64 (u.2.2.2.1), .int .i64 (x.2), .str (u.2.2.2.2)], fun x => [.cells 0 (egLin (s.2.1)).cells, .cells 0 (egLin (s.2.2.1)).cells, .cells 0 (egLin (s.2.2.2)).cells, .cells 0 [.int .i64 (u.2.1).fK, .ow 4 0 2 (List.length ((u.2.1).fL))], .own 0 2 (List.map egMono (u.2.1).fL)]⟩]
def A_ref14_sum_J6000015 (s : (Int × gLin × gLin × gLin)) (u : (Bool × gLin × Int × Int × Int × Str)) (o : Int) : List Alt := [⟨fun (x : Int) => x = o, .normal, fun x => [.int .i64 (s.1), .ptr 0 0 0, .ptr 1 0 0, .ptr 2 0 0, .bool (u.1), .ptr 3 0 0, .int .i64 x, .int .i64 (u.2.2.1), .int .i64 (u.2.2.2.1), .int .i64 (u.2.2.2.2.1), .str (u.2.2.2.2.2)], fun x => [.cells 0 (egLin (s.2.1)).cells, .cells 0 (egLin (s.2.2.1)).cells, .cells 0 (egLin (s.2.2.2)).cells, .cells 0 [.int .i64 (u.2.1).fK, .ow 4 0 2 (List.length ((u.2.1).fL))], .own 0 2 (List.map egMono (u.2.1).fL)]⟩]
def A_ref14_sum_J5000016 (s : (Int × gLin × gLin × gLin)) (u : (gLin × Int × Int × Str × Int)) (o : Bool) : List Alt := [⟨fun (x : Bool) => x = o, .normal, fun x => [.int .i64 (s.1), .ptr 0 0 0, .ptr 1 0 0, .ptr 2 0 0, .bool x, .ptr 3 0 0, .int .i64 (u.2.1), .int .i64 (u.2.2.1), .str (u.2.2.2.1), .int .i64 (u.2.2.2.2)], fun x => [.cells 0 (egLin (s.2.1)).cells, .cells 0 (egLin (s.2.2.1)).cells, .cells 0 (egLin (s.2.2.2)).cells, .cells 0 [.int .i64 (u.1).fK, .ow 4 0 2 (List.length ((u.1).fL))], .own 0 2 (List.map egMono (u.1).fL)]⟩]
noncomputable def F_ref14_sum_L4 (x2 : Int) (x3 : gLin) (x4 : gLin) (x9 : Bool) (x10 : gLin) (x11 : Int) (x12 : Int) : Option (Bool × gLin) :=
 some (x9, x10, x11, x12) >>= fun v0 =>
 (some (List.length x3.fL : Int) >>= fun v2 =>
 if x11 < v2 then
 some true
 else
 some (List.length x4.fL : Int) >>= fun v3 =>
 if x12 < v3 then
 some true
 else
 some false) >>= fun v1 => if v1 then
 some (v0.fst, v0.snd.fst, v0.snd.snd.fst, v0.snd.snd.snd, ((0 : Int))) >>= fun v5 =>
 (some (v0.fst, v0.snd.fst, v0.snd.snd.fst, v0.snd.snd.snd, (0 : Int), (0 : Int)) >>= fun v7 =>
 (if v0.snd.snd.snd == (↑(List.map egMono x4.fL).length : Int) then
 some (List.length x4.fL : Int) >>= fun v9 =>
 some true
 else
 if v0.snd.snd.fst < (↑(List.map egMono x3.fL).length : Int) then
 ix x3.fL v0.snd.snd.fst >>= fun v10 =>
 ix x4.fL v0.snd.snd.snd >>= fun v11 =>
 some (List.length x4.fL : Int) >>= fun v12 =>
 some (List.length x3.fL : Int) >>= fun v13 =>
 if Op.bytesLess v10.fName v11.fName || v10.fName == v11.fName then
 some true
 else
 some false
 else
 some (List.length x4.fL : Int) >>= fun v14 =>
 some (List.length x3.fL : Int) >>= fun v15 =>
 some false) >>= fun v8 => if v8 then
 ix x3.fL v7.snd.snd.fst >>= fun v17 =>
 ix x3.fL v7.snd.snd.fst >>= fun v18 =>
 some (v18.fBy, v17.fName)
 else
 ix x4.fL v7.snd.snd.snd.fst >>= fun v20 =>
 some (v7.snd.snd.snd.snd.fst, v20.fName)) >>= fun v21 =>
 some (v5.fst, v5.snd.fst, v5.snd.snd.fst, v21.fst, v21.snd) >>= fun v22 =>
 (some (v5.fst, v5.snd.fst, v5.snd.snd.fst, v5.snd.snd.snd.fst, v21.fst, v5.snd.snd.snd.snd, v21.snd) >>= fun v24 =>
 (some (List.length x4.fL : Int) >>= fun v26 =>
 if v5.snd.snd.snd.fst < v26 then
 ix x4.fL v5.snd.snd.snd.fst >>= fun v27 =>
 if v27.fName == v21.snd then
 some true
 else
 some false
 else
 some false) >>= fun v25 => if v25 then
 ix x4.fL v24.snd.snd.snd.fst >>= fun v29 =>
 some ((IntKind.i64.wrap (v24.snd.snd.snd.fst + (1 : Int))), v29.fBy)
 else
 some (v24.snd.snd.snd.fst, v24.snd.snd.snd.snd.snd.fst)) >>= fun v31 =>
 some (v22.fst, v22.snd.fst, v31.fst, v22.snd.snd.snd.fst, v31.snd, v22.snd.snd.snd.snd) >>= fun v32 =>
 (if v22.snd.snd.snd.fst != (0 : Int) then
 some (IntKind.i64.wrap (v22.snd.snd.fst + (1 : Int)))
 else
 some v22.snd.snd.fst) >>= fun v34 =>
 F_ref14_both v32.snd.snd.snd.fst v32.snd.snd.snd.snd.fst x2 >>= fun v35 =>
 some (v32.snd.fst, v34, v32.snd.snd.fst, v32.snd.snd.snd.snd.snd, v35.fst) >>= fun v36 =>
 (if v32.fst then
 some v35.snd
 else
 some false) >>= fun v38 =>
 if v36.snd.snd.snd.snd != (0 : Int) then
 some ((gMono.mk v36.snd.snd.snd.fst v36.snd.snd.snd.snd)) >>= fun v39 =>
 if (v36.fst.fL.length + (1 : Nat)) * (24 : Nat) ≤ (140737488355328 : Nat) ∧ v36.fst.fL.length + (1 : Nat) ≤ (9223372036854775807 : Nat) then
 some (v36.fst.fL ++ [v39]) >>= fun v40 =>
 F_ref14_sum_L4 x2 x3 x4 v38 (gLin.mk v36.fst.fK v40) v36.snd.fst v36.snd.snd.fst
 else none
 else
 F_ref14_sum_L4 x2 x3 x4 v38 v36.fst v36.snd.fst v36.snd.snd.fst
 else
 some (v0.fst, v0.snd.fst)
  partial_fixpoint
theorem P_ref14_sum_L4 (x2 : Int) (x3 : gLin) (x4 : gLin) (x6 : gLin) (x9 : Bool) (x10 : gLin) (x11 : Int) (x12 : Int) (o : (Bool × gLin)) (h : F_ref14_sum_L4 x2 x3 x4 x9 x10 x11 x12 = some o) : LO 104 4 138 [2, 3, 4, 6, 9, 10, 11, 12] [.int .i64 x2, .ptr 0 0 0, .ptr 1 0 0, .ptr 2 0 0, .bool x9, .ptr 3 0 0, .int .i64 x11, .int .i64 x12] [.cells 0 (egLin x3).cells, .cells 0 (egLin x4).cells, .cells 0 (egLin x6).cells, .cells 0 [.int .i64 x10.fK, .ow 4 0 2 (List.length x10.fL)], .own 0 2 (List.map egMono x10.fL)] [6, 9, 10] (A_ref14_sum_L4 (x2, x3, x4) x6 o) :=
  F_ref14_sum_L4.partial_correctness x2 x3 x4 (fun x9 x10 x11 x12 o => ∀ (x6 : gLin), LO 104 4 138 [2, 3, 4, 6, 9, 10, 11, 12] [.int .i64 x2, .ptr 0 0 0, .ptr 1 0 0, .ptr 2 0 0, .bool x9, .ptr 3 0 0, .int .i64 x11, .int .i64 x12] [.cells 0 (egLin x3).cells, .cells 0 (egLin x4).cells, .cells 0 (egLin x6).cells, .cells 0 [.int .i64 x10.fK, .ow 4 0 2 (List.length x10.fL)], .own 0 2 (List.map egMono x10.fL)] [6, 9, 10] (A_ref14_sum_L4 (x2, x3, x4) x6 o))
  (fun F_ref14_sum_L4 ih_ref14_sum_L4 x9 x10 x11 x12 o h x6 =>
  Lp1 (hs := [(32, .n eI 32 none), (33, .split), (38, .n eI 38 none), (39, .split), (44, .n eI 44 none), (45, .split), (50, .n eI 50 none), (51, .split), (56, .e egMono), (62, .e egMono), (65, .split), (71, .e egMono), (77, .e egMono), (83, .e egMono), (89, .n eI 89 none), (90, .split), (95, .e egMono), (99, .split), (104, .e egMono), (110, .split), (117, .c eT_I_B), (120, .split), (125, .split), (130, .n egMono 130 none), (132, .z [{ slot := 127, own := 2 }] (some (.n egMono 132 (some .a)))), (5000004, .l [] [] [] [2, 3, 4, 6, 9, 10, 11, 12, 40] [{ slot := 3 }, { slot := 4 }, { slot := 6 }, { slot := 10 }, { slot := 10, path := [1], own := 2 }] (A_ref14_sum_J5000004 (x2, x3, x4, x6))), (5000006, .l [] [] [] [2, 3, 4, 6, 9, 10, 11, 12, 13, 14, 67] [{ slot := 3 }, { slot := 4 }, { slot := 6 }, { slot := 10 }, { slot := 10, path := [1], own := 2 }] (A_ref14_sum_J5000006 (x2, x3, x4, x6))), (6000008, .l [] [] [] [2, 3, 4, 6, 9, 10, 11, 12, 13, 14, 15] [{ slot := 3 }, { slot := 4 }, { slot := 6 }, { slot := 10 }, { slot := 10, path := [1], own := 2 }] (A_ref14_sum_J6000008 (x2, x3, x4, x6))), (5000010, .l [] [] [] [2, 3, 4, 6, 9, 10, 11, 12, 13, 14, 15, 100] [{ slot := 3 }, { slot := 4 }, { slot := 6 }, { slot := 10 }, { slot := 10, path := [1], own := 2 }] (A_ref14_sum_J5000010 (x2, x3, x4, x6))), (6000012, .l [] [] [] [2, 3, 4, 6, 9, 10, 11, 12, 13, 14, 15] [{ slot := 3 }, { slot := 4 }, { slot := 6 }, { slot := 10 }, { slot := 10, path := [1], own := 2 }] (A_ref14_sum_J6000012 (x2, x3, x4, x6))), (6000015, .l [] [] [] [2, 3, 4, 6, 9, 10, 11, 12, 13, 14, 15] [{ slot := 3 }, { slot := 4 }, { slot := 6 }, { slot := 10 }, { slot := 10, path := [1], own := 2 }] (A_ref14_sum_J6000015 (x2, x3, x4, x6))), (5000016, .l [] [] [] [2, 3, 4, 6, 9, 10, 11, 12, 15, 16] [{ slot := 3 }, { slot := 4 }, { slot := 6 }, { slot := 10 }, { slot := 10, path := [1], own := 2 }] (A_ref14_sum_J5000016 (x2, x3, x4, x6)))]) (kb := [{ slot := 3 }, { slot := 4 }, { slot := 6 }, { slot := 10 }, { slot := 10, path := [1], own := 2 }]) (kbx := [{ slot := 6 }, { slot := 10 }, { slot := 10, path := [1], own := 2 }]) (by kernel_rfl) (by kernel_rfl) ((kJb (id := 5000004) (x9, x10, x11, x12) (fun v0 ev0 v1 => (kN _ (mLen (sh := egMono) x3.fL) fun v2 => (kIfD (p := x11 < v2) (kXj (alts := A_ref14_sum_J5000004 (x2, x3, x4, x6)) ev0 true (.here () rfl (.refl _) (.refl _)))
 (kN _ (mLen (sh := egMono) x4.fL) fun v3 => (kIfD (p := x12 < v3) (kXj (alts := A_ref14_sum_J5000004 (x2, x3, x4, x6)) ev0 true (.here () rfl (.refl _) (.refl _)))
 (kXj (alts := A_ref14_sum_J5000004 (x2, x3, x4, x6)) ev0 false (.next (.here () rfl (.refl _) (.refl _)))))))))
 (fun v0 => (kJ1 (id := 6000008) (v0.fst, v0.snd.fst, v0.snd.snd.fst, v0.snd.snd.snd, ((0 : Int))) (fun v5 ev5 v6 => (kJbE (id := 5000006) (v0.fst, v0.snd.fst, v0.snd.snd.fst, v0.snd.snd.snd, (0 : Int), (0 : Int)) (fun v7 ev7 v8 => (kIf (c := v0.snd.snd.snd == (↑(List.map egMono x4.fL).length : Int)) (kN _ (mLen (sh := egMono) x4.fL) fun v9 => (kXj (alts := A_ref14_sum_J5000006 (x2, x3, x4, x6)) ev7 true (.here () rfl (.refl _) (.refl _))))
 (kIfD (p := v0.snd.snd.fst < (↑(List.map egMono x3.fL).length : Int)) (kIx (enc := egMono) (l := x3.fL) (k := v0.snd.snd.fst) fun v10 => (kIx (enc := egMono) (l := x4.fL) (k := v0.snd.snd.snd) fun v11 => (kN _ (mLen (sh := egMono) x4.fL) fun v12 => (kN _ (mLen (sh := egMono) x3.fL) fun v13 => (kIf (c := Op.bytesLess v10.fName v11.fName || v10.fName == v11.fName) (kXj (alts := A_ref14_sum_J5000006 (x2, x3, x4, x6)) ev7 true (.here () rfl (.refl _) (.refl _)))
 (kXj (alts := A_ref14_sum_J5000006 (x2, x3, x4, x6)) ev7 false (.next (.here () rfl (.refl _) (.refl _)))))))))
 (kN _ (mLen (sh := egMono) x4.fL) fun v14 => (kN _ (mLen (sh := egMono) x3.fL) fun v15 => (kXj (alts := A_ref14_sum_J5000006 (x2, x3, x4, x6)) ev7 false (.next (.here () rfl (.refl _) (.refl _)))))))))
 (fun v7 ev7 => (kIx (enc := egMono) (l := x3.fL) (k := v7.snd.snd.fst) fun v17 => (kIx (enc := egMono) (l := x3.fL) (k := v7.snd.snd.fst) fun v18 => (kXj (alts := A_ref14_sum_J6000008 (x2, x3, x4, x6)) (u0 := (v7.fst, v7.snd.fst, v7.snd.snd.fst, v7.snd.snd.snd.fst, v7.snd.snd.snd.snd.snd)) (by subst ev7; exact ev5) (v18.fBy, v17.fName) (.here _ rfl (.refl _) (.refl _))))))
 (fun v7 ev7 => (kIx (enc := egMono) (l := x4.fL) (k := v7.snd.snd.snd.fst) fun v20 => (kXj (alts := A_ref14_sum_J6000008 (x2, x3, x4, x6)) (u0 := (v7.fst, v7.snd.fst, v7.snd.snd.fst, v7.snd.snd.snd.fst, v7.snd.snd.snd.snd.snd)) (by subst ev7; exact ev5) (v7.snd.snd.snd.snd.fst, v20.fName) (.here _ rfl (.refl _) (.refl _)))))))
 (fun v5 v21 => (kJ1 (id := 6000012) (v5.fst, v5.snd.fst, v5.snd.snd.fst, v21.fst, v21.snd) (fun v22 ev22 v23 => (kJbE (id := 5000010) (v5.fst, v5.snd.fst, v5.snd.snd.fst, v5.snd.snd.snd.fst, v21.fst, v5.snd.snd.snd.snd, v21.snd) (fun v24 ev24 v25 => (kN _ (mLen (sh := egMono) x4.fL) fun v26 => (kIfD (p := v5.snd.snd.snd.fst < v26) (kIx (enc := egMono) (l := x4.fL) (k := v5.snd.snd.snd.fst) fun v27 => (kIf (c := v27.fName == v21.snd) (kXj (alts := A_ref14_sum_J5000010 (x2, x3, x4, x6)) ev24 true (.here () rfl (.refl _) (.refl _)))
 (kXj (alts := A_ref14_sum_J5000010 (x2, x3, x4, x6)) ev24 false (.next (.here () rfl (.refl _) (.refl _))))))
 (kXj (alts := A_ref14_sum_J5000010 (x2, x3, x4, x6)) ev24 false (.next (.here () rfl (.refl _) (.refl _)))))))
 (fun v24 ev24 => (kIx (enc := egMono) (l := x4.fL) (k := v24.snd.snd.snd.fst) fun v29 => (kXj (alts := A_ref14_sum_J6000012 (x2, x3, x4, x6)) (u0 := (v24.fst, v24.snd.fst, v24.snd.snd.fst, v24.snd.snd.snd.snd.fst, v24.snd.snd.snd.snd.snd.snd)) (by subst ev24; exact ev22) ((IntKind.i64.wrap (v24.snd.snd.snd.fst + (1 : Int))), v29.fBy) (.here _ rfl (.refl _) (.refl _)))))
 (fun v24 ev24 => (kXj (alts := A_ref14_sum_J6000012 (x2, x3, x4, x6)) (u0 := (v24.fst, v24.snd.fst, v24.snd.snd.fst, v24.snd.snd.snd.snd.fst, v24.snd.snd.snd.snd.snd.snd)) (by subst ev24; exact ev22) (v24.snd.snd.snd.fst, v24.snd.snd.snd.snd.snd.fst) (.here _ rfl (.refl _) (.refl _))))))
 (fun v22 v31 => (kJ1 (id := 6000015) (v22.fst, v22.snd.fst, v31.fst, v22.snd.snd.snd.fst, v31.snd, v22.snd.snd.snd.snd) (fun v32 ev32 v33 => (kIf (c := v22.snd.snd.snd.fst != (0 : Int)) (kXj (alts := A_ref14_sum_J6000015 (x2, x3, x4, x6)) ev32 (IntKind.i64.wrap (v22.snd.snd.fst + (1 : Int))) (.here _ rfl (.refl _) (.refl _)))
 (kXj (alts := A_ref14_sum_J6000015 (x2, x3, x4, x6)) ev32 v22.snd.snd.fst (.here _ rfl (.refl _) (.refl _)))))
 (fun v32 v34 => (kC (sh := eT_I_B) (P_ref14_both v32.snd.snd.snd.fst v32.snd.snd.snd.snd.fst x2) fun v35 => (kJ1 (id := 5000016) (v32.snd.fst, v34, v32.snd.snd.fst, v32.snd.snd.snd.snd.snd, v35.fst) (fun v36 ev36 v37 => (kIf (c := v32.fst) (kXj (alts := A_ref14_sum_J5000016 (x2, x3, x4, x6)) ev36 v35.snd (.here _ rfl (.refl _) (.refl _)))
 (kXj (alts := A_ref14_sum_J5000016 (x2, x3, x4, x6)) ev36 false (.here _ rfl (.refl _) (.refl _)))))
 (fun v36 v38 => (kIf (c := v36.snd.snd.snd.snd != (0 : Int)) (kW (sh := egMono) (gMono.mk v36.snd.snd.snd.fst v36.snd.snd.snd.snd) (LeV.refl _) fun v39 => (kA (q := (v36.fst.fL.length + (1 : Nat)) * (24 : Nat) ≤ (140737488355328 : Nat) ∧ v36.fst.fL.length + (1 : Nat) ≤ (9223372036854775807 : Nat)) (sh := egMono) (l := v36.fst.fL) (kO (sh := egMono) (v36.fst.fL ++ [v39]) (mA (sh := egMono) v36.fst.fL v39) (nA v36.fst.fL v39) fun v40 => (kM0 (alts := A_ref14_sum_L4 (x2, x3, x4) x6) (fun y hy => ih_ref14_sum_L4 v38 (gLin.mk v36.fst.fK v40) v36.snd.fst v36.snd.snd.fst y hy x6)))))
 (kM0 (alts := A_ref14_sum_L4 (x2, x3, x4) x6) (fun y hy => ih_ref14_sum_L4 v38 v36.fst v36.snd.fst v36.snd.snd.fst y hy x6)))))))))))))
 (fun v0 => (kX (alts := A_ref14_sum_L4 (x2, x3, x4) x6) (v0.fst, v0.snd.fst) (.here _ rfl (.refl _) (.refl _))))) h)) x9 x10 x11 x12 o h x6
noncomputable def F_ref14_sum (x0 : gLin) (x1 : gLin) (x2 : Int) : Option (gLin × Int) :=
 F_ref14_both x0.fK x1.fK x2 >>= fun v0 =>
 some (gLin.mk (0 : Int) []) >>= fun v1 =>
 F_ref14_sum_L4 x2 x0 x1 v0.snd (gLin.mk v0.fst []) (0 : Int) (0 : Int) >>= fun v3 =>
 if v3.fst then
 some (v3.snd, (0 : Int))
 else
 some ((gLin.mk (0 : Int) [])) >>= fun v4 =>
 some (v4, (3 : Int))
theorem P_ref14_sum (x0 : gLin) (x1 : gLin) (x2 : Int) (r : (gLin × Int)) (h : F_ref14_sum x0 x1 x2 = some r) : PU 104 [egLin x0, egLin x1, eI x2] (eT_gLin_I r) :=
  Pu1 (hs := [(24, .c eT_I_B), (134, .split), (136, .n egLin 136 none), (3000005, .l [] [2, 3, 4, 6, 9, 10, 11, 12] [{ slot := 3 }, { slot := 4 }, { slot := 6 }, { slot := 10 }, { slot := 10, path := [1], own := 2 }] [6, 9, 10] [{ slot := 6 }, { slot := 10 }, { slot := 10, path := [1], own := 2 }] (A_ref14_sum_L4 (x2, x0, x1)))]) (by kernel_rfl) ((kC (sh := eT_I_B) (P_ref14_both x0.fK x1.fK x2) fun v0 => (kL1 (gLin.mk (0 : Int) []) (fun y hy => LoopOk.le (.cons (LeV.refl (AV.int IntKind.i64 x2)) (.cons (LeV.refl (AV.ptr (0 : Nat) (0 : Nat) (0 : Nat))) (.cons (LeV.refl (AV.ptr (1 : Nat) (0 : Nat) (0 : Nat))) (.cons (LeV.refl (AV.ptr (2 : Nat) (0 : Nat) (0 : Nat))) (.cons (LeV.refl (AV.bool v0.snd)) (.cons (LeV.refl (AV.ptr (3 : Nat) (0 : Nat) (0 : Nat))) (.cons (LeV.refl (AV.int IntKind.i64 (0 : Int))) (.cons (LeV.refl (AV.int IntKind.i64 (0 : Int))) .nil)))))))) (.cons (LeB.refl (Box.cells (0 : Nat) [AV.int IntKind.i64 x0.fK, AV.sl (2 : Nat) (List.map egMono x0.fL)])) (.cons (LeB.refl (Box.cells (0 : Nat) [AV.int IntKind.i64 x1.fK, AV.sl (2 : Nat) (List.map egMono x1.fL)])) (.cons (LeB.cells (0 : Nat) (.cons (LeV.refl (AV.int IntKind.i64 (0 : Int))) (.cons (LeV.nil 2) .nil))) (.cons (LeB.refl (Box.cells (0 : Nat) [AV.int IntKind.i64 v0.fst, AV.ow (4 : Nat) (0 : Nat) (2 : Nat) (0 : Nat)])) (.cons (LeB.refl (Box.own (0 : Nat) (2 : Nat) [])) .nil))))) (P_ref14_sum_L4 x2 x0 x1 (gLin.mk (0 : Int) []) v0.snd (gLin.mk v0.fst []) (0 : Int) (0 : Int) y hy)) fun v1 v3 => (kIf (c := v3.fst) (kT (nM (sh := egMono) v3.snd.fL) (kEr (enc := eT_gLin_I) (v3.snd, (0 : Int))))
 (kW (sh := egLin) (gLin.mk (0 : Int) []) (LeV.agg (.cons (LeV.refl (AV.int IntKind.i64 (0 : Int))) (.cons (LeV.nil 2) .nil))) fun v4 => (kEr (enc := eT_gLin_I) (v4, (3 : Int))))))) h)
def A_ref14_LinSubstitute_L6 (s : (Str × gLin × gLin)) (u : gLin) (o : (Int × gLin)) : List Alt := [⟨fun (x : (Int × gLin)) => x = o, .exit 0, fun x => [.ptr 0 0 0, .ptr 1 0 0, .ptr 2 0 0, .int .i64 x.1, .ptr 3 0 0], fun x => [.cells 0 (egLin s.2.1).cells, .cells 0 (egLin s.2.2).cells, .cells 0 (egLin u).cells, .cells 0 [.int .i64 x.2.fK, .ow 4 0 2 (List.length x.2.fL)], .own 0 2 (List.map egMono x.2.fL)]⟩]
def A_ref14_LinSubstitute_J7000001 (s : (Str × gLin × gLin × gLin)) (u : Int) (o : (Int × gLin)) : List Alt := [⟨fun (x : (Int × gLin)) => x = o, .normal, fun x => [.str (s.1), .ptr 0 0 0, .ptr 1 0 0, .ptr 2 0 0, .int .i64 (x.1), .ptr 3 0 0, .int .i64 u], fun x => [.cells 0 (egLin (s.2.1)).cells, .cells 0 (egLin (s.2.2.1)).cells, .cells 0 (egLin (s.2.2.2)).cells, .cells 0 [.int .i64 (x.2).fK, .ow 4 0 2 (List.length ((x.2).fL))], .own 0 2 (List.map egMono (x.2).fL)]⟩]
noncomputable def F_ref14_LinSubstitute_L6 (x1 : Str) (x3 : gLin) (x8 : Int) (x9 : gLin) (x10 : Int) : Option (Int × gLin) :=
 some (List.length x3.fL : Int) >>= fun v0 =>
 if x10 < v0 then
 some x10 >>= fun v1 =>
 (ix x3.fL x10 >>= fun v3 =>
 if v3.fName == x1 then
 ix x3.fL x10 >>= fun v4 =>
 some (v4.fBy, x9)
 else
 ix x3.fL x10 >>= fun v5 =>
 if (x9.fL.length + (1 : Nat)) * (24 : Nat) ≤ (140737488355328 : Nat) ∧ x9.fL.length + (1 : Nat) ≤ (9223372036854775807 : Nat) then
 some (x9.fL ++ [v5]) >>= fun v6 =>
 some (x8, (gLin.mk x9.fK v6))
 else none) >>= fun v7 =>
 F_ref14_LinSubstitute_L6 x1 x3 v7.fst v7.snd (IntKind.i64.wrap (v1 + (1 : Int)))
 else
 some (x8, x9)
  partial_fixpoint
theorem P_ref14_LinSubstitute_L6 (x1 : Str) (x3 : gLin) (x5 : gLin) (x6 : gLin) (x8 : Int) (x9 : gLin) (x10 : Int) (o : (Int × gLin)) (h : F_ref14_LinSubstitute_L6 x1 x3 x8 x9 x10 = some o) : LO 77 6 73 [1, 3, 5, 6, 8, 9, 10] [.str x1, .ptr 0 0 0, .ptr 1 0 0, .ptr 2 0 0, .int .i64 x8, .ptr 3 0 0, .int .i64 x10] [.cells 0 (egLin x3).cells, .cells 0 (egLin x5).cells, .cells 0 (egLin x6).cells, .cells 0 [.int .i64 x9.fK, .ow 4 0 2 (List.length x9.fL)], .own 0 2 (List.map egMono x9.fL)] [3, 5, 6, 8, 9] (A_ref14_LinSubstitute_L6 (x1, x3, x5) x6 o) :=
  F_ref14_LinSubstitute_L6.partial_correctness x1 x3 (fun x8 x9 x10 o => ∀ (x5 : gLin) (x6 : gLin), LO 77 6 73 [1, 3, 5, 6, 8, 9, 10] [.str x1, .ptr 0 0 0, .ptr 1 0 0, .ptr 2 0 0, .int .i64 x8, .ptr 3 0 0, .int .i64 x10] [.cells 0 (egLin x3).cells, .cells 0 (egLin x5).cells, .cells 0 (egLin x6).cells, .cells 0 [.int .i64 x9.fK, .ow 4 0 2 (List.length x9.fL)], .own 0 2 (List.map egMono x9.fL)] [3, 5, 6, 8, 9] (A_ref14_LinSubstitute_L6 (x1, x3, x5) x6 o))
  (fun F_ref14_LinSubstitute_L6 ih_ref14_LinSubstitute_L6 x8 x9 x10 o h x5 x6 =>
  Lp1 (hs := [(31, .n eI 31 none), (32, .split), (38, .e egMono), (42, .split), (46, .e egMono), (54, .e egMono), (57, .z [{ slot := 50, own := 2 }] (some (.n egMono 57 (some .a)))), (7000001, .l [] [] [] [1, 3, 5, 6, 8, 9, 10] [{ slot := 3 }, { slot := 5 }, { slot := 6 }, { slot := 9 }, { slot := 9, path := [1], own := 2 }] (A_ref14_LinSubstitute_J7000001 (x1, x3, x5, x6)))]) (kb := [{ slot := 3 }, { slot := 5 }, { slot := 6 }, { slot := 9 }, { slot := 9, path := [1], own := 2 }]) (kbx := [{ slot := 3 }, { slot := 5 }, { slot := 6 }, { slot := 9 }, { slot := 9, path := [1], own := 2 }]) (by kernel_rfl) (by kernel_rfl) ((kN _ (mLen (sh := egMono) x3.fL) fun v0 => (kIfD (p := x10 < v0) (kJ1 (id := 7000001) x10 (fun v1 ev1 v2 => (kIx (enc := egMono) (l := x3.fL) (k := x10) fun v3 => (kIf (c := v3.fName == x1) (kIx (enc := egMono) (l := x3.fL) (k := x10) fun v4 => (kXj (alts := A_ref14_LinSubstitute_J7000001 (x1, x3, x5, x6)) ev1 (v4.fBy, x9) (.here _ rfl (.refl _) (.refl _))))
 (kIx (enc := egMono) (l := x3.fL) (k := x10) fun v5 => (kA (q := (x9.fL.length + (1 : Nat)) * (24 : Nat) ≤ (140737488355328 : Nat) ∧ x9.fL.length + (1 : Nat) ≤ (9223372036854775807 : Nat)) (sh := egMono) (l := x9.fL) (kO (sh := egMono) (x9.fL ++ [v5]) (mA (sh := egMono) x9.fL v5) (nA x9.fL v5) fun v6 => (kXj (alts := A_ref14_LinSubstitute_J7000001 (x1, x3, x5, x6)) ev1 (x8, (gLin.mk x9.fK v6)) (.here _ rfl (.refl _) (.refl _)))))))))
 (fun v1 v7 => (kM0 (alts := A_ref14_LinSubstitute_L6 (x1, x3, x5) x6) (fun y hy => ih_ref14_LinSubstitute_L6 v7.fst v7.snd (IntKind.i64.wrap (v1 + (1 : Int))) y hy x5 x6))))
 (kX (alts := A_ref14_LinSubstitute_L6 (x1, x3, x5) x6) (x8, x9) (.here _ rfl (.refl _) (.refl _))))) h)) x8 x9 x10 o h x5 x6
def A_ref14_LinSubstitute_J5000001 (s : (Str × gLin × gLin)) (u : gLin) (o : Bool) : List Alt := [⟨fun (x : Unit) => true = o, .normal, fun x => [.str (s.1), .ptr 0 0 0, .ptr 1 0 0, .ptr 2 0 0, .bool true], fun x => [.cells 0 (egLin (s.2.1)).cells, .cells 0 (egLin (s.2.2)).cells, .cells 0 (egLin u).cells]⟩, ⟨fun (x : Unit) => false = o, .normal, fun x => [.str (s.1), .ptr 0 0 0, .ptr 1 0 0, .ptr 2 0 0, .bool false], fun x => [.cells 0 (egLin (s.2.1)).cells, .cells 0 (egLin (s.2.2)).cells, .cells 0 (egLin u).cells]⟩]
noncomputable def F_ref14_LinSubstitute (x0 : gLin) (x1 : Str) (x2 : gLin) : Option (gLin × Int) :=
 some (gLin.mk (0 : Int) []) >>= fun v0 =>
 (F_base_LinRight x0 >>= fun v2 => if v2 then
 F_base_LinRight x2 >>= fun v3 => if v3 then
 F_base_Name x1 >>= fun v4 => if v4 then
 some false
 else
 some true
 else
 some true
 else
 some true) >>= fun v1 => if v1 then
 some ((gLin.mk (0 : Int) [])) >>= fun v6 =>
 some (v6, (1 : Int))
 else
 some v0 >>= fun v8 =>
 F_ref14_LinSubstitute_L6 x1 x0 (0 : Int) (gLin.mk x0.fK []) (0 : Int) >>= fun v10 =>
 if v10.fst == (0 : Int) then
 some (x0, (0 : Int))
 else
 F_ref14_scales x2 v10.fst >>= fun v11 => if v11 then
 F_ref14_sum v10.snd x2 v10.fst >>= fun v12 =>
 some (v12.fst, v12.snd)
 else
 some ((gLin.mk (0 : Int) [])) >>= fun v13 =>
 some (v13, (3 : Int))
theorem P_ref14_LinSubstitute (x0 : gLin) (x1 : Str) (x2 : gLin) (r : (gLin × Int)) (h : F_ref14_LinSubstitute x0 x1 x2 = some r) : PU 77 [egLin x0, eS x1, egLin x2] (eT_gLin_I r) :=
  Pu1 (hs := [(12, .cb), (16, .cb), (21, .cb), (24, .n egLin 24 none), (60, .split), (64, .cb), (66, .n egLin 66 none), (70, .z [{ slot := 67, path := [1], fz := true }] (some (.c eT_gLin_I))), (3000007, .l [] [1, 3, 5, 6, 8, 9, 10] [{ slot := 3 }, { slot := 5 }, { slot := 6 }, { slot := 9 }, { slot := 9, path := [1], own := 2 }] [3, 5, 6, 8, 9] [{ slot := 3 }, { slot := 5 }, { slot := 6 }, { slot := 9 }, { slot := 9, path := [1], own := 2 }] (A_ref14_LinSubstitute_L6 (x1, x0, x2))), (5000001, .l [] [] [] [1, 3, 5, 6, 23] [{ slot := 3 }, { slot := 5 }, { slot := 6 }] (A_ref14_LinSubstitute_J5000001 (x1, x0, x2)))]) (by kernel_rfl) ((kJb (id := 5000001) (gLin.mk (0 : Int) []) (fun v0 ev0 v1 => (kCb (P_base_LinRight x0) (kCb (P_base_LinRight x2) (kCb (P_base_Name x1) (kXj (alts := A_ref14_LinSubstitute_J5000001 (x1, x0, x2)) ev0 false (.next (.here () rfl (.cons (LeV.refl (AV.str x1)) (.cons (LeV.refl (AV.ptr (0 : Nat) (0 : Nat) (0 : Nat))) (.cons (LeV.refl (AV.ptr (1 : Nat) (0 : Nat) (0 : Nat))) (.cons (LeV.refl (AV.ptr (2 : Nat) (0 : Nat) (0 : Nat))) (.cons (LeV.refl (AV.bool false)) .nil))))) (.cons (LeB.refl (Box.cells (0 : Nat) [AV.int IntKind.i64 x0.fK, AV.sl (2 : Nat) (List.map egMono x0.fL)])) (.cons (LeB.refl (Box.cells (0 : Nat) [AV.int IntKind.i64 x2.fK, AV.sl (2 : Nat) (List.map egMono x2.fL)])) (.cons (LeB.cells (0 : Nat) (.cons (LeV.refl (AV.int IntKind.i64 (0 : Int))) (.cons (LeV.nil 2) .nil))) .nil))))))
 (kXj (alts := A_ref14_LinSubstitute_J5000001 (x1, x0, x2)) ev0 true (.here () rfl (.cons (LeV.refl (AV.str x1)) (.cons (LeV.refl (AV.ptr (0 : Nat) (0 : Nat) (0 : Nat))) (.cons (LeV.refl (AV.ptr (1 : Nat) (0 : Nat) (0 : Nat))) (.cons (LeV.refl (AV.ptr (2 : Nat) (0 : Nat) (0 : Nat))) (.cons (LeV.refl (AV.bool true)) .nil))))) (.cons (LeB.refl (Box.cells (0 : Nat) [AV.int IntKind.i64 x0.fK, AV.sl (2 : Nat) (List.map egMono x0.fL)])) (.cons (LeB.refl (Box.cells (0 : Nat) [AV.int IntKind.i64 x2.fK, AV.sl (2 : Nat) (List.map egMono x2.fL)])) (.cons (LeB.cells (0 : Nat) (.cons (LeV.refl (AV.int IntKind.i64 (0 : Int))) (.cons (LeV.nil 2) .nil))) .nil))))))
 (kXj (alts := A_ref14_LinSubstitute_J5000001 (x1, x0, x2)) ev0 true (.here () rfl (.cons (LeV.refl (AV.str x1)) (.cons (LeV.refl (AV.ptr (0 : Nat) (0 : Nat) (0 : Nat))) (.cons (LeV.refl (AV.ptr (1 : Nat) (0 : Nat) (0 : Nat))) (.cons (LeV.refl (AV.ptr (2 : Nat) (0 : Nat) (0 : Nat))) (.cons (LeV.refl (AV.bool true)) .nil))))) (.cons (LeB.refl (Box.cells (0 : Nat) [AV.int IntKind.i64 x0.fK, AV.sl (2 : Nat) (List.map egMono x0.fL)])) (.cons (LeB.refl (Box.cells (0 : Nat) [AV.int IntKind.i64 x2.fK, AV.sl (2 : Nat) (List.map egMono x2.fL)])) (.cons (LeB.cells (0 : Nat) (.cons (LeV.refl (AV.int IntKind.i64 (0 : Int))) (.cons (LeV.nil 2) .nil))) .nil))))))
 (kXj (alts := A_ref14_LinSubstitute_J5000001 (x1, x0, x2)) ev0 true (.here () rfl (.cons (LeV.refl (AV.str x1)) (.cons (LeV.refl (AV.ptr (0 : Nat) (0 : Nat) (0 : Nat))) (.cons (LeV.refl (AV.ptr (1 : Nat) (0 : Nat) (0 : Nat))) (.cons (LeV.refl (AV.ptr (2 : Nat) (0 : Nat) (0 : Nat))) (.cons (LeV.refl (AV.bool true)) .nil))))) (.cons (LeB.refl (Box.cells (0 : Nat) [AV.int IntKind.i64 x0.fK, AV.sl (2 : Nat) (List.map egMono x0.fL)])) (.cons (LeB.refl (Box.cells (0 : Nat) [AV.int IntKind.i64 x2.fK, AV.sl (2 : Nat) (List.map egMono x2.fL)])) (.cons (LeB.cells (0 : Nat) (.cons (LeV.refl (AV.int IntKind.i64 (0 : Int))) (.cons (LeV.nil 2) .nil))) .nil)))))))
 (fun v0 => (kW (sh := egLin) (gLin.mk (0 : Int) []) (LeV.agg (.cons (LeV.refl (AV.int IntKind.i64 (0 : Int))) (.cons (LeV.nil 2) .nil))) fun v6 => (kEr (enc := eT_gLin_I) (v6, (1 : Int)))))
 (fun v0 => (kL1 v0 (P_ref14_LinSubstitute_L6 x1 x0 x2 v0 (0 : Int) (gLin.mk x0.fK []) (0 : Int)) fun v8 v10 => (kIf (c := v10.fst == (0 : Int)) (kEr (enc := eT_gLin_I) (x0, (0 : Int)))
 (kCb (P_ref14_scales x2 v10.fst) (kT (nM (sh := egMono) v10.snd.fL) (kC (sh := eT_gLin_I) (P_ref14_sum v10.snd x2 v10.fst) fun v12 => (kEr (enc := eT_gLin_I) (v12.fst, v12.snd))))
 (kW (sh := egLin) (gLin.mk (0 : Int) []) (LeV.agg (.cons (LeV.refl (AV.int IntKind.i64 (0 : Int))) (.cons (LeV.nil 2) .nil))) fun v13 => (kEr (enc := eT_gLin_I) (v13, (3 : Int))))))))) h)
def A_ref14_indexSubstitute_L6 (s : (Str × gIndex × gLin)) (u : Unit) (o : (gIndex × gIndex) ⊕ (gIndex × Int × gIndex)) : List Alt := [⟨fun (x : (gIndex × gIndex)) => (Sum.inl x : (gIndex × gIndex) ⊕ (gIndex × Int × gIndex)) = o, .exit 0, fun x => [.ptr 0 0 0, .undef, .ptr 1 0 0], fun x => [.cells 0 (egIndex x.1).cells, .cells 0 [.int .i64 x.2.fLin.fK, .sl 2 (List.map egMono x.2.fLin.fL), .str x.2.fFrom, .ow 2 0 2 (List.length x.2.fAt)], .own 0 2 (List.map egLin x.2.fAt)]⟩, ⟨fun (x : (gIndex × Int × gIndex)) => (Sum.inr x : (gIndex × gIndex) ⊕ (gIndex × Int × gIndex)) = o, .ret, fun x => [.ptr 0 0 0, .int .i64 x.2.1, .ptr 1 0 0], fun x => [.cells 0 (egIndex x.1).cells, .cells 0 [.int .i64 x.2.2.fLin.fK, .sl 2 (List.map egMono x.2.2.fLin.fL), .str x.2.2.fFrom, .ow 2 0 2 (List.length x.2.2.fAt)], .own 0 2 (List.map egLin x.2.2.fAt)]⟩]
noncomputable def F_ref14_indexSubstitute_L6 (x1 : Str) (x3 : gIndex) (x5 : gLin) (x6 : gIndex) (x10 : gIndex) (x11 : Int) : Option ((gIndex × gIndex) ⊕ (gIndex × Int × gIndex)) :=
 some (List.length x3.fAt : Int) >>= fun v0 =>
 if x11 < v0 then
 ix x3.fAt x11 >>= fun v1 =>
 F_ref14_LinSubstitute v1 x1 x5 >>= fun v2 =>
 if v2.snd != (0 : Int) then
 some ((gIndex.mk (gLin.mk (0 : Int) []) [] [])) >>= fun v3 =>
 some (.inr (v3, v2.snd, x10))
 else
 if (x10.fAt.length + (1 : Nat)) * (32 : Nat) ≤ (140737488355328 : Nat) ∧ x10.fAt.length + (1 : Nat) ≤ (9223372036854775807 : Nat) then
 some (x10.fAt ++ [v2.fst]) >>= fun v4 =>
 F_ref14_indexSubstitute_L6 x1 x3 x5 x6 (gIndex.mk x10.fLin x10.fFrom v4) (IntKind.i64.wrap (x11 + (1 : Int)))
 else none
 else
 some (.inl (x6, x10))
  partial_fixpoint
theorem P_ref14_indexSubstitute_L6 (x1 : Str) (x3 : gIndex) (x5 : gLin) (x6 : gIndex) (x10 : gIndex) (x11 : Int) (o : (gIndex × gIndex) ⊕ (gIndex × Int × gIndex)) (h : F_ref14_indexSubstitute_L6 x1 x3 x5 x6 x10 x11 = some o) : LO 78 6 59 [1, 3, 5, 6, 10, 11] [.str x1, .ptr 0 0 0, .ptr 1 0 0, .ptr 2 0 0, .ptr 3 0 0, .int .i64 x11] [.cells 0 (egIndex x3).cells, .cells 0 (egLin x5).cells, .cells 0 (egIndex x6).cells, .cells 0 [.int .i64 x10.fLin.fK, .sl 2 (List.map egMono x10.fLin.fL), .str x10.fFrom, .ow 4 0 2 (List.length x10.fAt)], .own 0 2 (List.map egLin x10.fAt)] [6, 7, 10] (A_ref14_indexSubstitute_L6 (x1, x3, x5) () o) :=
  F_ref14_indexSubstitute_L6.partial_correctness x1 x3 x5 x6 (fun x10 x11 o => LO 78 6 59 [1, 3, 5, 6, 10, 11] [.str x1, .ptr 0 0 0, .ptr 1 0 0, .ptr 2 0 0, .ptr 3 0 0, .int .i64 x11] [.cells 0 (egIndex x3).cells, .cells 0 (egLin x5).cells, .cells 0 (egIndex x6).cells, .cells 0 [.int .i64 x10.fLin.fK, .sl 2 (List.map egMono x10.fLin.fL), .str x10.fFrom, .ow 4 0 2 (List.length x10.fAt)], .own 0 2 (List.map egLin x10.fAt)] [6, 7, 10] (A_ref14_indexSubstitute_L6 (x1, x3, x5) () o))
  (fun F_ref14_indexSubstitute_L6 ih_ref14_indexSubstitute_L6 x10 x11 o h  =>
  Lp1 (hs := [(33, .n eI 33 none), (34, .split), (41, .e egLin), (45, .c eT_gLin_I), (49, .split), (50, .n egIndex 50 none), (56, .z [{ slot := 53, own := 2 }] (some (.n egLin 56 (some .a))))]) (kb := [{ slot := 3 }, { slot := 5 }, { slot := 6 }, { slot := 10 }, { slot := 10, path := [3], own := 2 }]) (kbx := [{ slot := 6 }, { slot := 10 }, { slot := 10, path := [3], own := 2 }]) (by kernel_rfl) (by kernel_rfl) ((kN _ (mLen (sh := egLin) x3.fAt) fun v0 => (kIfD (p := x11 < v0) (kIx (enc := egLin) (l := x3.fAt) (k := x11) fun v1 => (kC (sh := eT_gLin_I) (P_ref14_LinSubstitute v1 x1 x5) fun v2 => (kIf (c := v2.snd != (0 : Int)) (kW (sh := egIndex) (gIndex.mk (gLin.mk (0 : Int) []) [] []) (LeV.agg (.cons (LeV.refl (AV.int IntKind.i64 (0 : Int))) (.cons (LeV.nil 2) (.cons (LeV.refl (AV.str [])) (.cons (LeV.nil 2) .nil))))) fun v3 => (kX (alts := A_ref14_indexSubstitute_L6 (x1, x3, x5) ()) (.inr (v3, v2.snd, x10)) (.next (.here _ rfl (.refl _) (.refl _)))))
 (kA (q := (x10.fAt.length + (1 : Nat)) * (32 : Nat) ≤ (140737488355328 : Nat) ∧ x10.fAt.length + (1 : Nat) ≤ (9223372036854775807 : Nat)) (sh := egLin) (l := x10.fAt) (kO (sh := egLin) (x10.fAt ++ [v2.fst]) (mA (sh := egLin) x10.fAt v2.fst) (nA x10.fAt v2.fst) fun v4 => (kM0 (alts := A_ref14_indexSubstitute_L6 (x1, x3, x5) ()) (ih_ref14_indexSubstitute_L6 (gIndex.mk x10.fLin x10.fFrom v4) (IntKind.i64.wrap (x11 + (1 : Int))))))))))
 (kX (alts := A_ref14_indexSubstitute_L6 (x1, x3, x5) ()) (.inl (x6, x10)) (.here _ rfl (.refl _) (.refl _))))) h)) x10 x11 o h
noncomputable def F_ref14_indexSubstitute (x0 : gIndex) (x1 : Str) (x2 : gLin) : Option (gIndex × Int) :=
 F_ref14_LinSubstitute x0.fLin x1 x2 >>= fun v0 =>
 if v0.snd != (0 : Int) then
 some ((gIndex.mk (gLin.mk (0 : Int) []) [] [])) >>= fun v1 =>
 some (v1, v0.snd)
 else
 some () >>= fun v2 =>
 F_ref14_indexSubstitute_L6 x1 x0 x2 (gIndex.mk (gLin.mk (0 : Int) []) [] []) (gIndex.mk v0.fst x0.fFrom []) (0 : Int) >>= fun v3 => (match v3 with
 | (.inl v4) =>
 some (v4.snd, (0 : Int))
 | (.inr v5) =>
 some (v5.fst, v5.snd.fst))
theorem P_ref14_indexSubstitute (x0 : gIndex) (x1 : Str) (x2 : gLin) (r : (gIndex × Int)) (h : F_ref14_indexSubstitute x0 x1 x2 = some r) : PU 78 [egIndex x0, eS x1, egLin x2] (eT_gIndex_I r) :=
  Pu1 (hs := [(19, .c eT_gLin_I), (23, .split), (24, .n egIndex 24 none), (3000007, .l [] [1, 3, 5, 6, 10, 11] [{ slot := 3 }, { slot := 5 }, { slot := 6 }, { slot := 10 }, { slot := 10, path := [3], own := 2 }] [6, 7, 10] [{ slot := 6 }, { slot := 10 }, { slot := 10, path := [3], own := 2 }] (A_ref14_indexSubstitute_L6 (x1, x0, x2)))]) (by kernel_rfl) ((kC (sh := eT_gLin_I) (P_ref14_LinSubstitute x0.fLin x1 x2) fun v0 => (kIf (c := v0.snd != (0 : Int)) (kW (sh := egIndex) (gIndex.mk (gLin.mk (0 : Int) []) [] []) (LeV.agg (.cons (LeV.refl (AV.int IntKind.i64 (0 : Int))) (.cons (LeV.nil 2) (.cons (LeV.refl (AV.str [])) (.cons (LeV.nil 2) .nil))))) fun v1 => (kEr (enc := eT_gIndex_I) (v1, v0.snd)))
 (kL2 () (hL := (fun y hy => LoopOk.le (.cons (LeV.refl (AV.str x1)) (.cons (LeV.refl (AV.ptr (0 : Nat) (0 : Nat) (0 : Nat))) (.cons (LeV.refl (AV.ptr (1 : Nat) (0 : Nat) (0 : Nat))) (.cons (LeV.refl (AV.ptr (2 : Nat) (0 : Nat) (0 : Nat))) (.cons (LeV.refl (AV.ptr (3 : Nat) (0 : Nat) (0 : Nat))) (.cons (LeV.refl (AV.int IntKind.i64 (0 : Int))) .nil)))))) (.cons (LeB.refl (Box.cells (0 : Nat) [AV.int IntKind.i64 x0.fLin.fK, AV.sl (2 : Nat) (List.map egMono x0.fLin.fL), AV.str x0.fFrom, AV.sl (2 : Nat) (List.map egLin x0.fAt)])) (.cons (LeB.refl (Box.cells (0 : Nat) [AV.int IntKind.i64 x2.fK, AV.sl (2 : Nat) (List.map egMono x2.fL)])) (.cons (LeB.cells (0 : Nat) (.cons (LeV.refl (AV.int IntKind.i64 (0 : Int))) (.cons (LeV.nil 2) (.cons (LeV.refl (AV.str [])) (.cons (LeV.nil 2) .nil))))) (.cons (LeB.refl (Box.cells (0 : Nat) [AV.int IntKind.i64 v0.fst.fK, AV.sl (2 : Nat) (List.map egMono v0.fst.fL), AV.str x0.fFrom, AV.ow (4 : Nat) (0 : Nat) (2 : Nat) (0 : Nat)])) (.cons (LeB.refl (Box.own (0 : Nat) (2 : Nat) [])) .nil))))) (P_ref14_indexSubstitute_L6 x1 x0 x2 (gIndex.mk (gLin.mk (0 : Int) []) [] []) (gIndex.mk v0.fst x0.fFrom []) (0 : Int) y hy))) (hA := fun v2 v4 => (kT (nM (sh := egLin) v4.snd.fAt) (kEr (enc := eT_gIndex_I) (v4.snd, (0 : Int)))))
 (hB := fun v2 v5 => (kEr (enc := eT_gIndex_I) (v5.fst, v5.snd.fst)))))) h)
def A_ref14_Substitute_L7 (s : (Str × gExprS × gLin)) (u : Unit) (o : (gExprS × gExprS) ⊕ (gExprS × Int × gExprS)) : List Alt := [⟨fun (x : (gExprS × gExprS)) => (Sum.inl x : (gExprS × gExprS) ⊕ (gExprS × Int × gExprS)) = o, .exit 0, fun x => [.str s.1, .ptr 0 0 0, .ptr 1 0 0, .ptr 2 0 0, .undef, .ptr 3 0 0], fun x => [.cells 0 (hgExpr s.2.1).cells, .cells 0 (egLin s.2.2).cells, .cells 0 (hgExpr x.1).cells, .cells 0 [.int .i64 x.2.fOp, .str x.2.fName, .int .i64 x.2.fVal.fN, .int .i64 x.2.fVal.fD, .int .i64 x.2.fType.fKind, .int .i64 x.2.fType.fBits, .int .i64 x.2.fType.fFrac, .int .i64 x.2.fType.fRound, .int .i64 x.2.fType.fOver, .int .i64 x.2.fLin.fK, .sl 2 (List.map egMono x.2.fLin.fL), .ow 4 0 4 (List.length x.2.fIdx), .ow 5 0 13 (List.length x.2.fArgs)], .own 0 4 (List.map egIndex x.2.fIdx), .own 0 13 (List.map egExpr x.2.fArgs)]⟩, ⟨fun (x : (gExprS × Int × gExprS)) => (Sum.inr x : (gExprS × gExprS) ⊕ (gExprS × Int × gExprS)) = o, .ret, fun x => [.str s.1, .ptr 0 0 0, .ptr 1 0 0, .ptr 2 0 0, .int .i64 x.2.1, .ptr 3 0 0], fun x => [.cells 0 (hgExpr s.2.1).cells, .cells 0 (egLin s.2.2).cells, .cells 0 (hgExpr x.1).cells, .cells 0 [.int .i64 x.2.2.fOp, .str x.2.2.fName, .int .i64 x.2.2.fVal.fN, .int .i64 x.2.2.fVal.fD, .int .i64 x.2.2.fType.fKind, .int .i64 x.2.2.fType.fBits, .int .i64 x.2.2.fType.fFrac, .int .i64 x.2.2.fType.fRound, .int .i64 x.2.2.fType.fOver, .int .i64 x.2.2.fLin.fK, .sl 2 (List.map egMono x.2.2.fLin.fL), .ow 4 0 4 (List.length x.2.2.fIdx), .ow 5 0 13 (List.length x.2.2.fArgs)], .own 0 4 (List.map egIndex x.2.2.fIdx), .own 0 13 (List.map egExpr x.2.2.fArgs)]⟩]
noncomputable def F_ref14_Substitute_L7 (x1 : Str) (x3 : gExprS) (x5 : gLin) (x6 : gExprS) (x8 : gExprS) (x11 : Int) : Option ((gExprS × gExprS) ⊕ (gExprS × Int × gExprS)) :=
 some (List.length x3.fIdx : Int) >>= fun v0 =>
 if x11 < v0 then
 ix x3.fIdx x11 >>= fun v1 =>
 F_ref14_indexSubstitute v1 x1 x5 >>= fun v2 =>
 if v2.snd != (0 : Int) then
 some ((gExprF.mk (0 : Int) [] (gVal.mk (0 : Int) (0 : Int)) (gType.mk (0 : Int) (0 : Int) (0 : Int) (0 : Int) (0 : Int)) (gLin.mk (0 : Int) []) [] [] : gExprS)) >>= fun v3 =>
 some (.inr (v3, v2.snd, x8))
 else
 if (x8.fIdx.length + (1 : Nat)) * (72 : Nat) ≤ (140737488355328 : Nat) ∧ x8.fIdx.length + (1 : Nat) ≤ (9223372036854775807 : Nat) then
 some (x8.fIdx ++ [v2.fst]) >>= fun v4 =>
 F_ref14_Substitute_L7 x1 x3 x5 x6 (gExprF.mk x8.fOp x8.fName x8.fVal x8.fType x8.fLin v4 x8.fArgs : gExprS) (IntKind.i64.wrap (x11 + (1 : Int)))
 else none
 else
 some (.inl (x6, x8))
  partial_fixpoint
theorem P_ref14_Substitute_L7 (x1 : Str) (x3 : gExprS) (x5 : gLin) (x6 : gExprS) (x8 : gExprS) (x11 : Int) (o : (gExprS × gExprS) ⊕ (gExprS × Int × gExprS)) (h : F_ref14_Substitute_L7 x1 x3 x5 x6 x8 x11 = some o) : LO 48 7 97 [1, 3, 5, 6, 8, 11] [.str x1, .ptr 0 0 0, .ptr 1 0 0, .ptr 2 0 0, .ptr 3 0 0, .int .i64 x11] [.cells 0 (hgExpr x3).cells, .cells 0 (egLin x5).cells, .cells 0 (hgExpr x6).cells, .cells 0 [.int .i64 x8.fOp, .str x8.fName, .int .i64 x8.fVal.fN, .int .i64 x8.fVal.fD, .int .i64 x8.fType.fKind, .int .i64 x8.fType.fBits, .int .i64 x8.fType.fFrac, .int .i64 x8.fType.fRound, .int .i64 x8.fType.fOver, .int .i64 x8.fLin.fK, .sl 2 (List.map egMono x8.fLin.fL), .ow 4 0 4 (List.length x8.fIdx), .ow 5 0 13 (List.length x8.fArgs)], .own 0 4 (List.map egIndex x8.fIdx), .own 0 13 (List.map egExpr x8.fArgs)] [1, 3, 5, 6, 7, 8] (A_ref14_Substitute_L7 (x1, x3, x5) () o) :=
  F_ref14_Substitute_L7.partial_correctness x1 x3 x5 x6 (fun x8 x11 o => LO 48 7 97 [1, 3, 5, 6, 8, 11] [.str x1, .ptr 0 0 0, .ptr 1 0 0, .ptr 2 0 0, .ptr 3 0 0, .int .i64 x11] [.cells 0 (hgExpr x3).cells, .cells 0 (egLin x5).cells, .cells 0 (hgExpr x6).cells, .cells 0 [.int .i64 x8.fOp, .str x8.fName, .int .i64 x8.fVal.fN, .int .i64 x8.fVal.fD, .int .i64 x8.fType.fKind, .int .i64 x8.fType.fBits, .int .i64 x8.fType.fFrac, .int .i64 x8.fType.fRound, .int .i64 x8.fType.fOver, .int .i64 x8.fLin.fK, .sl 2 (List.map egMono x8.fLin.fL), .ow 4 0 4 (List.length x8.fIdx), .ow 5 0 13 (List.length x8.fArgs)], .own 0 4 (List.map egIndex x8.fIdx), .own 0 13 (List.map egExpr x8.fArgs)] [1, 3, 5, 6, 7, 8] (A_ref14_Substitute_L7 (x1, x3, x5) () o))
  (fun F_ref14_Substitute_L7 ih_ref14_Substitute_L7 x8 x11 o h  =>
  Lp1 (hs := [(43, .n eI 43 none), (44, .split), (51, .e egIndex), (55, .c eT_gIndex_I), (59, .split), (60, .n hgExpr 60 none), (66, .z [{ slot := 63, own := 4 }] (some (.n egIndex 66 (some .a))))]) (kb := [{ slot := 3 }, { slot := 5 }, { slot := 6 }, { slot := 8 }, { slot := 8, path := [11], own := 4 }, { slot := 8, path := [12], own := 13 }]) (kbx := [{ slot := 3 }, { slot := 5 }, { slot := 6 }, { slot := 8 }, { slot := 8, path := [11], own := 4 }, { slot := 8, path := [12], own := 13 }]) (by kernel_rfl) (by kernel_rfl) ((kN _ (mLen (sh := egIndex) x3.fIdx) fun v0 => (kIfD (p := x11 < v0) (kIx (enc := egIndex) (l := x3.fIdx) (k := x11) fun v1 => (kC (sh := eT_gIndex_I) (P_ref14_indexSubstitute v1 x1 x5) fun v2 => (kIf (c := v2.snd != (0 : Int)) (kW (sh := hgExpr) (gExprF.mk (0 : Int) [] (gVal.mk (0 : Int) (0 : Int)) (gType.mk (0 : Int) (0 : Int) (0 : Int) (0 : Int) (0 : Int)) (gLin.mk (0 : Int) []) [] [] : gExprS) (LeV.agg (.cons (LeV.refl (AV.int IntKind.i64 (0 : Int))) (.cons (LeV.refl (AV.str [])) (.cons (LeV.refl (AV.int IntKind.i64 (0 : Int))) (.cons (LeV.refl (AV.int IntKind.i64 (0 : Int))) (.cons (LeV.refl (AV.int IntKind.i64 (0 : Int))) (.cons (LeV.refl (AV.int IntKind.i64 (0 : Int))) (.cons (LeV.refl (AV.int IntKind.i64 (0 : Int))) (.cons (LeV.refl (AV.int IntKind.i64 (0 : Int))) (.cons (LeV.refl (AV.int IntKind.i64 (0 : Int))) (.cons (LeV.refl (AV.int IntKind.i64 (0 : Int))) (.cons (LeV.nil 2) (.cons (LeV.nil 4) (.cons (LeV.nil 13) .nil)))))))))))))) fun v3 => (kX (alts := A_ref14_Substitute_L7 (x1, x3, x5) ()) (.inr (v3, v2.snd, x8)) (.next (.here _ rfl (.refl _) (.refl _)))))
 (kA (q := (x8.fIdx.length + (1 : Nat)) * (72 : Nat) ≤ (140737488355328 : Nat) ∧ x8.fIdx.length + (1 : Nat) ≤ (9223372036854775807 : Nat)) (sh := egIndex) (l := x8.fIdx) (kO (sh := egIndex) (x8.fIdx ++ [v2.fst]) (mA (sh := egIndex) x8.fIdx v2.fst) (nA x8.fIdx v2.fst) fun v4 => (kM0 (alts := A_ref14_Substitute_L7 (x1, x3, x5) ()) (ih_ref14_Substitute_L7 (gExprF.mk x8.fOp x8.fName x8.fVal x8.fType x8.fLin v4 x8.fArgs : gExprS) (IntKind.i64.wrap (x11 + (1 : Int))))))))))
 (kX (alts := A_ref14_Substitute_L7 (x1, x3, x5) ()) (.inl (x6, x8)) (.here _ rfl (.refl _) (.refl _))))) h)) x8 x11 o h
def A_ref14_Substitute_L14 (s : (Str × gExprS × gLin)) (u : Unit) (o : (gExprS × gExprS) ⊕ (gExprS × Int × gExprS)) : List Alt := [⟨fun (x : (gExprS × gExprS)) => (Sum.inl x : (gExprS × gExprS) ⊕ (gExprS × Int × gExprS)) = o, .exit 2, fun x => [.ptr 0 0 0, .undef, .ptr 1 0 0], fun x => [.cells 0 (hgExpr x.1).cells, .cells 0 [.int .i64 x.2.fOp, .str x.2.fName, .int .i64 x.2.fVal.fN, .int .i64 x.2.fVal.fD, .int .i64 x.2.fType.fKind, .int .i64 x.2.fType.fBits, .int .i64 x.2.fType.fFrac, .int .i64 x.2.fType.fRound, .int .i64 x.2.fType.fOver, .int .i64 x.2.fLin.fK, .sl 2 (List.map egMono x.2.fLin.fL), .ow 2 0 4 (List.length x.2.fIdx), .ow 3 0 13 (List.length x.2.fArgs)], .own 0 4 (List.map egIndex x.2.fIdx), .own 0 13 (List.map egExpr x.2.fArgs)]⟩, ⟨fun (x : (gExprS × Int × gExprS)) => (Sum.inr x : (gExprS × gExprS) ⊕ (gExprS × Int × gExprS)) = o, .ret, fun x => [.ptr 0 0 0, .int .i64 x.2.1, .ptr 1 0 0], fun x => [.cells 0 (hgExpr x.1).cells, .cells 0 [.int .i64 x.2.2.fOp, .str x.2.2.fName, .int .i64 x.2.2.fVal.fN, .int .i64 x.2.2.fVal.fD, .int .i64 x.2.2.fType.fKind, .int .i64 x.2.2.fType.fBits, .int .i64 x.2.2.fType.fFrac, .int .i64 x.2.2.fType.fRound, .int .i64 x.2.2.fType.fOver, .int .i64 x.2.2.fLin.fK, .sl 2 (List.map egMono x.2.2.fLin.fL), .ow 2 0 4 (List.length x.2.2.fIdx), .ow 3 0 13 (List.length x.2.2.fArgs)], .own 0 4 (List.map egIndex x.2.2.fIdx), .own 0 13 (List.map egExpr x.2.2.fArgs)]⟩]
mutual
noncomputable def F_ref14_Substitute (x0 : gExprS) (x1 : Str) (x2 : gLin) : Option (gExprS × Int) :=
 F_ref14_LinSubstitute x0.fLin x1 x2 >>= fun v0 =>
 if v0.snd != (0 : Int) then
 some ((gExprF.mk (0 : Int) [] (gVal.mk (0 : Int) (0 : Int)) (gType.mk (0 : Int) (0 : Int) (0 : Int) (0 : Int) (0 : Int)) (gLin.mk (0 : Int) []) [] [] : gExprS)) >>= fun v1 =>
 some (v1, v0.snd)
 else
 some () >>= fun v2 =>
 F_ref14_Substitute_L7 x1 x0 x2 (gExprF.mk (0 : Int) [] (gVal.mk (0 : Int) (0 : Int)) (gType.mk (0 : Int) (0 : Int) (0 : Int) (0 : Int) (0 : Int)) (gLin.mk (0 : Int) []) [] [] : gExprS) (gExprF.mk x0.fOp x0.fName x0.fVal x0.fType v0.fst [] [] : gExprS) (0 : Int) >>= fun v3 => (match v3 with
 | (.inl v4) =>
 some () >>= fun v5 =>
 F_ref14_Substitute_L14 x1 x0 x2 v4.fst v4.snd (0 : Int) >>= fun v6 => (match v6 with
 | (.inl v7) =>
 some (v7.snd, (0 : Int))
 | (.inr v8) =>
 some (v8.fst, v8.snd.fst))
 | (.inr v9) =>
 some (v9.fst, v9.snd.fst))
  partial_fixpoint
noncomputable def F_ref14_Substitute_L14 (x1 : Str) (x3 : gExprS) (x5 : gLin) (x6 : gExprS) (x8 : gExprS) (x14 : Int) : Option ((gExprS × gExprS) ⊕ (gExprS × Int × gExprS)) :=
 some (List.length x3.fArgs : Int) >>= fun v0 =>
 if x14 < v0 then
 Option.map gExpr.f (ix x3.fArgs x14) >>= fun v1 =>
 F_ref14_Substitute v1 x1 x5 >>= fun v2 =>
 if v2.snd != (0 : Int) then
 some ((gExprF.mk (0 : Int) [] (gVal.mk (0 : Int) (0 : Int)) (gType.mk (0 : Int) (0 : Int) (0 : Int) (0 : Int) (0 : Int)) (gLin.mk (0 : Int) []) [] [] : gExprS)) >>= fun v3 =>
 some (.inr (v3, v2.snd, x8))
 else
 if (x8.fArgs.length + (1 : Nat)) * (160 : Nat) ≤ (140737488355328 : Nat) ∧ x8.fArgs.length + (1 : Nat) ≤ (9223372036854775807 : Nat) then
 some (x8.fArgs ++ [(gExpr.mk v2.fst)]) >>= fun v4 =>
 F_ref14_Substitute_L14 x1 x3 x5 x6 (gExprF.mk x8.fOp x8.fName x8.fVal x8.fType x8.fLin x8.fIdx v4 : gExprS) (IntKind.i64.wrap (x14 + (1 : Int)))
 else none
 else
 some (.inl (x6, x8))
  partial_fixpoint
end
theorem PM_ref14_Substitute (x1 : Str) (x2 : gLin) : (∀ (x0 : gExprS) (r : (gExprS × Int)), F_ref14_Substitute x0 x1 x2 = some r → PU 48 [hgExpr x0, eS x1, egLin x2] (eT_gExpr_I r)) ∧ (∀ (x3 : gExprS) (x6 : gExprS) (x8 : gExprS) (x14 : Int) (o : (gExprS × gExprS) ⊕ (gExprS × Int × gExprS)), F_ref14_Substitute_L14 x1 x3 x2 x6 x8 x14 = some o → LO 48 14 97 [1, 3, 5, 6, 8, 14] [.str x1, .ptr 0 0 0, .ptr 1 0 0, .ptr 2 0 0, .ptr 3 0 0, .int .i64 x14] [.cells 0 (hgExpr x3).cells, .cells 0 (egLin x2).cells, .cells 0 (hgExpr x6).cells, .cells 0 [.int .i64 x8.fOp, .str x8.fName, .int .i64 x8.fVal.fN, .int .i64 x8.fVal.fD, .int .i64 x8.fType.fKind, .int .i64 x8.fType.fBits, .int .i64 x8.fType.fFrac, .int .i64 x8.fType.fRound, .int .i64 x8.fType.fOver, .int .i64 x8.fLin.fK, .sl 2 (List.map egMono x8.fLin.fL), .ow 4 0 4 (List.length x8.fIdx), .ow 5 0 13 (List.length x8.fArgs)], .own 0 4 (List.map egIndex x8.fIdx), .own 0 13 (List.map egExpr x8.fArgs)] [6, 7, 8] (A_ref14_Substitute_L14 (x1, x3, x2) () o)) :=
  F_ref14_Substitute.mutual_partial_correctness x1 x2 (fun x0 r => PU 48 [hgExpr x0, eS x1, egLin x2] (eT_gExpr_I r)) (fun x3 x6 x8 x14 o => LO 48 14 97 [1, 3, 5, 6, 8, 14] [.str x1, .ptr 0 0 0, .ptr 1 0 0, .ptr 2 0 0, .ptr 3 0 0, .int .i64 x14] [.cells 0 (hgExpr x3).cells, .cells 0 (egLin x2).cells, .cells 0 (hgExpr x6).cells, .cells 0 [.int .i64 x8.fOp, .str x8.fName, .int .i64 x8.fVal.fN, .int .i64 x8.fVal.fD, .int .i64 x8.fType.fKind, .int .i64 x8.fType.fBits, .int .i64 x8.fType.fFrac, .int .i64 x8.fType.fRound, .int .i64 x8.fType.fOver, .int .i64 x8.fLin.fK, .sl 2 (List.map egMono x8.fLin.fL), .ow 4 0 4 (List.length x8.fIdx), .ow 5 0 13 (List.length x8.fArgs)], .own 0 4 (List.map egIndex x8.fIdx), .own 0 13 (List.map egExpr x8.fArgs)] [6, 7, 8] (A_ref14_Substitute_L14 (x1, x3, x2) () o))
  (fun F_ref14_Substitute_L14 ih_ref14_Substitute_L14 x0 r h  =>
  Pu1 (hs := [(31, .c eT_gLin_I), (35, .split), (36, .n hgExpr 36 none), (3000015, .l [] [1, 3, 5, 6, 8, 14] [{ slot := 3 }, { slot := 5 }, { slot := 6 }, { slot := 8 }, { slot := 8, path := [11], own := 4 }, { slot := 8, path := [12], own := 13 }] [6, 7, 8] [{ slot := 6 }, { slot := 8 }, { slot := 8, path := [11], own := 4 }, { slot := 8, path := [12], own := 13 }] (A_ref14_Substitute_L14 (x1, x0, x2))), (3000008, .l [] [1, 3, 5, 6, 8, 11] [{ slot := 3 }, { slot := 5 }, { slot := 6 }, { slot := 8 }, { slot := 8, path := [11], own := 4 }, { slot := 8, path := [12], own := 13 }] [1, 3, 5, 6, 7, 8] [{ slot := 3 }, { slot := 5 }, { slot := 6 }, { slot := 8 }, { slot := 8, path := [11], own := 4 }, { slot := 8, path := [12], own := 13 }] (A_ref14_Substitute_L7 (x1, x0, x2)))]) (by kernel_rfl) ((kC (sh := eT_gLin_I) (P_ref14_LinSubstitute x0.fLin x1 x2) fun v0 => (kIf (c := v0.snd != (0 : Int)) (kW (sh := hgExpr) (gExprF.mk (0 : Int) [] (gVal.mk (0 : Int) (0 : Int)) (gType.mk (0 : Int) (0 : Int) (0 : Int) (0 : Int) (0 : Int)) (gLin.mk (0 : Int) []) [] [] : gExprS) (LeV.agg (.cons (LeV.refl (AV.int IntKind.i64 (0 : Int))) (.cons (LeV.refl (AV.str [])) (.cons (LeV.refl (AV.int IntKind.i64 (0 : Int))) (.cons (LeV.refl (AV.int IntKind.i64 (0 : Int))) (.cons (LeV.refl (AV.int IntKind.i64 (0 : Int))) (.cons (LeV.refl (AV.int IntKind.i64 (0 : Int))) (.cons (LeV.refl (AV.int IntKind.i64 (0 : Int))) (.cons (LeV.refl (AV.int IntKind.i64 (0 : Int))) (.cons (LeV.refl (AV.int IntKind.i64 (0 : Int))) (.cons (LeV.refl (AV.int IntKind.i64 (0 : Int))) (.cons (LeV.nil 2) (.cons (LeV.nil 4) (.cons (LeV.nil 13) .nil)))))))))))))) fun v1 => (kEr (enc := eT_gExpr_I) (v1, v0.snd)))
 (kL2 () (hL := (fun y hy => LoopOk.le (.cons (LeV.refl (AV.str x1)) (.cons (LeV.refl (AV.ptr (0 : Nat) (0 : Nat) (0 : Nat))) (.cons (LeV.refl (AV.ptr (1 : Nat) (0 : Nat) (0 : Nat))) (.cons (LeV.refl (AV.ptr (2 : Nat) (0 : Nat) (0 : Nat))) (.cons (LeV.refl (AV.ptr (3 : Nat) (0 : Nat) (0 : Nat))) (.cons (LeV.refl (AV.int IntKind.i64 (0 : Int))) .nil)))))) (.cons (LeB.refl (Box.cells (0 : Nat) [AV.int IntKind.i64 x0.fOp, AV.str x0.fName, AV.int IntKind.i64 x0.fVal.fN, AV.int IntKind.i64 x0.fVal.fD, AV.int IntKind.i64 x0.fType.fKind, AV.int IntKind.i64 x0.fType.fBits, AV.int IntKind.i64 x0.fType.fFrac, AV.int IntKind.i64 x0.fType.fRound, AV.int IntKind.i64 x0.fType.fOver, AV.int IntKind.i64 x0.fLin.fK, AV.sl (2 : Nat) (List.map egMono x0.fLin.fL), AV.sl (4 : Nat) (List.map egIndex x0.fIdx), AV.sl (13 : Nat) (List.map egExpr x0.fArgs)])) (.cons (LeB.refl (Box.cells (0 : Nat) [AV.int IntKind.i64 x2.fK, AV.sl (2 : Nat) (List.map egMono x2.fL)])) (.cons (LeB.cells (0 : Nat) (.cons (LeV.refl (AV.int IntKind.i64 (0 : Int))) (.cons (LeV.refl (AV.str [])) (.cons (LeV.refl (AV.int IntKind.i64 (0 : Int))) (.cons (LeV.refl (AV.int IntKind.i64 (0 : Int))) (.cons (LeV.refl (AV.int IntKind.i64 (0 : Int))) (.cons (LeV.refl (AV.int IntKind.i64 (0 : Int))) (.cons (LeV.refl (AV.int IntKind.i64 (0 : Int))) (.cons (LeV.refl (AV.int IntKind.i64 (0 : Int))) (.cons (LeV.refl (AV.int IntKind.i64 (0 : Int))) (.cons (LeV.refl (AV.int IntKind.i64 (0 : Int))) (.cons (LeV.nil 2) (.cons (LeV.nil 4) (.cons (LeV.nil 13) .nil)))))))))))))) (.cons (LeB.refl (Box.cells (0 : Nat) [AV.int IntKind.i64 x0.fOp, AV.str x0.fName, AV.int IntKind.i64 x0.fVal.fN, AV.int IntKind.i64 x0.fVal.fD, AV.int IntKind.i64 x0.fType.fKind, AV.int IntKind.i64 x0.fType.fBits, AV.int IntKind.i64 x0.fType.fFrac, AV.int IntKind.i64 x0.fType.fRound, AV.int IntKind.i64 x0.fType.fOver, AV.int IntKind.i64 v0.fst.fK, AV.sl (2 : Nat) (List.map egMono v0.fst.fL), AV.ow (4 : Nat) (0 : Nat) (4 : Nat) (0 : Nat), AV.ow (5 : Nat) (0 : Nat) (13 : Nat) (0 : Nat)])) (.cons (LeB.refl (Box.own (0 : Nat) (4 : Nat) [])) (.cons (LeB.refl (Box.own (0 : Nat) (13 : Nat) [])) .nil)))))) (P_ref14_Substitute_L7 x1 x0 x2 (gExprF.mk (0 : Int) [] (gVal.mk (0 : Int) (0 : Int)) (gType.mk (0 : Int) (0 : Int) (0 : Int) (0 : Int) (0 : Int)) (gLin.mk (0 : Int) []) [] [] : gExprS) (gExprF.mk x0.fOp x0.fName x0.fVal x0.fType v0.fst [] [] : gExprS) (0 : Int) y hy))) (hA := fun v2 v4 => (kL2 () (hL := (ih_ref14_Substitute_L14 x0 v4.fst v4.snd (0 : Int))) (hA := fun v5 v7 => (kT (nM (sh := egIndex) v7.snd.fIdx) (kT (nM (sh := egExpr) v7.snd.fArgs) (kEr (enc := eT_gExpr_I) (v7.snd, (0 : Int))))))
 (hB := fun v5 v8 => (kEr (enc := eT_gExpr_I) (v8.fst, v8.snd.fst)))))
 (hB := fun v2 v9 => (kEr (enc := eT_gExpr_I) (v9.fst, v9.snd.fst)))))) h))
  (fun F_ref14_Substitute F_ref14_Substitute_L14 ih_ref14_Substitute ih_ref14_Substitute_L14 x3 x6 x8 x14 o h  =>
  Lp1 (hs := [(71, .n eI 71 none), (72, .split), (79, .e hgExpr), (83, .c eT_gExpr_I), (87, .split), (88, .n hgExpr 88 none), (94, .z [{ slot := 91, own := 13 }] (some (.n egExpr 94 (some .a))))]) (kb := [{ slot := 3 }, { slot := 5 }, { slot := 6 }, { slot := 8 }, { slot := 8, path := [11], own := 4 }, { slot := 8, path := [12], own := 13 }]) (kbx := [{ slot := 6 }, { slot := 8 }, { slot := 8, path := [11], own := 4 }, { slot := 8, path := [12], own := 13 }]) (by kernel_rfl) (by kernel_rfl) ((kN _ (mLen (sh := egExpr) x3.fArgs) fun v0 => (kIfD (p := x14 < v0) (kIxR (l := x3.fArgs) (k := x14) egExpr_f fun v1 => (kC (sh := eT_gExpr_I) (ih_ref14_Substitute v1) fun v2 => (kIf (c := v2.snd != (0 : Int)) (kW (sh := hgExpr) (gExprF.mk (0 : Int) [] (gVal.mk (0 : Int) (0 : Int)) (gType.mk (0 : Int) (0 : Int) (0 : Int) (0 : Int) (0 : Int)) (gLin.mk (0 : Int) []) [] [] : gExprS) (LeV.agg (.cons (LeV.refl (AV.int IntKind.i64 (0 : Int))) (.cons (LeV.refl (AV.str [])) (.cons (LeV.refl (AV.int IntKind.i64 (0 : Int))) (.cons (LeV.refl (AV.int IntKind.i64 (0 : Int))) (.cons (LeV.refl (AV.int IntKind.i64 (0 : Int))) (.cons (LeV.refl (AV.int IntKind.i64 (0 : Int))) (.cons (LeV.refl (AV.int IntKind.i64 (0 : Int))) (.cons (LeV.refl (AV.int IntKind.i64 (0 : Int))) (.cons (LeV.refl (AV.int IntKind.i64 (0 : Int))) (.cons (LeV.refl (AV.int IntKind.i64 (0 : Int))) (.cons (LeV.nil 2) (.cons (LeV.nil 4) (.cons (LeV.nil 13) .nil)))))))))))))) fun v3 => (kX (alts := A_ref14_Substitute_L14 (x1, x3, x2) ()) (.inr (v3, v2.snd, x8)) (.next (.here _ rfl (.refl _) (.refl _)))))
 (kA (q := (x8.fArgs.length + (1 : Nat)) * (160 : Nat) ≤ (140737488355328 : Nat) ∧ x8.fArgs.length + (1 : Nat) ≤ (9223372036854775807 : Nat)) (sh := egExpr) (l := x8.fArgs) (kO (sh := egExpr) (x8.fArgs ++ [(gExpr.mk v2.fst)]) (mAR egExpr_mk x8.fArgs v2.fst) (nA x8.fArgs (gExpr.mk v2.fst)) fun v4 => (kM0 (alts := A_ref14_Substitute_L14 (x1, x3, x2) ()) (ih_ref14_Substitute_L14 x3 x6 (gExprF.mk x8.fOp x8.fName x8.fVal x8.fType x8.fLin x8.fIdx v4 : gExprS) (IntKind.i64.wrap (x14 + (1 : Int))))))))))
 (kX (alts := A_ref14_Substitute_L14 (x1, x3, x2) ()) (.inl (x6, x8)) (.here _ rfl (.refl _) (.refl _))))) h))
theorem P_ref14_Substitute (x0 : gExprS) (x1 : Str) (x2 : gLin) (r : (gExprS × Int)) (h : F_ref14_Substitute x0 x1 x2 = some r) : PU 48 [hgExpr x0, eS x1, egLin x2] (eT_gExpr_I r) := (PM_ref14_Substitute x1 x2).1 x0 r h
theorem P_ref14_Substitute_L14 (x1 : Str) (x3 : gExprS) (x5 : gLin) (x6 : gExprS) (x8 : gExprS) (x14 : Int) (o : (gExprS × gExprS) ⊕ (gExprS × Int × gExprS)) (h : F_ref14_Substitute_L14 x1 x3 x5 x6 x8 x14 = some o) : LO 48 14 97 [1, 3, 5, 6, 8, 14] [.str x1, .ptr 0 0 0, .ptr 1 0 0, .ptr 2 0 0, .ptr 3 0 0, .int .i64 x14] [.cells 0 (hgExpr x3).cells, .cells 0 (egLin x5).cells, .cells 0 (hgExpr x6).cells, .cells 0 [.int .i64 x8.fOp, .str x8.fName, .int .i64 x8.fVal.fN, .int .i64 x8.fVal.fD, .int .i64 x8.fType.fKind, .int .i64 x8.fType.fBits, .int .i64 x8.fType.fFrac, .int .i64 x8.fType.fRound, .int .i64 x8.fType.fOver, .int .i64 x8.fLin.fK, .sl 2 (List.map egMono x8.fLin.fL), .ow 4 0 4 (List.length x8.fIdx), .ow 5 0 13 (List.length x8.fArgs)], .own 0 4 (List.map egIndex x8.fIdx), .own 0 13 (List.map egExpr x8.fArgs)] [6, 7, 8] (A_ref14_Substitute_L14 (x1, x3, x5) () o) := (PM_ref14_Substitute x1 x5).2 x3 x6 x8 x14 o h
def A_ref30_Substitute_L3 (s : ((List gStmt) × Str × gLin)) (u : Unit) (o : (List gStmt) ⊕ ((List gStmt) × Int)) : List Alt := [⟨fun (x : List gStmt) => (Sum.inl x : (List gStmt) ⊕ ((List gStmt) × Int)) = o, .exit 0, fun x => [.undef, .undef, .sl 20 (List.map egStmt x)], fun x => []⟩, ⟨fun (x : ((List gStmt) × Int)) => (Sum.inr x : (List gStmt) ⊕ ((List gStmt) × Int)) = o, .ret, fun x => [.sl 20 (List.map egStmt x.1), .int .i64 x.2, .undef], fun x => []⟩]
mutual
noncomputable def F_ref30_Substitute (x0 : List gStmt) (x1 : Str) (x2 : gLin) : Option (List gStmt × Int) :=
 some () >>= fun v0 =>
 F_ref30_Substitute_L3 x0 x1 x2 [] (0 : Int) >>= fun v1 => (match v1 with
 | (.inl v2) =>
 some (v2, (0 : Int))
 | (.inr v3) =>
 some (v3.fst, v3.snd))
  partial_fixpoint
noncomputable def F_ref30_Substitute_L3 (x0 : List gStmt) (x1 : Str) (x5 : gLin) (x8 : List gStmt) (x9 : Int) : Option ((List gStmt) ⊕ ((List gStmt) × Int)) :=
 some (List.length x0 : Int) >>= fun v0 =>
 if x9 < v0 then
 Option.map gStmt.f (ix x0 x9) >>= fun v1 =>
 some ((gExprF.mk (3 : Int) [] (gVal.mk (0 : Int) (0 : Int)) (gType.mk (0 : Int) (0 : Int) (0 : Int) (0 : Int) (0 : Int)) (gLin.mk (0 : Int) []) v1.fIdx [] : gExprS)) >>= fun v2 =>
 F_ref14_Substitute v2 x1 x5 >>= fun v3 =>
 if v3.snd != (0 : Int) then
 some (.inr ([], v3.snd))
 else
 F_ref14_Substitute v1.fExpr x1 x5 >>= fun v4 =>
 if v4.snd != (0 : Int) then
 some (.inr ([], v4.snd))
 else
 F_ref30_Substitute v1.fBody x1 x5 >>= fun v5 =>
 if v5.snd != (0 : Int) then
 some (.inr ([], v5.snd))
 else
 if (x8.length + (1 : Nat)) * (256 : Nat) ≤ (140737488355328 : Nat) ∧ x8.length + (1 : Nat) ≤ (9223372036854775807 : Nat) then
 some (x8 ++ [(gStmt.mk (gStmtF.mk v1.fOp v1.fName v1.fMany v1.fMark v1.fFold v3.fst.fIdx v4.fst v5.fst : gStmtS))]) >>= fun v6 =>
 F_ref30_Substitute_L3 x0 x1 x5 v6 (IntKind.i64.wrap (x9 + (1 : Int)))
 else none
 else
 some (.inl x8)
  partial_fixpoint
end
theorem PM_ref30_Substitute (x1 : Str) (x2 : gLin) : (∀ (x0 : List gStmt) (r : (List gStmt × Int)), F_ref30_Substitute x0 x1 x2 = some r → PU 24 [eLgStmt x0, eS x1, egLin x2] (eT_LgStmt_I r)) ∧ (∀ (x0 : List gStmt) (x8 : List gStmt) (x9 : Int) (o : (List gStmt) ⊕ ((List gStmt) × Int)), F_ref30_Substitute_L3 x0 x1 x2 x8 x9 = some o → LO 24 3 73 [0, 1, 5, 8, 9] [.sl 20 (List.map egStmt x0), .str x1, .ptr 0 0 0, .ow 1 0 20 (List.length x8), .int .i64 x9] [.cells 0 (egLin x2).cells, .own 0 20 (List.map egStmt x8)] [6, 7, 8] (A_ref30_Substitute_L3 (x0, x1, x2) () o)) :=
  F_ref30_Substitute.mutual_partial_correctness x1 x2 (fun x0 r => PU 24 [eLgStmt x0, eS x1, egLin x2] (eT_LgStmt_I r)) (fun x0 x8 x9 o => LO 24 3 73 [0, 1, 5, 8, 9] [.sl 20 (List.map egStmt x0), .str x1, .ptr 0 0 0, .ow 1 0 20 (List.length x8), .int .i64 x9] [.cells 0 (egLin x2).cells, .own 0 20 (List.map egStmt x8)] [6, 7, 8] (A_ref30_Substitute_L3 (x0, x1, x2) () o))
  (fun F_ref30_Substitute_L3 ih_ref30_Substitute_L3 x0 r h  =>
  Pu1 (hs := [(3000004, .l [] [0, 1, 5, 8, 9] [{ slot := 5 }, { slot := 8, own := 20 }] [6, 7, 8] [{ slot := 6, fz := true }, { slot := 8, fz := true }] (A_ref30_Substitute_L3 (x0, x1, x2)))]) (by kernel_rfl) ((kL2 () (hL := (ih_ref30_Substitute_L3 x0 [] (0 : Int))) (hA := fun v0 v2 => (kEr (enc := eT_LgStmt_I) (v2, (0 : Int))))
 (hB := fun v0 v3 => (kEr (enc := eT_LgStmt_I) (v3.fst, v3.snd)))) h))
  (fun F_ref30_Substitute F_ref30_Substitute_L3 ih_ref30_Substitute ih_ref30_Substitute_L3 x0 x8 x9 o h  =>
  Lp1 (hs := [(19, .n eI 19 none), (20, .split), (25, .e hgStmt), (30, .n hgExpr 30 none), (33, .c eT_gExpr_I), (37, .split), (44, .c eT_gExpr_I), (48, .split), (55, .c eT_LgStmt_I), (59, .split), (71, .z [{ slot := 68, own := 20 }] (some (.n egStmt 71 (some .a))))]) (kb := [{ slot := 5 }, { slot := 8, own := 20 }]) (kbx := [{ slot := 6, fz := true }, { slot := 8, fz := true }]) (by kernel_rfl) (by kernel_rfl) ((kN _ (mLen (sh := egStmt) x0) fun v0 => (kIfD (p := x9 < v0) (kIxR (l := x0) (k := x9) egStmt_f fun v1 => (kW (sh := hgExpr) (gExprF.mk (3 : Int) [] (gVal.mk (0 : Int) (0 : Int)) (gType.mk (0 : Int) (0 : Int) (0 : Int) (0 : Int) (0 : Int)) (gLin.mk (0 : Int) []) v1.fIdx [] : gExprS) (LeV.agg (.cons (LeV.refl (AV.int IntKind.i64 (3 : Int))) (.cons (LeV.refl (AV.str [])) (.cons (LeV.refl (AV.int IntKind.i64 (0 : Int))) (.cons (LeV.refl (AV.int IntKind.i64 (0 : Int))) (.cons (LeV.refl (AV.int IntKind.i64 (0 : Int))) (.cons (LeV.refl (AV.int IntKind.i64 (0 : Int))) (.cons (LeV.refl (AV.int IntKind.i64 (0 : Int))) (.cons (LeV.refl (AV.int IntKind.i64 (0 : Int))) (.cons (LeV.refl (AV.int IntKind.i64 (0 : Int))) (.cons (LeV.refl (AV.int IntKind.i64 (0 : Int))) (.cons (LeV.nil 2) (.cons (LeV.refl (AV.sl (4 : Nat) (List.map egIndex v1.fIdx))) (.cons (LeV.nil 13) .nil)))))))))))))) fun v2 => (kC (sh := eT_gExpr_I) (P_ref14_Substitute v2 x1 x2) fun v3 => (kIf (c := v3.snd != (0 : Int)) (kT (nM (sh := egStmt) x8) (kX (alts := A_ref30_Substitute_L3 (x0, x1, x2) ()) (.inr ([], v3.snd)) (.next (.here _ rfl (.cons (LeV.nil 20) (.cons (LeV.refl (AV.int IntKind.i64 v3.snd)) (.cons (LeV.undef (AV.sl (20 : Nat) (List.map egStmt x8))) .nil))) (.refl _)))))
 (kC (sh := eT_gExpr_I) (P_ref14_Substitute v1.fExpr x1 x2) fun v4 => (kIf (c := v4.snd != (0 : Int)) (kT (nM (sh := egStmt) x8) (kX (alts := A_ref30_Substitute_L3 (x0, x1, x2) ()) (.inr ([], v4.snd)) (.next (.here _ rfl (.cons (LeV.nil 20) (.cons (LeV.refl (AV.int IntKind.i64 v4.snd)) (.cons (LeV.undef (AV.sl (20 : Nat) (List.map egStmt x8))) .nil))) (.refl _)))))
 (kC (sh := eT_LgStmt_I) (ih_ref30_Substitute v1.fBody) fun v5 => (kIf (c := v5.snd != (0 : Int)) (kT (nM (sh := egStmt) x8) (kX (alts := A_ref30_Substitute_L3 (x0, x1, x2) ()) (.inr ([], v5.snd)) (.next (.here _ rfl (.cons (LeV.nil 20) (.cons (LeV.refl (AV.int IntKind.i64 v5.snd)) (.cons (LeV.undef (AV.sl (20 : Nat) (List.map egStmt x8))) .nil))) (.refl _)))))
 (kA (q := (x8.length + (1 : Nat)) * (256 : Nat) ≤ (140737488355328 : Nat) ∧ x8.length + (1 : Nat) ≤ (9223372036854775807 : Nat)) (sh := egStmt) (l := x8) (kO (sh := egStmt) (x8 ++ [(gStmt.mk (gStmtF.mk v1.fOp v1.fName v1.fMany v1.fMark v1.fFold v3.fst.fIdx v4.fst v5.fst : gStmtS))]) (mAR egStmt_mk x8 (gStmtF.mk v1.fOp v1.fName v1.fMany v1.fMark v1.fFold v3.fst.fIdx v4.fst v5.fst : gStmtS)) (nA x8 (gStmt.mk (gStmtF.mk v1.fOp v1.fName v1.fMany v1.fMark v1.fFold v3.fst.fIdx v4.fst v5.fst : gStmtS))) fun v6 => (kM0 (alts := A_ref30_Substitute_L3 (x0, x1, x2) ()) (ih_ref30_Substitute_L3 x0 v6 (IntKind.i64.wrap (x9 + (1 : Int)))))))))))))))
 (kT (nM (sh := egStmt) x8) (kX (alts := A_ref30_Substitute_L3 (x0, x1, x2) ()) (.inl x8) (.here _ rfl (.refl _) (.refl _)))))) h))
theorem P_ref30_Substitute (x0 : List gStmt) (x1 : Str) (x2 : gLin) (r : (List gStmt × Int)) (h : F_ref30_Substitute x0 x1 x2 = some r) : PU 24 [eLgStmt x0, eS x1, egLin x2] (eT_LgStmt_I r) := (PM_ref30_Substitute x1 x2).1 x0 r h
theorem P_ref30_Substitute_L3 (x0 : List gStmt) (x1 : Str) (x5 : gLin) (x8 : List gStmt) (x9 : Int) (o : (List gStmt) ⊕ ((List gStmt) × Int)) (h : F_ref30_Substitute_L3 x0 x1 x5 x8 x9 = some o) : LO 24 3 73 [0, 1, 5, 8, 9] [.sl 20 (List.map egStmt x0), .str x1, .ptr 0 0 0, .ow 1 0 20 (List.length x8), .int .i64 x9] [.cells 0 (egLin x5).cells, .own 0 20 (List.map egStmt x8)] [6, 7, 8] (A_ref30_Substitute_L3 (x0, x1, x5) () o) := (PM_ref30_Substitute x1 x5).2 x0 x8 x9 o h
def A_ref33_Concrete_L3 (s : List gBinding) (u : Unit) (o : (gStmtS × (List gStmt)) ⊕ (gStmtS × Int)) : List Alt := [⟨fun (x : (gStmtS × (List gStmt))) => (Sum.inl x : (gStmtS × (List gStmt)) ⊕ (gStmtS × Int)) = o, .exit 0, fun x => [.ptr 0 0 0, .undef, .sl 20 (List.map egStmt x.2)], fun x => [.cells 0 (hgStmt x.1).cells]⟩, ⟨fun (x : (gStmtS × Int)) => (Sum.inr x : (gStmtS × (List gStmt)) ⊕ (gStmtS × Int)) = o, .ret, fun x => [.ptr 0 0 0, .int .i64 x.2, .undef], fun x => [.cells 0 (hgStmt x.1).cells]⟩]
noncomputable def F_ref33_Concrete_L3 (x1 : List gBinding) (x4 : gStmtS) (x6 : List gStmt) (x7 : Int) : Option ((gStmtS × (List gStmt)) ⊕ (gStmtS × Int)) :=
 some (List.length x1 : Int) >>= fun v0 =>
 if x7 < v0 then
 ix x1 x7 >>= fun v1 =>
 ix x1 x7 >>= fun v2 =>
 F_ref30_Substitute x6 v1.fName (gLin.mk v2.fVal []) >>= fun v3 =>
 some ((gLin.mk v2.fVal [])) >>= fun v4 =>
 if v3.snd != (0 : Int) then
 some ((gStmtF.mk (0 : Int) [] (0 : Int) (0 : Int) (0 : Int) [] (gExprF.mk (0 : Int) [] (gVal.mk (0 : Int) (0 : Int)) (gType.mk (0 : Int) (0 : Int) (0 : Int) (0 : Int) (0 : Int)) (gLin.mk (0 : Int) []) [] [] : gExprS) [] : gStmtS)) >>= fun v5 =>
 some (.inr (v5, v3.snd))
 else
 F_ref33_Concrete_L3 x1 x4 v3.fst (IntKind.i64.wrap (x7 + (1 : Int)))
 else
 some (.inl (x4, x6))
  partial_fixpoint
theorem P_ref33_Concrete_L3 (x1 : List gBinding) (x4 : gStmtS) (x6 : List gStmt) (x7 : Int) (o : (gStmtS × (List gStmt)) ⊕ (gStmtS × Int)) (h : F_ref33_Concrete_L3 x1 x4 x6 x7 = some o) : LO 8 3 42 [1, 4, 6, 7] [.sl 2 (List.map egBinding x1), .ptr 0 0 0, .sl 20 (List.map egStmt x6), .int .i64 x7] [.cells 0 (hgStmt x4).cells] [4, 5, 6] (A_ref33_Concrete_L3 x1 () o) :=
  F_ref33_Concrete_L3.partial_correctness x1 x4 (fun x6 x7 o => LO 8 3 42 [1, 4, 6, 7] [.sl 2 (List.map egBinding x1), .ptr 0 0 0, .sl 20 (List.map egStmt x6), .int .i64 x7] [.cells 0 (hgStmt x4).cells] [4, 5, 6] (A_ref33_Concrete_L3 x1 () o))
  (fun F_ref33_Concrete_L3 ih_ref33_Concrete_L3 x6 x7 o h  =>
  Lp1 (hs := [(6, .z [{ slot := 11, own := 20 }, { slot := 11, fz := true }] none), (14, .n eI 14 none), (15, .split), (22, .e egBinding), (27, .e egBinding), (30, .n egLin 30 none), (31, .c eT_LgStmt_I), (35, .split), (36, .n hgStmt 36 none)]) (kb := [{ slot := 4 }]) (kbx := [{ slot := 4 }]) (by kernel_rfl) (by kernel_rfl) ((kN _ (mLen (sh := egBinding) x1) fun v0 => (kIfD (p := x7 < v0) (kIx (enc := egBinding) (l := x1) (k := x7) fun v1 => (kIx (enc := egBinding) (l := x1) (k := x7) fun v2 => (kC (sh := eT_LgStmt_I) (fun y hy => Pu.le (P_ref30_Substitute x6 v1.fName (gLin.mk v2.fVal []) y hy) (.cons (LeT.refl (AV.sl (20 : Nat) (List.map egStmt x6))) (.cons (LeT.refl (AV.str v1.fName)) (.cons (LeT.agg (.cons (LeT.refl (AV.int IntKind.i64 v2.fVal)) (.cons (LeT.nil 2) .nil))) .nil))) (LeT.refl _)) fun v3 => (kW (sh := egLin) (gLin.mk v2.fVal []) (LeV.agg (.cons (LeV.refl (AV.int IntKind.i64 v2.fVal)) (.cons (LeV.nil 2) .nil))) fun v4 => (kIf (c := v3.snd != (0 : Int)) (kW (sh := hgStmt) (gStmtF.mk (0 : Int) [] (0 : Int) (0 : Int) (0 : Int) [] (gExprF.mk (0 : Int) [] (gVal.mk (0 : Int) (0 : Int)) (gType.mk (0 : Int) (0 : Int) (0 : Int) (0 : Int) (0 : Int)) (gLin.mk (0 : Int) []) [] [] : gExprS) [] : gStmtS) (LeV.agg (.cons (LeV.refl (AV.int IntKind.i64 (0 : Int))) (.cons (LeV.refl (AV.str [])) (.cons (LeV.refl (AV.int IntKind.i64 (0 : Int))) (.cons (LeV.refl (AV.int IntKind.i64 (0 : Int))) (.cons (LeV.refl (AV.int IntKind.i64 (0 : Int))) (.cons (LeV.nil 4) (.cons (LeV.refl (AV.int IntKind.i64 (0 : Int))) (.cons (LeV.refl (AV.str [])) (.cons (LeV.refl (AV.int IntKind.i64 (0 : Int))) (.cons (LeV.refl (AV.int IntKind.i64 (0 : Int))) (.cons (LeV.refl (AV.int IntKind.i64 (0 : Int))) (.cons (LeV.refl (AV.int IntKind.i64 (0 : Int))) (.cons (LeV.refl (AV.int IntKind.i64 (0 : Int))) (.cons (LeV.refl (AV.int IntKind.i64 (0 : Int))) (.cons (LeV.refl (AV.int IntKind.i64 (0 : Int))) (.cons (LeV.refl (AV.int IntKind.i64 (0 : Int))) (.cons (LeV.nil 2) (.cons (LeV.nil 4) (.cons (LeV.nil 13) (.cons (LeV.nil 20) .nil))))))))))))))))))))) fun v5 => (kX (alts := A_ref33_Concrete_L3 x1 ()) (.inr (v5, v3.snd)) (.next (.here _ rfl (.cons (LeV.refl (AV.ptr (0 : Nat) (0 : Nat) (0 : Nat))) (.cons (LeV.refl (AV.int IntKind.i64 v3.snd)) (.cons (LeV.undef (AV.sl (20 : Nat) (List.map egStmt x6))) .nil))) (.refl _)))))
 (kM0 (alts := A_ref33_Concrete_L3 x1 ()) (ih_ref33_Concrete_L3 v3.fst (IntKind.i64.wrap (x7 + (1 : Int))))))))))
 (kX (alts := A_ref33_Concrete_L3 x1 ()) (.inl (x4, x6)) (.here _ rfl (.refl _) (.refl _))))) h)) x6 x7 o h
noncomputable def F_ref33_Concrete (x0 : gStmtS) (x1 : List gBinding) : Option (gStmtS × Int) :=
 some () >>= fun v0 =>
 F_ref33_Concrete_L3 x1 (gStmtF.mk (0 : Int) [] (0 : Int) (0 : Int) (0 : Int) [] (gExprF.mk (0 : Int) [] (gVal.mk (0 : Int) (0 : Int)) (gType.mk (0 : Int) (0 : Int) (0 : Int) (0 : Int) (0 : Int)) (gLin.mk (0 : Int) []) [] [] : gExprS) [] : gStmtS) [(gStmt.mk x0)] (0 : Int) >>= fun v1 => (match v1 with
 | (.inl v2) =>
 Option.map gStmt.f (ix v2.snd (0 : Int)) >>= fun v3 =>
 some (v3, (0 : Int))
 | (.inr v4) =>
 some (v4.fst, v4.snd))
theorem P_ref33_Concrete (x0 : gStmtS) (x1 : List gBinding) (r : (gStmtS × Int)) (h : F_ref33_Concrete x0 x1 = some r) : PU 8 [hgStmt x0, eLgBinding x1] (eT_gStmt_I r) :=
  Pu1 (hs := [(6, .z [{ slot := 11, own := 20 }, { slot := 11, fz := true }] none), (40, .e hgStmt), (3000004, .l [] [1, 4, 6, 7] [{ slot := 4 }] [4, 5, 6] [{ slot := 4 }] (A_ref33_Concrete_L3 x1))]) (by kernel_rfl) ((kT (rfl : (1 : Nat) = (1 : Nat)) (kL2 () (hL := (fun y hy => LoopOk.le (.cons (LeV.refl (AV.sl (2 : Nat) (List.map egBinding x1))) (.cons (LeV.refl (AV.ptr (0 : Nat) (0 : Nat) (0 : Nat))) (.cons (LeV.sl (.cons (legStmt x0) .nil)) (.cons (LeV.refl (AV.int IntKind.i64 (0 : Int))) .nil)))) (.cons (LeB.cells (0 : Nat) (.cons (LeV.refl (AV.int IntKind.i64 (0 : Int))) (.cons (LeV.refl (AV.str [])) (.cons (LeV.refl (AV.int IntKind.i64 (0 : Int))) (.cons (LeV.refl (AV.int IntKind.i64 (0 : Int))) (.cons (LeV.refl (AV.int IntKind.i64 (0 : Int))) (.cons (LeV.nil 4) (.cons (LeV.refl (AV.int IntKind.i64 (0 : Int))) (.cons (LeV.refl (AV.str [])) (.cons (LeV.refl (AV.int IntKind.i64 (0 : Int))) (.cons (LeV.refl (AV.int IntKind.i64 (0 : Int))) (.cons (LeV.refl (AV.int IntKind.i64 (0 : Int))) (.cons (LeV.refl (AV.int IntKind.i64 (0 : Int))) (.cons (LeV.refl (AV.int IntKind.i64 (0 : Int))) (.cons (LeV.refl (AV.int IntKind.i64 (0 : Int))) (.cons (LeV.refl (AV.int IntKind.i64 (0 : Int))) (.cons (LeV.refl (AV.int IntKind.i64 (0 : Int))) (.cons (LeV.nil 2) (.cons (LeV.nil 4) (.cons (LeV.nil 13) (.cons (LeV.nil 20) .nil))))))))))))))))))))) .nil) (P_ref33_Concrete_L3 x1 (gStmtF.mk (0 : Int) [] (0 : Int) (0 : Int) (0 : Int) [] (gExprF.mk (0 : Int) [] (gVal.mk (0 : Int) (0 : Int)) (gType.mk (0 : Int) (0 : Int) (0 : Int) (0 : Int) (0 : Int)) (gLin.mk (0 : Int) []) [] [] : gExprS) [] : gStmtS) [(gStmt.mk x0)] (0 : Int) y hy))) (hA := fun v0 v2 => (kIxR (l := v2.snd) (k := (0 : Int)) egStmt_f fun v3 => (kEr (enc := eT_gStmt_I) (v3, (0 : Int)))))
 (hB := fun v0 v4 => (kEr (enc := eT_gStmt_I) (v4.fst, v4.snd))))) h)
def A_base_Lin_L4 (s : (gLin × gLin)) (u : Unit) (o : Unit ⊕ Bool) : List Alt := [⟨fun (x : Unit) => (Sum.inl x : Unit ⊕ Bool) = o, .exit 0, fun x => [.undef], fun x => []⟩, ⟨fun (x : Bool) => (Sum.inr x : Unit ⊕ Bool) = o, .ret, fun x => [.bool x], fun x => []⟩]
noncomputable def F_base_Lin_L4 (x2 : gLin) (x3 : gLin) (x5 : Int) : Option (Unit ⊕ Bool) :=
 some (List.length x2.fL : Int) >>= fun v0 =>
 if x5 < v0 then
 ix x2.fL x5 >>= fun v1 =>
 ix x3.fL x5 >>= fun v2 =>
 if !(v1.fName == v2.fName && (v1.fBy == v2.fBy && true)) then
 some (.inr false)
 else
 F_base_Lin_L4 x2 x3 (IntKind.i64.wrap (x5 + (1 : Int)))
 else
 some (.inl ())
  partial_fixpoint
theorem P_base_Lin_L4 (x2 : gLin) (x3 : gLin) (x5 : Int) (o : Unit ⊕ Bool) (h : F_base_Lin_L4 x2 x3 x5 = some o) : LO 50 4 38 [2, 3, 5] [.ptr 0 0 0, .ptr 1 0 0, .int .i64 x5] [.cells 0 (egLin x2).cells, .cells 0 (egLin x3).cells] [4] (A_base_Lin_L4 (x2, x3) () o) :=
  F_base_Lin_L4.partial_correctness x2 x3 (fun x5 o => LO 50 4 38 [2, 3, 5] [.ptr 0 0 0, .ptr 1 0 0, .int .i64 x5] [.cells 0 (egLin x2).cells, .cells 0 (egLin x3).cells] [4] (A_base_Lin_L4 (x2, x3) () o))
  (fun F_base_Lin_L4 ih_base_Lin_L4 x5 o h  =>
  Lp1 (hs := [(23, .n eI 23 none), (24, .split), (30, .e egMono), (35, .e egMono), (37, .split)]) (kb := [{ slot := 2 }, { slot := 3 }]) (kbx := []) (by kernel_rfl) (by kernel_rfl) ((kN _ (mLen (sh := egMono) x2.fL) fun v0 => (kIfD (p := x5 < v0) (kIx (enc := egMono) (l := x2.fL) (k := x5) fun v1 => (kIx (enc := egMono) (l := x3.fL) (k := x5) fun v2 => (kIf (c := !(v1.fName == v2.fName && (v1.fBy == v2.fBy && true))) (kX (alts := A_base_Lin_L4 (x2, x3) ()) (.inr false) (.next (.here _ rfl (.refl _) (.refl _))))
 (kM0 (alts := A_base_Lin_L4 (x2, x3) ()) (ih_base_Lin_L4 (IntKind.i64.wrap (x5 + (1 : Int))))))))
 (kX (alts := A_base_Lin_L4 (x2, x3) ()) (.inl ()) (.here _ rfl (.refl _) (.refl _))))) h)) x5 o h
def A_base_Lin_J5000001 (s : (gLin × gLin)) (u : Unit) (o : Bool) : List Alt := [⟨fun (x : Unit) => true = o, .normal, fun x => [.ptr 0 0 0, .ptr 1 0 0, .bool true], fun x => [.cells 0 (egLin (s.1)).cells, .cells 0 (egLin (s.2)).cells]⟩, ⟨fun (x : Unit) => false = o, .normal, fun x => [.ptr 0 0 0, .ptr 1 0 0, .bool false], fun x => [.cells 0 (egLin (s.1)).cells, .cells 0 (egLin (s.2)).cells]⟩]
noncomputable def F_base_Lin (x0 : gLin) (x1 : gLin) : Option Bool :=
 some () >>= fun v0 =>
 (if x0.fK != x1.fK then
 some true
 else
 some (List.length x0.fL : Int) >>= fun v2 =>
 some (List.length x1.fL : Int) >>= fun v3 =>
 if v2 != v3 then
 some true
 else
 some false) >>= fun v1 => if v1 then
 some false
 else
 some () >>= fun v6 =>
 F_base_Lin_L4 x0 x1 (0 : Int) >>= fun v7 => (match v7 with
 | (.inl v8) =>
 some true
 | (.inr v9) =>
 some v9)
theorem P_base_Lin (x0 : gLin) (x1 : gLin) (r : Bool) (h : F_base_Lin x0 x1 = some r) : PU 50 [egLin x0, egLin x1] (eB r) :=
  Pu1 (hs := [(10, .split), (14, .n eI 14 none), (17, .n eI 17 none), (18, .split), (3000005, .l [] [2, 3, 5] [{ slot := 2 }, { slot := 3 }] [4] [] (A_base_Lin_L4 (x0, x1))), (5000001, .l [] [] [] [2, 3, 19] [{ slot := 2 }, { slot := 3 }] (A_base_Lin_J5000001 (x0, x1)))]) (by kernel_rfl) ((kJb (id := 5000001) () (fun v0 ev0 v1 => (kIf (c := x0.fK != x1.fK) (kXj (alts := A_base_Lin_J5000001 (x0, x1)) ev0 true (.here () rfl (.refl _) (.refl _)))
 (kN _ (mLen (sh := egMono) x0.fL) fun v2 => (kN _ (mLen (sh := egMono) x1.fL) fun v3 => (kIf (c := v2 != v3) (kXj (alts := A_base_Lin_J5000001 (x0, x1)) ev0 true (.here () rfl (.refl _) (.refl _)))
 (kXj (alts := A_base_Lin_J5000001 (x0, x1)) ev0 false (.next (.here () rfl (.refl _) (.refl _)))))))))
 (fun v0 => (kEr (enc := eB) false))
 (fun v0 => (kL2 () (hL := (P_base_Lin_L4 x0 x1 (0 : Int))) (hA := fun v6 v8 => (kEr (enc := eB) true))
 (hB := fun v6 v9 => (kEr (enc := eB) v9))))) h)
def A_base_Lins_L4 (s : ((List gLin) × (List gLin))) (u : Unit) (o : Unit ⊕ Bool) : List Alt := [⟨fun (x : Unit) => (Sum.inl x : Unit ⊕ Bool) = o, .exit 0, fun x => [.undef], fun x => []⟩, ⟨fun (x : Bool) => (Sum.inr x : Unit ⊕ Bool) = o, .ret, fun x => [.bool x], fun x => []⟩]
noncomputable def F_base_Lins_L4 (x0 : List gLin) (x1 : List gLin) (x5 : Int) : Option (Unit ⊕ Bool) :=
 some (List.length x0 : Int) >>= fun v0 =>
 if x5 < v0 then
 ix x0 x5 >>= fun v1 =>
 ix x1 x5 >>= fun v2 =>
 F_base_Lin v1 v2 >>= fun v3 => if v3 then
 F_base_Lins_L4 x0 x1 (IntKind.i64.wrap (x5 + (1 : Int)))
 else
 some (.inr false)
 else
 some (.inl ())
  partial_fixpoint
theorem P_base_Lins_L4 (x0 : List gLin) (x1 : List gLin) (x5 : Int) (o : Unit ⊕ Bool) (h : F_base_Lins_L4 x0 x1 x5 = some o) : LO 79 4 27 [0, 1, 5] [.sl 2 (List.map egLin x0), .sl 2 (List.map egLin x1), .int .i64 x5] [] [4] (A_base_Lins_L4 (x0, x1) () o) :=
  F_base_Lins_L4.partial_correctness x0 x1 (fun x5 o => LO 79 4 27 [0, 1, 5] [.sl 2 (List.map egLin x0), .sl 2 (List.map egLin x1), .int .i64 x5] [] [4] (A_base_Lins_L4 (x0, x1) () o))
  (fun F_base_Lins_L4 ih_base_Lins_L4 x5 o h  =>
  Lp1 (hs := [(13, .n eI 13 none), (14, .split), (19, .e egLin), (23, .e egLin), (25, .cb)]) (kb := []) (kbx := []) (by kernel_rfl) (by kernel_rfl) ((kN _ (mLen (sh := egLin) x0) fun v0 => (kIfD (p := x5 < v0) (kIx (enc := egLin) (l := x0) (k := x5) fun v1 => (kIx (enc := egLin) (l := x1) (k := x5) fun v2 => (kCb (P_base_Lin v1 v2) (kM0 (alts := A_base_Lins_L4 (x0, x1) ()) (ih_base_Lins_L4 (IntKind.i64.wrap (x5 + (1 : Int)))))
 (kX (alts := A_base_Lins_L4 (x0, x1) ()) (.inr false) (.next (.here _ rfl (.refl _) (.refl _)))))))
 (kX (alts := A_base_Lins_L4 (x0, x1) ()) (.inl ()) (.here _ rfl (.refl _) (.refl _))))) h)) x5 o h
noncomputable def F_base_Lins (x0 : List gLin) (x1 : List gLin) : Option Bool :=
 some (List.length x0 : Int) >>= fun v0 =>
 some (List.length x1 : Int) >>= fun v1 =>
 if v0 != v1 then
 some false
 else
 some () >>= fun v2 =>
 F_base_Lins_L4 x0 x1 (0 : Int) >>= fun v3 => (match v3 with
 | (.inl v4) =>
 some true
 | (.inr v5) =>
 some v5)
theorem P_base_Lins (x0 : List gLin) (x1 : List gLin) (r : Bool) (h : F_base_Lins x0 x1 = some r) : PU 79 [eLgLin x0, eLgLin x1] (eB r) :=
  Pu1 (hs := [(7, .n eI 7 none), (9, .n eI 9 none), (10, .split), (3000005, .l [] [0, 1, 5] [] [4] [] (A_base_Lins_L4 (x0, x1)))]) (by kernel_rfl) ((kN _ (mLen (sh := egLin) x0) fun v0 => (kN _ (mLen (sh := egLin) x1) fun v1 => (kIf (c := v0 != v1) (kEr (enc := eB) false)
 (kL2 () (hL := (P_base_Lins_L4 x0 x1 (0 : Int))) (hA := fun v2 v4 => (kEr (enc := eB) true))
 (hB := fun v2 v5 => (kEr (enc := eB) v5)))))) h)
noncomputable def F_base_Index (x0 : gIndex) (x1 : gIndex) : Option Bool :=
 if x0.fFrom == x1.fFrom then
 F_base_Lin x0.fLin x1.fLin >>= fun v0 => if v0 then
 F_base_Lins x0.fAt x1.fAt >>= fun v1 =>
 some v1
 else
 some false
 else
 some false
theorem P_base_Index (x0 : gIndex) (x1 : gIndex) (r : Bool) (h : F_base_Index x0 x1 = some r) : PU 49 [egIndex x0, egIndex x1] (eB r) :=
  Pu1 (hs := [(9, .split), (15, .cb), (22, .c eB)]) (by kernel_rfl) ((kIf (c := x0.fFrom == x1.fFrom) (kCb (P_base_Lin x0.fLin x1.fLin) (kC (sh := eB) (P_base_Lins x0.fAt x1.fAt) fun v1 => (kEr (enc := eB) v1))
 (kEr (enc := eB) false))
 (kEr (enc := eB) false)) h)
def A_base_Indices_L4 (s : ((List gIndex) × (List gIndex))) (u : Unit) (o : Unit ⊕ Bool) : List Alt := [⟨fun (x : Unit) => (Sum.inl x : Unit ⊕ Bool) = o, .exit 0, fun x => [.undef], fun x => []⟩, ⟨fun (x : Bool) => (Sum.inr x : Unit ⊕ Bool) = o, .ret, fun x => [.bool x], fun x => []⟩]
noncomputable def F_base_Indices_L4 (x0 : List gIndex) (x1 : List gIndex) (x5 : Int) : Option (Unit ⊕ Bool) :=
 some (List.length x0 : Int) >>= fun v0 =>
 if x5 < v0 then
 ix x0 x5 >>= fun v1 =>
 ix x1 x5 >>= fun v2 =>
 F_base_Index v1 v2 >>= fun v3 => if v3 then
 F_base_Indices_L4 x0 x1 (IntKind.i64.wrap (x5 + (1 : Int)))
 else
 some (.inr false)
 else
 some (.inl ())
  partial_fixpoint
theorem P_base_Indices_L4 (x0 : List gIndex) (x1 : List gIndex) (x5 : Int) (o : Unit ⊕ Bool) (h : F_base_Indices_L4 x0 x1 x5 = some o) : LO 25 4 27 [0, 1, 5] [.sl 4 (List.map egIndex x0), .sl 4 (List.map egIndex x1), .int .i64 x5] [] [4] (A_base_Indices_L4 (x0, x1) () o) :=
  F_base_Indices_L4.partial_correctness x0 x1 (fun x5 o => LO 25 4 27 [0, 1, 5] [.sl 4 (List.map egIndex x0), .sl 4 (List.map egIndex x1), .int .i64 x5] [] [4] (A_base_Indices_L4 (x0, x1) () o))
  (fun F_base_Indices_L4 ih_base_Indices_L4 x5 o h  =>
  Lp1 (hs := [(13, .n eI 13 none), (14, .split), (19, .e egIndex), (23, .e egIndex), (25, .cb)]) (kb := []) (kbx := []) (by kernel_rfl) (by kernel_rfl) ((kN _ (mLen (sh := egIndex) x0) fun v0 => (kIfD (p := x5 < v0) (kIx (enc := egIndex) (l := x0) (k := x5) fun v1 => (kIx (enc := egIndex) (l := x1) (k := x5) fun v2 => (kCb (P_base_Index v1 v2) (kM0 (alts := A_base_Indices_L4 (x0, x1) ()) (ih_base_Indices_L4 (IntKind.i64.wrap (x5 + (1 : Int)))))
 (kX (alts := A_base_Indices_L4 (x0, x1) ()) (.inr false) (.next (.here _ rfl (.refl _) (.refl _)))))))
 (kX (alts := A_base_Indices_L4 (x0, x1) ()) (.inl ()) (.here _ rfl (.refl _) (.refl _))))) h)) x5 o h
noncomputable def F_base_Indices (x0 : List gIndex) (x1 : List gIndex) : Option Bool :=
 some (List.length x0 : Int) >>= fun v0 =>
 some (List.length x1 : Int) >>= fun v1 =>
 if v0 != v1 then
 some false
 else
 some () >>= fun v2 =>
 F_base_Indices_L4 x0 x1 (0 : Int) >>= fun v3 => (match v3 with
 | (.inl v4) =>
 some true
 | (.inr v5) =>
 some v5)
theorem P_base_Indices (x0 : List gIndex) (x1 : List gIndex) (r : Bool) (h : F_base_Indices x0 x1 = some r) : PU 25 [eLgIndex x0, eLgIndex x1] (eB r) :=
  Pu1 (hs := [(7, .n eI 7 none), (9, .n eI 9 none), (10, .split), (3000005, .l [] [0, 1, 5] [] [4] [] (A_base_Indices_L4 (x0, x1)))]) (by kernel_rfl) ((kN _ (mLen (sh := egIndex) x0) fun v0 => (kN _ (mLen (sh := egIndex) x1) fun v1 => (kIf (c := v0 != v1) (kEr (enc := eB) false)
 (kL2 () (hL := (P_base_Indices_L4 x0 x1 (0 : Int))) (hA := fun v2 v4 => (kEr (enc := eB) true))
 (hB := fun v2 v5 => (kEr (enc := eB) v5)))))) h)
def A_base_Exprs_L4 (s : ((List gExpr) × (List gExpr))) (u : Unit) (o : Unit ⊕ Bool) : List Alt := [⟨fun (x : Unit) => (Sum.inl x : Unit ⊕ Bool) = o, .exit 0, fun x => [.undef], fun x => []⟩, ⟨fun (x : Bool) => (Sum.inr x : Unit ⊕ Bool) = o, .ret, fun x => [.bool x], fun x => []⟩]
mutual
noncomputable def F_base_Expr (x0 : gExprS) (x1 : gExprS) : Option Bool :=
 if x0.fOp == x1.fOp then
 if x0.fName == x1.fName then
 if x0.fVal.fN == x1.fVal.fN && (x0.fVal.fD == x1.fVal.fD && true) then
 if x0.fType.fKind == x1.fType.fKind && (x0.fType.fBits == x1.fType.fBits && (x0.fType.fFrac == x1.fType.fFrac && (x0.fType.fRound == x1.fType.fRound && (x0.fType.fOver == x1.fType.fOver && true)))) then
 F_base_Lin x0.fLin x1.fLin >>= fun v0 => if v0 then
 F_base_Indices x0.fIdx x1.fIdx >>= fun v1 => if v1 then
 F_base_Exprs x0.fArgs x1.fArgs >>= fun v2 =>
 some v2
 else
 some false
 else
 some false
 else
 some false
 else
 some false
 else
 some false
 else
 some false
  partial_fixpoint
noncomputable def F_base_Exprs (x0 : List gExpr) (x1 : List gExpr) : Option Bool :=
 some (List.length x0 : Int) >>= fun v0 =>
 some (List.length x1 : Int) >>= fun v1 =>
 if v0 != v1 then
 some false
 else
 some () >>= fun v2 =>
 F_base_Exprs_L4 x0 x1 (0 : Int) >>= fun v3 => (match v3 with
 | (.inl v4) =>
 some true
 | (.inr v5) =>
 some v5)
  partial_fixpoint
noncomputable def F_base_Exprs_L4 (x0 : List gExpr) (x1 : List gExpr) (x5 : Int) : Option (Unit ⊕ Bool) :=
 some (List.length x0 : Int) >>= fun v0 =>
 if x5 < v0 then
 Option.map gExpr.f (ix x0 x5) >>= fun v1 =>
 Option.map gExpr.f (ix x1 x5) >>= fun v2 =>
 F_base_Expr v1 v2 >>= fun v3 => if v3 then
 F_base_Exprs_L4 x0 x1 (IntKind.i64.wrap (x5 + (1 : Int)))
 else
 some (.inr false)
 else
 some (.inl ())
  partial_fixpoint
end
theorem PM_base_Expr  : (∀ (x0 : gExprS) (x1 : gExprS) (r : Bool), F_base_Expr x0 x1 = some r → PU 26 [hgExpr x0, hgExpr x1] (eB r)) ∧ (∀ (x0 : List gExpr) (x1 : List gExpr) (r : Bool), F_base_Exprs x0 x1 = some r → PU 51 [eLgExpr x0, eLgExpr x1] (eB r)) ∧ (∀ (x0 : List gExpr) (x1 : List gExpr) (x5 : Int) (o : Unit ⊕ Bool), F_base_Exprs_L4 x0 x1 x5 = some o → LO 51 4 27 [0, 1, 5] [.sl 13 (List.map egExpr x0), .sl 13 (List.map egExpr x1), .int .i64 x5] [] [4] (A_base_Exprs_L4 (x0, x1) () o)) :=
  F_base_Expr.mutual_partial_correctness  (fun x0 x1 r => PU 26 [hgExpr x0, hgExpr x1] (eB r)) (fun x0 x1 r => PU 51 [eLgExpr x0, eLgExpr x1] (eB r)) (fun x0 x1 x5 o => LO 51 4 27 [0, 1, 5] [.sl 13 (List.map egExpr x0), .sl 13 (List.map egExpr x1), .int .i64 x5] [] [4] (A_base_Exprs_L4 (x0, x1) () o))
  (fun F_base_Exprs ih_base_Exprs x0 x1 r h  =>
  Pu1 (hs := [(9, .split), (15, .split), (22, .split), (29, .split), (36, .cb), (43, .cb), (50, .c eB)]) (by kernel_rfl) ((kIf (c := x0.fOp == x1.fOp) (kIf (c := x0.fName == x1.fName) (kIf (c := x0.fVal.fN == x1.fVal.fN && (x0.fVal.fD == x1.fVal.fD && true)) (kIf (c := x0.fType.fKind == x1.fType.fKind && (x0.fType.fBits == x1.fType.fBits && (x0.fType.fFrac == x1.fType.fFrac && (x0.fType.fRound == x1.fType.fRound && (x0.fType.fOver == x1.fType.fOver && true))))) (kCb (P_base_Lin x0.fLin x1.fLin) (kCb (P_base_Indices x0.fIdx x1.fIdx) (kC (sh := eB) (ih_base_Exprs x0.fArgs x1.fArgs) fun v2 => (kEr (enc := eB) v2))
 (kEr (enc := eB) false))
 (kEr (enc := eB) false))
 (kEr (enc := eB) false))
 (kEr (enc := eB) false))
 (kEr (enc := eB) false))
 (kEr (enc := eB) false)) h))
  (fun F_base_Exprs_L4 ih_base_Exprs_L4 x0 x1 r h  =>
  Pu1 (hs := [(7, .n eI 7 none), (9, .n eI 9 none), (10, .split), (3000005, .l [] [0, 1, 5] [] [4] [] (A_base_Exprs_L4 (x0, x1)))]) (by kernel_rfl) ((kN _ (mLen (sh := egExpr) x0) fun v0 => (kN _ (mLen (sh := egExpr) x1) fun v1 => (kIf (c := v0 != v1) (kEr (enc := eB) false)
 (kL2 () (hL := (ih_base_Exprs_L4 x0 x1 (0 : Int))) (hA := fun v2 v4 => (kEr (enc := eB) true))
 (hB := fun v2 v5 => (kEr (enc := eB) v5)))))) h))
  (fun F_base_Expr F_base_Exprs_L4 ih_base_Expr ih_base_Exprs_L4 x0 x1 x5 o h  =>
  Lp1 (hs := [(13, .n eI 13 none), (14, .split), (19, .e hgExpr), (23, .e hgExpr), (25, .cb)]) (kb := []) (kbx := []) (by kernel_rfl) (by kernel_rfl) ((kN _ (mLen (sh := egExpr) x0) fun v0 => (kIfD (p := x5 < v0) (kIxR (l := x0) (k := x5) egExpr_f fun v1 => (kIxR (l := x1) (k := x5) egExpr_f fun v2 => (kCb (ih_base_Expr v1 v2) (kM0 (alts := A_base_Exprs_L4 (x0, x1) ()) (ih_base_Exprs_L4 x0 x1 (IntKind.i64.wrap (x5 + (1 : Int)))))
 (kX (alts := A_base_Exprs_L4 (x0, x1) ()) (.inr false) (.next (.here _ rfl (.refl _) (.refl _)))))))
 (kX (alts := A_base_Exprs_L4 (x0, x1) ()) (.inl ()) (.here _ rfl (.refl _) (.refl _))))) h))
theorem P_base_Expr (x0 : gExprS) (x1 : gExprS) (r : Bool) (h : F_base_Expr x0 x1 = some r) : PU 26 [hgExpr x0, hgExpr x1] (eB r) := (PM_base_Expr ).1 x0 x1 r h
theorem P_base_Exprs (x0 : List gExpr) (x1 : List gExpr) (r : Bool) (h : F_base_Exprs x0 x1 = some r) : PU 51 [eLgExpr x0, eLgExpr x1] (eB r) := (PM_base_Expr ).2.1 x0 x1 r h
theorem P_base_Exprs_L4 (x0 : List gExpr) (x1 : List gExpr) (x5 : Int) (o : Unit ⊕ Bool) (h : F_base_Exprs_L4 x0 x1 x5 = some o) : LO 51 4 27 [0, 1, 5] [.sl 13 (List.map egExpr x0), .sl 13 (List.map egExpr x1), .int .i64 x5] [] [4] (A_base_Exprs_L4 (x0, x1) () o) := (PM_base_Expr ).2.2 x0 x1 x5 o h
def A_base_Stmts_L4 (s : ((List gStmt) × (List gStmt))) (u : Unit) (o : Unit ⊕ Bool) : List Alt := [⟨fun (x : Unit) => (Sum.inl x : Unit ⊕ Bool) = o, .exit 0, fun x => [.undef], fun x => []⟩, ⟨fun (x : Bool) => (Sum.inr x : Unit ⊕ Bool) = o, .ret, fun x => [.bool x], fun x => []⟩]
mutual
noncomputable def F_base_Stmt (x0 : gStmtS) (x1 : gStmtS) : Option Bool :=
 if x0.fOp == x1.fOp then
 if x0.fName == x1.fName then
 if x0.fMany == x1.fMany then
 if x0.fMark == x1.fMark then
 if x0.fFold == x1.fFold then
 F_base_Indices x0.fIdx x1.fIdx >>= fun v0 => if v0 then
 F_base_Expr x0.fExpr x1.fExpr >>= fun v1 => if v1 then
 F_base_Stmts x0.fBody x1.fBody >>= fun v2 =>
 some v2
 else
 some false
 else
 some false
 else
 some false
 else
 some false
 else
 some false
 else
 some false
 else
 some false
  partial_fixpoint
noncomputable def F_base_Stmts (x0 : List gStmt) (x1 : List gStmt) : Option Bool :=
 some (List.length x0 : Int) >>= fun v0 =>
 some (List.length x1 : Int) >>= fun v1 =>
 if v0 != v1 then
 some false
 else
 some () >>= fun v2 =>
 F_base_Stmts_L4 x0 x1 (0 : Int) >>= fun v3 => (match v3 with
 | (.inl v4) =>
 some true
 | (.inr v5) =>
 some v5)
  partial_fixpoint
noncomputable def F_base_Stmts_L4 (x0 : List gStmt) (x1 : List gStmt) (x5 : Int) : Option (Unit ⊕ Bool) :=
 some (List.length x0 : Int) >>= fun v0 =>
 if x5 < v0 then
 Option.map gStmt.f (ix x0 x5) >>= fun v1 =>
 Option.map gStmt.f (ix x1 x5) >>= fun v2 =>
 F_base_Stmt v1 v2 >>= fun v3 => if v3 then
 F_base_Stmts_L4 x0 x1 (IntKind.i64.wrap (x5 + (1 : Int)))
 else
 some (.inr false)
 else
 some (.inl ())
  partial_fixpoint
end
theorem PM_base_Stmt  : (∀ (x0 : gStmtS) (x1 : gStmtS) (r : Bool), F_base_Stmt x0 x1 = some r → PU 9 [hgStmt x0, hgStmt x1] (eB r)) ∧ (∀ (x0 : List gStmt) (x1 : List gStmt) (r : Bool), F_base_Stmts x0 x1 = some r → PU 27 [eLgStmt x0, eLgStmt x1] (eB r)) ∧ (∀ (x0 : List gStmt) (x1 : List gStmt) (x5 : Int) (o : Unit ⊕ Bool), F_base_Stmts_L4 x0 x1 x5 = some o → LO 27 4 27 [0, 1, 5] [.sl 20 (List.map egStmt x0), .sl 20 (List.map egStmt x1), .int .i64 x5] [] [4] (A_base_Stmts_L4 (x0, x1) () o)) :=
  F_base_Stmt.mutual_partial_correctness  (fun x0 x1 r => PU 9 [hgStmt x0, hgStmt x1] (eB r)) (fun x0 x1 r => PU 27 [eLgStmt x0, eLgStmt x1] (eB r)) (fun x0 x1 x5 o => LO 27 4 27 [0, 1, 5] [.sl 20 (List.map egStmt x0), .sl 20 (List.map egStmt x1), .int .i64 x5] [] [4] (A_base_Stmts_L4 (x0, x1) () o))
  (fun F_base_Stmts ih_base_Stmts x0 x1 r h  =>
  Pu1 (hs := [(9, .split), (15, .split), (22, .split), (29, .split), (36, .split), (43, .cb), (50, .cb), (57, .c eB)]) (by kernel_rfl) ((kIf (c := x0.fOp == x1.fOp) (kIf (c := x0.fName == x1.fName) (kIf (c := x0.fMany == x1.fMany) (kIf (c := x0.fMark == x1.fMark) (kIf (c := x0.fFold == x1.fFold) (kCb (P_base_Indices x0.fIdx x1.fIdx) (kCb (P_base_Expr x0.fExpr x1.fExpr) (kC (sh := eB) (ih_base_Stmts x0.fBody x1.fBody) fun v2 => (kEr (enc := eB) v2))
 (kEr (enc := eB) false))
 (kEr (enc := eB) false))
 (kEr (enc := eB) false))
 (kEr (enc := eB) false))
 (kEr (enc := eB) false))
 (kEr (enc := eB) false))
 (kEr (enc := eB) false)) h))
  (fun F_base_Stmts_L4 ih_base_Stmts_L4 x0 x1 r h  =>
  Pu1 (hs := [(7, .n eI 7 none), (9, .n eI 9 none), (10, .split), (3000005, .l [] [0, 1, 5] [] [4] [] (A_base_Stmts_L4 (x0, x1)))]) (by kernel_rfl) ((kN _ (mLen (sh := egStmt) x0) fun v0 => (kN _ (mLen (sh := egStmt) x1) fun v1 => (kIf (c := v0 != v1) (kEr (enc := eB) false)
 (kL2 () (hL := (ih_base_Stmts_L4 x0 x1 (0 : Int))) (hA := fun v2 v4 => (kEr (enc := eB) true))
 (hB := fun v2 v5 => (kEr (enc := eB) v5)))))) h))
  (fun F_base_Stmt F_base_Stmts_L4 ih_base_Stmt ih_base_Stmts_L4 x0 x1 x5 o h  =>
  Lp1 (hs := [(13, .n eI 13 none), (14, .split), (19, .e hgStmt), (23, .e hgStmt), (25, .cb)]) (kb := []) (kbx := []) (by kernel_rfl) (by kernel_rfl) ((kN _ (mLen (sh := egStmt) x0) fun v0 => (kIfD (p := x5 < v0) (kIxR (l := x0) (k := x5) egStmt_f fun v1 => (kIxR (l := x1) (k := x5) egStmt_f fun v2 => (kCb (ih_base_Stmt v1 v2) (kM0 (alts := A_base_Stmts_L4 (x0, x1) ()) (ih_base_Stmts_L4 x0 x1 (IntKind.i64.wrap (x5 + (1 : Int)))))
 (kX (alts := A_base_Stmts_L4 (x0, x1) ()) (.inr false) (.next (.here _ rfl (.refl _) (.refl _)))))))
 (kX (alts := A_base_Stmts_L4 (x0, x1) ()) (.inl ()) (.here _ rfl (.refl _) (.refl _))))) h))
theorem P_base_Stmt (x0 : gStmtS) (x1 : gStmtS) (r : Bool) (h : F_base_Stmt x0 x1 = some r) : PU 9 [hgStmt x0, hgStmt x1] (eB r) := (PM_base_Stmt ).1 x0 x1 r h
theorem P_base_Stmts (x0 : List gStmt) (x1 : List gStmt) (r : Bool) (h : F_base_Stmts x0 x1 = some r) : PU 27 [eLgStmt x0, eLgStmt x1] (eB r) := (PM_base_Stmt ).2.1 x0 x1 r h
theorem P_base_Stmts_L4 (x0 : List gStmt) (x1 : List gStmt) (x5 : Int) (o : Unit ⊕ Bool) (h : F_base_Stmts_L4 x0 x1 x5 = some o) : LO 27 4 27 [0, 1, 5] [.sl 20 (List.map egStmt x0), .sl 20 (List.map egStmt x1), .int .i64 x5] [] [4] (A_base_Stmts_L4 (x0, x1) () o) := (PM_base_Stmt ).2.2 x0 x1 x5 o h
end Go.Proofs.YtfaenlhmhlabeaaGreatDoor
end
section
namespace Go.Proofs.YtfaenlhmhlabeaaGreatDoor
open Go HY
set_option maxRecDepth 1000000
theorem cmpRun (a b : ByteArray) (w : World) : (callFunc 276 #[.string a, .string b]).run Tryz.prog w = .ok (.value (.int .i64 (Lib.compareBytes a.data.toList b.data.toList))) w := by
  rw [run_callFunc_extern (fn := Tryz.f276) (e := Extern.BytealgCompare.compare) (by kernel_rfl) (by kernel_rfl) (by kernel_rfl) (by kernel_rfl) (by kernel_rfl) #[.string a, .string b] w]
  rw [Lib.run_compareString]
  rfl
def xe0 : CallH := xcmp 276
theorem xe0_ok : CallH.Ok Tryz.prog gls xe0 := xcmp_ok cmpRun
def kws : List AV := [.str [115, 105, 122, 101],
  .str [119, 104, 101, 114, 101],
  .str [105, 110],
  .str [100, 101, 102],
  .str [111, 117, 116],
  .str [115, 117, 109],
  .str [112, 114, 111, 100],
  .str [109, 105, 110],
  .str [109, 97, 120],
  .str [115, 99, 97, 110],
  .str [111, 118, 101, 114],
  .str [105, 102],
  .str [99, 97, 115, 116],
  .str [102, 114, 97, 99],
  .str [105, 110, 116],
  .str [102, 105, 120],
  .str [99, 101, 105, 108],
  .str [102, 108, 111, 111, 114],
  .str [122, 101, 114, 111],
  .str [101, 118, 101, 110],
  .str [115, 97, 116],
  .str [119, 114, 97, 112]]
def memoKw : MemoT := [(131, [], .bs 0 0 1 0 22, pt .nil 0 (.cells 0 kws), 1)]
theorem memoKw_ok : MemoOk Tryz.prog gls memoKw := fun e he => by
  rw [memoKw, List.mem_singleton] at he
  subst he
  exact memo_norm (xcallM_ok progOk xe0_ok (T := []) (fun _ h => by cases h) 40 (fl := 100000)) (by kernel_rfl)
end Go.Proofs.YtfaenlhmhlabeaaGreatDoor
end
section
namespace Go.Proofs.YtfaenlhmhlabeaaGreatDoor
open Go HY
set_option maxRecDepth 1000000
def e0 : Nat × List AV × AV × Tr Box × Nat := (82, [.str [97]], .bool true, .nil, 1)
theorem e0_ok : CallOk0 Tryz.prog gls e0.1 e0.2.1 e0.2.2.1 e0.2.2.2.1 e0.2.2.2.2 := memo_norm (xcallM_ok progOk xe0_ok memoKw_ok 60 (fl := 100000)) (by kernel_rfl)
def memo0 : MemoT := e0 :: memoKw
theorem memo0_ok : MemoOk Tryz.prog gls memo0 := fun e he => by
  rcases List.mem_cons.1 he with rfl | he
  · exact e0_ok
  · exact memoKw_ok e he
def e1 : Nat × List AV × AV × Tr Box × Nat := (82, [.str [99]], .bool true, .nil, 1)
theorem e1_ok : CallOk0 Tryz.prog gls e1.1 e1.2.1 e1.2.2.1 e1.2.2.2.1 e1.2.2.2.2 := memo_norm (xcallM_ok progOk xe0_ok memo0_ok 60 (fl := 100000)) (by kernel_rfl)
def memo1 : MemoT := e1 :: memo0
theorem memo1_ok : MemoOk Tryz.prog gls memo1 := fun e he => by
  rcases List.mem_cons.1 he with rfl | he
  · exact e1_ok
  · exact memo0_ok e he
def e2 : Nat × List AV × AV × Tr Box × Nat := (82, [.str [105]], .bool true, .nil, 1)
theorem e2_ok : CallOk0 Tryz.prog gls e2.1 e2.2.1 e2.2.2.1 e2.2.2.2.1 e2.2.2.2.2 := memo_norm (xcallM_ok progOk xe0_ok memo1_ok 60 (fl := 100000)) (by kernel_rfl)
def memo2 : MemoT := e2 :: memo1
theorem memo2_ok : MemoOk Tryz.prog gls memo2 := fun e he => by
  rcases List.mem_cons.1 he with rfl | he
  · exact e2_ok
  · exact memo1_ok e he
def e3 : Nat × List AV × AV × Tr Box × Nat := (38, [.agg [.sl 8 [.agg [.str [97], .int .i64 1, .int .i64 0, .int .i64 0, .int .i64 0, .int .i64 0, .sl 1 [.agg [.int .i64 2]], .int .i64 1], .agg [.str [99], .int .i64 1, .int .i64 0, .int .i64 0, .int .i64 0, .int .i64 0, .sl 1 [.agg [.int .i64 2]], .int .i64 2]], .sl 20 [.agg [.int .i64 1, .str [105], .int .i64 2, .int .i64 0, .int .i64 0, .nil, .int .i64 0, .str [], .int .i64 0, .int .i64 0, .int .i64 0, .int .i64 0, .int .i64 0, .int .i64 0, .int .i64 0, .int .i64 0, .nil, .nil, .nil, .sl 20 [.agg [.int .i64 2, .str [99], .int .i64 0, .int .i64 0, .int .i64 0, .sl 4 [.agg [.int .i64 0, .sl 2 [.agg [.str [105], .int .i64 1]], .str [], .nil]], .int .i64 3, .str [97], .int .i64 0, .int .i64 0, .int .i64 0, .int .i64 0, .int .i64 0, .int .i64 0, .int .i64 0, .int .i64 0, .nil, .sl 4 [.agg [.int .i64 0, .sl 2 [.agg [.str [105], .int .i64 1]], .str [], .nil]], .nil, .nil]]]]]], .tup [.nil, .int .i64 0], .nil, 1)
theorem e3_ok : CallOk0 Tryz.prog gls e3.1 e3.2.1 e3.2.2.1 e3.2.2.2.1 e3.2.2.2.2 := memo_norm (xcallM_ok progOk xe0_ok memo2_ok 60 (fl := 100000)) (by kernel_rfl)
def memo3 : MemoT := e3 :: memo2
theorem memo3_ok : MemoOk Tryz.prog gls memo3 := fun e he => by
  rcases List.mem_cons.1 he with rfl | he
  · exact e3_ok
  · exact memo2_ok e he
end Go.Proofs.YtfaenlhmhlabeaaGreatDoor
end
section
namespace Go.Proofs.YtfaenlhmhlabeaaGreatDoor
open Go HY
set_option maxRecDepth 1000000
theorem ex_run : HY.isTrue (xcallM Tryz.prog gls gds 100000 xe0 memo3 60 6 [] .nil 0) = true := by kernel_rfl
theorem ex_ok : Pu Tryz.prog gls 6 [] (.bool true) := by
  have h := ex_run
  unfold HY.isTrue at h
  split at h
  · rename_i r hr
    exact Pu.ofCall (xcallM_ok progOk xe0_ok memo3_ok 60 _ _ _ _ _ _ _ hr).zero rfl
  · cases h
end Go.Proofs.YtfaenlhmhlabeaaGreatDoor
end
section
namespace Go.Proofs.YtfaenlhmhlabeaaGreatDoor
open Go HY
noncomputable def F_law33_examples : Option Bool := some true
theorem P_law33_examples (r : Bool) (h : F_law33_examples = some r) : PU 6 [] (.bool r) := by
  cases h
  exact ex_ok
end Go.Proofs.YtfaenlhmhlabeaaGreatDoor
end
section
namespace Go.Proofs.YtfaenlhmhlabeaaGreatDoor
open Go HY
set_option maxRecDepth 1000000
set_option linter.unusedVariables false
def A_law33_TraceConcrete_L4 (s : ((List gBinding) × gStmtS × gExprS)) (u : Unit) (o : Unit ⊕ Bool) : List Alt := [⟨fun (x : Unit) => (Sum.inl x : Unit ⊕ Bool) = o, .exit 0, fun x => [.sl 2 (List.map egBinding s.1), .ptr 0 0 0, .ptr 1 0 0, .undef], fun x => [.cells 0 (hgStmt s.2.1).cells, .cells 0 (hgExpr s.2.2).cells]⟩, ⟨fun (x : Bool) => (Sum.inr x : Unit ⊕ Bool) = o, .ret, fun x => [.sl 2 (List.map egBinding s.1), .ptr 0 0 0, .ptr 1 0 0, .bool x], fun x => [.cells 0 (hgStmt s.2.1).cells, .cells 0 (hgExpr s.2.2).cells]⟩]
noncomputable def F_law33_TraceConcrete_L4 (x1 : List gBinding) (x7 : Int) : Option (Unit ⊕ Bool) :=
 some (List.length x1 : Int) >>= fun v0 =>
 if x7 < v0 then
 ix x1 x7 >>= fun v1 =>
 if (100 : Int) < (↑(List.length v1.fName) : Int) then
 F_law33_examples >>= fun v2 =>
 some (.inr v2)
 else
 F_law33_TraceConcrete_L4 x1 (IntKind.i64.wrap (x7 + (1 : Int)))
 else
 some (.inl ())
  partial_fixpoint
theorem P_law33_TraceConcrete_L4 (x1 : List gBinding) (x3 : gStmtS) (x5 : gExprS) (x7 : Int) (o : Unit ⊕ Bool) (h : F_law33_TraceConcrete_L4 x1 x7 = some o) : LO 3 4 68 [1, 3, 5, 7] [.sl 2 (List.map egBinding x1), .ptr 0 0 0, .ptr 1 0 0, .int .i64 x7] [.cells 0 (hgStmt x3).cells, .cells 0 (hgExpr x5).cells] [1, 3, 5, 6] (A_law33_TraceConcrete_L4 (x1, x3, x5) () o) :=
  F_law33_TraceConcrete_L4.partial_correctness x1 (fun x7 o => ∀ (x3 : gStmtS) (x5 : gExprS), LO 3 4 68 [1, 3, 5, 7] [.sl 2 (List.map egBinding x1), .ptr 0 0 0, .ptr 1 0 0, .int .i64 x7] [.cells 0 (hgStmt x3).cells, .cells 0 (hgExpr x5).cells] [1, 3, 5, 6] (A_law33_TraceConcrete_L4 (x1, x3, x5) () o))
  (fun F_law33_TraceConcrete_L4 ih_law33_TraceConcrete_L4 x7 o h x3 x5 =>
  Lp1 (hs := [(26, .n eI 26 none), (27, .split), (32, .e egBinding), (36, .split), (37, .c eB)]) (kb := [{ slot := 3 }, { slot := 5 }]) (kbx := [{ slot := 3 }, { slot := 5 }]) (by kernel_rfl) (by kernel_rfl) ((kN _ (mLen (sh := egBinding) x1) fun v0 => (kIfD (p := x7 < v0) (kIx (enc := egBinding) (l := x1) (k := x7) fun v1 => (kIfD (p := (100 : Int) < (↑(List.length v1.fName) : Int)) (kC (sh := eB) (P_law33_examples) fun v2 => (kX (alts := A_law33_TraceConcrete_L4 (x1, x3, x5) ()) (.inr v2) (.next (.here _ rfl (.refl _) (.refl _)))))
 (kM0 (alts := A_law33_TraceConcrete_L4 (x1, x3, x5) ()) (fun y hy => ih_law33_TraceConcrete_L4 (IntKind.i64.wrap (x7 + (1 : Int))) y hy x3 x5))))
 (kX (alts := A_law33_TraceConcrete_L4 (x1, x3, x5) ()) (.inl ()) (.here _ rfl (.refl _) (.refl _))))) h)) x7 o h x3 x5
def A_law33_TraceConcrete_J5000001 (s : ((List gBinding) × gStmtS × gExprS)) (u : Unit) (o : Bool) : List Alt := [⟨fun (x : Unit) => true = o, .normal, fun x => [.sl 2 (List.map egBinding (s.1)), .ptr 0 0 0, .ptr 1 0 0, .bool true], fun x => [.cells 0 (hgStmt (s.2.1)).cells, .cells 0 (hgExpr (s.2.2)).cells]⟩, ⟨fun (x : Unit) => false = o, .normal, fun x => [.sl 2 (List.map egBinding (s.1)), .ptr 0 0 0, .ptr 1 0 0, .bool false], fun x => [.cells 0 (hgStmt (s.2.1)).cells, .cells 0 (hgExpr (s.2.2)).cells]⟩]
noncomputable def F_law33_TraceConcrete (x0 : gStmtS) (x1 : List gBinding) (x2 : gExprS) : Option Bool :=
 some () >>= fun v0 =>
 (some ((gStmtF.mk (0 : Int) [] (0 : Int) (0 : Int) (0 : Int) [] x2 [] : gStmtS)) >>= fun v2 =>
 some ((gNest.mk [] [(gStmt.mk x0), (gStmt.mk v2)])) >>= fun v3 =>
 F_ref33_Long v3 (400 : Int) >>= fun v4 => if v4 then
 some true
 else
 some (List.length x1 : Int) >>= fun v5 =>
 if (12 : Int) < v5 then
 some true
 else
 some false) >>= fun v1 => if v1 then
 F_law33_examples >>= fun v7 =>
 some v7
 else
 some () >>= fun v9 =>
 F_law33_TraceConcrete_L4 x1 (0 : Int) >>= fun v10 => (match v10 with
 | (.inl v11) =>
 F_trace_Concrete x0 x1 >>= fun v12 =>
 F_ref33_Concrete x0 x1 >>= fun v13 =>
 F_base_Stmt v12.fst v13.fst >>= fun v14 => if v14 then
 if v12.snd == v13.snd then
 F_trace_Static x2 >>= fun v15 =>
 F_ref33_Static x2 >>= fun v16 =>
 if v15 == v16 then
 F_law33_examples >>= fun v17 =>
 some v17
 else
 some false
 else
 some false
 else
 some false
 | (.inr v18) =>
 some v18)
theorem P_law33_TraceConcrete (x0 : gStmtS) (x1 : List gBinding) (x2 : gExprS) (r : Bool) (h : F_law33_TraceConcrete x0 x1 x2 = some r) : PU 3 [hgStmt x0, eLgBinding x1, hgExpr x2] (eB r) :=
  Pu1 (hs := [(14, .n hgStmt 14 none), (16, .z [{ slot := 15, own := 20 }, { slot := 15, fz := true }] (some (.n egNest 16 none))), (17, .cb), (20, .n eI 20 none), (21, .split), (23, .c eB), (41, .c eT_gStmt_I), (47, .c eT_gStmt_I), (52, .cb), (56, .split), (60, .c eB), (62, .c eB), (63, .split), (66, .c eB), (3000005, .l [] [1, 3, 5, 7] [{ slot := 3 }, { slot := 5 }] [1, 3, 5, 6] [{ slot := 3 }, { slot := 5 }] (A_law33_TraceConcrete_L4 (x1, x0, x2))), (5000001, .l [] [] [] [1, 3, 5, 22] [{ slot := 3 }, { slot := 5 }] (A_law33_TraceConcrete_J5000001 (x1, x0, x2)))]) (by kernel_rfl) ((kJb (id := 5000001) () (fun v0 ev0 v1 => (kW (sh := hgStmt) (gStmtF.mk (0 : Int) [] (0 : Int) (0 : Int) (0 : Int) [] x2 [] : gStmtS) (LeV.agg (.cons (LeV.refl (AV.int IntKind.i64 (0 : Int))) (.cons (LeV.refl (AV.str [])) (.cons (LeV.refl (AV.int IntKind.i64 (0 : Int))) (.cons (LeV.refl (AV.int IntKind.i64 (0 : Int))) (.cons (LeV.refl (AV.int IntKind.i64 (0 : Int))) (.cons (LeV.nil 4) (.cons (LeV.refl (AV.int IntKind.i64 x2.fOp)) (.cons (LeV.refl (AV.str x2.fName)) (.cons (LeV.refl (AV.int IntKind.i64 x2.fVal.fN)) (.cons (LeV.refl (AV.int IntKind.i64 x2.fVal.fD)) (.cons (LeV.refl (AV.int IntKind.i64 x2.fType.fKind)) (.cons (LeV.refl (AV.int IntKind.i64 x2.fType.fBits)) (.cons (LeV.refl (AV.int IntKind.i64 x2.fType.fFrac)) (.cons (LeV.refl (AV.int IntKind.i64 x2.fType.fRound)) (.cons (LeV.refl (AV.int IntKind.i64 x2.fType.fOver)) (.cons (LeV.refl (AV.int IntKind.i64 x2.fLin.fK)) (.cons (LeV.refl (AV.sl (2 : Nat) (List.map egMono x2.fLin.fL))) (.cons (LeV.refl (AV.sl (4 : Nat) (List.map egIndex x2.fIdx))) (.cons (LeV.refl (AV.sl (13 : Nat) (List.map egExpr x2.fArgs))) (.cons (LeV.nil 20) .nil))))))))))))))))))))) fun v2 => (kT (rfl : (2 : Nat) = (2 : Nat)) (kW (sh := egNest) (gNest.mk [] [(gStmt.mk x0), (gStmt.mk v2)]) (LeV.agg (.cons (LeV.nil 8) (.cons (LeV.sl (.cons (legStmt x0) (.cons (legStmt v2) .nil))) .nil))) fun v3 => (kCb (P_ref33_Long v3 (400 : Int)) (kXj (alts := A_law33_TraceConcrete_J5000001 (x1, x0, x2)) ev0 true (.here () rfl (.refl _) (.refl _)))
 (kN _ (mLen (sh := egBinding) x1) fun v5 => (kIfD (p := (12 : Int) < v5) (kXj (alts := A_law33_TraceConcrete_J5000001 (x1, x0, x2)) ev0 true (.here () rfl (.refl _) (.refl _)))
 (kXj (alts := A_law33_TraceConcrete_J5000001 (x1, x0, x2)) ev0 false (.next (.here () rfl (.refl _) (.refl _)))))))))))
 (fun v0 => (kC (sh := eB) (P_law33_examples) fun v7 => (kEr (enc := eB) v7)))
 (fun v0 => (kL2 () (hL := (P_law33_TraceConcrete_L4 x1 x0 x2 (0 : Int))) (hA := fun v9 v11 => (kC (sh := eT_gStmt_I) (P_trace_Concrete x0 x1) fun v12 => (kC (sh := eT_gStmt_I) (P_ref33_Concrete x0 x1) fun v13 => (kCb (P_base_Stmt v12.fst v13.fst) (kIf (c := v12.snd == v13.snd) (kC (sh := eB) (P_trace_Static x2) fun v15 => (kC (sh := eB) (P_ref33_Static x2) fun v16 => (kIf (c := v15 == v16) (kC (sh := eB) (P_law33_examples) fun v17 => (kEr (enc := eB) v17))
 (kEr (enc := eB) false))))
 (kEr (enc := eB) false))
 (kEr (enc := eB) false)))))
 (hB := fun v9 v18 => (kEr (enc := eB) v18))))) h)
end Go.Proofs.YtfaenlhmhlabeaaGreatDoor
end
section
namespace HY
open Go
def wp {α : Type} (x : Option α) (Q : α → Prop) : Prop := ∃ a, x = some a ∧ Q a
section
variable {α β : Type} {Q : β → Prop}
theorem wp_some {x : β} : wp (some x) Q ↔ Q x := ⟨fun ⟨_, e, h⟩ => by cases e; exact h, fun h => ⟨x, rfl, h⟩⟩
theorem wp_none : wp (none : Option β) Q ↔ False := ⟨fun ⟨_, e, _⟩ => (by cases e), False.elim⟩
theorem wp_bind {x : Option α} {f : α → Option β} : wp (x >>= f) Q ↔ wp x (fun a => wp (f a) Q) := by
  cases x with
  | none => exact ⟨fun ⟨_, e, _⟩ => (by cases e), fun ⟨_, e, _⟩ => (by cases e)⟩
  | some x => exact ⟨fun h => ⟨x, rfl, h⟩, fun ⟨_, e, h⟩ => by cases e; exact h⟩
theorem wp_ite {c : Prop} [Decidable c] {x y : Option β} : wp (if c then x else y) Q ↔ (c → wp x Q) ∧ (¬ c → wp y Q) := by
  by_cases h : c
  · rw [if_pos h]; exact ⟨fun k => ⟨fun _ => k, fun n => absurd h n⟩, fun k => k.1 h⟩
  · rw [if_neg h]; exact ⟨fun k => ⟨fun n => absurd n h, fun _ => k⟩, fun k => k.2 h⟩
theorem wp_map {x : Option α} {f : α → β} : wp (Option.map f x) Q ↔ wp x (fun a => Q (f a)) := by
  cases x with
  | none => exact ⟨fun ⟨_, e, _⟩ => (by cases e), fun ⟨_, e, _⟩ => (by cases e)⟩
  | some x => exact ⟨fun ⟨_, e, h⟩ => by cases e; exact ⟨x, rfl, h⟩, fun ⟨_, e, h⟩ => by cases e; exact ⟨_, rfl, h⟩⟩
theorem wpMono {x : Option β} {Q' : β → Prop} (h : wp x Q') (k : ∀ a, Q' a → Q a) : wp x Q := let ⟨a, e, q⟩ := h; ⟨a, e, k a q⟩
theorem wp_ix {l : List β} {k : Int} : wp (ix l k) Q ↔ ∃ (h0 : 0 ≤ k) (h : k.toNat < l.length), Q (l[k.toNat]) := by
  unfold ix
  constructor
  · rintro ⟨a, e, h⟩
    split at e
    · rename_i h0
      obtain ⟨h1, h2⟩ := List.getElem?_eq_some_iff.1 e
      exact ⟨h0, h1, by rw [h2]; exact h⟩
    · cases e
  · rintro ⟨h0, h1, h⟩
    exact ⟨_, by rw [if_pos h0, List.getElem?_eq_getElem h1], h⟩
theorem wp_get {l : List β} {k : Nat} : wp (l[k]?) Q ↔ ∃ (h : k < l.length), Q (l[k]) := by
  constructor
  · rintro ⟨a, e, h⟩
    obtain ⟨h1, h2⟩ := List.getElem?_eq_some_iff.1 e
    exact ⟨h1, by rw [h2]; exact h⟩
  · rintro ⟨h1, h⟩
    exact ⟨_, List.getElem?_eq_getElem h1, h⟩
theorem ix_all {l : List β} {R : β → Prop} {k : Int} (hl : ∀ x ∈ l, R x) (h0 : 0 ≤ k) (h1 : k < l.length) (h : ∀ x, x ∈ l → R x → Q x) : wp (ix l k) Q :=
  wp_ix.2 ⟨h0, by omega, h _ (List.getElem_mem _) (hl _ (List.getElem_mem _))⟩
theorem ix_mem {l : List β} {k : Int} (h0 : 0 ≤ k) (h1 : k < l.length) (h : ∀ x, x ∈ l → Q x) : wp (ix l k) Q :=
  wp_ix.2 ⟨h0, by omega, h _ (List.getElem_mem _)⟩
theorem wp_eq {x : Option β} {y : β} (h : wp x (fun a => a = y)) : x = some y := let ⟨_, e, q⟩ := h; by rw [e, q]
theorem wp_of {x : Option β} {y : β} (h : x = some y) (q : Q y) : wp x Q := ⟨y, h, q⟩
theorem wp_some_of {x : Option β} (h : wp x Q) : ∃ a, x = some a := let ⟨a, e, _⟩ := h; ⟨a, e⟩
theorem loopUp {F : α → Int → Option β} (n : Nat) (I : Int → α → Prop) (last : ∀ a, I n a → wp (F a n) Q) (step : ∀ (i : Int) a, 0 ≤ i → i < n → I i a → (∀ a', I (i + 1) a' → wp (F a' (i + 1)) Q) → wp (F a i) Q) :
    ∀ (i : Int) a, 0 ≤ i → i ≤ n → I i a → wp (F a i) Q := by
  have key : ∀ (d : Nat) (i : Int) a, 0 ≤ i → i + d = n → I i a → wp (F a i) Q := by
    intro d
    induction d with
    | zero => intro i a _ e hI; have : i = n := by omega
              subst this; exact last a hI
    | succ d ih => intro i a h0 e hI; exact step i a h0 (by omega) hI (fun a' hI' => ih (i + 1) a' (by omega) (by omega) hI')
  intro i a h0 h1 hI
  exact key (n - i.toNat) i a h0 (by omega) hI
theorem loopUp2 {γ : Type} {F : α → γ → Int → Option β} (n : Nat) (last : ∀ a b, wp (F a b n) Q) (step : ∀ (i : Int) a b, 0 ≤ i → i < n → (∀ a' b', wp (F a' b' (i + 1)) Q) → wp (F a b i) Q) (i : Int) (a : α) (b : γ) (h0 : 0 ≤ i) (h1 : i ≤ n) : wp (F a b i) Q :=
  loopUp (F := fun (p : α × γ) i => F p.1 p.2 i) n (fun _ _ => True) (fun a _ => last a.1 a.2) (fun i a h0 h1 _ h => step i a.1 a.2 h0 h1 (fun a' b' => h (a', b') trivial)) i (a, b) h0 h1 trivial
theorem loopUp1 {F : α → Int → Option β} (n : Nat) (last : ∀ a, wp (F a n) Q) (step : ∀ (i : Int) a, 0 ≤ i → i < n → (∀ a', wp (F a' (i + 1)) Q) → wp (F a i) Q) (i : Int) (a : α) (h0 : 0 ≤ i) (h1 : i ≤ n) : wp (F a i) Q :=
  loopUp n (fun _ _ => True) (fun a _ => last a) (fun i a h0 h1 _ h => step i a h0 h1 (fun a' => h a' trivial)) i a h0 h1 trivial
theorem loopUp0 {F : Int → Option β} (n : Nat) (last : wp (F n) Q) (step : ∀ (i : Int), 0 ≤ i → i < n → wp (F (i + 1)) Q → wp (F i) Q) :
    ∀ (i : Int), 0 ≤ i → i ≤ n → wp (F i) Q := fun i h0 h1 => by
  refine loopUp (F := fun (_ : Unit) i => F i) n (fun _ _ => True) (fun _ _ => last) (fun i a h0 h1 _ h => step i h0 h1 (h () trivial)) i () h0 h1 trivial
theorem loopEq {γ : Type} {F : Int → Option β} {l : List γ} (S : List γ → β) (last : F l.length = some (S [])) (step : ∀ (i : Int) (x : γ) (t : List γ), 0 ≤ i → i < l.length → ix l i = some x → F (i + 1) = some (S t) → F i = some (S (x :: t))) : F 0 = some (S l) := by
  have key : ∀ (t p : List γ), l = p ++ t → F p.length = some (S t) := by
    intro t
    induction t with
    | nil => intro p e; have : p.length = l.length := by rw [e]; simp
             rw [this]; exact last
    | cons x t ih =>
      intro p e
      refine step p.length x t (by omega) (by rw [e]; simp; omega) ?_ ?_
      · unfold ix; rw [if_pos (by omega), Int.toNat_natCast, e, List.getElem?_append_right (Nat.le_refl _)]; simp
      · have := ih (p ++ [x]) (by rw [e]; simp)
        rw [← this]; simp
  exact key l [] rfl
theorem loopEqA {γ : Type} {F : α → Int → Option β} {l : List γ} (S : α → List γ → β) (last : ∀ a, F a l.length = some (S a [])) (step : ∀ (i : Int) (x : γ) (t : List γ) a, 0 ≤ i → i < l.length → ix l i = some x → (∀ a, F a (i + 1) = some (S a t)) → F a i = some (S a (x :: t))) (a : α) : F a 0 = some (S a l) := by
  have key : ∀ (t p : List γ), l = p ++ t → ∀ a, F a p.length = some (S a t) := by
    intro t
    induction t with
    | nil => intro p e a; have : p.length = l.length := by rw [e]; simp
             rw [this]; exact last a
    | cons x t ih =>
      intro p e a
      refine step p.length x t a (by omega) (by rw [e]; simp; omega) ?_ ?_
      · unfold ix; rw [if_pos (by omega), Int.toNat_natCast, e, List.getElem?_append_right (Nat.le_refl _)]; simp
      · intro a
        have := ih (p ++ [x]) (by rw [e]; simp) a
        rw [← this]; simp
  exact key l [] rfl a
theorem loopEqI {γ : Type} {F : α → Int → Option β} {l : List γ} (I : α → List γ → Prop) (S : α → List γ → β) (last : ∀ a, I a [] → F a l.length = some (S a [])) (step : ∀ (i : Int) (x : γ) (t : List γ) a, 0 ≤ i → i < l.length → x ∈ l → ix l i = some x → I a (x :: t) → (∀ a, I a t → F a (i + 1) = some (S a t)) → F a i = some (S a (x :: t))) (a : α) (hI : I a l) : F a 0 = some (S a l) := by
  have key : ∀ (t p : List γ), l = p ++ t → ∀ a, I a t → F a p.length = some (S a t) := by
    intro t
    induction t with
    | nil => intro p e a hI; have : p.length = l.length := by rw [e]; simp
             rw [this]; exact last a hI
    | cons x t ih =>
      intro p e a hI
      refine step p.length x t a (by omega) (by rw [e]; simp; omega) (by rw [e]; simp) ?_ hI ?_
      · unfold ix; rw [if_pos (by omega), Int.toNat_natCast, e, List.getElem?_append_right (Nat.le_refl _)]; simp
      · intro a hI
        have := ih (p ++ [x]) (by rw [e]; simp) a hI
        rw [← this]; simp
  exact key l [] rfl a hI
theorem loopSuf {γ : Type} {F : α → Int → Option β} {l : List γ} (I : α → List γ → Prop) (last : ∀ a, I a [] → wp (F a l.length) Q) (step : ∀ (i : Int) (x : γ) (t : List γ) a, 0 ≤ i → i < l.length → x ∈ l → ix l i = some x → (∃ p, l = p ++ x :: t ∧ (p.length : Int) = i) → I a (x :: t) → (∀ a, I a t → wp (F a (i + 1)) Q) → wp (F a i) Q) (a : α) (hI : I a l) : wp (F a 0) Q := by
  have key : ∀ (t p : List γ), l = p ++ t → ∀ a, I a t → wp (F a p.length) Q := by
    intro t
    induction t with
    | nil => intro p e a hI; have : p.length = l.length := by rw [e]; simp
             rw [this]; exact last a hI
    | cons x t ih =>
      intro p e a hI
      refine step p.length x t a (by omega) (by rw [e]; simp; omega) (by rw [e]; simp) ?_ ⟨p, e, rfl⟩ hI ?_
      · unfold ix; rw [if_pos (by omega), Int.toNat_natCast, e, List.getElem?_append_right (Nat.le_refl _)]; simp
      · intro a hI
        have := ih (p ++ [x]) (by rw [e]; simp) a hI
        rw [show ((p ++ [x]).length : Int) = (p.length : Int) + 1 by simp] at this
        exact this
  exact key l [] rfl a hI
end
theorem wrapId {n : Int} (h : -9223372036854775808 ≤ n ∧ n ≤ 9223372036854775807) : IntKind.i64.wrap n = n := by rw [IntKind.wrap_i64]; omega
theorem wrapS {n : Int} {k : Nat} (h0 : 0 ≤ n) (h1 : n < k) (hk : k ≤ 1099511627776) : IntKind.i64.wrap (n + 1) = n + 1 := wrapId (by omega)
theorem wrapR (n : Int) : -9223372036854775808 ≤ IntKind.i64.wrap n ∧ IntKind.i64.wrap n ≤ 9223372036854775807 := by rw [IntKind.wrap_i64]; omega
theorem zz : (∀ {α β : Type} {Q : β → Prop} {x : Option α} {f : α → Option β}, wp (x >>= f) Q ↔ wp x (fun a => wp (f a) Q)) ∧ (∀ {β : Type} {Q : β → Prop} {x : β}, wp (some x) Q ↔ Q x) ∧
    (∀ {β : Type} {Q : β → Prop} {c : Prop} [Decidable c] {x y : Option β}, wp (if c then x else y) Q ↔ (c → wp x Q) ∧ (¬ c → wp y Q)) ∧ (∀ {α β : Type} {Q : β → Prop} {x : Option α} {f : α → β}, wp (Option.map f x) Q ↔ wp x (fun a => Q (f a))) ∧
    (∀ {β : Type} {Q : β → Prop}, wp (none : Option β) Q ↔ False) ∧ (∀ (a : Int), ¬ a < a) ∧ (∀ (a : Int), a ≤ a) ∧ ((false = true) = False) ∧ (∀ (α : Prop), (α → True) = True) ∧ (∀ (p : Prop), (False → p) = True) ∧ (∀ (p : Prop), (True → p) = p) ∧
    ((¬ True) = False) ∧ ((¬ False) = True) ∧ (∀ (p : Prop), (p ∧ True) = p) ∧ (∀ (p : Prop), (True ∧ p) = p) ∧ (∀ (p : Prop), (p ∧ p) = p) ∧ (∀ (a : Prop), (a → a) ↔ True) ∧ (∀ {α : Type} [BEq α] [LawfulBEq α] {a b : α}, (a == b) = true ↔ a = b) ∧
    (∀ {α : Type} [BEq α] [LawfulBEq α] {a b : α}, (a != b) = true ↔ a ≠ b) ∧ (∀ {α : Type} (a b : α), (a ≠ b) = ¬ (a = b)) ∧ (∀ {p : Prop} [Decidable p], (decide p = true) = p) ∧ (∀ {α β : Type} {azz : List α} (f : α → β), (azz.map f).length = azz.length) ∧ (∀ {α : Type} (a b : α), (if True then a else b) = a) ∧ (∀ {α : Type} (a b : α), (if False then a else b) = b) :=
  ⟨wp_bind, wp_some, wp_ite, wp_map, wp_none, Int.lt_irrefl, Int.le_refl, by simp, by simp, by simp, by simp, by simp, by simp, by simp, by simp, by simp, by simp, beq_iff_eq, bne_iff_ne, fun _ _ => rfl, by simp, fun _ => List.length_map .., fun _ _ => if_pos trivial, fun _ _ => if_neg id⟩
theorem zl : (∀ {α : Type} {azz bs : List α}, (azz ++ bs).length = azz.length + bs.length) ∧ (∀ {α : Type} {i : Nat} {l : List α}, (l.drop i).length = l.length - i) ∧ (∀ {α : Type} {i : Nat} {l : List α}, (l.take i).length = min i l.length) ∧ (∀ {α : Type}, ([] : List α).length = 0) ∧ (∀ {α : Type} {a : α}, [a].length = 1) ∧ (∀ {α β : Type} {azz : List α} (f : α → β), (azz.map f).length = azz.length) :=
  ⟨List.length_append, List.length_drop, List.length_take, List.length_nil, List.length_singleton, fun _ => List.length_map ..⟩
end HY
end
section
namespace HY
open Go
section
variable {α β : Type}
theorem bS {a : α} {f : α → Option β} : (some a >>= f) = f a := rfl
theorem bN {f : α → Option β} : ((none : Option α) >>= f) = none := rfl
theorem omS {a : α} {f : α → β} : Option.map f (some a) = some (f a) := rfl
theorem ite_t {a b : α} : (if (true = true) then a else b) = a := rfl
theorem ite_f {a b : α} : (if (false = true) then a else b) = b := rfl
end
theorem ix_app {α : Type} {l p : List α} {x : α} {t : List α} (h : l = p ++ x :: t) : ix l p.length = some x := by
  unfold ix
  rw [if_pos (by omega), Int.toNat_natCast, h, List.getElem?_append_right (Nat.le_refl _)]; simp
theorem wrapT {n : Int} {k : Nat} (h0 : 0 ≤ n) (h1 : n < k) (hk : k ≤ 4611686018427387904) : IntKind.i64.wrap (n + 1) = n + 1 := wrapId (by omega)
theorem wrapL {k : Nat} (h : k ≤ 4611686018427387904) : IntKind.i64.wrap ((k : Int) + 1) = ((k + 1 : Nat) : Int) := by rw [wrapId (by omega)]; omega
theorem ix_ok {α : Type} {l : List α} {i : Int} (h0 : 0 ≤ i) (h1 : i < l.length) : ∃ x, ix l i = some x ∧ x ∈ l := by
  refine ⟨l[i.toNat]'(by omega), ?_, List.getElem_mem _⟩
  unfold ix
  rw [if_pos h0, List.getElem?_eq_getElem]
theorem gExpr.ind {P : gExpr → Prop} (h : ∀ x : gExprS, (∀ a ∈ x.fArgs, P a) → P (.mk x)) : ∀ e, P e
  | .mk x => h x (fun a ha => gExpr.ind h a)
 termination_by e => SizeOf.sizeOf e
 decreasing_by exact gExpr.lt ha
theorem gStmt.ind {P : gStmt → Prop} (h : ∀ x : gStmtS, (∀ a ∈ x.fBody, P a) → P (.mk x)) : ∀ e, P e
  | .mk x => h x (fun a ha => gStmt.ind h a)
 termination_by e => SizeOf.sizeOf e
 decreasing_by exact gStmt.lt ha
end HY
end
section
namespace Go.Proofs.YtfaenlhmhlabeaaGreatDoor
open Go HY
set_option linter.unusedVariables false
set_option linter.unusedSimpArgs false
def fits (n : Int) : Prop := -9223372036854775808 ≤ n ∧ n ≤ 9223372036854775807
instance (n : Int) : Decidable (fits n) := by unfold fits; exact inferInstance
theorem u64w (n : Int) : IntKind.u64.wrap n = n % 18446744073709551616 := by rw [IntKind.wrap_u64]
theorem band (x : Int) : ((BitVec.ofInt 64 x &&& BitVec.ofInt 64 (4294967295 : Int)).toNat : Int) = x % 4294967296 := by
  rw [BitVec.toNat_and, BitVec.toNat_ofInt, BitVec.toNat_ofInt]
  rw [show ((4294967295 : Int) % ((2 ^ 64 : Nat) : Int)).toNat = 2 ^ 32 - 1 by decide, Nat.and_two_pow_sub_one_eq_mod]
  omega
theorem bor (x y : Int) (hx : 0 ≤ x ∧ x < 4294967296) (hy : 0 ≤ y) (h : y * 4294967296 < 18446744073709551616) : ((BitVec.ofInt 64 x ||| BitVec.ofInt 64 (y * 4294967296)).toNat : Int) = y * 4294967296 + x := by
  rw [BitVec.toNat_or, BitVec.toNat_ofInt, BitVec.toNat_ofInt]
  have e1 : (x % ((2 ^ 64 : Nat) : Int)).toNat = x.toNat := by omega
  have e2 : (y * 4294967296 % ((2 ^ 64 : Nat) : Int)).toNat = 2 ^ 32 * y.toNat := by omega
  rw [e1, e2, Nat.or_comm, ← Nat.two_pow_add_eq_or_of_lt (by omega)]
  omega
theorem bxor (x : Int) (hx : 0 ≤ x ∧ x < 18446744073709551616) : ((BitVec.ofInt 64 IntKind.u64.max ^^^ BitVec.ofInt 64 x).toNat : Int) = 18446744073709551615 - x := by
  rw [show (BitVec.ofInt 64 IntKind.u64.max) = BitVec.allOnes 64 by decide, BitVec.allOnes_xor, BitVec.toNat_not, BitVec.toNat_ofInt]
  omega
theorem mulB {x y : Int} (hx : 0 ≤ x ∧ x < 4294967296) (hy : 0 ≤ y ∧ y < 4294967296) : 0 ≤ x * y ∧ x * y ≤ 18446744065119617025 :=
  ⟨Int.mul_nonneg hx.1 hy.1, Int.le_trans (Int.mul_le_mul (show x ≤ 4294967295 by omega) (show y ≤ 4294967295 by omega) hy.1 (by omega)) (by decide)⟩
theorem mulS (A B : Int) : A * B = A / 4294967296 * (B / 4294967296) * 18446744073709551616 + (A / 4294967296 * (B % 4294967296) + A % 4294967296 * (B / 4294967296)) * 4294967296 + A % 4294967296 * (B % 4294967296) := by
  have hA : A = A / 4294967296 * 4294967296 + A % 4294967296 := by omega
  have hB : B = B / 4294967296 * 4294967296 + B % 4294967296 := by omega
  generalize A / 4294967296 = a1 at *
  generalize A % 4294967296 = a0 at *
  generalize B / 4294967296 = b1 at *
  generalize B % 4294967296 = b0 at *
  subst hA hB
  rw [Int.add_mul, Int.mul_add, Int.mul_add, Int.add_mul]
  have e1 : a1 * 4294967296 * (b1 * 4294967296) = a1 * b1 * 18446744073709551616 := by
    rw [Int.mul_assoc, Int.mul_comm 4294967296 (b1 * 4294967296), Int.mul_assoc, Int.mul_assoc]; rfl
  have e2 : a1 * 4294967296 * b0 = a1 * b0 * 4294967296 := by rw [Int.mul_assoc, Int.mul_comm 4294967296 b0, Int.mul_assoc]
  have e3 : a0 * (b1 * 4294967296) = a0 * b1 * 4294967296 := by rw [Int.mul_assoc]
  rw [e1, e2, e3]; omega
theorem fdiv32 (x : Int) : x.fdiv ((2 : Int) ^ (32 : Nat)) = x / 4294967296 := by
  rw [show (2 : Int) ^ (32 : Nat) = 4294967296 by decide, Int.fdiv_eq_ediv_of_nonneg _ (by decide)]
theorem s_magnitude (x : Int) (h : fits x) : F_lin_magnitude x = some (x.natAbs : Int) := by
  unfold fits at h
  unfold F_lin_magnitude
  split
  · rw [u64w, u64w]; congr 1; omega
  · rw [u64w]; congr 1; omega
theorem s_product (A B : Int) (hA : 0 ≤ A ∧ A < 18446744073709551616) (hB : 0 ≤ B ∧ B < 18446744073709551616) : F_lin_product A B = some (A * B / 18446744073709551616, A * B % 18446744073709551616) := by
  unfold F_lin_product
  simp only [show (0 : Int) ≤ 32 from by decide, if_true, bS, u64w, band, fdiv32]
  have h00 := mulB (x := A % 4294967296) (y := B % 4294967296) (by omega) (by omega)
  have h10 := mulB (x := A / 4294967296) (y := B % 4294967296) (by omega) (by omega)
  have h01 := mulB (x := A % 4294967296) (y := B / 4294967296) (by omega) (by omega)
  have h11 := mulB (x := A / 4294967296) (y := B / 4294967296) (by omega) (by omega)
  have hs := mulS A B
  have m32 : ∀ x : Int, x % 4294967296 % 18446744073709551616 = x % 4294967296 := fun x => by omega
  simp only [m32]
  generalize A % 4294967296 * (B % 4294967296) = p00 at *
  generalize A / 4294967296 * (B % 4294967296) = p10 at *
  generalize A % 4294967296 * (B / 4294967296) = p01 at *
  generalize A / 4294967296 * (B / 4294967296) = p11 at *
  generalize A * B = N at *
  subst hs
  congr 1
  simp only [Prod.mk.injEq, and_true]
  omega
theorem s_times (a b : Int) (ha : fits a) (hb : fits b) : F_lin_times a b = some (if fits (a * b) then (a * b, true) else (0, false)) := by
  have hA : (0 : Int) ≤ a.natAbs ∧ (a.natAbs : Int) < 18446744073709551616 := by unfold fits at ha; omega
  have hB : (0 : Int) ≤ b.natAbs ∧ (b.natAbs : Int) < 18446744073709551616 := by unfold fits at hb; omega
  have hab : ((a.natAbs : Int) * (b.natAbs : Int)) = if (a < 0) = (b < 0) then a * b else -(a * b) := by
    by_cases h1 : a < 0 <;> by_cases h2 : b < 0
    · rw [if_pos (by simp [h1, h2]), show (a.natAbs : Int) = -a by omega, show (b.natAbs : Int) = -b by omega, Int.neg_mul_neg]
    · rw [if_neg (by simp [h1]; omega), show (a.natAbs : Int) = -a by omega, show (b.natAbs : Int) = b by omega, Int.neg_mul]
    · rw [if_neg (by simp [h2]; omega), show (a.natAbs : Int) = a by omega, show (b.natAbs : Int) = -b by omega, Int.mul_neg]
    · rw [if_pos (by simp; omega), show (a.natAbs : Int) = a by omega, show (b.natAbs : Int) = b by omega]
  have hn : (0 : Int) ≤ (a.natAbs : Int) * (b.natAbs : Int) := Int.mul_nonneg hA.1 hB.1
  unfold F_lin_times
  rw [s_magnitude a ha, bS, s_magnitude b hb, bS, s_product _ _ hA hB, bS, bS]
  generalize hN : (a.natAbs : Int) * (b.natAbs : Int) = N at *
  generalize hM : a * b = M at *
  simp only [u64w, IntKind.wrap_i64]
  by_cases hc : (a < 0) = (b < 0)
  · rw [if_pos hc] at hab
    subst hab
    have hd : (!decide (a < (0 : Int)) == decide (b < (0 : Int))) = false := by simp [hc]
    rw [hd]
    by_cases h1 : N / 18446744073709551616 = 0
    · rw [if_neg (by simp [h1])]
      by_cases h2 : 9223372036854775808 < N % 18446744073709551616
      · rw [if_pos h2, bS, if_pos rfl, if_neg (by unfold fits; omega)]
      · rw [if_neg h2]
        by_cases h3 : N % 18446744073709551616 = 9223372036854775808
        · rw [if_pos (by simp [h3]), if_neg (by simp), bS, if_pos rfl, if_neg (by unfold fits; omega)]
        · rw [if_neg (by simp [h3]), bS, if_neg (by simp), if_neg (by simp), if_pos (by unfold fits; omega)]
          congr 2; omega
    · rw [if_pos (by simp [h1]), bS, if_pos rfl, if_neg (by unfold fits; omega)]
  · rw [if_neg hc] at hab
    have hd : (!decide (a < (0 : Int)) == decide (b < (0 : Int))) = true := by
      by_cases h1 : a < 0 <;> by_cases h2 : b < 0 <;> simp [h1, h2] at hc ⊢
    rw [hd]
    by_cases h1 : N / 18446744073709551616 = 0
    · rw [if_neg (by simp [h1])]
      by_cases h2 : 9223372036854775808 < N % 18446744073709551616
      · rw [if_pos h2, bS, if_pos rfl, if_neg (by unfold fits; omega)]
      · rw [if_neg h2]
        by_cases h3 : N % 18446744073709551616 = 9223372036854775808
        · rw [if_pos (by simp [h3]), if_pos rfl, bS, if_neg (by simp), if_pos rfl, if_pos (by unfold fits; omega)]
          congr 2; omega
        · rw [if_neg (by simp [h3]), bS, if_neg (by simp), if_pos rfl, if_pos (by unfold fits; omega)]
          congr 2; omega
    · rw [if_pos (by simp [h1]), bS, if_pos rfl, if_neg (by unfold fits; omega)]
theorem s_plus (a b : Int) (ha : fits a) (hb : fits b) : F_lin_plus a b = some (IntKind.i64.wrap (a + b), decide (fits (a + b))) := by
  unfold F_lin_plus
  rw [bS]
  unfold fits at ha hb
  have key : (decide (a < IntKind.i64.wrap (a + b)) == decide ((0 : Int) < b)) = decide (fits (a + b)) := by
    rw [IntKind.wrap_i64]
    by_cases hf : fits (a + b)
    · rw [decide_eq_true hf]
      unfold fits at hf
      by_cases h0 : 0 < b
      · rw [decide_eq_true h0, decide_eq_true (by omega)]; rfl
      · rw [decide_eq_false h0, decide_eq_false (by omega)]; rfl
    · rw [decide_eq_false hf]
      unfold fits at hf
      by_cases h0 : 0 < b
      · rw [decide_eq_true h0, decide_eq_false (by omega)]; rfl
      · rw [decide_eq_false h0, decide_eq_true (by omega)]; rfl
  rw [key]
theorem s_wide (a b : Int) (ha : fits a) (hb : fits b) : F_ref14_wide a b = some (a * b / 18446744073709551616, a * b % 18446744073709551616) ∧ -4611686018427387904 ≤ a * b / 18446744073709551616 ∧ a * b / 18446744073709551616 ≤ 4611686018427387904 := by
  have hA : (0 : Int) ≤ a.natAbs ∧ (a.natAbs : Int) ≤ 9223372036854775808 := by unfold fits at ha; omega
  have hB : (0 : Int) ≤ b.natAbs ∧ (b.natAbs : Int) ≤ 9223372036854775808 := by unfold fits at hb; omega
  have hab : ((a.natAbs : Int) * (b.natAbs : Int)) = if (a < 0) = (b < 0) then a * b else -(a * b) := by
    by_cases h1 : a < 0 <;> by_cases h2 : b < 0
    · rw [if_pos (by simp [h1, h2]), show (a.natAbs : Int) = -a by omega, show (b.natAbs : Int) = -b by omega, Int.neg_mul_neg]
    · rw [if_neg (by simp [h1]; omega), show (a.natAbs : Int) = -a by omega, show (b.natAbs : Int) = b by omega, Int.neg_mul]
    · rw [if_neg (by simp [h2]; omega), show (a.natAbs : Int) = a by omega, show (b.natAbs : Int) = -b by omega, Int.mul_neg]
    · rw [if_pos (by simp; omega), show (a.natAbs : Int) = a by omega, show (b.natAbs : Int) = b by omega]
  have hn : (0 : Int) ≤ (a.natAbs : Int) * (b.natAbs : Int) := Int.mul_nonneg hA.1 hB.1
  have hN : (a.natAbs : Int) * (b.natAbs : Int) ≤ 85070591730234615865843651857942052864 :=
    Int.le_trans (Int.mul_le_mul hA.2 hB.2 hB.1 (by omega)) (by decide)
  have x1 : (if a < (0 : Int) then some (IntKind.u64.wrap ((0 : Int) - IntKind.u64.wrap a)) >>= fun v4 => some v4 else some (IntKind.u64.wrap a)) = some (a.natAbs : Int) := by
    unfold fits at ha
    split
    · rw [bS, u64w, u64w]; congr 1; omega
    · rw [u64w]; congr 1; omega
  have x2 : (if b < (0 : Int) then some (IntKind.u64.wrap ((0 : Int) - IntKind.u64.wrap b)) >>= fun v4 => some v4 else some (IntKind.u64.wrap b)) = some (b.natAbs : Int) := by
    unfold fits at hb
    split
    · rw [bS, u64w, u64w]; congr 1; omega
    · rw [u64w]; congr 1; omega
  unfold F_ref14_wide
  simp only [bS]
  rw [show (if a < (0 : Int) then some (IntKind.u64.wrap ((0 : Int) - IntKind.u64.wrap a)) else some (IntKind.u64.wrap a)) = some (a.natAbs : Int) from x1]
  simp only [bS]
  rw [show (if b < (0 : Int) then some (IntKind.u64.wrap ((0 : Int) - IntKind.u64.wrap b)) else some (IntKind.u64.wrap b)) = some (b.natAbs : Int) from x2]
  generalize (a.natAbs : Int) = A at *
  generalize (b.natAbs : Int) = B at *
  simp only [bS, show (0 : Int) ≤ 32 from by decide, if_true, fdiv32]
  have h00 := mulB (x := A % 4294967296) (y := B % 4294967296) (by omega) (by omega)
  have h10 := mulB (x := A / 4294967296) (y := B % 4294967296) (by omega) (by omega)
  have h01 := mulB (x := A % 4294967296) (y := B / 4294967296) (by omega) (by omega)
  have h11 := mulB (x := A / 4294967296) (y := B / 4294967296) (by omega) (by omega)
  have hs := mulS A B
  have m32 : ∀ x : Int, x % 4294967296 % 18446744073709551616 = x % 4294967296 := fun x => by omega
  have b0 : ∀ x : Int, IntKind.u64.wrap ((BitVec.ofInt 64 x &&& BitVec.ofInt 64 (4294967295 : Int)).toNat : Int) = x % 4294967296 := fun x => by rw [u64w, band, m32]
  simp only [b0]
  have w0 : ∀ x : Int, 0 ≤ x → x ≤ 18446744065119617025 → IntKind.u64.wrap x = x := fun x h1 h2 => by rw [u64w]; omega
  rw [w0 _ h00.1 h00.2, w0 _ h10.1 h10.2, w0 _ h01.1 h01.2, w0 _ h11.1 h11.2]
  generalize A % 4294967296 * (B % 4294967296) = p at *
  generalize A / 4294967296 * (B % 4294967296) = q at *
  generalize A % 4294967296 * (B / 4294967296) = r at *
  generalize A / 4294967296 * (B / 4294967296) = t at *
  rw [show IntKind.u64.wrap (IntKind.u64.wrap (p / 4294967296 + q % 4294967296) + r % 4294967296) = p / 4294967296 + q % 4294967296 + r % 4294967296 by rw [u64w, u64w]; omega]
  generalize hmid : p / 4294967296 + q % 4294967296 + r % 4294967296 = mid
  rw [show IntKind.u64.wrap (mid * (2 : Int) ^ (32 : Nat)) = mid % 4294967296 * 4294967296 by rw [u64w, show (2 : Int) ^ (32 : Nat) = 4294967296 by decide]; omega]
  rw [bor _ _ (by omega) (by omega) (by omega)]
  rw [show IntKind.u64.wrap (mid % 4294967296 * 4294967296 + p % 4294967296) = mid % 4294967296 * 4294967296 + p % 4294967296 by rw [u64w]; omega]
  rw [show IntKind.u64.wrap (IntKind.u64.wrap (IntKind.u64.wrap (t + q / 4294967296) + r / 4294967296) + mid / 4294967296) = t + q / 4294967296 + r / 4294967296 + mid / 4294967296 by rw [u64w, u64w, u64w]; omega]
  have hlo : mid % 4294967296 * 4294967296 + p % 4294967296 = A * B % 18446744073709551616 := by omega
  have hhi : t + q / 4294967296 + r / 4294967296 + mid / 4294967296 = A * B / 18446744073709551616 := by omega
  rw [hlo, hhi]
  generalize A * B = N at *
  generalize a * b = M at *
  clear hs hlo hhi hmid h00 h10 h01 h11 m32 b0 w0 x1 x2
  by_cases hc : (a < 0) = (b < 0)
  · rw [if_pos hc] at hab
    subst hab
    have hd : (!decide (a < (0 : Int)) == decide (b < (0 : Int))) = false := by simp [hc]
    rw [hd, if_neg (by simp), bS]
    refine ⟨?_, by omega, by omega⟩
    congr 2
    rw [IntKind.wrap_i64]; omega
  · rw [if_neg hc] at hab
    have hd : (!decide (a < (0 : Int)) == decide (b < (0 : Int))) = true := by
      by_cases h1 : a < 0 <;> by_cases h2 : b < 0 <;> simp [h1, h2] at hc ⊢
    rw [hd, if_pos rfl]
    have hx := bxor (N / 18446744073709551616) (by omega)
    rw [show (if false = true then (-1 : Int) else IntKind.u64.max) = IntKind.u64.max from rfl, hx]
    refine ⟨?_, by omega, by omega⟩
    by_cases h0 : N % 18446744073709551616 = 0
    · rw [if_pos (by rw [u64w]; simp; omega), bS, IntKind.wrap_i64, u64w, u64w, u64w]
      congr 2 <;> omega
    · rw [if_neg (by rw [u64w]; simp; omega), bS, IntKind.wrap_i64, u64w, u64w]
      congr 2 <;> omega
theorem s_both (a b c : Int) (ha : fits a) (hb : fits b) (hc : fits c) : F_ref14_both a b c = some (IntKind.i64.wrap (a + b * c), decide (fits (a + b * c))) := by
  obtain ⟨e, h1, h2⟩ := s_wide b c hb hc
  unfold F_ref14_both
  rw [e]
  simp only [bS]
  generalize b * c = M at *
  unfold fits at ha
  have wi : ∀ x : Int, -9223372036854775808 ≤ x → x ≤ 9223372036854775807 → IntKind.i64.wrap x = x := fun x h1 h2 => wrapId ⟨h1, h2⟩
  rw [show IntKind.u64.wrap (M % 18446744073709551616 + IntKind.u64.wrap a) = (M + a) % 18446744073709551616 by rw [u64w, u64w]; omega]
  have hcar : (if (M + a) % 18446744073709551616 < M % 18446744073709551616 then some (1 : Int) else some 0) = some ((M % 18446744073709551616 + a % 18446744073709551616) / 18446744073709551616) := by
    split
    · congr 1; omega
    · congr 1; omega
  rw [hcar, bS]
  rw [wi (M / 18446744073709551616 + (M % 18446744073709551616 + a % 18446744073709551616) / 18446744073709551616) (by omega) (by omega)]
  have htop : (if a < (0 : Int) then some (IntKind.i64.wrap (M / 18446744073709551616 + (M % 18446744073709551616 + a % 18446744073709551616) / 18446744073709551616 - 1)) else some (M / 18446744073709551616 + (M % 18446744073709551616 + a % 18446744073709551616) / 18446744073709551616)) = some ((M + a) / 18446744073709551616) := by
    split
    · rw [wi _ (by omega) (by omega)]; congr 1; omega
    · congr 1; omega
  rw [htop, bS]
  have hw : IntKind.i64.wrap ((M + a) % 18446744073709551616) = IntKind.i64.wrap (a + M) := by rw [IntKind.wrap_i64, IntKind.wrap_i64]; omega
  rw [hw]
  have hwv : IntKind.i64.wrap (a + M) = (a + M + 9223372036854775808) % 18446744073709551616 - 9223372036854775808 := IntKind.wrap_i64 _
  rw [Int.add_comm M a]
  generalize a + M = S at *
  by_cases hf : fits S
  · rw [decide_eq_true hf]
    unfold fits at hf
    by_cases h0 : S / 18446744073709551616 = 0
    · rw [if_pos (by simp [h0]), if_pos (by omega)]
    · rw [if_neg (by simp [h0]), if_pos (by simp; omega), decide_eq_true (by omega)]
  · rw [decide_eq_false hf]
    unfold fits at hf
    by_cases h0 : S / 18446744073709551616 = 0
    · rw [if_pos (by simp [h0]), if_neg (by omega), if_neg (by simp; omega)]
    · by_cases h3 : S / 18446744073709551616 = -1
      · rw [if_neg (by simp [h0]), if_pos (by simp [h3]), decide_eq_false (by omega)]
      · rw [if_neg (by simp [h0]), if_neg (by simp [h3])]
end Go.Proofs.YtfaenlhmhlabeaaGreatDoor
end
section
namespace Go.Proofs.YtfaenlhmhlabeaaGreatDoor
open Go HY
set_option linter.unusedVariables false
set_option linter.unusedSimpArgs false
def kw : List Str := [[(115 : UInt8), (105 : UInt8), (122 : UInt8), (101 : UInt8)], [(119 : UInt8), (104 : UInt8), (101 : UInt8), (114 : UInt8), (101 : UInt8)], [(105 : UInt8), (110 : UInt8)], [(100 : UInt8), (101 : UInt8), (102 : UInt8)], [(111 : UInt8), (117 : UInt8), (116 : UInt8)], [(115 : UInt8), (117 : UInt8), (109 : UInt8)], [(112 : UInt8), (114 : UInt8), (111 : UInt8), (100 : UInt8)], [(109 : UInt8), (105 : UInt8), (110 : UInt8)], [(109 : UInt8), (97 : UInt8), (120 : UInt8)], [(115 : UInt8), (99 : UInt8), (97 : UInt8), (110 : UInt8)], [(111 : UInt8), (118 : UInt8), (101 : UInt8), (114 : UInt8)], [(105 : UInt8), (102 : UInt8)], [(99 : UInt8), (97 : UInt8), (115 : UInt8), (116 : UInt8)], [(102 : UInt8), (114 : UInt8), (97 : UInt8), (99 : UInt8)], [(105 : UInt8), (110 : UInt8), (116 : UInt8)], [(102 : UInt8), (105 : UInt8), (120 : UInt8)], [(99 : UInt8), (101 : UInt8), (105 : UInt8), (108 : UInt8)], [(102 : UInt8), (108 : UInt8), (111 : UInt8), (111 : UInt8), (114 : UInt8)], [(122 : UInt8), (101 : UInt8), (114 : UInt8), (111 : UInt8)], [(101 : UInt8), (118 : UInt8), (101 : UInt8), (110 : UInt8)], [(115 : UInt8), (97 : UInt8), (116 : UInt8)], [(119 : UInt8), (114 : UInt8), (97 : UInt8), (112 : UInt8)]]
def low (c : UInt8) : Bool := decide (97 ≤ (c.toNat : Int)) && decide ((c.toNat : Int) ≤ 122)
def tl (c : UInt8) : Bool := low c || (decide (48 ≤ (c.toNat : Int)) && decide ((c.toNat : Int) ≤ 57)) || ((c.toNat : Int) == 95)
def nm (s : Str) : Bool := decide (1 ≤ (s.length : Int)) && (decide ((s.length : Int) ≤ 16) && (!(kw.contains s) && ((match s with | [] => false | c :: _ => low c) && s.all tl)))
theorem s_base_Has_L2 (l : List Str) (s : Str) (hl : l.length ≤ 1048576) : F_base_Has_L2 l s 0 = some (if l.contains s then .inr true else .inl ()) := by
  refine loopEq (F := fun i => F_base_Has_L2 l s i) (l := l) (fun t => if t.contains s then .inr true else .inl ()) ?_ ?_
  · show F_base_Has_L2 l s (l.length : Int) = _
    rw [F_base_Has_L2, bS, if_neg (by omega)]; rfl
  · intro i x t h0 h1 hix ih
    show F_base_Has_L2 l s i = _
    rw [F_base_Has_L2, bS, if_pos (by omega), hix, bS]
    by_cases hx : x = s
    · subst hx; simp
    · rw [if_neg (by simpa using hx), wrapT h0 h1 (by omega)]
      rw [ih, List.contains_cons]
      have : (s == x) = false := by simpa using fun e => hx e.symm
      rw [this, Bool.false_or]
theorem s_base_Has (s : Str) : F_base_Has kw s = some (kw.contains s) := by
  unfold F_base_Has
  rw [bS, s_base_Has_L2 kw s (by decide), bS]
  cases kw.contains s <;> rfl
theorem s_base_Words : F_base_Words = some kw := rfl
theorem s_base_Name_L4 (s : Str) (hl : s.length ≤ 1048576) : F_base_Name_L4 s 0 = some (if (match s with | [] => true | c :: t => low c && t.all tl) then .inl () else .inr false) := by
  have loop : ∀ (t p : Str), s = p ++ t → p ≠ [] → F_base_Name_L4 s p.length = some (if t.all tl then .inl () else .inr false) := by
    intro t
    induction t with
    | nil => intro p e _; rw [F_base_Name_L4, if_neg (by rw [e]; simp)]; rfl
    | cons c t ih =>
      intro p e hp
      have hlen : (p.length : Int) < (s.length : Int) := by rw [e]; simp; omega
      have h0 : 0 < p.length := List.length_pos_iff.2 hp
      rw [F_base_Name_L4, if_pos hlen, ix_app e, bS, bS]
      have ihc := ih (p ++ [c]) (by rw [e]; simp) (by simp)
      rw [show ((p ++ [c]).length : Int) = (p.length : Int) + 1 by simp] at ihc
      rw [wrapT (by omega) hlen (by omega), List.all_cons, ihc]
      unfold tl low
      by_cases c1 : (97 : Int) ≤ c.toNat <;> by_cases c2 : (c.toNat : Int) ≤ 122 <;> by_cases c3 : (48 : Int) ≤ c.toNat <;> by_cases c4 : (c.toNat : Int) ≤ 57 <;> by_cases c5 : (c.toNat : Int) = 95 <;> simp [c1, c2, c3, c4, c5, h0, bS] <;> omega
  cases s with
  | nil => rw [F_base_Name_L4, if_neg (by simp)]; rfl
  | cons c t =>
    rw [F_base_Name_L4, if_pos (by simp <;> omega), show ix (c :: t) 0 = some c from rfl, bS, bS]
    have := loop t [c] rfl (by simp)
    rw [show (([c] : Str).length : Int) = 0 + 1 by rfl] at this
    rw [show IntKind.i64.wrap (0 + 1) = 0 + 1 from rfl, this]
    unfold low
    by_cases c1 : (97 : Int) ≤ c.toNat <;> by_cases c2 : (c.toNat : Int) ≤ 122 <;> simp [c1, c2, bS]
theorem s_base_Name (s : Str) : F_base_Name s = some (nm s) := by
  unfold F_base_Name nm
  rw [bS]
  by_cases h1 : (s.length : Int) < 1
  · rw [if_pos h1, bS, if_pos rfl, decide_eq_false (by omega)]; rfl
  · rw [if_neg h1, decide_eq_true (by omega)]
    by_cases h2 : 16 < (s.length : Int)
    · rw [if_pos h2, bS, if_pos rfl, decide_eq_false (by omega)]; rfl
    · have hl : s.length ≤ 1048576 := by omega
      rw [if_neg h2, s_base_Words, bS, s_base_Has, decide_eq_true (by omega)]
      cases hk : kw.contains s with
      | true => simp only [bS, if_true]; rfl
      | false =>
        simp only [bS, ite_f]
        cases s with
        | nil => simp at h1
        | cons c t =>
          have e2 : (low c && (tl c && t.all tl)) = (low c && t.all tl) := by
            cases hc : low c
            · rfl
            · have : tl c = true := by unfold tl; rw [hc]; rfl
              rw [this]; rfl
          rw [s_base_Name_L4 (c :: t) hl, bS, List.all_cons, e2]
          show (match (if (low c && t.all tl) = true then (Sum.inl () : Unit ⊕ Bool) else Sum.inr false) with | .inl v8 => some true | .inr v9 => some v9) = _
          cases (low c && t.all tl) <;> rfl
theorem s_lin_reserved (s : Str) : F_lin_reserved s = some (kw.contains s) := by
  unfold F_lin_reserved
  rw [bS]
  have key : ∀ (a : Str) (l : List Str) (x : Option Bool), x = some (l.contains s) → (if s == a then some true else x) = some ((a :: l).contains s) := fun a l x h => by
    rw [List.contains_cons]
    cases e : s == a
    · rw [ite_f, h]; rfl
    · rfl
  have : ∀ x : Option Bool, x = some (kw.contains s) → (x >>= fun v1 => if v1 then some true else some false) = some (kw.contains s) := fun x h => by
    rw [h, bS]; cases kw.contains s <;> rfl
  refine this _ ?_
  unfold kw
  repeat (first | exact rfl | refine key _ _ _ ?_)
theorem s_lin_identifier_L4 (s : Str) (hl : s.length ≤ 1048576) : F_lin_identifier_L4 s s.length 0 = some (if s.all tl then .inl () else .inr false) := by
  refine loopEq (F := fun i => F_lin_identifier_L4 s s.length i) (l := s) (fun t => if t.all tl then .inl () else .inr false) ?_ ?_
  · show F_lin_identifier_L4 s s.length (s.length : Int) = _
    rw [F_lin_identifier_L4, if_neg (by omega)]; rfl
  · intro i c t h0 h1 hix ih
    show F_lin_identifier_L4 s s.length i = _
    rw [F_lin_identifier_L4, if_pos h1, hix, bS, bS, wrapT h0 h1 (by omega), List.all_cons, ih]
    unfold tl low
    by_cases c1 : (97 : Int) ≤ c.toNat <;> by_cases c2 : (c.toNat : Int) ≤ 122 <;> by_cases c3 : (48 : Int) ≤ c.toNat <;> by_cases c4 : (c.toNat : Int) ≤ 57 <;> by_cases c5 : (c.toNat : Int) = 95 <;> simp [c1, c2, c3, c4, c5, bS, show ((c.toNat : Int) < 97) = ¬ ((97 : Int) ≤ c.toNat) by simp, show ((c.toNat : Int) < 48) = ¬ ((48 : Int) ≤ c.toNat) by simp, show ((122 : Int) < c.toNat) = ¬ ((c.toNat : Int) ≤ 122) by simp, show ((57 : Int) < c.toNat) = ¬ ((c.toNat : Int) ≤ 57) by simp] <;> omega
theorem s_lin_identifier (s : Str) : F_lin_identifier s = some (nm s) := by
  unfold F_lin_identifier nm
  rw [bS]
  by_cases h1 : (s.length : Int) < 1
  · rw [if_pos h1, bS, if_pos rfl, decide_eq_false (by omega)]; rfl
  · rw [if_neg h1, decide_eq_true (by omega)]
    by_cases h2 : 16 < (s.length : Int)
    · rw [if_pos h2, bS, if_pos rfl, decide_eq_false (by omega)]; rfl
    · have hl : s.length ≤ 1048576 := by omega
      rw [if_neg h2, s_lin_reserved, decide_eq_true (by omega)]
      cases hk : kw.contains s with
      | true => simp only [bS, if_true]; rfl
      | false =>
        simp only [bS, ite_f]
        cases s with
        | nil => simp at h1
        | cons c t =>
          have h3 := s_lin_identifier_L4 (c :: t) hl
          simp only [show ix (c :: t) 0 = some c from rfl, bS]
          unfold low
          by_cases c1 : (c.toNat : Int) < 97
          · rw [if_pos c1, bS, if_pos rfl, decide_eq_false (by omega)]; rfl
          · rw [if_neg c1, decide_eq_true (by omega)]
            by_cases c2 : (122 : Int) < c.toNat
            · rw [if_pos c2, bS, if_pos rfl, decide_eq_false (by omega)]; rfl
            · rw [if_neg c2]
              simp only [bS, ite_f]
              rw [h3, bS, decide_eq_true (show (c.toNat : Int) ≤ 122 by omega)]
              cases (c :: t).all tl <;> rfl
def badL : Option gMono → List gMono → Bool
  | _, [] => false
  | p, m :: t => (!(nm m.fName) || ((m.fBy == 0) || (match p with | none => false | some q => !(Op.bytesLess q.fName m.fName)))) || badL (some m) t
theorem badL_cons (p : Option gMono) (m : gMono) (t : List gMono) : badL p (m :: t) = ((!(nm m.fName) || ((m.fBy == 0) || (match p with | none => false | some q => !(Op.bytesLess q.fName m.fName)))) || badL (some m) t) := rfl
def okL (l : gLin) : Prop := fits l.fK ∧ l.fL.length * 24 ≤ 140737488351232 ∧ ∀ m ∈ l.fL, fits m.fBy
def linOK (l : gLin) : Bool := !(badL none l.fL)
theorem s_lin_Validate_L2 (l : gLin) (h : okL l) : F_lin_Validate_L2 l l.fL l.fL.length 0 = some (if badL none l.fL then .inr 1 else .inl ()) := by
  obtain ⟨_, hl, hm⟩ := h
  have loop : ∀ (t p : List gMono), l.fL = p ++ t → F_lin_Validate_L2 l l.fL l.fL.length p.length = some (if badL p.getLast? t then .inr 1 else .inl ()) := by
    intro t
    induction t with
    | nil => intro p e; rw [F_lin_Validate_L2, if_neg (by rw [e]; simp)]; rfl
    | cons c t ih =>
      intro p e
      have hlen : (p.length : Int) < (l.fL.length : Int) := by rw [e]; simp; omega
      rw [F_lin_Validate_L2, if_pos hlen, ix_app e, bS, bS, s_lin_identifier, wrapT (by omega) hlen (by omega)]
      have ihc := ih (p ++ [c]) (by rw [e]; simp)
      rw [show ((p ++ [c]).length : Int) = (p.length : Int) + 1 by simp] at ihc
      rw [List.getLast?_concat] at ihc
      rw [badL_cons]
      cases hn : nm c.fName with
      | false => rfl
      | true =>
        cases hb : c.fBy == (0 : Int) with
        | true => simp only [bS, if_true]; rfl
        | false =>
          rcases List.eq_nil_or_concat p with rfl | ⟨q, y, hq⟩
          · simp only [bS, if_true, if_false, Bool.false_eq_true]
            rw [if_neg (by simp)]
            simp only [bS, if_false, Bool.false_eq_true]
            rw [ihc]; rfl
          · rw [List.concat_eq_append] at hq
            subst hq
            simp only [bS, if_true, if_false, Bool.false_eq_true]
            have hql : (((q ++ [y]).length : Nat) : Int) = q.length + 1 := by simp
            rw [if_pos (by omega), wrapId (by omega)]
            rw [show (((q ++ [y]).length : Nat) : Int) - 1 = (q.length : Int) by simp, ix_app (show l.fL = q ++ y :: (c :: t) by rw [e]; simp), bS, List.getLast?_concat]
            cases hb2 : Op.bytesLess y.fName c.fName with
            | true => simp only [hb2, Bool.not_true, Bool.or_false, Bool.false_or, bS, if_false, Bool.false_eq_true]; rw [ihc]
            | false => simp only [hb2, Bool.not_false, if_true, bS, Bool.or_true, Bool.true_or]
  exact loop l.fL [] rfl
theorem s_lin_Validate (l : gLin) (h : okL l) : F_lin_Validate l = some (if linOK l then 0 else 1) := by
  unfold F_lin_Validate linOK
  rw [bS, bS, s_lin_Validate_L2 l h, bS]
  cases badL none l.fL <;> rfl
theorem s_base_LinRight_L2 (l : gLin) (h : okL l) : F_base_LinRight_L2 l 0 = some (if badL none l.fL then .inr false else .inl ()) := by
  obtain ⟨_, hl, hm⟩ := h
  have loop : ∀ (t p : List gMono), l.fL = p ++ t → F_base_LinRight_L2 l p.length = some (if badL p.getLast? t then .inr false else .inl ()) := by
    intro t
    induction t with
    | nil => intro p e; rw [F_base_LinRight_L2, bS, if_neg (by rw [e]; simp)]; rfl
    | cons c t ih =>
      intro p e
      have hlen : (p.length : Int) < (l.fL.length : Int) := by rw [e]; simp; omega
      have hix := ix_app e
      rw [F_base_LinRight_L2, bS, if_pos hlen, bS, hix, bS, s_base_Name, wrapT (by omega) hlen (by omega)]
      have ihc := ih (p ++ [c]) (by rw [e]; simp)
      rw [show ((p ++ [c]).length : Int) = (p.length : Int) + 1 by simp] at ihc
      rw [List.getLast?_concat] at ihc
      rw [badL_cons]
      cases hn : nm c.fName with
      | false => rfl
      | true =>
        simp only [bS, ite_t]
        cases hb : c.fBy == (0 : Int) with
        | true => simp only [bS, if_true]; rfl
        | false =>
          rcases List.eq_nil_or_concat p with rfl | ⟨q, y, hq⟩
          · simp only [bS, if_true, if_false, Bool.false_eq_true]
            rw [if_neg (by simp)]
            simp only [bS, if_false, Bool.false_eq_true]
            rw [ihc]; rfl
          · rw [List.concat_eq_append] at hq
            subst hq
            simp only [bS, if_true, if_false, Bool.false_eq_true]
            have hql : (((q ++ [y]).length : Nat) : Int) = q.length + 1 := by simp
            rw [if_pos (by omega), wrapId (by omega)]
            rw [show (((q ++ [y]).length : Nat) : Int) - 1 = (q.length : Int) by simp, ix_app (show l.fL = q ++ y :: (c :: t) by rw [e]; simp), bS, List.getLast?_concat]
            cases hb2 : Op.bytesLess y.fName c.fName with
            | true => simp only [hb2, Bool.not_true, Bool.or_false, Bool.false_or, bS, if_false, Bool.false_eq_true]; rw [ihc]
            | false => simp only [hb2, Bool.not_false, if_true, bS, Bool.or_true, Bool.true_or]
  exact loop l.fL [] rfl
theorem s_base_LinRight (l : gLin) (h : okL l) : F_base_LinRight l = some (linOK l) := by
  unfold F_base_LinRight linOK
  rw [bS, s_base_LinRight_L2 l h, bS]
  cases badL none l.fL <;> rfl
end Go.Proofs.YtfaenlhmhlabeaaGreatDoor
end
section
namespace Go.Proofs.YtfaenlhmhlabeaaGreatDoor
open Go HY
set_option linter.unusedVariables false
set_option linter.unusedSimpArgs false
theorem bl_trans : ∀ (x y z : List UInt8), Op.bytesLess x y = true → Op.bytesLess y z = true → Op.bytesLess x z = true
  | _, [], _, h, _ => by simp [Op.bytesLess] at h
  | _, _ :: _, [], _, h => by simp [Op.bytesLess] at h
  | [], _ :: _, _ :: _, _, _ => rfl
  | a :: x, b :: y, c :: z, h1, h2 => by
    simp only [Op.bytesLess, Bool.or_eq_true, Bool.and_eq_true, decide_eq_true_eq, beq_iff_eq] at *
    rcases h1 with h1 | ⟨rfl, h1⟩ <;> rcases h2 with h2 | ⟨rfl, h2⟩
    · exact .inl (UInt8.lt_trans h1 h2)
    · exact .inl h1
    · exact .inl h2
    · exact .inr ⟨rfl, bl_trans x y z h1 h2⟩
def cf (n : Str) (b : Int) : List gMono → Int
  | [] => b
  | m :: t => cf n (if m.fName == n then m.fBy else b) t
def keep (n : Str) (l : List gMono) : List gMono := l.filter fun m => !(m.fName == n)
def zL : gLin := ⟨0, []⟩
def sbL (n : Str) (v : Int) (l : gLin) : gLin × Int :=
  if (linOK l && nm n) = true then
    if cf n 0 l.fL = 0 then (l, 0)
    else if fits (v * cf n 0 l.fL) ∧ fits (l.fK + v * cf n 0 l.fL) then (⟨l.fK + v * cf n 0 l.fL, keep n l.fL⟩, 0)
    else (zL, 3)
  else (zL, 1)
theorem badL_inv {p : Option gMono} {m : gMono} {t : List gMono} (h : badL p (m :: t) = false) : nm m.fName = true ∧ m.fBy ≠ 0 ∧ (∀ q, p = some q → Op.bytesLess q.fName m.fName = true) ∧ badL (some m) t = false := by
  rw [badL_cons] at h
  simp only [Bool.or_eq_false_iff, Bool.not_eq_false', beq_eq_false_iff_ne, ne_eq] at h
  obtain ⟨⟨h1, h2, h3⟩, h4⟩ := h
  exact ⟨h1, h2, fun q e => by subst e; simpa using h3, h4⟩
theorem badL_mk {p : Option gMono} {m : gMono} {t : List gMono} (h1 : nm m.fName = true) (h2 : m.fBy ≠ 0) (h3 : ∀ q, p = some q → Op.bytesLess q.fName m.fName = true) (h4 : badL (some m) t = false) : badL p (m :: t) = false := by
  rw [badL_cons]
  simp only [Bool.or_eq_false_iff, Bool.not_eq_false', beq_eq_false_iff_ne, ne_eq]
  refine ⟨⟨h1, h2, ?_⟩, h4⟩
  cases p with
  | none => rfl
  | some q => simpa using h3 q rfl
theorem badL_keep (n : Str) : ∀ (l : List gMono) (p p' : Option gMono), badL p l = false → (∀ q', p' = some q' → ∃ q, p = some q ∧ (q' = q ∨ Op.bytesLess q'.fName q.fName = true)) → badL p' (keep n l) = false
  | [], _, _, _, _ => rfl
  | m :: t, p, p', h, hp => by
    obtain ⟨h1, h2, h3, h4⟩ := badL_inv h
    have hless : ∀ q', p' = some q' → Op.bytesLess q'.fName m.fName = true := fun q' e => by
      obtain ⟨q, e2, h5⟩ := hp q' e
      rcases h5 with rfl | h5
      · exact h3 _ e2
      · exact bl_trans _ _ _ h5 (h3 _ e2)
    unfold keep
    rw [List.filter_cons]
    split
    · exact badL_mk h1 h2 hless (badL_keep n t (some m) (some m) h4 fun q' e => ⟨q', e, .inl rfl⟩)
    · exact badL_keep n t (some m) p' h4 fun q' e => ⟨m, rfl, .inr (hless q' e)⟩
theorem badL_by : ∀ (l : List gMono) (p : Option gMono), badL p l = false → ∀ m ∈ l, m.fBy ≠ 0
  | [], _, _, m, hm => by simp at hm
  | a :: t, p, h, m, hm => by
    obtain ⟨_, h2, _, h4⟩ := badL_inv h
    rcases List.mem_cons.1 hm with rfl | hm
    · exact h2
    · exact badL_by t _ h4 m hm
theorem cf_ne (n : Str) : ∀ (l : List gMono) (b : Int), b ≠ 0 → (∀ m ∈ l, m.fBy ≠ 0) → cf n b l ≠ 0
  | [], _, h, _ => h
  | m :: t, b, h, hm => cf_ne n t _ (by split; exact hm m (by simp); exact h) fun a ha => hm a (by simp [ha])
theorem keep_all (n : Str) : ∀ (l : List gMono), (∀ m ∈ l, m.fBy ≠ 0) → cf n 0 l = 0 → keep n l = l
  | [], _, _ => rfl
  | m :: t, hm, h => by
    unfold keep
    rw [cf] at h
    cases e : m.fName == n with
    | true => rw [e] at h; exact absurd h (cf_ne n t _ (hm m (by simp)) fun a ha => hm a (by simp [ha]))
    | false =>
      rw [e] at h
      rw [List.filter_cons, e]
      show m :: List.filter _ t = _
      rw [show List.filter (fun m : gMono => !(m.fName == n)) t = keep n t from rfl, keep_all n t (fun a ha => hm a (by simp [ha])) h]
theorem cf_fits (n : Str) : ∀ (l : List gMono) (b : Int), fits b → (∀ m ∈ l, fits m.fBy) → fits (cf n b l)
  | [], _, h, _ => h
  | m :: t, b, h, hm => cf_fits n t _ (by split; exact hm m (by simp); exact h) fun a ha => hm a (by simp [ha])
theorem okL_keep {l : gLin} (n : Str) (k : Int) (hk : fits k) (h : okL l) : okL ⟨k, keep n l.fL⟩ :=
  ⟨hk, Nat.le_trans (Nat.mul_le_mul_right _ (List.length_filter_le _ _)) h.2.1, fun m hm => h.2.2 m (List.mem_filter.1 hm).1⟩
theorem okL_const (v : Int) (h : fits v) : okL ⟨v, []⟩ := ⟨h, by simp, fun m hm => by simp at hm⟩
theorem s_lin_Substitute_L6 (n : Str) (l : gLin) (h : okL l) : F_lin_Substitute_L6 n ⟨l.fK, []⟩ 0 l.fL l.fL.length 0 = some (⟨l.fK, keep n l.fL⟩, cf n 0 l.fL) := by
  have hl := h.2.1
  have := loopEqI (F := fun (a : gLin × Int) i => F_lin_Substitute_L6 n a.1 a.2 l.fL l.fL.length i) (l := l.fL) (fun a t => (a.1.fL.length + t.length) * 24 ≤ 140737488351232) (fun a t => (⟨a.1.fK, a.1.fL ++ keep n t⟩, cf n a.2 t)) ?_ ?_ (⟨l.fK, []⟩, 0) (by simpa using hl)
  · simpa using this
  · intro a _
    show F_lin_Substitute_L6 n a.1 a.2 l.fL l.fL.length (l.fL.length : Int) = _
    rw [F_lin_Substitute_L6, if_neg (by omega)]; simp [keep, cf]
  · intro i m t a h0 h1 hm hix hI ih
    show F_lin_Substitute_L6 n a.1 a.2 l.fL l.fL.length i = _
    rw [F_lin_Substitute_L6, if_pos h1, bS, hix, bS, wrapT h0 h1 (by omega)]
    rw [List.length_cons] at hI
    cases e : m.fName == n with
    | true =>
      rw [ite_t, bS]
      have := ih (a.1, m.fBy) (by show (a.1.fL.length + t.length) * 24 ≤ 140737488351232; omega)
      rw [this]; simp [keep, cf, e]
    | false =>
      rw [ite_f, if_pos (by omega), bS, bS]
      have := ih (⟨a.1.fK, a.1.fL ++ [m]⟩, a.2) (by show ((a.1.fL ++ [m]).length + t.length) * 24 ≤ 140737488351232; simp; omega)
      rw [this]; simp [keep, cf, e]
theorem s_ref14_LinSubstitute_L6 (n : Str) (l : gLin) (h : okL l) : F_ref14_LinSubstitute_L6 n l 0 ⟨l.fK, []⟩ 0 = some (cf n 0 l.fL, ⟨l.fK, keep n l.fL⟩) := by
  have hl := h.2.1
  have := loopEqI (F := fun (a : gLin × Int) i => F_ref14_LinSubstitute_L6 n l a.2 a.1 i) (l := l.fL) (fun a t => (a.1.fL.length + t.length) * 24 ≤ 140737488351232) (fun a t => (cf n a.2 t, ⟨a.1.fK, a.1.fL ++ keep n t⟩)) ?_ ?_ (⟨l.fK, []⟩, 0) (by simpa using hl)
  · simpa using this
  · intro a _
    show F_ref14_LinSubstitute_L6 n l a.2 a.1 (l.fL.length : Int) = _
    rw [F_ref14_LinSubstitute_L6, bS, if_neg (by omega)]; simp [keep, cf]
  · intro i m t a h0 h1 hm hix hI ih
    show F_ref14_LinSubstitute_L6 n l a.2 a.1 i = _
    rw [F_ref14_LinSubstitute_L6, bS, if_pos h1, bS, hix, bS, wrapT h0 h1 (by omega)]
    rw [List.length_cons] at hI
    cases e : m.fName == n with
    | true =>
      rw [ite_t, bS, bS]
      have := ih (a.1, m.fBy) (by show (a.1.fL.length + t.length) * 24 ≤ 140737488351232; omega)
      rw [this]; simp [keep, cf, e]
    | false =>
      rw [ite_f, bS, if_pos (by omega), bS, bS]
      have := ih (⟨a.1.fK, a.1.fL ++ [m]⟩, a.2) (by show ((a.1.fL ++ [m]).length + t.length) * 24 ≤ 140737488351232; simp; omega)
      rw [this]; simp [keep, cf, e]
theorem s_lin_Scale (v c : Int) (hv : fits v) (hc : fits c) : F_lin_Scale ⟨v, []⟩ c = some (if c = 0 then (zL, 0) else if fits (v * c) then (⟨v * c, []⟩, 0) else (zL, 3)) := by
  unfold F_lin_Scale
  rw [s_lin_Validate _ (okL_const v hv), bS]
  rw [show linOK ⟨v, []⟩ = true from rfl, if_pos rfl, if_neg (by simp)]
  by_cases h0 : c = 0
  · rw [if_pos (by simpa using h0), if_pos h0]; rfl
  · rw [if_neg (by simpa using h0), if_neg h0, s_times v c hv hc, bS]
    simp only [bS]
    rw [show (List.length ([] : List gMono) : Int) = 0 from rfl, F_lin_Scale_L8, if_neg (by omega), bS]
    by_cases hf : fits (v * c)
    · rw [if_pos hf, if_pos hf]; rfl
    · rw [if_neg hf, if_neg hf]; rfl
theorem s_lin_merge (b : Bool) : ∀ (l : List gMono) (g : gLin), (∀ m ∈ l, fits m.fBy ∧ m.fBy ≠ 0) → (g.fL.length + l.length) * 24 ≤ 140737488351232 → F_lin_merge_c100_L0 l [] (b, g) = some (b, ⟨g.fK, g.fL ++ l⟩)
  | [], g, _, _ => by
    rw [F_lin_merge_c100_L0, bS, bS, if_neg (by simp), bS, if_neg (by simp), bS, ite_f]; simp
  | m :: t, g, hm, hl => by
    obtain ⟨h1, h2⟩ := hm m (by simp)
    rw [List.length_cons] at hl
    rw [F_lin_merge_c100_L0, bS, bS, if_pos (by simp <;> omega), bS, ite_t, bS, if_pos (by simp), bS, bS, ite_t]
    simp only [show ix (m :: t) (0 : Int) = some m from rfl, bS]
    have e1 : F_lin_Add_1 m.fName m.fBy 0 b g = some (b, ⟨g.fK, g.fL ++ [m]⟩) := by
      unfold F_lin_Add_1
      rw [s_plus _ _ h1 (by unfold fits; omega), bS, bS, Int.add_zero, wrapId h1, decide_eq_true h1]
      have : (if b then some true else some false) = some b := by cases b <;> rfl
      rw [this, bS, if_pos (by simpa using h2), bS, if_pos (by dsimp only; omega), bS]
    rw [e1, bS, if_pos ⟨by omega, by simp; omega⟩]
    show F_lin_merge_c100_L0 t [] (b, ⟨g.fK, g.fL ++ [m]⟩) = _
    rw [s_lin_merge b t _ (fun a ha => hm a (by simp [ha])) (by simp; omega)]
    simp
theorem s_lin_Add (l : gLin) (k : Int) (h : okL l) (hv : linOK l = true) (hk : fits k) : F_lin_Add l ⟨k, []⟩ = some (if fits (l.fK + k) then (⟨l.fK + k, l.fL⟩, 0) else (zL, 3)) := by
  unfold F_lin_Add
  have hb : badL none l.fL = false := by unfold linOK at hv; simpa using hv
  rw [bS, s_lin_Validate l h, bS, hv, if_pos rfl, if_neg (by simp), s_lin_Validate _ (okL_const k hk), bS, show linOK ⟨k, []⟩ = true from rfl, if_pos rfl, if_neg (by simp), bS, ite_f]
  rw [s_plus _ _ h.1 hk, bS]
  unfold F_lin_merge_c100
  rw [bS, s_lin_merge _ l.fL _ (fun m hm => ⟨(h.2.2 m hm), badL_by _ _ hb m hm⟩) (by simpa using h.2.1), bS, bS]
  by_cases hf : fits (l.fK + k)
  · rw [if_pos (decide_eq_true hf), if_pos hf, wrapId hf]; rfl
  · rw [if_neg (by simp [hf]), if_neg hf]; rfl
theorem s_lin_Substitute (n : Str) (v : Int) (l : gLin) (h : okL l) (hv : fits v) : F_lin_Substitute l n ⟨v, []⟩ = some (sbL n v l) := by
  unfold F_lin_Substitute sbL
  rw [bS, s_lin_Validate l h, bS]
  cases ho : linOK l with
  | false => rfl
  | true =>
    rw [if_pos rfl, if_neg (by simp), s_lin_identifier n, bS]
    cases hnm : nm n with
    | false => rfl
    | true =>
      have hb : badL none l.fL = false := by unfold linOK at ho; simpa using ho
      have hc : fits (cf n 0 l.fL) := cf_fits n _ _ (by unfold fits; omega) h.2.2
      rw [ite_t, s_lin_Validate _ (okL_const v hv), bS, show linOK ⟨v, []⟩ = true from rfl, if_pos rfl, if_neg (by simp), bS, ite_f, bS, bS, s_lin_Substitute_L6 n l h, bS, s_lin_Scale v _ hv hc, bS]
      have hk : linOK ⟨l.fK, keep n l.fL⟩ = true := by
        unfold linOK
        rw [badL_keep n l.fL none none hb fun _ e => by cases e]; rfl
      simp only [Bool.and_self, if_true]
      by_cases h0 : cf n 0 l.fL = 0
      · rw [if_pos h0, if_pos h0, if_neg (by simp)]
        rw [show zL = ⟨0, []⟩ from rfl, s_lin_Add _ 0 (okL_keep n _ h.1 h) hk (by unfold fits; omega), bS]
        rw [if_pos (by simpa using h.1), keep_all n _ (badL_by _ _ hb) h0]; simp
      · rw [if_neg h0, if_neg h0]
        by_cases hf : fits (v * cf n 0 l.fL)
        · rw [if_pos hf, if_neg (by simp), s_lin_Add _ _ (okL_keep n _ h.1 h) hk hf, bS]
          by_cases hf2 : fits (l.fK + v * cf n 0 l.fL)
          · rw [if_pos hf2, if_pos ⟨hf, hf2⟩]
          · rw [if_neg hf2, if_neg fun e => hf2 e.2]
        · rw [if_neg hf, if_pos (by simp), if_neg fun e => hf e.1]; rfl
theorem s_ref14_sum (c : Int) (hc : fits c) (l to : gLin) (ht : to.fL = []) (h : okL l) (hb : badL none l.fL = false) (b : Bool) (k : Int) : F_ref14_sum_L4 c l to b ⟨k, []⟩ 0 0 = some (b, ⟨k, l.fL⟩) := by
  have hl := h.2.1
  have := loopEqI (F := fun (a : gLin) i => F_ref14_sum_L4 c l to b a i 0) (l := l.fL) (fun a t => (a.fL.length + t.length) * 24 ≤ 140737488351232) (fun a t => (b, ⟨a.fK, a.fL ++ t⟩)) ?_ ?_ ⟨k, []⟩ (by simpa using hl)
  · simpa using this
  · intro a _
    show F_ref14_sum_L4 c l to b a (l.fL.length : Int) 0 = _
    rw [F_ref14_sum_L4, bS, bS, if_neg (by omega), bS, if_neg (by rw [ht]; simp), bS, ite_f]; simp
  · intro i m t a h0 h1 hm hix hI ih
    show F_ref14_sum_L4 c l to b a i 0 = _
    have hmf := (h.2.2 m hm)
    have hm0 := badL_by _ _ hb m hm
    rw [List.length_cons] at hI
    rw [F_ref14_sum_L4, bS, bS, if_pos h1, bS, ite_t, bS, bS, if_pos (by rw [ht]; simp), bS, bS, ite_t]
    simp only [hix, bS]
    rw [if_neg (by rw [ht]; simp), bS, ite_f]
    simp only [bS]
    rw [if_pos (by simpa using hm0), bS, wrapT h0 h1 (by omega)]
    rw [s_both m.fBy 0 c hmf (by unfold fits; omega) hc, bS, Int.zero_mul, Int.add_zero, wrapId hmf, decide_eq_true hmf]
    have : (if b then some true else some false) = some b := by cases b <;> rfl
    simp only [bS]
    rw [this, bS, if_pos (by simpa using hm0), if_pos (by omega)]
    have := ih ⟨a.fK, a.fL ++ [m]⟩ (by show ((a.fL ++ [m]).length + t.length) * 24 ≤ 140737488351232; simp; omega)
    rw [this]; simp
theorem s_ref14_LinSubstitute (n : Str) (v : Int) (l : gLin) (h : okL l) (hv : fits v) : F_ref14_LinSubstitute l n ⟨v, []⟩ = some (sbL n v l) := by
  unfold F_ref14_LinSubstitute sbL
  rw [bS, s_base_LinRight l h, bS]
  cases ho : linOK l with
  | false => rfl
  | true =>
    rw [ite_t, s_base_LinRight _ (okL_const v hv), bS, show linOK ⟨v, []⟩ = true from rfl, ite_t, s_base_Name n, bS]
    cases hnm : nm n with
    | false => rfl
    | true =>
      have hb : badL none l.fL = false := by unfold linOK at ho; simpa using ho
      have hc : fits (cf n 0 l.fL) := cf_fits n _ _ (by unfold fits; omega) h.2.2
      rw [ite_t, bS, ite_f, bS, s_ref14_LinSubstitute_L6 n l h, bS]
      simp only [Bool.and_self, if_true]
      have hbk := badL_keep n l.fL none none hb fun _ e => by cases e
      by_cases h0 : cf n 0 l.fL = 0
      · rw [if_pos (by simpa using h0), if_pos h0]
      · rw [if_neg (by simpa using h0), if_neg h0]
        have hz : fits 0 := by unfold fits; omega
        unfold F_ref14_scales
        rw [s_both 0 v _ hz hv hc, bS, Int.zero_add]
        by_cases hf : fits (v * cf n 0 l.fL)
        · rw [if_pos (decide_eq_true hf), bS, F_ref14_scales_L5, bS, if_neg (by simp), bS, bS, ite_t]
          unfold F_ref14_sum
          rw [s_both _ v _ h.1 hv hc, bS, bS, s_ref14_sum _ hc ⟨l.fK, keep n l.fL⟩ ⟨v, []⟩ rfl (okL_keep n _ h.1 h) hbk, bS]
          by_cases hf2 : fits (l.fK + v * cf n 0 l.fL)
          · rw [if_pos (decide_eq_true hf2), bS, if_pos ⟨hf, hf2⟩, wrapId hf2]
          · rw [if_neg (by simp [hf2]), bS, if_neg fun e => hf2 e.2]; rfl
        · rw [if_neg (by simp [hf]), bS, ite_f, if_neg fun e => hf e.1]; rfl
end Go.Proofs.YtfaenlhmhlabeaaGreatDoor
end
section
namespace Go.Proofs.YtfaenlhmhlabeaaGreatDoor
open Go HY
set_option linter.unusedVariables false
set_option linter.unusedSimpArgs false
section
variable {α β γ ρ : Type}
def mapE (g : α → β × Int) : List α → List β × Int
  | [] => ([], 0)
  | x :: t => if (g x).2 ≠ 0 then ([], (g x).2) else if (mapE g t).2 ≠ 0 then ([], (mapE g t).2) else ((g x).1 :: (mapE g t).1, 0)
theorem mapE_err (g : α → β × Int) : ∀ l, (mapE g l).2 ≠ 0 → (mapE g l).1 = []
  | [], h => rfl
  | x :: t, h => by
    rw [mapE] at h ⊢
    split
    · rfl
    · split
      · rfl
      · rename_i h1 h2; rw [if_neg h1, if_neg h2] at h; exact absurd rfl h
theorem mapE_pair (g : α → β × Int) (l : List α) (h : (mapE g l).2 ≠ 0) : mapE g l = ([], (mapE g l).2) := by
  have := mapE_err g l h
  generalize mapE g l = r at *
  obtain ⟨a, b⟩ := r
  simp only at this
  rw [this]
theorem mapE_map {δ : Type} (g : β → δ × Int) (k : α → β) : ∀ l : List α, mapE (fun a => g (k a)) l = mapE g (l.map k)
  | [] => rfl
  | x :: t => by rw [List.map_cons, mapE, mapE, mapE_map g k t]
theorem mapE_attach (g : α → β × Int) (l : List α) : mapE (fun a : { x // x ∈ l } => g a.1) l.attach = mapE g l := by
  rw [mapE_map g (fun a : { x // x ∈ l } => a.1)]; simp
theorem mapE_congr {g k : α → β × Int} : ∀ {l : List α}, (∀ x ∈ l, g x = k x) → mapE g l = mapE k l
  | [], _ => rfl
  | x :: t, h => by rw [mapE, mapE, h x (by simp), mapE_congr (l := t) fun y hy => h y (by simp [hy])]
theorem mapE_all {Q : β → Prop} {g : α → β × Int} : ∀ (l : List α), (∀ x ∈ l, (g x).2 = 0 → Q (g x).1) → (mapE g l).2 = 0 → (mapE g l).1.length = l.length ∧ ∀ y ∈ (mapE g l).1, Q y
  | [], _, _ => ⟨rfl, fun y hy => by simp [mapE] at hy⟩
  | x :: t, h, h0 => by
    rw [mapE] at h0 ⊢
    split
    · rename_i h1; rw [if_pos h1] at h0; exact absurd h0 h1
    · rename_i h1
      rw [if_neg h1] at h0
      split
      · rename_i h2; rw [if_pos h2] at h0; exact absurd h0 h2
      · rename_i h2
        obtain ⟨l1, l2⟩ := mapE_all (Q := Q) t (fun y hy => h y (by simp [hy])) (by simpa using h2)
        refine ⟨by show ((g x).1 :: _).length = _; rw [List.length_cons, List.length_cons, l1], fun y hy => ?_⟩
        rcases List.mem_cons.1 hy with rfl | hy
        · exact h x (by simp) (by simpa using h1)
        · exact l2 y hy
theorem mapE_id {g : α → α × Int} : ∀ {l : List α}, (∀ x ∈ l, g x = (x, 0)) → mapE g l = (l, 0)
  | [], _ => rfl
  | x :: t, h => by rw [mapE, h x (by simp), mapE_id (l := t) fun y hy => h y (by simp [hy])]; rfl
def res (x : Option (γ ⊕ ρ)) (K : List β → γ) (Er : ρ → Int → Prop) (r : List β × Int) : Prop := (r.2 = 0 → x = some (.inl (K r.1))) ∧ (r.2 ≠ 0 → ∃ q, x = some (.inr q) ∧ Er q r.2)
theorem inplace {F : List α → Int → Option (γ ⊕ ρ)} {l : List α} (g : α → α × Int) (K : List α → γ) (Er : ρ → Int → Prop)
    (last : ∀ a, a.length = l.length → F a l.length = some (.inl (K a)))
    (step : ∀ (i : Nat) x a, i < l.length → l[i]? = some x → x ∈ l → a.length = l.length → a[i]? = some x → ((g x).2 ≠ 0 → ∃ q, F a i = some (.inr q) ∧ Er q (g x).2) ∧ ((g x).2 = 0 → F a i = F (a.set i (g x).1) ((i + 1 : Nat) : Int))) : res (F l 0) K Er (mapE g l) := by
  have key : ∀ (t p d : List α), l = p ++ t → d.length = p.length → res (F (d ++ t) p.length) (fun r => K (d ++ r)) Er (mapE g t) := by
    intro t
    induction t with
    | nil =>
      intro p d e hd
      have hl : p.length = l.length := by rw [e]; simp
      refine ⟨fun _ => ?_, fun h => absurd rfl h⟩
      show F (d ++ []) p.length = some (.inl (K (d ++ [])))
      rw [hl]; exact last _ (by simp [hd, hl])
    | cons x t ih =>
      intro p d e hd
      obtain ⟨s1, s2⟩ := step p.length x (d ++ x :: t) (by rw [e]; simp) (by rw [e, List.getElem?_append_right (Nat.le_refl _)]; simp) (by rw [e]; simp) (by rw [e]; simp [hd]) (by rw [← hd, List.getElem?_append_right (Nat.le_refl _)]; simp)
      rw [mapE]
      by_cases h1 : (g x).2 = 0
      · rw [if_neg (by simpa using h1)]
        have hs : (d ++ x :: t).set p.length (g x).1 = (d ++ [(g x).1]) ++ t := by
          rw [← hd, List.set_append_right _ _ (Nat.le_refl _)]; simp
        have := ih (p ++ [x]) (d ++ [(g x).1]) (by rw [e]; simp) (by simp [hd])
        rw [show ((p ++ [x]).length : Int) = ((p.length + 1 : Nat) : Int) by simp, ← hs, ← s2 h1] at this
        refine ⟨fun h => ?_, fun h => ?_⟩
        · split at h
          · rename_i h2; exact absurd h h2
          · rename_i h2
            rw [if_neg h2]
            have := this.1 (by simpa using h2)
            rw [this]; simp
        · split at h
          · rename_i h2
            rw [if_pos h2]; exact this.2 h2
          · exact absurd rfl h
      · rw [if_pos h1]
        exact ⟨fun h => absurd h h1, fun _ => s1 h1⟩
  exact key l [] [] rfl rfl
theorem appnd {F : List β → Int → Option (γ ⊕ ρ)} {l : List α} (g : α → β × Int) (K : List β → γ) (Er : ρ → Int → Prop)
    (last : ∀ a, a.length = l.length → F a l.length = some (.inl (K a)))
    (step : ∀ (i : Nat) x a, i < l.length → l[i]? = some x → x ∈ l → a.length = i → ((g x).2 ≠ 0 → ∃ q, F a i = some (.inr q) ∧ Er q (g x).2) ∧ ((g x).2 = 0 → F a i = F (a ++ [(g x).1]) ((i + 1 : Nat) : Int))) : res (F [] 0) K Er (mapE g l) := by
  have key : ∀ (t p : List α) (d : List β), l = p ++ t → d.length = p.length → res (F d p.length) (fun r => K (d ++ r)) Er (mapE g t) := by
    intro t
    induction t with
    | nil =>
      intro p d e hd
      have hl : p.length = l.length := by rw [e]; simp
      refine ⟨fun _ => ?_, fun h => absurd rfl h⟩
      show F d p.length = some (.inl (K (d ++ [])))
      rw [hl, List.append_nil]; exact last _ (by simp [hd, hl])
    | cons x t ih =>
      intro p d e hd
      obtain ⟨s1, s2⟩ := step p.length x d (by rw [e]; simp) (by rw [e, List.getElem?_append_right (Nat.le_refl _)]; simp) (by rw [e]; simp) hd
      rw [mapE]
      by_cases h1 : (g x).2 = 0
      · rw [if_neg (by simpa using h1)]
        have := ih (p ++ [x]) (d ++ [(g x).1]) (by rw [e]; simp) (by simp [hd])
        rw [show ((p ++ [x]).length : Int) = ((p.length + 1 : Nat) : Int) by simp, ← s2 h1] at this
        refine ⟨fun h => ?_, fun h => ?_⟩
        · split at h
          · rename_i h2; exact absurd h h2
          · rename_i h2
            rw [if_neg h2]
            have := this.1 (by simpa using h2)
            rw [this]; simp
        · split at h
          · rename_i h2
            rw [if_pos h2]; exact this.2 h2
          · exact absurd rfl h
      · rw [if_pos h1]
        exact ⟨fun h => absurd h h1, fun _ => s1 h1⟩
  exact key l [] [] rfl rfl
theorem ixN {l : List α} {i : Nat} {x : α} (h : l[i]? = some x) : ix l (i : Int) = some x := by
  unfold ix; rw [if_pos (by omega), Int.toNat_natCast, h]
theorem setSelf {l : List α} {i : Nat} {x : α} (h : l[i]? = some x) : l.set i x = l := by
  apply List.ext_getElem?
  intro j
  rw [List.getElem?_set]
  split
  · rename_i e; subst e
    rw [h, if_pos (List.getElem?_eq_some_iff.1 h).1]
  · rfl
theorem getSet {l : List α} {i : Nat} {x : α} (h : i < l.length) : (l.set i x)[i]? = some x := by
  rw [List.getElem?_set, if_pos rfl, if_pos h]
end
def okI (x : gIndex) : Prop := okL x.fLin ∧ x.fAt.length * 32 ≤ 140737488351232 ∧ ∀ l ∈ x.fAt, okL l
inductive okE : gExpr → Prop
  | mk (x : gExprS) (h1 : okL x.fLin) (h2 : x.fIdx.length * 72 ≤ 140737488351232) (h3 : ∀ i ∈ x.fIdx, okI i) (h4 : x.fArgs.length * 160 ≤ 140737488351232) (h5 : ∀ a ∈ x.fArgs, okE a) : okE (.mk x)
inductive okS : gStmt → Prop
  | mk (x : gStmtS) (h1 : x.fIdx.length * 72 ≤ 140737488351232) (h2 : ∀ i ∈ x.fIdx, okI i) (h3 : okE (.mk x.fExpr)) (h4 : x.fBody.length * 256 ≤ 140737488351232) (h5 : ∀ a ∈ x.fBody, okS a) : okS (.mk x)
def okSs (l : List gStmt) : Prop := l.length * 256 ≤ 140737488351232 ∧ ∀ a ∈ l, okS a
theorem okE.of {x : gExprS} (h : okE (.mk x)) : okL x.fLin ∧ x.fIdx.length * 72 ≤ 140737488351232 ∧ (∀ i ∈ x.fIdx, okI i) ∧ x.fArgs.length * 160 ≤ 140737488351232 ∧ ∀ a ∈ x.fArgs, okE a := by
  cases h with | mk _ h1 h2 h3 h4 h5 => exact ⟨h1, h2, h3, h4, h5⟩
theorem okS.of {x : gStmtS} (h : okS (.mk x)) : x.fIdx.length * 72 ≤ 140737488351232 ∧ (∀ i ∈ x.fIdx, okI i) ∧ okE (.mk x.fExpr) ∧ okSs x.fBody := by
  cases h with | mk _ h1 h2 h3 h4 h5 => exact ⟨h1, h2, h3, h4, h5⟩
def zI : gIndex := ⟨⟨0, []⟩, [], []⟩
def zE : gExprS := gExprF.mk 0 [] ⟨0, 0⟩ ⟨0, 0, 0, 0, 0⟩ ⟨0, []⟩ [] []
def zS : gStmtS := gStmtF.mk 0 [] 0 0 0 [] zE []
variable (f : gLin → gLin × Int)
def mI (x : gIndex) : gIndex × Int :=
  if (f x.fLin).2 ≠ 0 then (zI, (f x.fLin).2) else if (mapE f x.fAt).2 ≠ 0 then (zI, (mapE f x.fAt).2) else (⟨(f x.fLin).1, x.fFrom, (mapE f x.fAt).1⟩, 0)
def mE1 (x : gExprS) (a : List gExpr × Int) : gExpr × Int :=
  if (f x.fLin).2 ≠ 0 then (.mk zE, (f x.fLin).2) else if (mapE (mI f) x.fIdx).2 ≠ 0 then (.mk zE, (mapE (mI f) x.fIdx).2) else if a.2 ≠ 0 then (.mk zE, a.2)
  else (.mk (gExprF.mk x.fOp x.fName x.fVal x.fType (f x.fLin).1 (mapE (mI f) x.fIdx).1 a.1), 0)
def mE : gExpr → gExpr × Int
  | .mk x => mE1 f x (mapE (fun a : { e // e ∈ x.fArgs } => mE a.1) x.fArgs.attach)
 termination_by e => SizeOf.sizeOf e
 decreasing_by exact gExpr.lt a.2
theorem mE_mk (x : gExprS) : mE f (.mk x) = mE1 f x (mapE (mE f) x.fArgs) := by
  rw [mE, mapE_attach (fun a => mE f a)]
def mS1 (x : gStmtS) (b : List gStmt × Int) : gStmt × Int :=
  if (mapE (mI f) x.fIdx).2 ≠ 0 then (.mk zS, (mapE (mI f) x.fIdx).2) else if (mE f (.mk x.fExpr)).2 ≠ 0 then (.mk zS, (mE f (.mk x.fExpr)).2) else if b.2 ≠ 0 then (.mk zS, b.2)
  else (.mk (gStmtF.mk x.fOp x.fName x.fMany x.fMark x.fFold (mapE (mI f) x.fIdx).1 (mE f (.mk x.fExpr)).1.f b.1), 0)
def mS : gStmt → gStmt × Int
  | .mk x => mS1 f x (mapE (fun a : { e // e ∈ x.fBody } => mS a.1) x.fBody.attach)
 termination_by e => SizeOf.sizeOf e
 decreasing_by exact gStmt.lt a.2
theorem mS_mk (x : gStmtS) : mS f (.mk x) = mS1 f x (mapE (mS f) x.fBody) := by
  rw [mS, mapE_attach (fun a => mS f a)]
end Go.Proofs.YtfaenlhmhlabeaaGreatDoor
end
section
namespace Go.Proofs.YtfaenlhmhlabeaaGreatDoor
open Go HY
set_option linter.unusedVariables false
set_option linter.unusedSimpArgs false
section
variable {f : gLin → gLin × Int} {p : Str × gLin}
theorem s_c45_L11 (hf : ∀ l, okL l → F_loopnest_Substitute_1 l p.1 p.2 = some (f l)) (x0 : List gIndex) (i : Nat) (x : gIndex) (hx : x0[i]? = some x) (hA : x.fAt.length * 32 ≤ 140737488351232) (hL : ∀ l ∈ x.fAt, okL l) (v3 : List gIndex) (hv : i < v3.length) :
    res (F_loopnest_mapIndices_c45_L11 x0 p (v3, x.fAt) i x.fAt.length 0) (fun b => (v3, b)) (fun q e => q.1 = [] ∧ q.2.1 = e) (mapE f x.fAt) := by
  refine inplace (F := fun b j => F_loopnest_mapIndices_c45_L11 x0 p (v3, b) i x.fAt.length j) f (fun b => (v3, b)) (fun q e => q.1 = [] ∧ q.2.1 = e) ?_ ?_
  · intro a ha
    show F_loopnest_mapIndices_c45_L11 x0 p (v3, a) i x.fAt.length x.fAt.length = _
    rw [F_loopnest_mapIndices_c45_L11, if_neg (by omega)]
  · intro j l b hj hl hm hb hbj
    have e0 : F_loopnest_mapIndices_c45_L11 x0 p (v3, b) i x.fAt.length j = if (f l).2 ≠ 0 then (v3[i]? >>= fun v4 => some (List.set v3 i (gIndex.mk v4.fLin v4.fFrom (b.set j (f l).1))) >>= fun v5 => some (.inr ([], (f l).2, v5))) else F_loopnest_mapIndices_c45_L11 x0 p (v3, b.set j (f l).1) i x.fAt.length ((j + 1 : Nat) : Int) := by
      rw [F_loopnest_mapIndices_c45_L11, if_pos (by omega), if_pos ⟨by omega, by dsimp only; omega⟩, ixN hx, bS, ixN hl, bS, hf l (hL l hm), bS, if_pos ⟨by omega, by dsimp only; omega⟩]
      rw [if_pos (by simp; omega), bS, Int.toNat_natCast, Int.toNat_natCast, wrapL (by omega)]
      by_cases h : (f l).2 = 0
      · rw [if_neg (by simp [h]), if_neg (by simp [h])]
      · rw [if_pos (by simpa using h), if_pos (by simp), if_pos h]
    refine ⟨fun h => ?_, fun h => ?_⟩
    · obtain ⟨v4, hv4⟩ : ∃ v4, v3[i]? = some v4 := ⟨_, List.getElem?_eq_getElem hv⟩
      show ∃ q, F_loopnest_mapIndices_c45_L11 x0 p (v3, b) i x.fAt.length j = some (.inr q) ∧ _
      rw [e0, if_pos h, hv4]
      exact ⟨_, rfl, rfl, rfl⟩
    · show F_loopnest_mapIndices_c45_L11 x0 p (v3, b) i x.fAt.length j = _
      rw [e0, if_neg (by simpa using h)]
theorem s_c45_L4 (hf : ∀ l, okL l → F_loopnest_Substitute_1 l p.1 p.2 = some (f l)) (x0 : List gIndex) (hl : x0.length * 72 ≤ 140737488351232) (hI : ∀ x ∈ x0, okI x) :
    res (F_loopnest_mapIndices_c45_L4 x0 p x0 x0.length 0) (fun a => a) (fun q e => q = (([] : List gIndex), e)) (mapE (mI f) x0) := by
  refine inplace (F := fun a j => F_loopnest_mapIndices_c45_L4 x0 p a x0.length j) (mI f) (fun a => a) (fun q e => q = (([] : List gIndex), e)) ?_ ?_
  · intro a ha
    show F_loopnest_mapIndices_c45_L4 x0 p a x0.length x0.length = _
    rw [F_loopnest_mapIndices_c45_L4, if_neg (by omega)]
  · intro i x a hi hx hm ha hai
    obtain ⟨k1, k2, k3⟩ := hI x hm
    have hset : ((a.set i ⟨(f x.fLin).1, x.fFrom, x.fAt⟩)[i]?) = some ⟨(f x.fLin).1, x.fFrom, x.fAt⟩ := getSet (by omega)
    have e0 : F_loopnest_mapIndices_c45_L4 x0 p a x0.length i = if (f x.fLin).2 ≠ 0 then some (.inr ([], (f x.fLin).2)) else (F_loopnest_mapIndices_c45_L11 x0 p (a.set i ⟨(f x.fLin).1, x.fFrom, x.fAt⟩, x.fAt) i x.fAt.length 0 >>= fun v9 => (match v9 with
        | (.inl v10) =>
          v10.fst[i]? >>= fun v11 =>
          some (List.set v10.fst i (gIndex.mk v11.fLin v11.fFrom v10.snd)) >>= fun v12 =>
          F_loopnest_mapIndices_c45_L4 x0 p v12 x0.length ((i + 1 : Nat) : Int)
        | (.inr v13) =>
          some (.inr (v13.fst, v13.snd.fst)))) := by
      rw [F_loopnest_mapIndices_c45_L4, if_pos (by omega), ixN hx, bS, hf _ k1, bS, if_pos ⟨by omega, by omega⟩, Int.toNat_natCast, hai, bS, bS]
      by_cases h : (f x.fLin).2 = 0
      · rw [if_neg (by simp [h]), if_neg (by simp [h]), bS]
        unfold F_slices_Clone_api_Lin
        rw [if_pos ⟨by omega, by omega⟩, bS, if_pos ⟨by omega, by omega⟩, if_pos (by simp; omega), bS, bS, bS]
        simp only [Int.toNat_natCast, wrapL (show i ≤ 4611686018427387904 by omega)]
        rfl
      · rw [if_pos (by simpa using h), if_pos (by simp), if_pos h]
    have h11 := s_c45_L11 hf x0 i x hx k2 k3 (a.set i ⟨(f x.fLin).1, x.fFrom, x.fAt⟩) (by simp; omega)
    have e1 : (mI f x).2 = if (f x.fLin).2 ≠ 0 then (f x.fLin).2 else if (mapE f x.fAt).2 ≠ 0 then (mapE f x.fAt).2 else 0 := by unfold mI; split; rfl; split; rfl; rfl
    refine ⟨fun h => ?_, fun h => ?_⟩
    · show ∃ q, F_loopnest_mapIndices_c45_L4 x0 p a x0.length i = some (.inr q) ∧ _
      rw [e0]
      by_cases h1 : (f x.fLin).2 = 0
      · rw [if_neg (by simpa using h1)]
        by_cases h2 : (mapE f x.fAt).2 = 0
        · rw [e1, if_neg (by simpa using h1), if_neg (by simpa using h2)] at h; exact absurd rfl h
        · obtain ⟨q, hq, hqe⟩ := h11.2 h2
          rw [hq, bS]
          refine ⟨_, rfl, ?_⟩
          rw [e1, if_neg (by simpa using h1), if_pos h2]
          rw [hqe.1, hqe.2]
      · rw [if_pos h1]
        exact ⟨_, rfl, by rw [e1, if_pos h1]⟩
    · show F_loopnest_mapIndices_c45_L4 x0 p a x0.length i = _
      rw [e0]
      by_cases h1 : (f x.fLin).2 = 0
      · by_cases h2 : (mapE f x.fAt).2 = 0
        · rw [if_neg (by simpa using h1), h11.1 h2, bS]
          show ((a.set i ⟨(f x.fLin).1, x.fFrom, x.fAt⟩)[i]? >>= _) = _
          rw [hset, bS, bS, List.set_set]
          unfold mI
          rw [if_neg (by simpa using h1), if_neg (by simpa using h2)]
        · rw [e1, if_neg (by simpa using h1), if_pos h2] at h; exact absurd h h2
      · rw [e1, if_pos h1] at h; exact absurd h h1
theorem s_c45_I (hf : ∀ l, okL l → F_loopnest_Substitute_1 l p.1 p.2 = some (f l)) (x0 : List gIndex) (hl : x0.length * 72 ≤ 140737488351232) (hI : ∀ x ∈ x0, okI x) : F_loopnest_mapIndices_c45 x0 p = some (mapE (mI f) x0) := by
  have h4 := s_c45_L4 hf x0 hl hI
  unfold F_loopnest_mapIndices_c45 F_slices_Clone_api_Index
  rw [if_pos ⟨by omega, by omega⟩, bS, bS, bS]
  by_cases h : (mapE (mI f) x0).2 = 0
  · rw [h4.1 h, bS]
    show some ((mapE (mI f) x0).1, (0 : Int)) = _
    rw [← h]
  · obtain ⟨q, hq, rfl⟩ := h4.2 h
    rw [hq, bS, mapE_pair _ _ h]
theorem s_c45_E (hf : ∀ l, okL l → F_loopnest_Substitute_1 l p.1 p.2 = some (f l)) : ∀ e, okE e → F_loopnest_mapExpr_c45 e.f p = some ((mE f e).1.f, (mE f e).2) := gExpr.ind fun x ih => by
  intro hw
  obtain ⟨k1, k2, k3, k4, k5⟩ := hw.of
  rw [gExpr.f_mk, mE_mk]
  unfold mE1
  rw [F_loopnest_mapExpr_c45, hf _ k1, bS]
  by_cases h1 : (f x.fLin).2 = 0
  · rw [if_neg (by simp [h1]), if_neg (by simp [h1]), s_c45_I hf _ k2 k3, bS]
    by_cases h2 : (mapE (mI f) x.fIdx).2 = 0
    · rw [if_neg (by simp [h2]), if_neg (by simp [h2])]
      unfold F_slices_Clone_api_Expr
      rw [if_pos ⟨by omega, by omega⟩, bS, bS, bS]
      have h11 : res (F_loopnest_mapExpr_c45_L11 p x zE (gExprF.mk x.fOp x.fName x.fVal x.fType (f x.fLin).1 (mapE (mI f) x.fIdx).1 x.fArgs) x.fArgs.length 0) (fun a => (zE, (gExprF.mk x.fOp x.fName x.fVal x.fType (f x.fLin).1 (mapE (mI f) x.fIdx).1 a : gExprS))) (fun q e => q.1 = zE ∧ q.2.1 = e) (mapE (mE f) x.fArgs) := by
        refine inplace (F := fun a j => F_loopnest_mapExpr_c45_L11 p x zE (gExprF.mk x.fOp x.fName x.fVal x.fType (f x.fLin).1 (mapE (mI f) x.fIdx).1 a) x.fArgs.length j) (mE f) (fun a => (zE, (gExprF.mk x.fOp x.fName x.fVal x.fType (f x.fLin).1 (mapE (mI f) x.fIdx).1 a : gExprS))) (fun q e => q.1 = zE ∧ q.2.1 = e) ?_ ?_
        · intro a ha
          show F_loopnest_mapExpr_c45_L11 p x zE _ x.fArgs.length x.fArgs.length = _
          rw [F_loopnest_mapExpr_c45_L11, if_neg (by omega)]
        · intro j e a hj he hm ha haj
          have e0 : F_loopnest_mapExpr_c45_L11 p x zE (gExprF.mk x.fOp x.fName x.fVal x.fType (f x.fLin).1 (mapE (mI f) x.fIdx).1 a) x.fArgs.length j = if (mE f e).2 ≠ 0 then some (.inr (zE, (mE f e).2, (gExprF.mk x.fOp x.fName x.fVal x.fType (f x.fLin).1 (mapE (mI f) x.fIdx).1 (a.set j (mE f e).1) : gExprS))) else F_loopnest_mapExpr_c45_L11 p x zE (gExprF.mk x.fOp x.fName x.fVal x.fType (f x.fLin).1 (mapE (mI f) x.fIdx).1 (a.set j (mE f e).1)) x.fArgs.length ((j + 1 : Nat) : Int) := by
            rw [F_loopnest_mapExpr_c45_L11, if_pos (by omega), ixN he, omS, bS, ih e hm (k5 e hm), bS, if_pos ⟨by omega, by dsimp only; omega⟩, if_pos (by simp; omega), bS, Int.toNat_natCast, gExpr.mk_f, wrapL (by omega)]
            by_cases h : (mE f e).2 = 0
            · rw [if_neg (by simp [h]), if_neg (by simp [h])]
            · rw [if_pos (by simpa using h), if_pos h]; rfl
          refine ⟨fun h => ?_, fun h => ?_⟩
          · show ∃ q, F_loopnest_mapExpr_c45_L11 p x zE _ x.fArgs.length j = some (.inr q) ∧ _
            rw [e0, if_pos h]
            exact ⟨_, rfl, rfl, rfl⟩
          · show F_loopnest_mapExpr_c45_L11 p x zE _ x.fArgs.length j = _
            rw [e0, if_neg (by simpa using h)]
      show (F_loopnest_mapExpr_c45_L11 p x zE (gExprF.mk x.fOp x.fName x.fVal x.fType (f x.fLin).1 (mapE (mI f) x.fIdx).1 x.fArgs) x.fArgs.length 0 >>= _) = _
      by_cases h3 : (mapE (mE f) x.fArgs).2 = 0
      · rw [h11.1 h3, bS, if_neg (by simp [h3])]; rfl
      · obtain ⟨q, hq, hq1, hq2⟩ := h11.2 h3
        rw [hq, bS, if_pos h3]
        show some (q.fst, q.snd.fst) = _
        rw [hq1, hq2]; rfl
    · rw [if_pos (by simpa using h2), if_pos h2]; rfl
  · rw [if_pos (by simpa using h1), if_pos h1]; rfl
theorem s_c45_B (hf : ∀ l, okL l → F_loopnest_Substitute_1 l p.1 p.2 = some (f l)) (l : List gStmt) (hP : ∀ s ∈ l, okS s → F_loopnest_mapStmts_c45_c47 s.f.fBody p = some (mapE (mS f) s.f.fBody)) (hw : okSs l) : F_loopnest_mapStmts_c45_c47 l p = some (mapE (mS f) l) := by
  obtain ⟨hl, hs⟩ := hw
  rw [F_loopnest_mapStmts_c45_c47]
  unfold F_slices_Clone_api_Stmt
  rw [if_pos ⟨by omega, by omega⟩, bS, bS, bS]
  have h4 : res (F_loopnest_mapStmts_c45_c47_L4 l p l l.length 0) (fun a => a) (fun q e => q = (([] : List gStmt), e)) (mapE (mS f) l) := by
    refine inplace (F := fun a j => F_loopnest_mapStmts_c45_c47_L4 l p a l.length j) (mS f) (fun a => a) (fun q e => q = (([] : List gStmt), e)) ?_ ?_
    · intro a ha
      show F_loopnest_mapStmts_c45_c47_L4 l p a l.length l.length = _
      rw [F_loopnest_mapStmts_c45_c47_L4, if_neg (by omega)]
    · intro i s a hi hx hm ha hai
      obtain ⟨x⟩ := s
      obtain ⟨k1, k2, k3, k4⟩ := (hs _ hm).of
      have hE := s_c45_E hf (.mk x.fExpr) k3
      rw [gExpr.f_mk] at hE
      have hB := hP _ hm (hs _ hm)
      rw [gStmt.f_mk] at hB
      have hg : ∀ y : gStmt, (a.set i y)[i]? = some y := fun y => getSet (by omega)
      have e0 : F_loopnest_mapStmts_c45_c47_L4 l p a l.length i = if (mapE (mI f) x.fIdx).2 ≠ 0 then some (.inr ([], (mapE (mI f) x.fIdx).2)) else if (mE f (.mk x.fExpr)).2 ≠ 0 then some (.inr ([], (mE f (.mk x.fExpr)).2)) else if (mapE (mS f) x.fBody).2 ≠ 0 then some (.inr ([], (mapE (mS f) x.fBody).2))
          else F_loopnest_mapStmts_c45_c47_L4 l p (a.set i (.mk (gStmtF.mk x.fOp x.fName x.fMany x.fMark x.fFold (mapE (mI f) x.fIdx).1 (mE f (.mk x.fExpr)).1.f (mapE (mS f) x.fBody).1))) l.length ((i + 1 : Nat) : Int) := by
        rw [F_loopnest_mapStmts_c45_c47_L4, if_pos (by omega), bS]
        have hname : (Option.map gStmt.f (ix l (i : Int)) >>= fun v2 =>
            if v2.fOp == (1 : Int) then
            Option.map gStmt.f (ix l (i : Int)) >>= fun v3 =>
            F_loopnest_same v3.fName >>= fun v4 =>
            if (0 : Int) ≤ (i : Int) ∧ (i : Int) < (↑a.length : Int) then
            Option.map gStmt.f a[(i : Int).toNat]? >>= fun v5 =>
            some (List.set a (i : Int).toNat (gStmt.mk (gStmtF.mk v5.fOp v4 v5.fMany v5.fMark v5.fFold v5.fIdx v5.fExpr v5.fBody : gStmtS))) >>= fun v6 =>
            some v6
            else none
            else
            some a) = some a := by
          rw [ixN hx, omS, bS]
          split
          · rw [bS, show F_loopnest_same (gStmt.f (.mk x)).fName = some x.fName from rfl, bS, if_pos ⟨by omega, by omega⟩, Int.toNat_natCast, hai, omS, bS, bS]
            show some (a.set i (.mk x)) = some a
            rw [setSelf hai]
          · rfl
        rw [hname, bS]
        rw [ixN hx, omS, bS, gStmt.f_mk, s_c45_I hf _ k1 k2, bS, if_pos ⟨by omega, by omega⟩]
        simp only [Int.toNat_natCast]
        rw [hai, omS, bS, bS, gStmt.f_mk]
        by_cases h1 : (mapE (mI f) x.fIdx).2 = 0
        · rw [if_neg (by simp [h1]), if_neg (by simp [h1]), bS, hE, bS, if_pos ⟨by omega, by omega⟩, hg, omS, bS, bS, gStmt.f_mk]
          by_cases h2 : (mE f (.mk x.fExpr)).2 = 0
          · rw [if_neg (by simp [h2]), if_neg (by simp [h2]), bS, hB, bS, if_pos ⟨by omega, by omega⟩, List.set_set, hg, omS, bS, bS, gStmt.f_mk, List.set_set]
            by_cases h3 : (mapE (mS f) x.fBody).2 = 0
            · rw [if_neg (by simp [h3]), if_neg (by simp [h3]), wrapL (by omega)]
            · rw [if_pos (by simpa using h3), if_pos (by simp), if_pos h3]
          · rw [if_pos (by simpa using h2), if_pos (by simp), if_pos h2]
        · rw [if_pos (by simpa using h1), if_pos (by simp), if_pos h1]
      have e1 := mS_mk f x
      unfold mS1 at e1
      refine ⟨fun h => ?_, fun h => ?_⟩
      · show ∃ q, F_loopnest_mapStmts_c45_c47_L4 l p a l.length i = some (.inr q) ∧ _
        rw [e0, e1]
        rw [e1] at h
        split
        · exact ⟨_, rfl, rfl⟩
        · rename_i h1
          rw [if_neg h1] at h
          split
          · exact ⟨_, rfl, rfl⟩
          · rename_i h2
            rw [if_neg h2] at h
            split
            · exact ⟨_, rfl, rfl⟩
            · rename_i h3
              rw [if_neg h3] at h; exact absurd rfl h
      · show F_loopnest_mapStmts_c45_c47_L4 l p a l.length i = _
        rw [e0, e1]
        rw [e1] at h
        split
        · rename_i h1; rw [if_pos h1] at h; exact absurd h h1
        · rename_i h1
          rw [if_neg h1] at h
          split
          · rename_i h2; rw [if_pos h2] at h; exact absurd h h2
          · rename_i h2
            rw [if_neg h2] at h
            split
            · rename_i h3; rw [if_pos h3] at h; exact absurd h h3
            · rfl
  by_cases h : (mapE (mS f) l).2 = 0
  · rw [h4.1 h, bS]
    show some ((mapE (mS f) l).1, (0 : Int)) = _
    rw [← h]
  · obtain ⟨q, hq, rfl⟩ := h4.2 h
    rw [hq, bS, mapE_pair _ _ h]
theorem s_c45_S (hf : ∀ l, okL l → F_loopnest_Substitute_1 l p.1 p.2 = some (f l)) : ∀ s, okS s → F_loopnest_mapStmts_c45_c47 s.f.fBody p = some (mapE (mS f) s.f.fBody) := gStmt.ind fun x ih hw => by
  rw [gStmt.f_mk]
  exact s_c45_B hf x.fBody ih hw.of.2.2.2
theorem s_c45_L (hf : ∀ l, okL l → F_loopnest_Substitute_1 l p.1 p.2 = some (f l)) (l : List gStmt) (hw : okSs l) : F_loopnest_mapStmts_c45_c47 l p = some (mapE (mS f) l) :=
  s_c45_B hf l (fun s _ => s_c45_S hf s) hw
end
end Go.Proofs.YtfaenlhmhlabeaaGreatDoor
end
section
namespace Go.Proofs.YtfaenlhmhlabeaaGreatDoor
open Go HY
set_option linter.unusedVariables false
set_option linter.unusedSimpArgs false
section
variable {f : gLin → gLin × Int}
theorem s_c68_L11 (hf : ∀ l, okL l → F_loopnest_copyStmts_1 l = some (f l)) (x0 : List gIndex) (i : Nat) (x : gIndex) (hx : x0[i]? = some x) (hA : x.fAt.length * 32 ≤ 140737488351232) (hL : ∀ l ∈ x.fAt, okL l) (v3 : List gIndex) (hv : i < v3.length) :
    res (F_loopnest_mapIndices_c68_L11 x0 (v3, x.fAt) i x.fAt.length 0) (fun b => (v3, b)) (fun q e => q.1 = [] ∧ q.2.1 = e) (mapE f x.fAt) := by
  refine inplace (F := fun b j => F_loopnest_mapIndices_c68_L11 x0 (v3, b) i x.fAt.length j) f (fun b => (v3, b)) (fun q e => q.1 = [] ∧ q.2.1 = e) ?_ ?_
  · intro a ha
    show F_loopnest_mapIndices_c68_L11 x0 (v3, a) i x.fAt.length x.fAt.length = _
    rw [F_loopnest_mapIndices_c68_L11, if_neg (by omega)]
  · intro j l b hj hl hm hb hbj
    have e0 : F_loopnest_mapIndices_c68_L11 x0 (v3, b) i x.fAt.length j = if (f l).2 ≠ 0 then (v3[i]? >>= fun v4 => some (List.set v3 i (gIndex.mk v4.fLin v4.fFrom (b.set j (f l).1))) >>= fun v5 => some (.inr ([], (f l).2, v5))) else F_loopnest_mapIndices_c68_L11 x0 (v3, b.set j (f l).1) i x.fAt.length ((j + 1 : Nat) : Int) := by
      rw [F_loopnest_mapIndices_c68_L11, if_pos (by omega), if_pos ⟨by omega, by dsimp only; omega⟩, ixN hx, bS, ixN hl, bS, hf l (hL l hm), bS, if_pos ⟨by omega, by dsimp only; omega⟩]
      rw [if_pos (by simp; omega), bS, Int.toNat_natCast, Int.toNat_natCast, wrapL (by omega)]
      by_cases h : (f l).2 = 0
      · rw [if_neg (by simp [h]), if_neg (by simp [h])]
      · rw [if_pos (by simpa using h), if_pos (by simp), if_pos h]
    refine ⟨fun h => ?_, fun h => ?_⟩
    · obtain ⟨v4, hv4⟩ : ∃ v4, v3[i]? = some v4 := ⟨_, List.getElem?_eq_getElem hv⟩
      show ∃ q, F_loopnest_mapIndices_c68_L11 x0 (v3, b) i x.fAt.length j = some (.inr q) ∧ _
      rw [e0, if_pos h, hv4]
      exact ⟨_, rfl, rfl, rfl⟩
    · show F_loopnest_mapIndices_c68_L11 x0 (v3, b) i x.fAt.length j = _
      rw [e0, if_neg (by simpa using h)]
theorem s_c68_L4 (hf : ∀ l, okL l → F_loopnest_copyStmts_1 l = some (f l)) (x0 : List gIndex) (hl : x0.length * 72 ≤ 140737488351232) (hI : ∀ x ∈ x0, okI x) :
    res (F_loopnest_mapIndices_c68_L4 x0 x0 x0.length 0) (fun a => a) (fun q e => q = (([] : List gIndex), e)) (mapE (mI f) x0) := by
  refine inplace (F := fun a j => F_loopnest_mapIndices_c68_L4 x0 a x0.length j) (mI f) (fun a => a) (fun q e => q = (([] : List gIndex), e)) ?_ ?_
  · intro a ha
    show F_loopnest_mapIndices_c68_L4 x0 a x0.length x0.length = _
    rw [F_loopnest_mapIndices_c68_L4, if_neg (by omega)]
  · intro i x a hi hx hm ha hai
    obtain ⟨k1, k2, k3⟩ := hI x hm
    have hset : ((a.set i ⟨(f x.fLin).1, x.fFrom, x.fAt⟩)[i]?) = some ⟨(f x.fLin).1, x.fFrom, x.fAt⟩ := getSet (by omega)
    have e0 : F_loopnest_mapIndices_c68_L4 x0 a x0.length i = if (f x.fLin).2 ≠ 0 then some (.inr ([], (f x.fLin).2)) else (F_loopnest_mapIndices_c68_L11 x0 (a.set i ⟨(f x.fLin).1, x.fFrom, x.fAt⟩, x.fAt) i x.fAt.length 0 >>= fun v9 => (match v9 with
        | (.inl v10) =>
          v10.fst[i]? >>= fun v11 =>
          some (List.set v10.fst i (gIndex.mk v11.fLin v11.fFrom v10.snd)) >>= fun v12 =>
          F_loopnest_mapIndices_c68_L4 x0 v12 x0.length ((i + 1 : Nat) : Int)
        | (.inr v13) =>
          some (.inr (v13.fst, v13.snd.fst)))) := by
      rw [F_loopnest_mapIndices_c68_L4, if_pos (by omega), ixN hx, bS, hf _ k1, bS, if_pos ⟨by omega, by omega⟩, Int.toNat_natCast, hai, bS, bS]
      by_cases h : (f x.fLin).2 = 0
      · rw [if_neg (by simp [h]), if_neg (by simp [h]), bS]
        unfold F_slices_Clone_api_Lin
        rw [if_pos ⟨by omega, by omega⟩, bS, if_pos ⟨by omega, by omega⟩, if_pos (by simp; omega), bS, bS, bS]
        simp only [Int.toNat_natCast, wrapL (show i ≤ 4611686018427387904 by omega)]
        rfl
      · rw [if_pos (by simpa using h), if_pos (by simp), if_pos h]
    have h11 := s_c68_L11 hf x0 i x hx k2 k3 (a.set i ⟨(f x.fLin).1, x.fFrom, x.fAt⟩) (by simp; omega)
    have e1 : (mI f x).2 = if (f x.fLin).2 ≠ 0 then (f x.fLin).2 else if (mapE f x.fAt).2 ≠ 0 then (mapE f x.fAt).2 else 0 := by unfold mI; split; rfl; split; rfl; rfl
    refine ⟨fun h => ?_, fun h => ?_⟩
    · show ∃ q, F_loopnest_mapIndices_c68_L4 x0 a x0.length i = some (.inr q) ∧ _
      rw [e0]
      by_cases h1 : (f x.fLin).2 = 0
      · rw [if_neg (by simpa using h1)]
        by_cases h2 : (mapE f x.fAt).2 = 0
        · rw [e1, if_neg (by simpa using h1), if_neg (by simpa using h2)] at h; exact absurd rfl h
        · obtain ⟨q, hq, hqe⟩ := h11.2 h2
          rw [hq, bS]
          refine ⟨_, rfl, ?_⟩
          rw [e1, if_neg (by simpa using h1), if_pos h2]
          rw [hqe.1, hqe.2]
      · rw [if_pos h1]
        exact ⟨_, rfl, by rw [e1, if_pos h1]⟩
    · show F_loopnest_mapIndices_c68_L4 x0 a x0.length i = _
      rw [e0]
      by_cases h1 : (f x.fLin).2 = 0
      · by_cases h2 : (mapE f x.fAt).2 = 0
        · rw [if_neg (by simpa using h1), h11.1 h2, bS]
          show ((a.set i ⟨(f x.fLin).1, x.fFrom, x.fAt⟩)[i]? >>= _) = _
          rw [hset, bS, bS, List.set_set]
          unfold mI
          rw [if_neg (by simpa using h1), if_neg (by simpa using h2)]
        · rw [e1, if_neg (by simpa using h1), if_pos h2] at h; exact absurd h h2
      · rw [e1, if_pos h1] at h; exact absurd h h1
theorem s_c68_I (hf : ∀ l, okL l → F_loopnest_copyStmts_1 l = some (f l)) (x0 : List gIndex) (hl : x0.length * 72 ≤ 140737488351232) (hI : ∀ x ∈ x0, okI x) : F_loopnest_mapIndices_c68 x0 = some (mapE (mI f) x0) := by
  have h4 := s_c68_L4 hf x0 hl hI
  unfold F_loopnest_mapIndices_c68 F_slices_Clone_api_Index
  rw [if_pos ⟨by omega, by omega⟩, bS, bS, bS]
  by_cases h : (mapE (mI f) x0).2 = 0
  · rw [h4.1 h, bS]
    show some ((mapE (mI f) x0).1, (0 : Int)) = _
    rw [← h]
  · obtain ⟨q, hq, rfl⟩ := h4.2 h
    rw [hq, bS, mapE_pair _ _ h]
theorem s_c68_E (hf : ∀ l, okL l → F_loopnest_copyStmts_1 l = some (f l)) : ∀ e, okE e → F_loopnest_mapExpr_c68 e.f = some ((mE f e).1.f, (mE f e).2) := gExpr.ind fun x ih => by
  intro hw
  obtain ⟨k1, k2, k3, k4, k5⟩ := hw.of
  rw [gExpr.f_mk, mE_mk]
  unfold mE1
  rw [F_loopnest_mapExpr_c68, hf _ k1, bS]
  by_cases h1 : (f x.fLin).2 = 0
  · rw [if_neg (by simp [h1]), if_neg (by simp [h1]), s_c68_I hf _ k2 k3, bS]
    by_cases h2 : (mapE (mI f) x.fIdx).2 = 0
    · rw [if_neg (by simp [h2]), if_neg (by simp [h2])]
      unfold F_slices_Clone_api_Expr
      rw [if_pos ⟨by omega, by omega⟩, bS, bS, bS]
      have h11 : res (F_loopnest_mapExpr_c68_L11 x zE (gExprF.mk x.fOp x.fName x.fVal x.fType (f x.fLin).1 (mapE (mI f) x.fIdx).1 x.fArgs) x.fArgs.length 0) (fun a => (zE, (gExprF.mk x.fOp x.fName x.fVal x.fType (f x.fLin).1 (mapE (mI f) x.fIdx).1 a : gExprS))) (fun q e => q.1 = zE ∧ q.2.1 = e) (mapE (mE f) x.fArgs) := by
        refine inplace (F := fun a j => F_loopnest_mapExpr_c68_L11 x zE (gExprF.mk x.fOp x.fName x.fVal x.fType (f x.fLin).1 (mapE (mI f) x.fIdx).1 a) x.fArgs.length j) (mE f) (fun a => (zE, (gExprF.mk x.fOp x.fName x.fVal x.fType (f x.fLin).1 (mapE (mI f) x.fIdx).1 a : gExprS))) (fun q e => q.1 = zE ∧ q.2.1 = e) ?_ ?_
        · intro a ha
          show F_loopnest_mapExpr_c68_L11 x zE _ x.fArgs.length x.fArgs.length = _
          rw [F_loopnest_mapExpr_c68_L11, if_neg (by omega)]
        · intro j e a hj he hm ha haj
          have e0 : F_loopnest_mapExpr_c68_L11 x zE (gExprF.mk x.fOp x.fName x.fVal x.fType (f x.fLin).1 (mapE (mI f) x.fIdx).1 a) x.fArgs.length j = if (mE f e).2 ≠ 0 then some (.inr (zE, (mE f e).2, (gExprF.mk x.fOp x.fName x.fVal x.fType (f x.fLin).1 (mapE (mI f) x.fIdx).1 (a.set j (mE f e).1) : gExprS))) else F_loopnest_mapExpr_c68_L11 x zE (gExprF.mk x.fOp x.fName x.fVal x.fType (f x.fLin).1 (mapE (mI f) x.fIdx).1 (a.set j (mE f e).1)) x.fArgs.length ((j + 1 : Nat) : Int) := by
            rw [F_loopnest_mapExpr_c68_L11, if_pos (by omega), ixN he, omS, bS, ih e hm (k5 e hm), bS, if_pos ⟨by omega, by dsimp only; omega⟩, if_pos (by simp; omega), bS, Int.toNat_natCast, gExpr.mk_f, wrapL (by omega)]
            by_cases h : (mE f e).2 = 0
            · rw [if_neg (by simp [h]), if_neg (by simp [h])]
            · rw [if_pos (by simpa using h), if_pos h]; rfl
          refine ⟨fun h => ?_, fun h => ?_⟩
          · show ∃ q, F_loopnest_mapExpr_c68_L11 x zE _ x.fArgs.length j = some (.inr q) ∧ _
            rw [e0, if_pos h]
            exact ⟨_, rfl, rfl, rfl⟩
          · show F_loopnest_mapExpr_c68_L11 x zE _ x.fArgs.length j = _
            rw [e0, if_neg (by simpa using h)]
      show (F_loopnest_mapExpr_c68_L11 x zE (gExprF.mk x.fOp x.fName x.fVal x.fType (f x.fLin).1 (mapE (mI f) x.fIdx).1 x.fArgs) x.fArgs.length 0 >>= _) = _
      by_cases h3 : (mapE (mE f) x.fArgs).2 = 0
      · rw [h11.1 h3, bS, if_neg (by simp [h3])]; rfl
      · obtain ⟨q, hq, hq1, hq2⟩ := h11.2 h3
        rw [hq, bS, if_pos h3]
        show some (q.fst, q.snd.fst) = _
        rw [hq1, hq2]; rfl
    · rw [if_pos (by simpa using h2), if_pos h2]; rfl
  · rw [if_pos (by simpa using h1), if_pos h1]; rfl
theorem s_c68_B (hf : ∀ l, okL l → F_loopnest_copyStmts_1 l = some (f l)) (l : List gStmt) (hP : ∀ s ∈ l, okS s → F_loopnest_mapStmts_c68_c47 s.f.fBody = some (mapE (mS f) s.f.fBody)) (hw : okSs l) : F_loopnest_mapStmts_c68_c47 l = some (mapE (mS f) l) := by
  obtain ⟨hl, hs⟩ := hw
  rw [F_loopnest_mapStmts_c68_c47]
  unfold F_slices_Clone_api_Stmt
  rw [if_pos ⟨by omega, by omega⟩, bS, bS, bS]
  have h4 : res (F_loopnest_mapStmts_c68_c47_L4 l l l.length 0) (fun a => a) (fun q e => q = (([] : List gStmt), e)) (mapE (mS f) l) := by
    refine inplace (F := fun a j => F_loopnest_mapStmts_c68_c47_L4 l a l.length j) (mS f) (fun a => a) (fun q e => q = (([] : List gStmt), e)) ?_ ?_
    · intro a ha
      show F_loopnest_mapStmts_c68_c47_L4 l a l.length l.length = _
      rw [F_loopnest_mapStmts_c68_c47_L4, if_neg (by omega)]
    · intro i s a hi hx hm ha hai
      obtain ⟨x⟩ := s
      obtain ⟨k1, k2, k3, k4⟩ := (hs _ hm).of
      have hE := s_c68_E hf (.mk x.fExpr) k3
      rw [gExpr.f_mk] at hE
      have hB := hP _ hm (hs _ hm)
      rw [gStmt.f_mk] at hB
      have hg : ∀ y : gStmt, (a.set i y)[i]? = some y := fun y => getSet (by omega)
      have e0 : F_loopnest_mapStmts_c68_c47_L4 l a l.length i = if (mapE (mI f) x.fIdx).2 ≠ 0 then some (.inr ([], (mapE (mI f) x.fIdx).2)) else if (mE f (.mk x.fExpr)).2 ≠ 0 then some (.inr ([], (mE f (.mk x.fExpr)).2)) else if (mapE (mS f) x.fBody).2 ≠ 0 then some (.inr ([], (mapE (mS f) x.fBody).2))
          else F_loopnest_mapStmts_c68_c47_L4 l (a.set i (.mk (gStmtF.mk x.fOp x.fName x.fMany x.fMark x.fFold (mapE (mI f) x.fIdx).1 (mE f (.mk x.fExpr)).1.f (mapE (mS f) x.fBody).1))) l.length ((i + 1 : Nat) : Int) := by
        rw [F_loopnest_mapStmts_c68_c47_L4, if_pos (by omega), bS]
        have hname : (Option.map gStmt.f (ix l (i : Int)) >>= fun v2 =>
            if v2.fOp == (1 : Int) then
            Option.map gStmt.f (ix l (i : Int)) >>= fun v3 =>
            F_loopnest_same v3.fName >>= fun v4 =>
            if (0 : Int) ≤ (i : Int) ∧ (i : Int) < (↑a.length : Int) then
            Option.map gStmt.f a[(i : Int).toNat]? >>= fun v5 =>
            some (List.set a (i : Int).toNat (gStmt.mk (gStmtF.mk v5.fOp v4 v5.fMany v5.fMark v5.fFold v5.fIdx v5.fExpr v5.fBody : gStmtS))) >>= fun v6 =>
            some v6
            else none
            else
            some a) = some a := by
          rw [ixN hx, omS, bS]
          split
          · rw [bS, show F_loopnest_same (gStmt.f (.mk x)).fName = some x.fName from rfl, bS, if_pos ⟨by omega, by omega⟩, Int.toNat_natCast, hai, omS, bS, bS]
            show some (a.set i (.mk x)) = some a
            rw [setSelf hai]
          · rfl
        rw [hname, bS]
        rw [ixN hx, omS, bS, gStmt.f_mk, s_c68_I hf _ k1 k2, bS, if_pos ⟨by omega, by omega⟩]
        simp only [Int.toNat_natCast]
        rw [hai, omS, bS, bS, gStmt.f_mk]
        by_cases h1 : (mapE (mI f) x.fIdx).2 = 0
        · rw [if_neg (by simp [h1]), if_neg (by simp [h1]), bS, hE, bS, if_pos ⟨by omega, by omega⟩, hg, omS, bS, bS, gStmt.f_mk]
          by_cases h2 : (mE f (.mk x.fExpr)).2 = 0
          · rw [if_neg (by simp [h2]), if_neg (by simp [h2]), bS, hB, bS, if_pos ⟨by omega, by omega⟩, List.set_set, hg, omS, bS, bS, gStmt.f_mk, List.set_set]
            by_cases h3 : (mapE (mS f) x.fBody).2 = 0
            · rw [if_neg (by simp [h3]), if_neg (by simp [h3]), wrapL (by omega)]
            · rw [if_pos (by simpa using h3), if_pos (by simp), if_pos h3]
          · rw [if_pos (by simpa using h2), if_pos (by simp), if_pos h2]
        · rw [if_pos (by simpa using h1), if_pos (by simp), if_pos h1]
      have e1 := mS_mk f x
      unfold mS1 at e1
      refine ⟨fun h => ?_, fun h => ?_⟩
      · show ∃ q, F_loopnest_mapStmts_c68_c47_L4 l a l.length i = some (.inr q) ∧ _
        rw [e0, e1]
        rw [e1] at h
        split
        · exact ⟨_, rfl, rfl⟩
        · rename_i h1
          rw [if_neg h1] at h
          split
          · exact ⟨_, rfl, rfl⟩
          · rename_i h2
            rw [if_neg h2] at h
            split
            · exact ⟨_, rfl, rfl⟩
            · rename_i h3
              rw [if_neg h3] at h; exact absurd rfl h
      · show F_loopnest_mapStmts_c68_c47_L4 l a l.length i = _
        rw [e0, e1]
        rw [e1] at h
        split
        · rename_i h1; rw [if_pos h1] at h; exact absurd h h1
        · rename_i h1
          rw [if_neg h1] at h
          split
          · rename_i h2; rw [if_pos h2] at h; exact absurd h h2
          · rename_i h2
            rw [if_neg h2] at h
            split
            · rename_i h3; rw [if_pos h3] at h; exact absurd h h3
            · rfl
  by_cases h : (mapE (mS f) l).2 = 0
  · rw [h4.1 h, bS]
    show some ((mapE (mS f) l).1, (0 : Int)) = _
    rw [← h]
  · obtain ⟨q, hq, rfl⟩ := h4.2 h
    rw [hq, bS, mapE_pair _ _ h]
theorem s_c68_S (hf : ∀ l, okL l → F_loopnest_copyStmts_1 l = some (f l)) : ∀ s, okS s → F_loopnest_mapStmts_c68_c47 s.f.fBody = some (mapE (mS f) s.f.fBody) := gStmt.ind fun x ih hw => by
  rw [gStmt.f_mk]
  exact s_c68_B hf x.fBody ih hw.of.2.2.2
theorem s_c68_L (hf : ∀ l, okL l → F_loopnest_copyStmts_1 l = some (f l)) (l : List gStmt) (hw : okSs l) : F_loopnest_mapStmts_c68_c47 l = some (mapE (mS f) l) :=
  s_c68_B hf l (fun s _ => s_c68_S hf s) hw
end
end Go.Proofs.YtfaenlhmhlabeaaGreatDoor
end
