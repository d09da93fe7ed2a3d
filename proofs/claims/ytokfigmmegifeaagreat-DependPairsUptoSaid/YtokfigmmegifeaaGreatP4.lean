/- Proved in the last of these texts: for every input of bulk at most 1048576 the law returns true and its arguments read afterwards as they read before. This text: a part of the proof. -/
import Derived.Test.YtokfigmmegifeaaGreatP3
noncomputable section
namespace Go.Proofs.YtokfigmmegifeaaGreat
open Go HY
set_option maxRecDepth 1000000
set_option linter.unusedVariables false
def YZ (s : ((List Q5) × (List Q5) × Int)) (u : (Q5 × Int × (List Q5) × Int)) (o : Unit ⊕ Bool) : List Alt := [⟨fun (x : Unit) => (Sum.inl x : Unit ⊕ Bool) = o, .exit 2, fun x => [.sl 3 (List.map Q0 s.1), .undef, .sl 3 (List.map Q0 s.2.1), ii s.2.2, ii u.2.1], fun x => []⟩, ⟨fun (x : Bool) => (Sum.inr x : Unit ⊕ Bool) = o, .ret, fun x => [.sl 3 (List.map Q0 s.1), .bool x, .sl 3 (List.map Q0 s.2.1), ii s.2.2, ii u.2.1], fun x => []⟩]
def KI (s : ((List Q5) × Q5 × (List Q5) × Int × Int × (List Q5) × Int)) (u : Int) (o : Bool) : List Alt := jb o (fun b => [.sl 3 (List.map Q0 (s.1)), .ptr 0 0 0, .sl 3 (List.map Q0 (s.2.2.1)), ii (s.2.2.2.1), ii (s.2.2.2.2.1), .sl 3 (List.map Q0 (s.2.2.2.2.2.1)), ii (s.2.2.2.2.2.2), ii u, .bool b]) [.cells 0 (Q0 (s.2.1)).cells]
def ZK (x6 : Q5) (x15 : List Q5) (x16 : Int) (x17 : Int) : Option (Unit ⊕ Bool) :=
 if x17 < x16 then
 ix x15 x17 >>= fun v0 =>
 some x17 >>= fun v1 =>
 (if x6.fBuffer == v0.fBuffer then
 if (if true = true then max x6.fFrom v0.fFrom else min x6.fFrom v0.fFrom) < if false = true then max x6.fTo v0.fTo else min x6.fTo v0.fTo then
 some true
 else
 some false
 else
 some false) >>= fun v2 => if v2 then
 some (.inr true)
 else
 ZK x6 x15 x16 (wr (v1 + 1))
 else
 some (.inl ())
 partial_fixpoint
theorem Iy (x1 : List Q5) (x6 : Q5) (x9 : List Q5) (x10 : Int) (x11 : Int) (x15 : List Q5) (x16 : Int) (x17 : Int) (o : Unit ⊕ Bool) (h : ZK x6 x15 x16 x17 = some o) : LO 13 5 41 [1, 6, 9, 10, 11, 15, 16, 17] [.sl 3 (List.map Q0 x1), .ptr 0 0 0, .sl 3 (List.map Q0 x9), ii x10, ii x11, .sl 3 (List.map Q0 x15), ii x16, ii x17] [.cells 0 (Q0 x6).cells] [1, 4, 9, 10, 11] (YZ (x1, x9, x10) (x6, x11, x15, x16) o) :=
 ZK.partial_correctness x6 x15 x16 (fun x17 o => ∀ (x1 : List Q5) (x9 : List Q5) (x10 : Int) (x11 : Int), LO 13 5 41 [1, 6, 9, 10, 11, 15, 16, 17] [.sl 3 (List.map Q0 x1), .ptr 0 0 0, .sl 3 (List.map Q0 x9), ii x10, ii x11, .sl 3 (List.map Q0 x15), ii x16, ii x17] [.cells 0 (Q0 x6).cells] [1, 4, 9, 10, 11] (YZ (x1, x9, x10) (x6, x11, x15, x16) o))
 (fun ZK Q35 x17 o h x1 x9 x10 x11 =>
 Lp2 (hs := [(18, .split), (19, .e Q0), (25, .split), (37, .split), (5000007, .l [] [] [] [1, 6, 9, 10, 11, 15, 16, 17, 38] [kk 6] (KI (x1, x6, x9, x10, x11, x15, x16)))]) (kb := [kk 6]) (kbx := []) ((kIfD (p := x17 < x16) (kIx (enc := Q0) (l := x15) (k := x17) fun v0 => (kJb (id := 5000007) x17 (fun v1 ev1 v2 => (kIf (c := x6.fBuffer == v0.fBuffer) (kIfD (p := (if true = true then max x6.fFrom v0.fFrom else min x6.fFrom v0.fFrom) < if false = true then max x6.fTo v0.fTo else min x6.fTo v0.fTo) (kXj (alts := KI (x1, x6, x9, x10, x11, x15, x16)) ev1 true (.here () rfl (.refl _) (.refl _)))
 (kXj (alts := KI (x1, x6, x9, x10, x11, x15, x16)) ev1 false (.next (.here () rfl (.refl _) (.refl _)))))
 (kXj (alts := KI (x1, x6, x9, x10, x11, x15, x16)) ev1 false (.next (.here () rfl (.refl _) (.refl _))))))
 (fun v1 => (kX (alts := YZ (x1, x9, x10) (x6, x11, x15, x16)) (.inr true) (.next (.here _ rfl (.refl _) (.refl _)))))
 (fun v1 => (kM0 (alts := YZ (x1, x9, x10) (x6, x11, x15, x16)) (fun y hy => Q35 (wr (v1 + 1)) y hy x1 x9 x10 x11)))))
 (kX (alts := YZ (x1, x9, x10) (x6, x11, x15, x16)) (.inl ()) (.here _ rfl (.refl _) (.refl _)))) h)) x17 o h x1 x9 x10 x11
def YY (s : List Q5) (u : ((List Q5) × Int)) (o : Unit ⊕ Bool) : List Alt := [⟨fun (x : Unit) => (Sum.inl x : Unit ⊕ Bool) = o, .exit 0, fun x => [.undef], fun x => []⟩, ⟨fun (x : Bool) => (Sum.inr x : Unit ⊕ Bool) = o, .ret, fun x => [.bool x], fun x => []⟩]
def ZJ (x1 : List Q5) (x9 : List Q5) (x10 : Int) (x11 : Int) : Option (Unit ⊕ Bool) :=
 if x11 < x10 then
 ix x9 x11 >>= fun v0 =>
 some (List.length x1 : Int) >>= fun v1 =>
 some (v0, x11, x1, v1) >>= fun v2 =>
 ZK v0 x1 v1 0 >>= fun v3 => (match v3 with
 | (.inl v4) =>
 ZJ x1 x9 x10 (wr (v2.snd.fst + 1))
 | (.inr v5) =>
 some (.inr v5))
 else
 some (.inl ())
 partial_fixpoint
theorem Ix (x1 : List Q5) (x9 : List Q5) (x10 : Int) (x11 : Int) (o : Unit ⊕ Bool) (h : ZJ x1 x9 x10 x11 = some o) : LO 13 2 41 [1, 9, 10, 11] [.sl 3 (List.map Q0 x1), .sl 3 (List.map Q0 x9), ii x10, ii x11] [] [4] (YY x1 (x9, x10) o) :=
 ZJ.partial_correctness x1 x9 x10 (fun x11 o => LO 13 2 41 [1, 9, 10, 11] [.sl 3 (List.map Q0 x1), .sl 3 (List.map Q0 x9), ii x10, ii x11] [] [4] (YY x1 (x9, x10) o))
 (fun ZJ Q34 x11 o h  =>
 Lp2 (hs := [(12, .split), (13, .e Q0), (16, .n eI 16 none), (3000006, .l [] [1, 6, 9, 10, 11, 15, 16, 17] [kk 6] [1, 4, 9, 10, 11] [] (YZ (x1, x9, x10)))]) (kb := []) (kbx := []) ((kIfD (p := x11 < x10) (kIx (enc := Q0) (l := x9) (k := x11) fun v0 => (kN _ (mLen (sh := Q0) x1) fun v1 => (kL2 (v0, x11, x1, v1) (hL := (Iy x1 v0 x9 x10 x11 x1 v1 0)) (hA := fun v2 v4 => (kM0 (alts := YY x1 (x9, x10)) (Q34 (wr (v2.snd.fst + 1)))))
 (hB := fun v2 v5 => (kX (alts := YY x1 (x9, x10)) (.inr v5) (.next (.here _ rfl (.refl _) (.refl _))))))))
 (kX (alts := YY x1 (x9, x10)) (.inl ()) (.here _ rfl (.refl _) (.refl _)))) h)) x11 o h
def XW (x0 : List Q5) (x1 : List Q5) : Option Bool :=
 some (List.length x0 : Int) >>= fun v0 =>
 some (x0, v0) >>= fun v1 =>
 ZJ x1 x0 v0 0 >>= fun v2 => (match v2 with
 | (.inl v3) =>
 some false
 | (.inr v4) =>
 some v4)
theorem VL (x0 : List Q5) (x1 : List Q5) (r : Bool) (h : XW x0 x1 = some r) : PU 13 [Qt x0, Qt x1] (eB r) :=
 Pu2 (hs := [(10, .n eI 10 none), (3000003, .l [] [1, 9, 10, 11] [] [4] [] (YY x1))]) ((kN _ (mLen (sh := Q0) x0) fun v0 => (kL2 (x0, v0) (hL := (Ix x1 x0 v0 0)) (hA := fun v1 v3 => (kEr (enc := eB) false))
 (hB := fun v1 v4 => (kEr (enc := eB) v4)))) h)
def UB (s : Unit) (u : Qa) (o : Qa) : List Alt := [⟨fun (x : Qa) => x = o, .exit 0, fun x => [.ptr 0 0 0, .ptr 1 0 0], fun x => [.cells 0 (Qm x).cells, .cells 0 (Qm u).cells]⟩]
def VR (s : Qa) (u : Qa) (o : Bool) : List Alt := jb o (fun b => [.ptr 0 0 0, .ptr 1 0 0, .bool b]) [.cells 0 (Qm u).cells, .cells 0 (Qm s).cells]
def Ko (x1 : Qa) : Option Qa :=
 some x1 >>= fun v0 =>
 (if x1.fOp == 4 then
 some (List.length x1.fBody : Int) >>= fun v2 =>
 if v2 == 1 then
 some true
 else
 some false
 else
 some false) >>= fun v1 => if v1 then
 Option.map Q7.f (ix v0.fBody (0 : Int)) >>= fun v4 =>
 Ko v4
 else
 some v0
 partial_fixpoint
theorem R4 (x1 : Qa) (x2 : Qa) (o : Qa) (h : Ko x1 = some o) : LO 36 1 17 [1, 2] [.ptr 0 0 0, .ptr 1 0 0] [.cells 0 (Qm x1).cells, .cells 0 (Qm x2).cells] [1, 2] (UB () x2 o) :=
 Ko.partial_correctness  (fun x1 o => ∀ (x2 : Qa), LO 36 1 17 [1, 2] [.ptr 0 0 0, .ptr 1 0 0] [.cells 0 (Qm x1).cells, .cells 0 (Qm x2).cells] [1, 2] (UB () x2 o))
 (fun Ko Q39 x1 o h x2 =>
 Lp2 (hs := [(5, .split), (9, .n eI 9 none), (10, .split), (14, .e Qm), (5000001, .l [] [] [] [1, 2, 11] [kk 1, kk 2] (VR x2))]) (kb := [kk 1, kk 2]) (kbx := [kk 1, kk 2]) ((kJb (id := 5000001) x1 (fun v0 ev0 v1 => (kIf (c := x1.fOp == 4) (kN _ (mLen (sh := Qr) x1.fBody) fun v2 => (kIf (c := v2 == 1) (kXj (alts := VR x2) ev0 true (.here () rfl (.refl _) (.refl _)))
 (kXj (alts := VR x2) ev0 false (.next (.here () rfl (.refl _) (.refl _))))))
 (kXj (alts := VR x2) ev0 false (.next (.here () rfl (.refl _) (.refl _))))))
 (fun v0 => (kIxR (l := v0.fBody) (k := (0 : Int)) Z2 fun v4 => (kM0 (alts := UB () x2) (fun y hy => Q39 v4 y hy x2))))
 (fun v0 => (kX (alts := UB () x2) v0 (.here _ rfl (.refl _) (.refl _))))) h)) x1 o h x2
def CV (x0 : Qa) : Option Qa :=
 some (Xh.mk (0 : Int) [] (0 : Int) (0 : Int) (0 : Int) [] (QV.mk (0 : Int) [] (gVal.mk (0 : Int) (0 : Int)) (Qg.mk (0 : Int) (0 : Int) (0 : Int) (0 : Int) (0 : Int)) (gLin.mk (0 : Int) []) [] [] : Q1) [] : Qa) >>= fun v0 =>
 Ko x0 >>= fun v2 =>
 some v2
theorem Aq (x0 : Qa) (r : Qa) (h : CV x0 = some r) : PU 36 [Qm x0] (Qm r) :=
 Pu2 (hs := [(3000002, .l [] [1, 2] [kk 1, kk 2] [1, 2] [kk 1, kk 2] (UB ()))]) ((kL1 (Xh.mk (0 : Int) [] (0 : Int) (0 : Int) (0 : Int) [] (QV.mk (0 : Int) [] (gVal.mk (0 : Int) (0 : Int)) (Qg.mk (0 : Int) (0 : Int) (0 : Int) (0 : Int) (0 : Int)) (gLin.mk (0 : Int) []) [] [] : Q1) [] : Qa) (fun y hy => ZI.le (.cons (LeV.refl (AV.ptr (0 : Nat) (0 : Nat) (0 : Nat))) (.cons (LeV.refl (AV.ptr (1 : Nat) (0 : Nat) (0 : Nat))) .nil)) (.cons (LeB.refl (Box.cells (0 : Nat) [ii x0.fOp, AV.str x0.fName, ii x0.fMany, ii x0.fMark, ii x0.fFold, AV.sl (4 : Nat) (List.map Q3 x0.fIdx), ii x0.fExpr.fOp, AV.str x0.fExpr.fName, ii x0.fExpr.fVal.fN, ii x0.fExpr.fVal.fD, ii x0.fExpr.fType.fKind, ii x0.fExpr.fType.fBits, ii x0.fExpr.fType.fFrac, ii x0.fExpr.fType.fRound, ii x0.fExpr.fType.fOver, ii x0.fExpr.fLin.fK, AV.sl (2 : Nat) (List.map Qe x0.fExpr.fLin.fL), AV.sl (4 : Nat) (List.map Q3 x0.fExpr.fIdx), AV.sl (13 : Nat) (List.map Ql x0.fExpr.fArgs), AV.sl (20 : Nat) (List.map Qr x0.fBody)])) (.cons (LeB.cells (0 : Nat) (.cons (LeV.refl (ii (0 : Int))) (.cons (LeV.refl (AV.str [])) (.cons (LeV.refl (ii (0 : Int))) (.cons (LeV.refl (ii (0 : Int))) (.cons (LeV.refl (ii (0 : Int))) (.cons (LeV.nil 4) (.cons (LeV.refl (ii (0 : Int))) (.cons (LeV.refl (AV.str [])) (.cons (LeV.refl (ii (0 : Int))) (.cons (LeV.refl (ii (0 : Int))) (.cons (LeV.refl (ii (0 : Int))) (.cons (LeV.refl (ii (0 : Int))) (.cons (LeV.refl (ii (0 : Int))) (.cons (LeV.refl (ii (0 : Int))) (.cons (LeV.refl (ii (0 : Int))) (.cons (LeV.refl (ii (0 : Int))) (.cons (LeV.nil 2) (.cons (LeV.nil 4) (.cons (LeV.nil 13) (.cons (LeV.nil 20) .nil))))))))))))))))))))) .nil)) (R4 x0 (Xh.mk (0 : Int) [] (0 : Int) (0 : Int) (0 : Int) [] (QV.mk (0 : Int) [] (gVal.mk (0 : Int) (0 : Int)) (Qg.mk (0 : Int) (0 : Int) (0 : Int) (0 : Int) (0 : Int)) (gLin.mk (0 : Int) []) [] [] : Q1) [] : Qa) y hy)) fun v0 v2 => (kEr (enc := Qm) v2)) h)
def DT (x0 : Qa) : Option Bool :=
 if x0.fOp == 2 then
 some true
 else
 some (x0.fOp == 3)
theorem Ih (x0 : Qa) (r : Bool) (h : DT x0 = some r) : PU 55 [Qm x0] (eB r) :=
 Pu2 (hs := [(5, .split)]) ((kIf (c := x0.fOp == 2) (kEr (enc := eB) true)
 (kEr (enc := eB) (x0.fOp == 3))) h)
def JP (x0 : Qw) : Option Qw :=
 Gs x0.fDims >>= fun v0 =>
 some (Qw.mk x0.fName x0.fType v0 x0.fUse)
theorem Lj (x0 : Qw) (r : Qw) (h : JP x0 = some r) : PU 104 [Qx x0] (Qx r) :=
 Pu2 (hs := [(5, .c eLI)]) ((kC (sh := eLI) (H8 x0.fDims) fun v0 => (kEr (enc := Qx) (Qw.mk x0.fName x0.fType v0 x0.fUse))) h)
def YB (s : (Str × Qb)) (u : Int) (o : Qw ⊕ (Qw × Bool)) : List Alt := [⟨fun (x : Qw) => (Sum.inl x : Qw ⊕ (Qw × Bool)) = o, .exit 0, fun x => [.ptr 0 0 0, .undef], fun x => [.cells 0 (Qx x).cells]⟩, ⟨fun (x : (Qw × Bool)) => (Sum.inr x : Qw ⊕ (Qw × Bool)) = o, .ret, fun x => [.ptr 0 0 0, .bool x.2], fun x => [.cells 0 (Qx x.1).cells]⟩]
def Zx (x1 : Str) (x2 : Qb) (x4 : Qw) (x9 : Int) (x10 : Int) : Option (Qw ⊕ (Qw × Bool)) :=
 if x10 < x9 then
 ix x2.fBufs x10 >>= fun v0 =>
 if v0.fName == x1 then
 ix x2.fBufs x10 >>= fun v1 =>
 JP v1 >>= fun v2 =>
 some (.inr (v2, true))
 else
 Zx x1 x2 x4 x9 (wr (x10 + 1))
 else
 some (.inl x4)
 partial_fixpoint
theorem Lz (x1 : Str) (x2 : Qb) (x4 : Qw) (x9 : Int) (x10 : Int) (o : Qw ⊕ (Qw × Bool)) (h : Zx x1 x2 x4 x9 x10 = some o) : LO 84 2 29 [1, 2, 4, 9, 10] [.str x1, .ptr 0 0 0, .ptr 1 0 0, ii x9, ii x10] [.cells 0 (Qp x2).cells, .cells 0 (Qx x4).cells] [4, 5] (YB (x1, x2) x9 o) :=
 Zx.partial_correctness x1 x2 x4 x9 (fun x10 o => LO 84 2 29 [1, 2, 4, 9, 10] [.str x1, .ptr 0 0 0, .ptr 1 0 0, ii x9, ii x10] [.cells 0 (Qp x2).cells, .cells 0 (Qx x4).cells] [4, 5] (YB (x1, x2) x9 o))
 (fun Zx Q3b x10 o h  =>
 Lp2 (hs := [(11, .split), (16, .e Qx), (20, .split), (24, .e Qx), (26, .c Qx)]) (kb := [kk 2, kk 4]) (kbx := [kk 4]) ((kIfD (p := x10 < x9) (kIx (enc := Qx) (l := x2.fBufs) (k := x10) fun v0 => (kIf (c := v0.fName == x1) (kIx (enc := Qx) (l := x2.fBufs) (k := x10) fun v1 => (kC (sh := Qx) (Lj v1) fun v2 => (kX (alts := YB (x1, x2) x9) (.inr (v2, true)) (.next (.here _ rfl (.refl _) (.refl _))))))
 (kM0 (alts := YB (x1, x2) x9) (Q3b (wr (x10 + 1))))))
 (kX (alts := YB (x1, x2) x9) (.inl x4) (.here _ rfl (.refl _) (.refl _)))) h)) x10 o h
def GQ (x0 : Qb) (x1 : Str) : Option (Qw × Bool) :=
 some (List.length x0.fBufs : Int) >>= fun v0 =>
 some v0 >>= fun v1 =>
 Zx x1 x0 (Qw.mk [] (Qg.mk (0 : Int) (0 : Int) (0 : Int) (0 : Int) (0 : Int)) [] (0 : Int)) v0 (0 : Int) >>= fun v2 => (match v2 with
 | (.inl v3) =>
 some ((Qw.mk [] (Qg.mk (0 : Int) (0 : Int) (0 : Int) (0 : Int) (0 : Int)) [] (0 : Int))) >>= fun v4 =>
 some (v4, false)
 | (.inr v5) =>
 some (v5.fst, v5.snd))
theorem Eg (x0 : Qb) (x1 : Str) (r : (Qw × Bool)) (h : GQ x0 x1 = some r) : PU 84 [Qp x0, eS x1] (Z3 r) :=
 Pu2 (hs := [(9, .n eI 9 none), (28, .n Qx 28 none), (3000003, .l [] [1, 2, 4, 9, 10] [kk 2, kk 4] [4, 5] [kk 4] (YB (x1, x0)))]) ((kN _ (mLen (sh := Qx) x0.fBufs) fun v0 => (kL2 v0 (hL := (fun y hy => ZI.le (.cons (LeV.refl (AV.str x1)) (.cons (LeV.refl (AV.ptr (0 : Nat) (0 : Nat) (0 : Nat))) (.cons (LeV.refl (AV.ptr (1 : Nat) (0 : Nat) (0 : Nat))) (.cons (LeV.refl (ii v0)) (.cons (LeV.refl (ii (0 : Int))) .nil))))) (.cons (LeB.refl (Box.cells (0 : Nat) [AV.sl (8 : Nat) (List.map Qx x0.fBufs), AV.sl (20 : Nat) (List.map Qr x0.fBody)])) (.cons (LeB.cells (0 : Nat) (.cons (LeV.refl (AV.str [])) (.cons (LeV.refl (ii (0 : Int))) (.cons (LeV.refl (ii (0 : Int))) (.cons (LeV.refl (ii (0 : Int))) (.cons (LeV.refl (ii (0 : Int))) (.cons (LeV.refl (ii (0 : Int))) (.cons (LeV.nil 1) (.cons (LeV.refl (ii (0 : Int))) .nil))))))))) .nil)) (Lz x1 x0 (Qw.mk [] (Qg.mk (0 : Int) (0 : Int) (0 : Int) (0 : Int) (0 : Int)) [] (0 : Int)) v0 (0 : Int) y hy))) (hA := fun v1 v3 => (kW (sh := Qx) (Qw.mk [] (Qg.mk (0 : Int) (0 : Int) (0 : Int) (0 : Int) (0 : Int)) [] (0 : Int)) (LeV.agg (.cons (LeV.refl (AV.str [])) (.cons (LeV.refl (ii (0 : Int))) (.cons (LeV.refl (ii (0 : Int))) (.cons (LeV.refl (ii (0 : Int))) (.cons (LeV.refl (ii (0 : Int))) (.cons (LeV.refl (ii (0 : Int))) (.cons (LeV.nil 1) (.cons (LeV.refl (ii (0 : Int))) .nil))))))))) fun v4 => (kEr (enc := Z3) (v4, false))))
 (hB := fun v1 v5 => (kEr (enc := Z3) (v5.fst, v5.snd))))) h)
def YD (s : Unit) (u : ((List Int) × Int)) (o : Unit ⊕ Int) : List Alt := [⟨fun (x : Unit) => (Sum.inl x : Unit ⊕ Int) = o, .exit 2, fun x => [.undef], fun x => []⟩, ⟨fun (x : Int) => (Sum.inr x : Unit ⊕ Int) = o, .ret, fun x => [ii x], fun x => []⟩]
def Zz (x5 : Int) (x20 : List Int) (x21 : Int) (x22 : Int) : Option (Unit ⊕ Int) :=
 if x22 < x21 then
 ix x20 x22 >>= fun v0 =>
 if x5 ≠ 0 then
 if wr (Int.tdiv (4096 : Int) x5) < v0 then
 some (.inr (2 : Int))
 else
 some (wr (x5 * v0) : Int) >>= fun v1 =>
 Zz v1 x20 x21 (wr (x22 + 1))
 else none
 else
 some (.inl ())
 partial_fixpoint
theorem LB (x5 : Int) (x20 : List Int) (x21 : Int) (x22 : Int) (o : Unit ⊕ Int) (h : Zz x5 x20 x21 x22 = some o) : LO 85 11 34 [5, 20, 21, 22] [ii x5, .sl 1 (List.map eI x20), ii x21, ii x22] [] [2] (YD () (x20, x21) o) :=
 Zz.partial_correctness x20 x21 (fun x5 x22 o => LO 85 11 34 [5, 20, 21, 22] [ii x5, .sl 1 (List.map eI x20), ii x21, ii x22] [] [2] (YD () (x20, x21) o))
 (fun Zz Q5t x5 x22 o h  =>
 Lp2 (hs := [(23, .split), (24, .e eI), (28, .s), (29, .split), (5, .n eI 5 none)]) (kb := []) (kbx := []) ((kIfD (p := x22 < x21) (kIx (enc := eI) (l := x20) (k := x22) fun v0 => (kG (p := x5 ≠ 0) (kIfD (p := wr (Int.tdiv (4096 : Int) x5) < v0) (kX (alts := YD () (x20, x21)) (.inr (2 : Int)) (.next (.here _ rfl (.refl _) (.refl _))))
 (kN (wr (x5 * v0)) rfl fun v1 => (kM0 (alts := YD () (x20, x21)) (Q5t v1 (wr (x22 + 1))))))))
 (kX (alts := YD () (x20, x21)) (.inl ()) (.here _ rfl (.refl _) (.refl _)))) h)) x5 x22 o h
def K3 (s : List Int) (u : ((List Int) × Int)) (o : Unit ⊕ Int) : List Alt := [⟨fun (x : Unit) => (Sum.inl x : Unit ⊕ Int) = o, .exit 0, fun x => [.sl 1 (List.map eI s), .undef], fun x => []⟩, ⟨fun (x : Int) => (Sum.inr x : Unit ⊕ Int) = o, .ret, fun x => [.sl 1 (List.map eI s), ii x], fun x => []⟩]
def ZO (x11 : List Int) (x12 : Int) (x13 : Int) : Option (Unit ⊕ Int) :=
 if x13 < x12 then
 ix x11 x13 >>= fun v0 =>
 if v0 < 1 then
 some (.inr (1 : Int))
 else
 ZO x11 x12 (wr (x13 + 1))
 else
 some (.inl ())
 partial_fixpoint
theorem IE (x0 : List Int) (x11 : List Int) (x12 : Int) (x13 : Int) (o : Unit ⊕ Int) (h : ZO x11 x12 x13 = some o) : LO 85 4 34 [0, 11, 12, 13] [.sl 1 (List.map eI x0), .sl 1 (List.map eI x11), ii x12, ii x13] [] [0, 2] (K3 x0 (x11, x12) o) :=
 ZO.partial_correctness x11 x12 (fun x13 o => ∀ (x0 : List Int), LO 85 4 34 [0, 11, 12, 13] [.sl 1 (List.map eI x0), .sl 1 (List.map eI x11), ii x12, ii x13] [] [0, 2] (K3 x0 (x11, x12) o))
 (fun ZO Q5u x13 o h x0 =>
 Lp2 (hs := [(14, .split), (15, .e eI), (18, .split)]) (kb := []) (kbx := []) ((kIfD (p := x13 < x12) (kIx (enc := eI) (l := x11) (k := x13) fun v0 => (kIfD (p := v0 < 1) (kX (alts := K3 x0 (x11, x12)) (.inr (1 : Int)) (.next (.here _ rfl (.refl _) (.refl _))))
 (kM0 (alts := K3 x0 (x11, x12)) (fun y hy => Q5u (wr (x13 + 1)) y hy x0))))
 (kX (alts := K3 x0 (x11, x12)) (.inl ()) (.here _ rfl (.refl _) (.refl _)))) h)) x13 o h x0
def VJ (x0 : List Int) : Option Int :=
 some (List.length x0 : Int) >>= fun v0 =>
 if 6 < v0 then
 some (2 : Int)
 else
 some (List.length x0 : Int) >>= fun v1 =>
 some (x0, v1) >>= fun v2 =>
 ZO x0 v1 0 >>= fun v3 => (match v3 with
 | (.inl v4) =>
 some ((1 : Int) : Int) >>= fun v5 =>
 some (List.length x0 : Int) >>= fun v6 =>
 some (x0, v6) >>= fun v7 =>
 Zz v5 x0 v6 0 >>= fun v8 => (match v8 with
 | (.inl v9) =>
 some (0 : Int)
 | (.inr v10) =>
 some v10)
 | (.inr v11) =>
 some v11)
theorem Wi (x0 : List Int) (r : Int) (h : VJ x0 = some r) : PU 85 [eLI x0] (eI r) :=
 Pu2 (hs := [(9, .n eI 9 none), (10, .split), (12, .n eI 12 none), (21, .n eI 21 none), (5, .n eI 5 none), (3000012, .l [] [5, 20, 21, 22] [] [2] [] (YD ())), (3000005, .l [] [0, 11, 12, 13] [] [0, 2] [] (K3 x0))]) ((kN _ (mLen (sh := eI) x0) fun v0 => (kIfD (p := 6 < v0) (kEr (enc := eI) (2 : Int))
 (kN _ (mLen (sh := eI) x0) fun v1 => (kL2 (x0, v1) (hL := (IE x0 x0 v1 0)) (hA := fun v2 v4 => (kN (1 : Int) rfl fun v5 => (kN _ (mLen (sh := eI) x0) fun v6 => (kL2 (x0, v6) (hL := (LB v5 x0 v6 0)) (hA := fun v7 v9 => (kEr (enc := eI) (0 : Int)))
 (hB := fun v7 v10 => (kEr (enc := eI) v10))))))
 (hB := fun v2 v11 => (kEr (enc := eI) v11)))))) h)
def Gn (s : Unit) (u : ((List Int) × Int)) (o : Int) : List Alt := [⟨fun (x : Int) => x = o, .exit 0, fun x => [ii x], fun x => []⟩]
def Yv (x3 : Int) (x9 : List Int) (x10 : Int) (x11 : Int) : Option Int :=
 if x11 < x10 then
 ix x9 x11 >>= fun v0 =>
 some (wr (x3 * v0) : Int) >>= fun v1 =>
 Yv v1 x9 x10 (wr (x11 + 1))
 else
 some x3
 partial_fixpoint
theorem Te (x3 : Int) (x9 : List Int) (x10 : Int) (x11 : Int) (o : Int) (h : Yv x3 x9 x10 x11 = some o) : LO 86 5 20 [3, 9, 10, 11] [ii x3, .sl 1 (List.map eI x9), ii x10, ii x11] [] [3] (Gn () (x9, x10) o) :=
 Yv.partial_correctness x9 x10 (fun x3 x11 o => LO 86 5 20 [3, 9, 10, 11] [ii x3, .sl 1 (List.map eI x9), ii x10, ii x11] [] [3] (Gn () (x9, x10) o))
 (fun Yv Q5s x3 x11 o h  =>
 Lp2 (hs := [(12, .split), (13, .e eI), (3, .n eI 3 none)]) (kb := []) (kbx := []) ((kIfD (p := x11 < x10) (kIx (enc := eI) (l := x9) (k := x11) fun v0 => (kN (wr (x3 * v0)) rfl fun v1 => (kM0 (alts := Gn () (x9, x10)) (Q5s v1 (wr (x11 + 1))))))
 (kX (alts := Gn () (x9, x10)) x3 (.here _ rfl (.refl _) (.refl _)))) h)) x3 x11 o h
def WD (x0 : List Int) : Option Int :=
 VJ x0 >>= fun v0 =>
 if v0 != 0 then
 some (0 : Int)
 else
 some ((1 : Int) : Int) >>= fun v1 =>
 some (List.length x0 : Int) >>= fun v2 =>
 some (x0, v2) >>= fun v3 =>
 Yv v1 x0 v2 0 >>= fun v5 =>
 some v5
theorem FV (x0 : List Int) (r : Int) (h : WD x0 = some r) : PU 86 [eLI x0] (eI r) :=
 Pu2 (hs := [(7, .c eI), (8, .split), (10, .n eI 10 none), (3, .n eI 3 none), (3000006, .l [] [3, 9, 10, 11] [] [3] [] (Gn ()))]) ((kC (sh := eI) (Wi x0) fun v0 => (kIf (c := v0 != 0) (kEr (enc := eI) (0 : Int))
 (kN (1 : Int) rfl fun v1 => (kN _ (mLen (sh := eI) x0) fun v2 => (kL1 (x0, v2) (Te v1 x0 v2 0) fun v3 v5 => (kEr (enc := eI) v5)))))) h)
def Vb (s : List Int) (u : ((List Int) × Int)) (o : Int ⊕ (Int × Bool)) : List Alt := [⟨fun (x : Int) => (Sum.inl x : Int ⊕ (Int × Bool)) = o, .exit 0, fun x => [.undef, .undef, ii x], fun x => []⟩, ⟨fun (x : (Int × Bool)) => (Sum.inr x : Int ⊕ (Int × Bool)) = o, .ret, fun x => [ii x.1, .bool x.2, .undef], fun x => []⟩]
def Vp (s : ((List Int) × (List Int) × Int)) (u : (Int × Int × Int × Int)) (o : Bool) : List Alt := jb o (fun b => [.sl 1 (List.map eI (s.1)), ii (u.1), ii (u.2.1), ii (u.2.2.1), .sl 1 (List.map eI (s.2.1)), ii (s.2.2), ii (u.2.2.2), .bool b]) []
def Xr (x1 : List Int) (x6 : Int) (x19 : List Int) (x20 : Int) (x21 : Int) : Option (Int ⊕ (Int × Bool)) :=
 if x21 < x20 then
 ix x19 x21 >>= fun v0 =>
 some (x6, x21, v0, x21) >>= fun v1 =>
 (ix x1 x21 >>= fun v3 =>
 if v3 < 0 then
 some true
 else
 ix x1 x21 >>= fun v4 =>
 if v0 ≤ v4 then
 some true
 else
 some false) >>= fun v2 => if v2 then
 some (.inr ((0 : Int), false))
 else
 ix x1 v1.snd.fst >>= fun v7 =>
 some (wr (wr (v1.fst * v1.snd.snd.fst) + v7) : Int) >>= fun v8 =>
 Xr x1 v8 x19 x20 (wr (v1.snd.snd.snd + 1))
 else
 some (.inl x6)
 partial_fixpoint
theorem Et (x1 : List Int) (x6 : Int) (x19 : List Int) (x20 : Int) (x21 : Int) (o : Int ⊕ (Int × Bool)) (h : Xr x1 x6 x19 x20 x21 = some o) : LO 87 5 49 [1, 6, 19, 20, 21] [.sl 1 (List.map eI x1), ii x6, .sl 1 (List.map eI x19), ii x20, ii x21] [] [4, 5, 6] (Vb x1 (x19, x20) o) :=
 Xr.partial_correctness x1 x19 x20 (fun x6 x21 o => LO 87 5 49 [1, 6, 19, 20, 21] [.sl 1 (List.map eI x1), ii x6, .sl 1 (List.map eI x19), ii x20, ii x21] [] [4, 5, 6] (Vb x1 (x19, x20) o))
 (fun Xr Q5r x6 x21 o h  =>
 Lp2 (hs := [(22, .split), (24, .e eI), (28, .e eI), (30, .split), (34, .e eI), (37, .split), (44, .e eI), (6, .n eI 6 none), (5000007, .l [] [] [] [1, 6, 7, 8, 19, 20, 21, 38] [] (Vp (x1, x19, x20)))]) (kb := []) (kbx := []) ((kIfD (p := x21 < x20) (kIx (enc := eI) (l := x19) (k := x21) fun v0 => (kJb (id := 5000007) (x6, x21, v0, x21) (fun v1 ev1 v2 => (kIx (enc := eI) (l := x1) (k := x21) fun v3 => (kIfD (p := v3 < 0) (kXj (alts := Vp (x1, x19, x20)) ev1 true (.here () rfl (.refl _) (.refl _)))
 (kIx (enc := eI) (l := x1) (k := x21) fun v4 => (kIfD (p := v0 ≤ v4) (kXj (alts := Vp (x1, x19, x20)) ev1 true (.here () rfl (.refl _) (.refl _)))
 (kXj (alts := Vp (x1, x19, x20)) ev1 false (.next (.here () rfl (.refl _) (.refl _)))))))))
 (fun v1 => (kX (alts := Vb x1 (x19, x20)) (.inr ((0 : Int), false)) (.next (.here _ rfl (.cons (LeV.refl (ii (0 : Int))) (.cons (LeV.refl (AV.bool false)) (.cons (LeV.undef (ii v1.fst)) .nil))) (.refl _)))))
 (fun v1 => (kIx (enc := eI) (l := x1) (k := v1.snd.fst) fun v7 => (kN (wr (wr (v1.fst * v1.snd.snd.fst) + v7)) rfl fun v8 => (kM0 (alts := Vb x1 (x19, x20)) (Q5r v8 (wr (v1.snd.snd.snd + 1)))))))))
 (kX (alts := Vb x1 (x19, x20)) (.inl x6) (.here _ rfl (.refl _) (.refl _)))) h)) x6 x21 o h
def Vo (s : ((List Int) × (List Int))) (u : Unit) (o : Bool) : List Alt := jb o (fun b => [.sl 1 (List.map eI (s.1)), .sl 1 (List.map eI (s.2)), .bool b]) []
def Uv (x0 : List Int) (x1 : List Int) : Option (Int × Bool) :=
 some () >>= fun v0 =>
 (VJ x0 >>= fun v2 =>
 if v2 != 0 then
 some true
 else
 some (List.length x1 : Int) >>= fun v3 =>
 some (List.length x0 : Int) >>= fun v4 =>
 if v3 != v4 then
 some true
 else
 some false) >>= fun v1 => if v1 then
 some ((0 : Int), false)
 else
 some ((0 : Int) : Int) >>= fun v7 =>
 some (List.length x0 : Int) >>= fun v8 =>
 some (x0, v8) >>= fun v9 =>
 Xr x1 v7 x0 v8 0 >>= fun v10 => (match v10 with
 | (.inl v11) =>
 some (v11, true)
 | (.inr v12) =>
 some (v12.fst, v12.snd))
theorem Sh (x0 : List Int) (x1 : List Int) (r : (Int × Bool)) (h : Uv x0 x1 = some r) : PU 87 [eLI x0, eLI x1] (ZU r) :=
 Pu2 (hs := [(10, .c eI), (11, .split), (14, .n eI 14 none), (16, .n eI 16 none), (17, .split), (20, .n eI 20 none), (6, .n eI 6 none), (3000006, .l [] [1, 6, 19, 20, 21] [] [4, 5, 6] [] (Vb x1)), (5000001, .l [] [] [] [0, 1, 18] [] (Vo (x0, x1)))]) ((kJb (id := 5000001) () (fun v0 ev0 v1 => (kC (sh := eI) (Wi x0) fun v2 => (kIf (c := v2 != 0) (kXj (alts := Vo (x0, x1)) ev0 true (.here () rfl (.refl _) (.refl _)))
 (kN _ (mLen (sh := eI) x1) fun v3 => (kN _ (mLen (sh := eI) x0) fun v4 => (kIf (c := v3 != v4) (kXj (alts := Vo (x0, x1)) ev0 true (.here () rfl (.refl _) (.refl _)))
 (kXj (alts := Vo (x0, x1)) ev0 false (.next (.here () rfl (.refl _) (.refl _))))))))))
 (fun v0 => (kEr (enc := ZU) ((0 : Int), false)))
 (fun v0 => (kN (0 : Int) rfl fun v7 => (kN _ (mLen (sh := eI) x0) fun v8 => (kL2 (x0, v8) (hL := (Et x1 v7 x0 v8 0)) (hA := fun v9 v11 => (kEr (enc := ZU) (v11, true)))
 (hB := fun v9 v12 => (kEr (enc := ZU) (v12.fst, v12.snd)))))))) h)
def Vc (s : Str) (u : (Qw × (List Q5) × (List Q8) × Int)) (o : (List Int) ⊕ (List Q5)) : List Alt := [⟨fun (x : List Int) => (Sum.inl x : (List Int) ⊕ (List Q5)) = o, .exit 0, fun x => [.str s, .undef, .ptr 0 0 0, .sl 3 (List.map Q0 u.2.1), .sl 1 (List.map eI x)], fun x => [.cells 0 (Qx u.1).cells]⟩, ⟨fun (x : List Q5) => (Sum.inr x : (List Int) ⊕ (List Q5)) = o, .ret, fun x => [.str s, .sl 3 (List.map Q0 x), .ptr 0 0 0, .sl 3 (List.map Q0 u.2.1), .undef], fun x => [.cells 0 (Qx u.1).cells]⟩]
def ZV (s : (Str × Qw × (List Q5) × (List Q8) × Int)) (u : ((List Int) × Q8 × Int)) (o : Bool) : List Alt := jb o (fun b => [.str (s.1), .ptr 0 0 0, .sl 3 (List.map Q0 (s.2.2.1)), .ow 1 0 1 (List.length (u.1)), .ptr 2 0 0, .sl 4 (List.map Q3 (s.2.2.2.1)), ii (s.2.2.2.2), ii (u.2.2), .bool b]) [.cells 0 (Qx (s.2.1)).cells, .own 0 1 (List.map eI (u.1)), .cells 0 (Q3 (u.2.1)).cells]
def ZT (x7 : Qw) (x9 : List Q5) (x10 : List Int) (x34 : List Q8) (x35 : Int) (x36 : Int) : Option ((List Int) ⊕ (List Q5)) :=
 if x36 < x35 then
 ix x34 x36 >>= fun v0 =>
 some (x10, v0, x36) >>= fun v1 =>
 (if !v0.fFrom == [] then
 some true
 else
 if 0 < (↑(List.map Qe v0.fLin.fL).length : Int) then
 some (List.length v0.fLin.fL : Int) >>= fun v3 =>
 some true
 else
 if (↑(List.map eI x7.fDims).length : Int) ≤ x36 then
 some (List.length v0.fLin.fL : Int) >>= fun v4 =>
 some (List.length x7.fDims : Int) >>= fun v5 =>
 some true
 else
 if v0.fLin.fK < 0 then
 some (List.length v0.fLin.fL : Int) >>= fun v6 =>
 some (List.length x7.fDims : Int) >>= fun v7 =>
 some true
 else
 ix x7.fDims x36 >>= fun v8 =>
 some (List.length v0.fLin.fL : Int) >>= fun v9 =>
 some (List.length x7.fDims : Int) >>= fun v10 =>
 if v8 ≤ v0.fLin.fK then
 some true
 else
 some false) >>= fun v2 => if v2 then
 some (.inr x9)
 else
 if (v1.fst.length + (1 : Nat)) * (8 : Nat) ≤ (140737488355328 : Nat) ∧ v1.fst.length + (1 : Nat) ≤ (9223372036854775807 : Nat) then
 some (v1.fst ++ [v1.snd.fst.fLin.fK]) >>= fun v13 =>
 ZT x7 x9 v13 x34 x35 (wr (v1.snd.snd + 1))
 else none
 else
 some (.inl x10)
 partial_fixpoint
theorem Eu (x1 : Str) (x7 : Qw) (x9 : List Q5) (x10 : List Int) (x34 : List Q8) (x35 : Int) (x36 : Int) (o : (List Int) ⊕ (List Q5)) (h : ZT x7 x9 x10 x34 x35 x36 = some o) : LO 56 7 99 [1, 7, 9, 10, 34, 35, 36] [.str x1, .ptr 0 0 0, .sl 3 (List.map Q0 x9), .ow 1 0 1 (List.length x10), .sl 4 (List.map Q3 x34), ii x35, ii x36] [.cells 0 (Qx x7).cells, .own 0 1 (List.map eI x10)] [1, 6, 7, 9, 10] (Vc x1 (x7, x9, x34, x35) o) :=
 ZT.partial_correctness x7 x9 x34 x35 (fun x10 x36 o => ∀ (x1 : Str), LO 56 7 99 [1, 7, 9, 10, 34, 35, 36] [.str x1, .ptr 0 0 0, .sl 3 (List.map Q0 x9), .ow 1 0 1 (List.length x10), .sl 4 (List.map Q3 x34), ii x35, ii x36] [.cells 0 (Qx x7).cells, .own 0 1 (List.map eI x10)] [1, 6, 7, 9, 10] (Vc x1 (x7, x9, x34, x35) o))
 (fun ZT Q61 x10 x36 o h x1 =>
 Lp2 (hs := [(37, .split), (39, .e Q3), (43, .split), (48, .n eI 48 none), (49, .split), (55, .n eI 55 none), (56, .split), (62, .split), (71, .e eI), (73, .split), (81, .z [{ slot := 76, own := 1 }] (some (.n eI 81 (some .a)))), (6, .z [{ slot := 98, own := 3 }, { slot := 98, fz := true }] none), (5000009, .l [] [] [] [1, 7, 9, 10, 12, 34, 35, 36, 74] [kk 7, { slot := 10, own := 1 }, kk 12] (ZV (x1, x7, x9, x34, x35)))]) (kb := [kk 7, { slot := 10, own := 1 }]) (kbx := [kk 7, { slot := 10, fz := true }]) ((kIfD (p := x36 < x35) (kIx (enc := Q3) (l := x34) (k := x36) fun v0 => (kJb (id := 5000009) (x10, v0, x36) (fun v1 ev1 v2 => (kIf (c := !v0.fFrom == []) (kXj (alts := ZV (x1, x7, x9, x34, x35)) ev1 true (.here () rfl (.refl _) (.refl _)))
 (kIfD (p := 0 < (↑(List.map Qe v0.fLin.fL).length : Int)) (kN _ (mLen (sh := Qe) v0.fLin.fL) fun v3 => (kXj (alts := ZV (x1, x7, x9, x34, x35)) ev1 true (.here () rfl (.refl _) (.refl _))))
 (kIfD (p := (↑(List.map eI x7.fDims).length : Int) ≤ x36) (kN _ (mLen (sh := Qe) v0.fLin.fL) fun v4 => (kN _ (mLen (sh := eI) x7.fDims) fun v5 => (kXj (alts := ZV (x1, x7, x9, x34, x35)) ev1 true (.here () rfl (.refl _) (.refl _)))))
 (kIfD (p := v0.fLin.fK < 0) (kN _ (mLen (sh := Qe) v0.fLin.fL) fun v6 => (kN _ (mLen (sh := eI) x7.fDims) fun v7 => (kXj (alts := ZV (x1, x7, x9, x34, x35)) ev1 true (.here () rfl (.refl _) (.refl _)))))
 (kIx (enc := eI) (l := x7.fDims) (k := x36) fun v8 => (kN _ (mLen (sh := Qe) v0.fLin.fL) fun v9 => (kN _ (mLen (sh := eI) x7.fDims) fun v10 => (kIfD (p := v8 ≤ v0.fLin.fK) (kXj (alts := ZV (x1, x7, x9, x34, x35)) ev1 true (.here () rfl (.refl _) (.refl _)))
 (kXj (alts := ZV (x1, x7, x9, x34, x35)) ev1 false (.next (.here () rfl (.refl _) (.refl _)))))))))))))
 (fun v1 => (kT (nM (sh := eI) v1.fst) (kX (alts := Vc x1 (x7, x9, x34, x35)) (.inr x9) (.next (.here _ rfl (.cons (LeV.refl (AV.str x1)) (.cons (LeV.refl (AV.sl (3 : Nat) (List.map Q0 x9))) (.cons (LeV.refl (AV.ptr (0 : Nat) (0 : Nat) (0 : Nat))) (.cons (LeV.refl (AV.sl (3 : Nat) (List.map Q0 x9))) (.cons (LeV.undef (AV.sl (1 : Nat) (List.map eI v1.fst))) .nil))))) (.refl _))))))
 (fun v1 => (kA (q := (v1.fst.length + (1 : Nat)) * (8 : Nat) ≤ (140737488355328 : Nat) ∧ v1.fst.length + (1 : Nat) ≤ (9223372036854775807 : Nat)) (sh := eI) (l := v1.fst) (kO (sh := eI) (v1.fst ++ [v1.snd.fst.fLin.fK]) (mA (sh := eI) v1.fst v1.snd.fst.fLin.fK) (nA v1.fst v1.snd.fst.fLin.fK) fun v13 => (kM0 (alts := Vc x1 (x7, x9, x34, x35)) (fun y hy => Q61 v13 (wr (v1.snd.snd + 1)) y hy x1)))))))
 (kT (nM (sh := eI) x10) (kX (alts := Vc x1 (x7, x9, x34, x35)) (.inl x10) (.here _ rfl (.refl _) (.refl _))))) h)) x10 x36 o h x1
def Vr (s : (Str × (List Q8))) (u : Qw) (o : Bool) : List Alt := jb o (fun b => [.str (s.1), .sl 4 (List.map Q3 (s.2)), .ptr 0 0 0, .bool b]) [.cells 0 (Qx u).cells]
def VK (x0 : Qb) (x1 : Str) (x2 : List Q8) : Option (List Q5) :=
 GQ x0 x1 >>= fun v0 =>
 some v0.fst >>= fun v1 =>
 (if v0.snd then
 VJ v0.fst.fDims >>= fun v3 =>
 if v3 != 0 then
 some true
 else
 some false
 else
 some true) >>= fun v2 => if v2 then
 some []
 else
 WD v1.fDims >>= fun v6 =>
 some ((Q5.mk x1 (0 : Int) v6)) >>= fun v7 =>
 some (List.length x2 : Int) >>= fun v8 =>
 some (v1, [v7], x2, v8) >>= fun v9 =>
 ZT v1 [v7] [] x2 v8 (0 : Int) >>= fun v10 => (match v10 with
 | (.inl v11) =>
 Uv v9.fst.fDims v11 >>= fun v12 =>
 if v12.snd then
 some ((Q5.mk x1 v12.fst (wr (v12.fst + 1)))) >>= fun v13 =>
 some [v13]
 else
 some v9.snd.fst
 | (.inr v14) =>
 some v14)
theorem N5 (x0 : Qb) (x1 : Str) (x2 : List Q8) (r : List Q5) (h : VK x0 x1 x2 = some r) : PU 56 [Qp x0, eS x1, GM x2] (Qt r) :=
 Pu2 (hs := [(17, .c Z3), (20, .split), (25, .c eI), (26, .split), (31, .c eI), (32, .n Q0 32 none), (9, .z [{ slot := 33, own := 3 }, { slot := 33, fz := true }] none), (35, .n eI 35 none), (87, .c ZU), (90, .split), (97, .n Q0 97 none), (6, .z [{ slot := 98, own := 3 }, { slot := 98, fz := true }] none), (3000008, .l [] [1, 7, 9, 10, 34, 35, 36] [kk 7, { slot := 10, own := 1 }] [1, 6, 7, 9, 10] [kk 7, { slot := 10, fz := true }] (Vc x1)), (5000002, .l [] [] [] [1, 2, 7, 27] [kk 7] (Vr (x1, x2)))]) ((kC (sh := Z3) (Eg x0 x1) fun v0 => (kJb (id := 5000002) v0.fst (fun v1 ev1 v2 => (kIf (c := v0.snd) (kC (sh := eI) (Wi v0.fst.fDims) fun v3 => (kIf (c := v3 != 0) (kXj (alts := Vr (x1, x2)) ev1 true (.here () rfl (.refl _) (.refl _)))
 (kXj (alts := Vr (x1, x2)) ev1 false (.next (.here () rfl (.refl _) (.refl _))))))
 (kXj (alts := Vr (x1, x2)) ev1 true (.here () rfl (.refl _) (.refl _)))))
 (fun v1 => (kE (enc := Qt) [] (LeT.nil 3)))
 (fun v1 => (kC (sh := eI) (FV v1.fDims) fun v6 => (kW (sh := Q0) (Q5.mk x1 (0 : Int) v6) lr fun v7 => (kT (rfl : (1 : Nat) = (1 : Nat)) (kN _ (mLen (sh := Q3) x2) fun v8 => (kL2 (v1, [v7], x2, v8) (hL := (Eu x1 v1 [v7] [] x2 v8 (0 : Int))) (hA := fun v9 v11 => (kC (sh := ZU) (Sh v9.fst.fDims v11) fun v12 => (kIf (c := v12.snd) (kW (sh := Q0) (Q5.mk x1 v12.fst (wr (v12.fst + 1))) lr fun v13 => (kT (rfl : (1 : Nat) = (1 : Nat)) (kEr (enc := Qt) [v13])))
 (kEr (enc := Qt) v9.snd.fst))))
 (hB := fun v9 v14 => (kEr (enc := Qt) v14)))))))))) h)
def Jc (s : (Qb × (List Q8) × Int)) (u : ((List Q5) × Q8 × Int × (List gLin) × Int)) (o : List Q8) : List Alt := [⟨fun (x : List Q8) => x = o, .exit 2, fun x => [.ptr 0 0 0, .ow 1 0 3 (List.length u.1), .ptr 2 0 0, .sl 4 (List.map Q3 x), .sl 4 (List.map Q3 s.2.1), ii s.2.2, ii u.2.2.1], fun x => [.cells 0 (Qp s.1).cells, .own 0 3 (List.map Q0 u.1), .cells 0 (Q3 u.2.1).cells]⟩]
def X6 (x8 : List Q8) (x21 : List gLin) (x22 : Int) (x23 : Int) : Option (List Q8) :=
 if x23 < x22 then
 ix x21 x23 >>= fun v0 =>
 some ((Q8.mk v0 [] [])) >>= fun v1 =>
 if (x8.length + (1 : Nat)) * (72 : Nat) ≤ (140737488355328 : Nat) ∧ x8.length + (1 : Nat) ≤ (9223372036854775807 : Nat) then
 some (x8 ++ [v1]) >>= fun v2 =>
 X6 v2 x21 x22 (wr (x23 + 1))
 else none
 else
 some x8
 partial_fixpoint
theorem Ha (x2 : Qb) (x5 : List Q5) (x7 : Q8) (x8 : List Q8) (x11 : List Q8) (x12 : Int) (x13 : Int) (x21 : List gLin) (x22 : Int) (x23 : Int) (o : List Q8) (h : X6 x8 x21 x22 x23 = some o) : LO 57 8 42 [2, 5, 7, 8, 11, 12, 13, 21, 22, 23] [.ptr 0 0 0, .ow 1 0 3 (List.length x5), .ptr 2 0 0, .ow 3 0 4 (List.length x8), .sl 4 (List.map Q3 x11), ii x12, ii x13, .sl 2 (List.map Qi x21), ii x22, ii x23] [.cells 0 (Qp x2).cells, .own 0 3 (List.map Q0 x5), .cells 0 (Q3 x7).cells, .own 0 4 (List.map Q3 x8)] [2, 5, 7, 8, 11, 12, 13] (Jc (x2, x11, x12) (x5, x7, x13, x21, x22) o) :=
 X6.partial_correctness x21 x22 (fun x8 x23 o => ∀ (x2 : Qb) (x5 : List Q5) (x7 : Q8) (x11 : List Q8) (x12 : Int) (x13 : Int), LO 57 8 42 [2, 5, 7, 8, 11, 12, 13, 21, 22, 23] [.ptr 0 0 0, .ow 1 0 3 (List.length x5), .ptr 2 0 0, .ow 3 0 4 (List.length x8), .sl 4 (List.map Q3 x11), ii x12, ii x13, .sl 2 (List.map Qi x21), ii x22, ii x23] [.cells 0 (Qp x2).cells, .own 0 3 (List.map Q0 x5), .cells 0 (Q3 x7).cells, .own 0 4 (List.map Q3 x8)] [2, 5, 7, 8, 11, 12, 13] (Jc (x2, x11, x12) (x5, x7, x13, x21, x22) o))
 (fun X6 Q60 x8 x23 o h x2 x5 x7 x11 x12 x13 =>
 Lp2 (hs := [(24, .split), (25, .e Qi), (29, .n Q3 29 none), (31, .z [{ slot := 27, own := 4 }] (some (.n Q3 31 (some .a))))]) (kb := [kk 2, { slot := 5, own := 3 }, kk 7, { slot := 8, own := 4 }]) (kbx := [kk 2, { slot := 5, own := 3 }, kk 7, { slot := 8, fz := true }]) ((kIfD (p := x23 < x22) (kIx (enc := Qi) (l := x21) (k := x23) fun v0 => (kW (sh := Q3) (Q8.mk v0 [] []) (LeV.agg (.cons (LeV.refl (ii v0.fK)) (.cons (LeV.refl (AV.sl (2 : Nat) (List.map Qe v0.fL))) (.cons (LeV.refl (AV.str [])) (.cons (LeV.nil 2) .nil))))) fun v1 => (kA (q := (x8.length + (1 : Nat)) * (72 : Nat) ≤ (140737488355328 : Nat) ∧ x8.length + (1 : Nat) ≤ (9223372036854775807 : Nat)) (sh := Q3) (l := x8) (kO (sh := Q3) (x8 ++ [v1]) (mA (sh := Q3) x8 v1) (nA x8 v1) fun v2 => (kM0 (alts := Jc (x2, x11, x12) (x5, x7, x13, x21, x22)) (fun y hy => Q60 v2 (wr (x23 + 1)) y hy x2 x5 x7 x11 x12 x13))))))
 (kT (nM (sh := Q3) x8) (kX (alts := Jc (x2, x11, x12) (x5, x7, x13, x21, x22)) x8 (.here _ rfl (.refl _) (.refl _))))) h)) x8 x23 o h x2 x5 x7 x11 x12 x13
def KC (s : Qb) (u : ((List Q8) × Int)) (o : List Q5) : List Alt := [⟨fun (x : List Q5) => x = o, .exit 0, fun x => [.ow 0 0 3 (List.length x)], fun x => [.own 0 3 (List.map Q0 x)]⟩]
def ZD (x2 : Qb) (x5 : List Q5) (x11 : List Q8) (x12 : Int) (x13 : Int) : Option (List Q5) :=
 if x13 < x12 then
 ix x11 x13 >>= fun v0 =>
 if v0.fFrom == [] then
 ZD x2 x5 x11 x12 (wr (x13 + 1))
 else
 some (List.length v0.fAt : Int) >>= fun v1 =>
 some (x5, v0, x13, v0.fAt, v1) >>= fun v2 =>
 X6 [] v0.fAt v1 0 >>= fun v4 =>
 VK x2 v2.snd.fst.fFrom v4 >>= fun v5 =>
 if (v2.fst.length + (List.map Q0 v5).length) * (32 : Nat) ≤ (140737488355328 : Nat) ∧ v2.fst.length + (List.map Q0 v5).length ≤ (9223372036854775807 : Nat) then
 some (v2.fst ++ v5) >>= fun v6 =>
 ZD x2 v6 x11 x12 (wr (v2.snd.snd.fst + 1))
 else none
 else
 some x5
 partial_fixpoint
theorem H9 (x2 : Qb) (x5 : List Q5) (x11 : List Q8) (x12 : Int) (x13 : Int) (o : List Q5) (h : ZD x2 x5 x11 x12 x13 = some o) : LO 57 3 42 [2, 5, 11, 12, 13] [.ptr 0 0 0, .ow 1 0 3 (List.length x5), .sl 4 (List.map Q3 x11), ii x12, ii x13] [.cells 0 (Qp x2).cells, .own 0 3 (List.map Q0 x5)] [5] (KC x2 (x11, x12) o) :=
 ZD.partial_correctness x2 x11 x12 (fun x5 x13 o => LO 57 3 42 [2, 5, 11, 12, 13] [.ptr 0 0 0, .ow 1 0 3 (List.length x5), .sl 4 (List.map Q3 x11), ii x12, ii x13] [.cells 0 (Qp x2).cells, .own 0 3 (List.map Q0 x5)] [5] (KC x2 (x11, x12) o))
 (fun ZD Q5z x5 x13 o h  =>
 Lp2 (hs := [(14, .split), (15, .e Q3), (19, .split), (22, .n eI 22 none), (38, .c Qt), (39, .z [{ slot := 33, own := 3 }] (some (.n Q0 39 (some .a)))), (3000009, .l [] [2, 5, 7, 8, 11, 12, 13, 21, 22, 23] [kk 2, { slot := 5, own := 3 }, kk 7, { slot := 8, own := 4 }] [2, 5, 7, 8, 11, 12, 13] [kk 2, { slot := 5, own := 3 }, kk 7, { slot := 8, fz := true }] (Jc (x2, x11, x12)))]) (kb := [kk 2, { slot := 5, own := 3 }]) (kbx := [{ slot := 5, own := 3 }]) ((kIfD (p := x13 < x12) (kIx (enc := Q3) (l := x11) (k := x13) fun v0 => (kIf (c := v0.fFrom == []) (kM0 (alts := KC x2 (x11, x12)) (Q5z x5 (wr (x13 + 1))))
 (kN _ (mLen (sh := Qi) v0.fAt) fun v1 => (kL1 (x5, v0, x13, v0.fAt, v1) (Ha x2 x5 v0 [] x11 x12 x13 v0.fAt v1 0) fun v2 v4 => (kC (sh := Qt) (N5 x2 v2.snd.fst.fFrom v4) fun v5 => (kA (q := (v2.fst.length + (List.map Q0 v5).length) * (32 : Nat) ≤ (140737488355328 : Nat) ∧ v2.fst.length + (List.map Q0 v5).length ≤ (9223372036854775807 : Nat)) (sh := Q0) (l := v2.fst) (kO (sh := Q0) (v2.fst ++ v5) (mAA (sh := Q0) v2.fst v5) (nAA (sh := Q0) v2.fst v5) fun v6 => (kM0 (alts := KC x2 (x11, x12)) (Q5z v6 (wr (v2.snd.snd.fst + 1)))))))))))
 (kX (alts := KC x2 (x11, x12)) x5 (.here _ rfl (.refl _) (.refl _)))) h)) x5 x13 o h
def JX (r : List Q5) : AV := .ow 0 0 3 (List.length r)
def JN (r : List Q5) : List Box := [.own 0 3 (List.map Q0 r)]
def JV (x0 : Qb) (x1 : List Q8) : Option (List Q5) :=
 some (List.length x1 : Int) >>= fun v0 =>
 some (x1, v0) >>= fun v1 =>
 ZD x0 [] x1 v0 0 >>= fun v3 =>
 some v3
theorem MO (x0 : Qb) (x1 : List Q8) (r : List Q5) (h : JV x0 x1 = some r) : PH 57 [Qp x0, GM x1] [] (JX r) (JN r) :=
 PuH2 (hs := [(12, .n eI 12 none), (3000004, .l [] [2, 5, 11, 12, 13] [kk 2, { slot := 5, own := 3 }] [5] [{ slot := 5, own := 3 }] (KC x0))]) (kb := [{ slot := 0, path := [], own := 3 }]) ((kN _ (mLen (sh := Q3) x1) fun v0 => (kL1 (x1, v0) (H9 x0 [] x1 v0 0) fun v1 v3 => (kEH (enc := JX) (bt := JN) v3 ⟨.refl _, .refl _⟩))) h)
end Go.Proofs.YtokfigmmegifeaaGreat
end
noncomputable section
namespace Go.Proofs.YtokfigmmegifeaaGreat
open Go HY
set_option maxRecDepth 1000000
set_option linter.unusedVariables false
def G3  : Option Bool :=
 some ((Q5.mk [(97 : UInt8)] (0 : Int) (3 : Int))) >>= fun v0 =>
 some ((Q5.mk [(97 : UInt8)] (2 : Int) (4 : Int))) >>= fun v1 =>
 XW [v0] [v1] >>= fun v2 => if v2 then
 some ((Q5.mk [(97 : UInt8)] (3 : Int) (4 : Int))) >>= fun v3 =>
 XW [v0] [v3] >>= fun v4 => if v4 then
 some false
 else
 some ((Q5.mk [(98 : UInt8)] (0 : Int) (3 : Int))) >>= fun v5 =>
 XW [v0] [v5] >>= fun v6 =>
 some (!v6)
 else
 some false
theorem NM  (r : Bool) (h : G3  = some r) : PU 6 [] (eB r) :=
 Pu1 (hs := [(2, .n Q0 2 none), (1, .z [{ slot := 3, own := 3 }, { slot := 3, fz := true }] none), (5, .n Q0 5 none), (7, .cb), (10, .n Q0 10 none), (12, .cb), (17, .n Q0 17 none), (19, .c eB)]) (by kernel_rfl) ((kW (sh := Q0) (Q5.mk [(97 : UInt8)] (0 : Int) (3 : Int)) (LeV.refl _) fun v0 => (kT (rfl : (1 : Nat) = (1 : Nat)) (kW (sh := Q0) (Q5.mk [(97 : UInt8)] (2 : Int) (4 : Int)) (LeV.refl _) fun v1 => (kCb (VL [v0] [v1]) (kW (sh := Q0) (Q5.mk [(97 : UInt8)] (3 : Int) (4 : Int)) (LeV.refl _) fun v3 => (kCb (VL [v0] [v3]) (kEr (enc := eB) false)
 (kW (sh := Q0) (Q5.mk [(98 : UInt8)] (0 : Int) (3 : Int)) (LeV.refl _) fun v5 => (kC (sh := eB) (VL [v0] [v5]) fun v6 => (kEr (enc := eB) (!v6))))))
 (kEr (enc := eB) false))))) h)
end Go.Proofs.YtokfigmmegifeaaGreat
end
noncomputable section
namespace Go.Proofs.YtokfigmmegifeaaGreat
open Go HY
set_option maxRecDepth 1000000
set_option linter.unusedVariables false
def G7 (r : List Q5) : AV := .ow 0 0 3 (List.length r)
def G2 (r : List Q5) : List Box := [.own 0 3 (List.map Q0 r)]
def XI (n : Qb) : List Q9 → List Q5 → Option (List Q5)
 | [], out => some out
 | e :: t, out => if (e.f.fOp == 3) = true then
   JV n e.f.fIdx >>= fun a =>
   if (List.length out + List.length a) * 32 ≤ 140737488355328 ∧ List.length out + List.length a ≤ 9223372036854775807 then
   VK n e.f.fName e.f.fIdx >>= fun b =>
   if (List.length out + List.length a + List.length b) * 32 ≤ 140737488355328 ∧ List.length out + List.length a + List.length b ≤ 9223372036854775807 then
   XI n t (out ++ a ++ b)
   else none
   else none
  else XI n t out
def G6 (n : Qb) (x : Q1) : Option (List Q5) := CK x >>= fun w => XI n (Zq (.mk w.1)) []
def JK (n : Qb) (u : Unit) (o : List Q5) : List Alt := [⟨fun (x : List Q5) => x = o, .normal, fun x => [.ptr 0 0 0, .ptr 1 0 0], fun x => [.cells 0 (Qp n).cells, .cells 0 [.ow 2 0 3 (List.length x)], .own 0 3 (List.map Q0 x)]⟩]
theorem MP (n : Qb) : ∀ (l : List Q9) (out o : List Q5), XI n l out = some o → RG 58 3 28 [2, 5] [.ptr 0 0 0, .ptr 1 0 0] (JK n () o) (l.map fun y => [Q6 y.f]) [.cells 0 (Qp n).cells, .cells 0 [.ow 2 0 3 (List.length out)], .own 0 3 (List.map Q0 out)]
 | [], out, o, h => by
  cases h
  exact Rg0 rfl (.here _ rfl (.refl _) (.refl _))
 | e :: t, out, o, h => by
  have nx : ∀ (q : List Q5), XI n t q = some o → ∀ k m, k = List.length q → m = List.map Q0 q → NxtR Tryz.prog gls [] 28 (rng Tryz.prog 58 (3 + 1)).1 (rng Tryz.prog 58 (3 + 1)).2.1 (rng Tryz.prog 58 (3 + 1)).2.2 [2, 5] [.ptr 0 0 0, .ptr 1 0 0] (JK n () o) (t.map fun y => [Q6 y.f]) [.cells 0 (Qp n).cells, .cells 0 [.ow 2 0 3 k], .own 0 3 m] := fun q hq k m hk hm => by
   subst hk; subst hm
   exact ⟨_, .refl _, MP n t q o hq⟩
  refine Rg1 (φ := ((e.f.fOp == 3) = true → ∃ a, PH 57 [Qp n, GM e.f.fIdx] [] (JX a) (JN a) ∧ List.length a = List.length (List.map Q0 a) ∧
    (List.length out = List.length (List.map Q0 out) ∧ (List.length out + List.length (List.map Q0 a)) * 32 ≤ 140737488355328 ∧ List.length out + List.length (List.map Q0 a) ≤ 9223372036854775807) ∧
    ∃ b, PU 56 [Qp n, eS e.f.fName, GM e.f.fIdx] (Qt b) ∧
    (List.length out + List.length (List.map Q0 a) = List.length (List.map Q0 out ++ List.map Q0 a) ∧ (List.length out + List.length (List.map Q0 a) + List.length (List.map Q0 b)) * 32 ≤ 140737488355328 ∧ List.length out + List.length (List.map Q0 a) + List.length (List.map Q0 b) ≤ 9223372036854775807) ∧
    LeVs [.ptr 0 0 0, .ptr 1 0 0] [.ptr 0 0 0, .ptr 1 0 0] ∧
    NxtR Tryz.prog gls [] 28 (rng Tryz.prog 58 (3 + 1)).1 (rng Tryz.prog 58 (3 + 1)).2.1 (rng Tryz.prog 58 (3 + 1)).2.2 [2, 5] [.ptr 0 0 0, .ptr 1 0 0] (JK n () o) (t.map fun y => [Q6 y.f]) [.cells 0 (Qp n).cells, .cells 0 [.ow 2 0 3 (List.length out + List.length (List.map Q0 a) + List.length (List.map Q0 b))], .own 0 3 ((List.map Q0 out ++ List.map Q0 a) ++ List.map Q0 b)]) ∧
   ((e.f.fOp == 3) = false → LeVs [.ptr 0 0 0, .ptr 1 0 0] [.ptr 0 0 0, .ptr 1 0 0] ∧
    NxtR Tryz.prog gls [] 28 (rng Tryz.prog 58 (3 + 1)).1 (rng Tryz.prog 58 (3 + 1)).2.1 (rng Tryz.prog 58 (3 + 1)).2.2 [2, 5] [.ptr 0 0 0, .ptr 1 0 0] (JK n () o) (t.map fun y => [Q6 y.f]) [.cells 0 (Qp n).cells, .cells 0 [.ow 2 0 3 (List.length out)], .own 0 3 (List.map Q0 out)]))
   (hs := [(12, .split), (17, .h [] JX JN), (18, .a), (25, .c Qt), (26, .a)]) (kb := [kk 2, kk 5, { slot := 5, path := [0], own := 3 }]) (kbx := []) (by kernel_rfl) (by kernel_rfl) ⟨fun hc => ?_, fun hc => ?_⟩
  ·rw [XI, if_pos hc] at h
   cases ha : JV n e.f.fIdx with
   | none => rw [ha] at h; cases h
   | some a =>
    rw [ha] at h
    replace h : (if (List.length out + List.length a) * 32 ≤ 140737488355328 ∧ List.length out + List.length a ≤ 9223372036854775807 then _ else _) = _ := h
    split at h
    ·rename_i h1
     cases hb : VK n e.f.fName e.f.fIdx with
     | none => rw [hb] at h; cases h
     | some b =>
      rw [hb] at h
      replace h : (if (List.length out + List.length a + List.length b) * 32 ≤ 140737488355328 ∧ List.length out + List.length a + List.length b ≤ 9223372036854775807 then _ else _) = _ := h
      split at h
      ·rename_i h2
       exact ⟨a, MO _ _ _ ha, by simp, ⟨by simp, by simpa using h1⟩, b, N5 _ _ _ _ hb, ⟨by simp, by simpa using h2⟩, .refl _, nx _ h _ _ (by simp; omega) (by simp)⟩
      ·cases h
    ·cases h
  ·rw [XI, if_neg (by rw [hc]; simp)] at h
   exact ⟨.refl _, nx _ h _ _ rfl rfl⟩
theorem Ig (x0 : Qb) (x1 : Q1) (r : List Q5) (h : G6 x0 x1 = some r) : PH 58 [Qp x0, Q6 x1] [] (G7 r) (G2 r) := by
 unfold G6 at h
 cases hw : CK x1 with
 | none => rw [hw] at h; cases h
 | some w =>
  rw [hw] at h
  refine PuH1 (φ := ∃ x, PU 88 [Q6 x1] (Pd x) ∧ ∃ xs u o, ItOk Tryz.prog gls 105 [.ip 13 [Q6 x.1] 0 0] xs ∧ RG 58 3 28 [2, 5] [.ptr 0 0 0, .ptr 1 0 0] (JK x0 u o) xs [.cells 0 (Qp x0).cells, .cells 0 [.ow 2 0 3 0], .own 0 3 []] ∧ ∀ x : List Q5, x = o → LeVs [.ow 0 0 3 (List.length x)] [G7 r] ∧ LeBs [.own 0 3 (List.map Q0 x)] (G2 r))
   (hs := [(8, .c Pd), (4000004, .l [] [2, 5] [kk 2, kk 5, { slot := 5, path := [0], own := 3 }] [2, 5] [] (JK x0))]) (kb := [{ slot := 0, path := [], own := 3 }]) (by kernel_rfl)
   ⟨w, Oz _ _ hw, _, (), r, It_Walk w, MP x0 _ [] r h, fun x hx => by subst hx; exact ⟨.refl _, .refl _⟩⟩
end Go.Proofs.YtokfigmmegifeaaGreat
end
noncomputable section
namespace Go.Proofs.YtokfigmmegifeaaGreat
open Go HY
set_option maxRecDepth 1000000
set_option linter.unusedVariables false
def U9 (s : Qb) (u : ((List Q7) × Int)) (o : List Q5) : List Alt := [⟨fun (x : List Q5) => x = o, .exit 0, fun x => [.sl 3 (List.map Q0 x)], fun x => []⟩]
def Vq (s : (Qb × Qa)) (u : List Q5) (o : Bool) : List Alt := jb o (fun b => [.ptr 0 0 0, .ptr 1 0 0, .ow 2 0 3 (List.length u), .bool b]) [.cells 0 (Qp (s.1)).cells, .cells 0 (Qm (s.2)).cells, .own 0 3 (List.map Q0 u)]
mutual
def KG (x0 : Qb) (x1 : Qa) : Option (List Q5) :=
 DT x1 >>= fun v0 => if v0 then
 VK x0 x1.fName x1.fIdx >>= fun v1 =>
 some v1
 else
 some [] >>= fun v2 =>
 (if x1.fOp == 1 then
 some true
 else
 if x1.fOp == 4 then
 some true
 else
 some false) >>= fun v3 => if v3 then
 some (List.length x1.fBody : Int) >>= fun v5 =>
 some (x1.fBody, v5) >>= fun v6 =>
 Xs x0 v2 x1.fBody v5 0 >>= fun v8 =>
 some v8
 else
 some v2
 partial_fixpoint
def Xs (x2 : Qb) (x5 : List Q5) (x25 : List Q7) (x26 : Int) (x27 : Int) : Option (List Q5) :=
 if x27 < x26 then
 Option.map Q7.f (ix x25 x27) >>= fun v0 =>
 KG x2 v0 >>= fun v1 =>
 if (x5.length + (List.map Q0 v1).length) * (32 : Nat) ≤ (140737488355328 : Nat) ∧ x5.length + (List.map Q0 v1).length ≤ (9223372036854775807 : Nat) then
 some (x5 ++ v1) >>= fun v2 =>
 Xs x2 v2 x25 x26 (wr (x27 + 1))
 else none
 else
 some x5
 partial_fixpoint
end
theorem RU (x0 : Qb) : (∀ (x1 : Qa) (r : List Q5), KG x0 x1 = some r → PU 34 [Qp x0, Qm x1] (Qt r)) ∧ (∀ (x5 : List Q5) (x25 : List Q7) (x26 : Int) (x27 : Int) (o : List Q5), Xs x0 x5 x25 x26 x27 = some o → LO 34 6 38 [2, 5, 25, 26, 27] [.ptr 0 0 0, .ow 1 0 3 (List.length x5), .sl 20 (List.map Qr x25), ii x26, ii x27] [.cells 0 (Qp x0).cells, .own 0 3 (List.map Q0 x5)] [5] (U9 x0 (x25, x26) o)) :=
 KG.mutual_partial_correctness x0 (fun x1 r => PU 34 [Qp x0, Qm x1] (Qt r)) (fun x5 x25 x26 x27 o => LO 34 6 38 [2, 5, 25, 26, 27] [.ptr 0 0 0, .ow 1 0 3 (List.length x5), .sl 20 (List.map Qr x25), ii x26, ii x27] [.cells 0 (Qp x0).cells, .own 0 3 (List.map Q0 x5)] [5] (U9 x0 (x25, x26) o))
 (fun Xs Q5y x1 r h  =>
 Pu2 (hs := [(9, .cb), (15, .c Qt), (18, .split), (22, .split), (26, .n eI 26 none), (3000007, .l [] [2, 5, 25, 26, 27] [kk 2, { slot := 5, own := 3 }] [5] [{ slot := 5, fz := true }] (U9 x0)), (5000004, .l [] [] [] [2, 3, 5, 23] [kk 2, kk 3, { slot := 5, own := 3 }] (Vq (x0, x1)))]) ((kCb (Ih x1) (kC (sh := Qt) (N5 x0 x1.fName x1.fIdx) fun v1 => (kEr (enc := Qt) v1))
 (kJb (id := 5000004) [] (fun v2 ev2 v3 => (kIf (c := x1.fOp == 1) (kXj (alts := Vq (x0, x1)) ev2 true (.here () rfl (.refl _) (.refl _)))
 (kIf (c := x1.fOp == 4) (kXj (alts := Vq (x0, x1)) ev2 true (.here () rfl (.refl _) (.refl _)))
 (kXj (alts := Vq (x0, x1)) ev2 false (.next (.here () rfl (.refl _) (.refl _)))))))
 (fun v2 => (kN _ (mLen (sh := Qr) x1.fBody) fun v5 => (kL1 (x1.fBody, v5) (Q5y v2 x1.fBody v5 0) fun v6 v8 => (kEr (enc := Qt) v8))))
 (fun v2 => (kT (nM (sh := Q0) v2) (kEr (enc := Qt) v2))))) h))
 (fun KG Xs Q5x Q5y x5 x25 x26 x27 o h  =>
 Lp2 (hs := [(28, .split), (29, .e Qm), (34, .c Qt), (35, .z [{ slot := 31, own := 3 }] (some (.n Q0 35 (some .a))))]) (kb := [kk 2, { slot := 5, own := 3 }]) (kbx := [{ slot := 5, fz := true }]) ((kIfD (p := x27 < x26) (kIxR (l := x25) (k := x27) Z2 fun v0 => (kC (sh := Qt) (Q5x v0) fun v1 => (kA (q := (x5.length + (List.map Q0 v1).length) * (32 : Nat) ≤ (140737488355328 : Nat) ∧ x5.length + (List.map Q0 v1).length ≤ (9223372036854775807 : Nat)) (sh := Q0) (l := x5) (kO (sh := Q0) (x5 ++ v1) (mAA (sh := Q0) x5 v1) (nAA (sh := Q0) x5 v1) fun v2 => (kM0 (alts := U9 x0 (x25, x26)) (Q5y v2 x25 x26 (wr (x27 + 1))))))))
 (kT (nM (sh := Q0) x5) (kX (alts := U9 x0 (x25, x26)) x5 (.here _ rfl (.refl _) (.refl _))))) h))
theorem Si (x0 : Qb) (x1 : Qa) (r : List Q5) (h : KG x0 x1 = some r) : PU 34 [Qp x0, Qm x1] (Qt r) := (RU x0).1 x1 r h
def UJ (s : Qb) (u : ((List Q7) × Int)) (o : List Q5) : List Alt := [⟨fun (x : List Q5) => x = o, .exit 1, fun x => [.sl 3 (List.map Q0 x)], fun x => []⟩]
mutual
def Vi (x0 : Qb) (x1 : Qa) : Option (List Q5) :=
 DT x1 >>= fun v0 => if v0 then
 JV x0 x1.fIdx >>= fun v1 =>
 G6 x0 x1.fExpr >>= fun v2 =>
 if (v1.length + (List.map Q0 v2).length) * (32 : Nat) ≤ (140737488355328 : Nat) ∧ v1.length + (List.map Q0 v2).length ≤ (9223372036854775807 : Nat) then
 some (v1 ++ v2) >>= fun v3 =>
 some v3
 else none
 else
 if x1.fOp == 4 then
 G6 x0 x1.fExpr >>= fun v4 =>
 some (List.length x1.fBody : Int) >>= fun v5 =>
 some (x1.fBody, v5) >>= fun v6 =>
 Xf x0 v4 x1.fBody v5 0 >>= fun v8 =>
 some v8
 else
 if x1.fOp != 1 then
 some []
 else
 some (List.length x1.fBody : Int) >>= fun v9 =>
 some (x1.fBody, v9) >>= fun v10 =>
 Xf x0 [] x1.fBody v9 0 >>= fun v12 =>
 some v12
 partial_fixpoint
def Xf (x2 : Qb) (x5 : List Q5) (x33 : List Q7) (x34 : Int) (x35 : Int) : Option (List Q5) :=
 if x35 < x34 then
 Option.map Q7.f (ix x33 x35) >>= fun v0 =>
 Vi x2 v0 >>= fun v1 =>
 if (x5.length + (List.map Q0 v1).length) * (32 : Nat) ≤ (140737488355328 : Nat) ∧ x5.length + (List.map Q0 v1).length ≤ (9223372036854775807 : Nat) then
 some (x5 ++ v1) >>= fun v2 =>
 Xf x2 v2 x33 x34 (wr (x35 + 1))
 else none
 else
 some x5
 partial_fixpoint
end
theorem S3 (x0 : Qb) : (∀ (x1 : Qa) (r : List Q5), Vi x0 x1 = some r → PU 35 [Qp x0, Qm x1] (Qt r)) ∧ (∀ (x5 : List Q5) (x33 : List Q7) (x34 : Int) (x35 : Int) (o : List Q5), Xf x0 x5 x33 x34 x35 = some o → LO 35 9 46 [2, 5, 33, 34, 35] [.ptr 0 0 0, .ow 1 0 3 (List.length x5), .sl 20 (List.map Qr x33), ii x34, ii x35] [.cells 0 (Qp x0).cells, .own 0 3 (List.map Q0 x5)] [5] (UJ x0 (x33, x34) o)) :=
 Vi.mutual_partial_correctness x0 (fun x1 r => PU 35 [Qp x0, Qm x1] (Qt r)) (fun x5 x33 x34 x35 o => LO 35 9 46 [2, 5, 33, 34, 35] [.ptr 0 0 0, .ow 1 0 3 (List.length x5), .sl 20 (List.map Qr x33), ii x34, ii x35] [.cells 0 (Qp x0).cells, .own 0 3 (List.map Q0 x5)] [5] (UJ x0 (x33, x34) o))
 (fun Xf Q5w x1 r h  =>
 Pu2 (hs := [(10, .cb), (14, .h [] JX JN), (18, .h [] G7 G2), (19, .z [{ slot := 14, own := 3 }, { slot := 18, fz := true }] (some (.n Q0 19 (some .a)))), (23, .split), (27, .h [] G7 G2), (31, .split), (34, .n eI 34 none), (3000010, .l [] [2, 5, 33, 34, 35] [kk 2, { slot := 5, own := 3 }] [5] [{ slot := 5, fz := true }] (UJ x0))]) ((kCb (Ih x1) (kH (sh := JX) (bt := JN) (MO x0 x1.fIdx) fun v1 => (kH (sh := G7) (bt := G2) (Ig x0 x1.fExpr) fun v2 => (kT (nM (sh := Q0) v2) (kA (q := (v1.length + (List.map Q0 v2).length) * (32 : Nat) ≤ (140737488355328 : Nat) ∧ v1.length + (List.map Q0 v2).length ≤ (9223372036854775807 : Nat)) (sh := Q0) (l := v1) (kO (sh := Q0) (v1 ++ v2) (mAA (sh := Q0) v1 v2) (nAA (sh := Q0) v1 v2) fun v3 => (kT (nM (sh := Q0) v3) (kEr (enc := Qt) v3)))))))
 (kIf (c := x1.fOp == 4) (kH (sh := G7) (bt := G2) (Ig x0 x1.fExpr) fun v4 => (kN _ (mLen (sh := Qr) x1.fBody) fun v5 => (kL1 (x1.fBody, v5) (Q5w v4 x1.fBody v5 0) fun v6 v8 => (kEr (enc := Qt) v8))))
 (kIf (c := x1.fOp != 1) (kE (enc := Qt) [] (LeT.nil 3))
 (kN _ (mLen (sh := Qr) x1.fBody) fun v9 => (kL1 (x1.fBody, v9) (Q5w [] x1.fBody v9 0) fun v10 v12 => (kEr (enc := Qt) v12)))))) h))
 (fun Vi Xf Q5v Q5w x5 x33 x34 x35 o h  =>
 Lp2 (hs := [(36, .split), (37, .e Qm), (42, .c Qt), (43, .z [{ slot := 39, own := 3 }] (some (.n Q0 43 (some .a))))]) (kb := [kk 2, { slot := 5, own := 3 }]) (kbx := [{ slot := 5, fz := true }]) ((kIfD (p := x35 < x34) (kIxR (l := x33) (k := x35) Z2 fun v0 => (kC (sh := Qt) (Q5v v0) fun v1 => (kA (q := (x5.length + (List.map Q0 v1).length) * (32 : Nat) ≤ (140737488355328 : Nat) ∧ x5.length + (List.map Q0 v1).length ≤ (9223372036854775807 : Nat)) (sh := Q0) (l := x5) (kO (sh := Q0) (x5 ++ v1) (mAA (sh := Q0) x5 v1) (nAA (sh := Q0) x5 v1) fun v2 => (kM0 (alts := UJ x0 (x33, x34)) (Q5w v2 x33 x34 (wr (x35 + 1))))))))
 (kT (nM (sh := Q0) x5) (kX (alts := UJ x0 (x33, x34)) x5 (.here _ rfl (.refl _) (.refl _))))) h))
theorem AM (x0 : Qb) (x1 : Qa) (r : List Q5) (h : Vi x0 x1 = some r) : PU 35 [Qp x0, Qm x1] (Qt r) := (S3 x0).1 x1 r h
def GL (x0 : Qb) (x1 : Qa) : Option QI :=
 KG x0 x1 >>= fun v0 =>
 Vi x0 x1 >>= fun v1 =>
 CV x1 >>= fun v2 =>
 some ((QI.mk v0 v1 v2)) >>= fun v3 =>
 some v3
theorem Oy (x0 : Qb) (x1 : Qa) (r : QI) (h : GL x0 x1 = some r) : PU 17 [Qp x0, Qm x1] (QC r) :=
 Pu2 (hs := [(7, .c Qt), (10, .c Qt), (12, .c Qm), (13, .n QC 13 none)]) ((kC (sh := Qt) (Si x0 x1) fun v0 => (kC (sh := Qt) (AM x0 x1) fun v1 => (kC (sh := Qm) (Aq x1) fun v2 => (kW (sh := QC) (QI.mk v0 v1 v2) lr fun v3 => (kEr (enc := QC) v3))))) h)
def Ki (s : Unit) (u : Unit) (o : Bool) : List Alt := jb o (fun b => [.bool b]) []
def YP (x0 : QI) (x1 : QI) : Option Int :=
 XW x0.fwrites x1.freads >>= fun v0 => if v0 then
 some (1 : Int)
 else
 XW x0.freads x1.fwrites >>= fun v1 => if v1 then
 some (2 : Int)
 else
 XW x0.fwrites x1.fwrites >>= fun v2 => if v2 then
 some () >>= fun v3 =>
 (if x0.fcore.fOp == 3 then
 if x1.fcore.fOp == 3 then
 some true
 else
 some false
 else
 some false) >>= fun v4 => if v4 then
 some (4 : Int)
 else
 some (3 : Int)
 else
 some (0 : Int)
theorem Ef (x0 : QI) (x1 : QI) (r : Int) (h : YP x0 x1 = some r) : PU 16 [QC x0, QC x1] (eI r) :=
 Pu2 (hs := [(10, .cb), (16, .cb), (22, .cb), (28, .split), (33, .split), (5000007, .l [] [] [] [24] [] (Ki ()))]) ((kCb (VL x0.fwrites x1.freads) (kEr (enc := eI) (1 : Int))
 (kCb (VL x0.freads x1.fwrites) (kEr (enc := eI) (2 : Int))
 (kCb (VL x0.fwrites x1.fwrites) (kJb (id := 5000007) () (fun v3 ev3 v4 => (kIf (c := x0.fcore.fOp == 3) (kIf (c := x1.fcore.fOp == 3) (kXj (alts := Ki ()) ev3 true (.here () rfl (.refl _) (.refl _)))
 (kXj (alts := Ki ()) ev3 false (.next (.here () rfl (.refl _) (.refl _)))))
 (kXj (alts := Ki ()) ev3 false (.next (.here () rfl (.refl _) (.refl _))))))
 (fun v3 => (kEr (enc := eI) (4 : Int)))
 (fun v3 => (kEr (enc := eI) (3 : Int))))
 (kEr (enc := eI) (0 : Int))))) h)
def CJ (x0 : Qb) (x1 : Qa) (x2 : Qa) : Option Int :=
 GL x0 x1 >>= fun v0 =>
 GL x0 x2 >>= fun v1 =>
 YP v0 v1 >>= fun v2 =>
 some v2
end Go.Proofs.YtokfigmmegifeaaGreat
end
