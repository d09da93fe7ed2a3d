/- Proved in the last of these texts: for every input of bulk at most 1048576 the law returns true and its arguments read afterwards as they read before. This text: a part of the proof. -/
import Derived.Test.YtokfigmmegifeaaGreatP5
noncomputable section
namespace Go.Proofs.YtokfigmmegifeaaGreat
open Go HY
set_option maxRecDepth 1000000
set_option linter.unusedVariables false
theorem Rr (x0 : List Int) (x3 : Int) (x4 : Int) (o : Int) (h : G6 x0 x3 x4 = some o) : LO 167 3 18 [0, 3, 4] [.sl 1 (List.map eI x0), ii x3, ii x4] [] [3] (UX x0 () o) :=
 G6.partial_correctness x0 (fun x3 x4 o => LO 167 3 18 [0, 3, 4] [.sl 1 (List.map eI x0), ii x3, ii x4] [] [3] (UX x0 () o))
 (fun G6 Q22 x3 x4 o h  =>
 Lp2 (hs := [(7, .n eI 7 none), (8, .split), (14, .e eI), (3, .n eI 3 none)]) (kb := []) (kbx := []) ((kN _ (mLen (sh := eI) x0) fun v0 => (kIfD (p := x4 < v0) (kIx (enc := eI) (l := x0) (k := x4) fun v1 => (kN (wr (x3 * v1)) rfl fun v2 => (kM0 (alts := UX x0 ()) (Q22 v2 (wr (x4 + (1 : Int)))))))
 (kX (alts := UX x0 ()) x3 (.here _ rfl (.refl _) (.refl _))))) h)) x3 x4 o h
def Ic (x0 : List Int) : Option Int :=
 some ((1 : Int) : Int) >>= fun v0 =>
 some () >>= fun v1 =>
 G6 x0 v0 (0 : Int) >>= fun v3 =>
 some v3
theorem AY (x0 : List Int) (r : Int) (h : Ic x0 = some r) : PU 167 [eLI x0] (eI r) :=
 Pu2 (hs := [(3, .n eI 3 none), (3000004, .l [] [0, 3, 4] [] [3] [] (UX x0))]) ((kN (1 : Int) rfl fun v0 => (kL1 () (Rr x0 v0 (0 : Int)) fun v1 v3 => (kEr (enc := eI) v3))) h)
def YR (s : QK) (u : Unit) (o : Unit ⊕ Int) : List Alt := [⟨fun (x : Unit) => (Sum.inl x : Unit ⊕ Int) = o, .exit 0, fun x => [.undef], fun x => []⟩, ⟨fun (x : Int) => (Sum.inr x : Unit ⊕ Int) = o, .ret, fun x => [ii x], fun x => []⟩]
def Vj (x1 : QK) (x4 : Int) : Option (Unit ⊕ Int) :=
 some (List.length x1.fVals : Int) >>= fun v0 =>
 if x4 < v0 then
 ix x1.fVals x4 >>= fun v1 =>
 Ka x1.fType v1 >>= fun v2 => if v2 then
 Vj x1 (wr (x4 + (1 : Int)))
 else
 some (.inr (1 : Int))
 else
 some (.inl ())
 partial_fixpoint
theorem I0 (x1 : QK) (x4 : Int) (o : Unit ⊕ Int) (h : Vj x1 x4 = some o) : LO 161 9 38 [1, 4] [.ptr 0 0 0, ii x4] [.cells 0 (Zg x1).cells] [2] (YR x1 () o) :=
 Vj.partial_correctness x1 (fun x4 o => LO 161 9 38 [1, 4] [.ptr 0 0 0, ii x4] [.cells 0 (Zg x1).cells] [2] (YR x1 () o))
 (fun Vj Q23 x4 o h  =>
 Lp2 (hs := [(25, .n eI 25 none), (26, .split), (34, .e Qk), (36, .cb)]) (kb := [kk 1]) (kbx := []) ((kN _ (mLen (sh := Qk) x1.fVals) fun v0 => (kIfD (p := x4 < v0) (kIx (enc := Qk) (l := x1.fVals) (k := x4) fun v1 => (kCb (Dg x1.fType v1) (kM0 (alts := YR x1 ()) (Q23 (wr (x4 + (1 : Int)))))
 (kX (alts := YR x1 ()) (.inr (1 : Int)) (.next (.here _ rfl (.refl _) (.refl _))))))
 (kX (alts := YR x1 ()) (.inl ()) (.here _ rfl (.refl _) (.refl _))))) h)) x4 o h
def NM (x0 : QK) : Option Int :=
 Xv x0.fType >>= fun v0 => if v0 then
 Ly x0.fDims >>= fun v1 =>
 if v1 != (0 : Int) then
 some v1
 else
 Ic x0.fDims >>= fun v2 =>
 some (List.length x0.fVals : Int) >>= fun v3 =>
 if v3 != v2 then
 some (1 : Int)
 else
 some () >>= fun v4 =>
 Vj x0 (0 : Int) >>= fun v5 => (match v5 with
 | (.inl v6) =>
 some (0 : Int)
 | (.inr v7) =>
 some v7)
 else
 some (10 : Int)
theorem Ex (x0 : QK) (r : Int) (h : NM x0 = some r) : PU 161 [Zg x0] (eI r) :=
 Pu2 (hs := [(7, .cb), (11, .c eI), (13, .split), (17, .n eI 17 none), (20, .c eI), (21, .split), (3000010, .l [] [1, 4] [kk 1] [2] [] (YR x0))]) ((kCb (Uc x0.fType) (kC (sh := eI) (SR x0.fDims) fun v1 => (kIf (c := v1 != (0 : Int)) (kEr (enc := eI) v1)
 (kC (sh := eI) (AY x0.fDims) fun v2 => (kN _ (mLen (sh := Qk) x0.fVals) fun v3 => (kIf (c := v3 != v2) (kEr (enc := eI) (1 : Int))
 (kL2 () (hL := (I0 x0 (0 : Int))) (hA := fun v4 v6 => (kEr (enc := eI) (0 : Int)))
 (hB := fun v4 v7 => (kEr (enc := eI) v7))))))))
 (kEr (enc := eI) (10 : Int))) h)
def GO (x0 : List XG) (x1 : Str) : Option (QK × Int) :=
 NN x0 x1 >>= fun v0 =>
 if v0.snd then
 NM v0.fst >>= fun v1 =>
 if v1 != (0 : Int) then
 some ((QK.mk (Qi.mk (0 : Int) (0 : Int) (0 : Int) (0 : Int) (0 : Int)) [] [])) >>= fun v2 =>
 some (v2, (1 : Int))
 else
 some (v0.fst, (0 : Int))
 else
 some ((QK.mk (Qi.mk (0 : Int) (0 : Int) (0 : Int) (0 : Int) (0 : Int)) [] [])) >>= fun v3 =>
 some (v3, (9 : Int))
theorem ML (x0 : List XG) (x1 : Str) (r : (QK × Int)) (h : GO x0 x1 = some r) : PU 134 [UC x0, eS x1] (J6 r) :=
 Pu2 (hs := [(11, .c DN), (14, .split), (16, .n Zg 16 none), (18, .c eI), (19, .split), (20, .n Zg 20 none)]) ((kC (sh := DN) (F4 x0 x1) fun v0 => (kIf (c := v0.snd) (kC (sh := eI) (Ex v0.fst) fun v1 => (kIf (c := v1 != (0 : Int)) (kW (sh := Zg) (QK.mk (Qi.mk (0 : Int) (0 : Int) (0 : Int) (0 : Int) (0 : Int)) [] []) (LeV.agg (.cons (LeV.refl (ii (0 : Int))) (.cons (LeV.refl (ii (0 : Int))) (.cons (LeV.refl (ii (0 : Int))) (.cons (LeV.refl (ii (0 : Int))) (.cons (LeV.refl (ii (0 : Int))) (.cons (LeV.nil 1) (.cons (LeV.nil 2) .nil)))))))) fun v2 => (kEr (enc := J6) (v2, (1 : Int))))
 (kEr (enc := J6) (v0.fst, (0 : Int)))))
 (kW (sh := Zg) (QK.mk (Qi.mk (0 : Int) (0 : Int) (0 : Int) (0 : Int) (0 : Int)) [] []) (LeV.agg (.cons (LeV.refl (ii (0 : Int))) (.cons (LeV.refl (ii (0 : Int))) (.cons (LeV.refl (ii (0 : Int))) (.cons (LeV.refl (ii (0 : Int))) (.cons (LeV.refl (ii (0 : Int))) (.cons (LeV.nil 1) (.cons (LeV.nil 2) .nil)))))))) fun v3 => (kEr (enc := J6) (v3, (9 : Int)))))) h)
def YG (s : ((List Qd) × Int × Qa)) (u : QK) (o : Int ⊕ (Int × Int)) : List Alt := [⟨fun (x : Int) => (Sum.inl x : Int ⊕ (Int × Int)) = o, .exit 0, fun x => [ii s.2.1, .undef, .undef, .ptr 0 0 0, ii x], fun x => [.cells 0 (Zg u).cells]⟩, ⟨fun (x : (Int × Int)) => (Sum.inr x : Int ⊕ (Int × Int)) = o, .ret, fun x => [ii s.2.1, ii x.1, ii x.2, .ptr 0 0 0, .undef], fun x => [.cells 0 (Zg u).cells]⟩]
def VQ (s : ((List Qd) × Int × Qa × QK)) (u : (Int × Int × Int)) (o : Bool) : List Alt := jb o (fun b => [.sl 2 (List.map Qe (s.1)), ii (s.2.1), .ptr 0 0 0, .ptr 1 0 0, ii (u.1), ii (u.2.1), ii (u.2.2), .bool b]) [.cells 0 (Q4 (s.2.2.1)).cells, .cells 0 (Zg (s.2.2.2)).cells]
def JY (x1 : List Qd) (x6 : Qa) (x10 : QK) (x12 : Int) (x13 : Int) : Option (Int ⊕ (Int × Int)) :=
 some (List.length x6.fAt : Int) >>= fun v0 =>
 if x13 < v0 then
 ix x6.fAt x13 >>= fun v1 =>
 GM v1 x1 >>= fun v2 =>
 if v2.snd != (0 : Int) then
 some (.inr ((0 : Int), v2.snd))
 else
 some (x12, x13, v2.fst) >>= fun v3 =>
 (if v2.fst < (0 : Int) then
 some true
 else
 ix x10.fDims x13 >>= fun v5 =>
 if v5 ≤ v2.fst then
 some true
 else
 some false) >>= fun v4 => if v4 then
 some (.inr ((0 : Int), (12 : Int)))
 else
 ix x10.fDims v3.snd.fst >>= fun v8 =>
 some (wr (wr (v3.fst * v8) + v3.snd.snd) : Int) >>= fun v9 =>
 JY x1 x6 x10 v9 (wr (v3.snd.fst + (1 : Int)))
 else
 some (.inl x12)
 partial_fixpoint
theorem HJ (x1 : List Qd) (x3 : Int) (x6 : Qa) (x10 : QK) (x12 : Int) (x13 : Int) (o : Int ⊕ (Int × Int)) (h : JY x1 x6 x10 x12 x13 = some o) : LO 162 12 96 [1, 3, 6, 10, 12, 13] [.sl 2 (List.map Qe x1), ii x3, .ptr 0 0 0, .ptr 1 0 0, ii x12, ii x13] [.cells 0 (Q4 x6).cells, .cells 0 (Zg x10).cells] [3, 8, 9, 10, 12] (YG (x1, x3, x6) x10 o) :=
 JY.partial_correctness x1 x6 x10 (fun x12 x13 o => ∀ (x3 : Int), LO 162 12 96 [1, 3, 6, 10, 12, 13] [.sl 2 (List.map Qe x1), ii x3, .ptr 0 0 0, .ptr 1 0 0, ii x12, ii x13] [.cells 0 (Q4 x6).cells, .cells 0 (Zg x10).cells] [3, 8, 9, 10, 12] (YG (x1, x3, x6) x10 o))
 (fun JY Q2w x12 x13 o h x3 =>
 Lp2 (hs := [(49, .n eI 49 none), (50, .split), (57, .e Qj), (60, .c Xb), (64, .split), (67, .split), (73, .e eI), (75, .split), (81, .e eI), (12, .n eI 12 none), (5000017, .l [] [] [] [1, 3, 6, 10, 12, 13, 14, 76] [kk 6, kk 10] (VQ (x1, x3, x6, x10)))]) (kb := [kk 6, kk 10]) (kbx := [kk 10]) ((kN _ (mLen (sh := Qj) x6.fAt) fun v0 => (kIfD (p := x13 < v0) (kIx (enc := Qj) (l := x6.fAt) (k := x13) fun v1 => (kC (sh := Xb) (NO v1 x1) fun v2 => (kIf (c := v2.snd != (0 : Int)) (kX (alts := YG (x1, x3, x6) x10) (.inr ((0 : Int), v2.snd)) (.next (.here _ rfl (.cons (LeV.refl (ii x3)) (.cons (LeV.refl (ii (0 : Int))) (.cons (LeV.refl (ii v2.snd)) (.cons (LeV.refl (AV.ptr (0 : Nat) (0 : Nat) (0 : Nat))) (.cons (LeV.undef (ii x12)) .nil))))) (.refl _))))
 (kJb (id := 5000017) (x12, x13, v2.fst) (fun v3 ev3 v4 => (kIfD (p := v2.fst < (0 : Int)) (kXj (alts := VQ (x1, x3, x6, x10)) ev3 true (.here () rfl (.refl _) (.refl _)))
 (kIx (enc := eI) (l := x10.fDims) (k := x13) fun v5 => (kIfD (p := v5 ≤ v2.fst) (kXj (alts := VQ (x1, x3, x6, x10)) ev3 true (.here () rfl (.refl _) (.refl _)))
 (kXj (alts := VQ (x1, x3, x6, x10)) ev3 false (.next (.here () rfl (.refl _) (.refl _))))))))
 (fun v3 => (kX (alts := YG (x1, x3, x6) x10) (.inr ((0 : Int), (12 : Int))) (.next (.here _ rfl (.cons (LeV.refl (ii x3)) (.cons (LeV.refl (ii (0 : Int))) (.cons (LeV.refl (ii (12 : Int))) (.cons (LeV.refl (AV.ptr (0 : Nat) (0 : Nat) (0 : Nat))) (.cons (LeV.undef (ii v3.fst)) .nil))))) (.refl _)))))
 (fun v3 => (kIx (enc := eI) (l := x10.fDims) (k := v3.snd.fst) fun v8 => (kN (wr (wr (v3.fst * v8) + v3.snd.snd)) rfl fun v9 => (kM0 (alts := YG (x1, x3, x6) x10) (fun y hy => Q2w v9 (wr (v3.snd.fst + (1 : Int))) y hy x3)))))))))
 (kX (alts := YG (x1, x3, x6) x10) (.inl x12) (.here _ rfl (.refl _) (.refl _))))) h)) x12 x13 o h x3
def LA (x0 : List XG) (x1 : List Qd) (x2 : Qa) (x3 : Int) : Option (Int × Int) :=
 if x2.fFrom == [] then
 GM x2.fLin x1 >>= fun v0 =>
 some (v0.fst, v0.snd)
 else
 GO x0 x2.fFrom >>= fun v1 =>
 if v1.snd != (0 : Int) then
 some ((0 : Int), v1.snd)
 else
 if v1.fst.fType.fKind != (3 : Int) then
 some ((0 : Int), (10 : Int))
 else
 some (List.length x2.fAt : Int) >>= fun v2 =>
 some (List.length v1.fst.fDims : Int) >>= fun v3 =>
 if v2 != v3 then
 some ((0 : Int), (11 : Int))
 else
 some ((0 : Int) : Int) >>= fun v4 =>
 some v1.fst >>= fun v5 =>
 JY x1 x2 v1.fst v4 (0 : Int) >>= fun v6 => (match v6 with
 | (.inl v7) =>
 ix v5.fVals v7 >>= fun v8 =>
 some ((if true = true then max (0 : Int) (if false = true then max (wr (x3 - (1 : Int))) v8.fN else min (wr (x3 - (1 : Int))) v8.fN) else min (0 : Int) (if false = true then max (wr (x3 - (1 : Int))) v8.fN else min (wr (x3 - (1 : Int))) v8.fN)), (0 : Int))
 | (.inr v9) =>
 some (v9.fst, v9.snd))
theorem A1 (x0 : List XG) (x1 : List Qd) (x2 : Qa) (x3 : Int) (r : (Int × Int)) (h : LA x0 x1 x2 x3 = some r) : PU 162 [UC x0, QP x1, Q4 x2, eI x3] (Xb r) :=
 Pu2 (hs := [(18, .split), (22, .c Xb), (29, .c J6), (33, .split), (38, .split), (41, .n eI 41 none), (44, .n eI 44 none), (45, .split), (12, .n eI 12 none), (91, .e Qk), (3000013, .l [] [1, 3, 6, 10, 12, 13] [kk 6, kk 10] [3, 8, 9, 10, 12] [kk 10] (YG (x1, x3, x2)))]) ((kIf (c := x2.fFrom == []) (kC (sh := Xb) (NO x2.fLin x1) fun v0 => (kEr (enc := Xb) (v0.fst, v0.snd)))
 (kC (sh := J6) (ML x0 x2.fFrom) fun v1 => (kIf (c := v1.snd != (0 : Int)) (kEr (enc := Xb) ((0 : Int), v1.snd))
 (kIf (c := v1.fst.fType.fKind != (3 : Int)) (kEr (enc := Xb) ((0 : Int), (10 : Int)))
 (kN _ (mLen (sh := Qj) x2.fAt) fun v2 => (kN _ (mLen (sh := eI) v1.fst.fDims) fun v3 => (kIf (c := v2 != v3) (kEr (enc := Xb) ((0 : Int), (11 : Int)))
 (kN (0 : Int) rfl fun v4 => (kL2 v1.fst (hL := (HJ x1 x3 x2 v1.fst v4 (0 : Int))) (hA := fun v5 v7 => (kIx (enc := Qk) (l := v5.fVals) (k := v7) fun v8 => (kEr (enc := Xb) ((if true = true then max (0 : Int) (if false = true then max (wr (x3 - (1 : Int))) v8.fN else min (wr (x3 - (1 : Int))) v8.fN) else min (0 : Int) (if false = true then max (wr (x3 - (1 : Int))) v8.fN else min (wr (x3 - (1 : Int))) v8.fN)), (0 : Int)))))
 (hB := fun v5 v9 => (kEr (enc := Xb) (v9.fst, v9.snd)))))))))))) h)
def Kd (s : ((List XG) × (List Qd) × (List Qa) × QK)) (u : Unit) (o : Int ⊕ (Int × Int)) : List Alt := [⟨fun (x : Int) => (Sum.inl x : Int ⊕ (Int × Int)) = o, .exit 0, fun x => [.undef, .undef, ii x], fun x => []⟩, ⟨fun (x : (Int × Int)) => (Sum.inr x : Int ⊕ (Int × Int)) = o, .ret, fun x => [ii x.1, ii x.2, .undef], fun x => []⟩]
def VP (s : ((List XG) × (List Qd) × (List Qa) × QK)) (u : (Int × Int × Int)) (o : Bool) : List Alt := jb o (fun b => [.sl 8 (List.map VD (s.1)), .sl 2 (List.map Qe (s.2.1)), .sl 4 (List.map Q4 (s.2.2.1)), .ptr 0 0 0, ii (u.1), ii (u.2.1), ii (u.2.2), .bool b]) [.cells 0 (Zg (s.2.2.2)).cells]
def UA (x0 : List XG) (x1 : List Qd) (x3 : List Qa) (x6 : QK) (x10 : Int) (x11 : Int) : Option (Int ⊕ (Int × Int)) :=
 some (List.length x3 : Int) >>= fun v0 =>
 if x11 < v0 then
 ix x3 x11 >>= fun v1 =>
 ix x6.fDims x11 >>= fun v2 =>
 LA x0 x1 v1 v2 >>= fun v3 =>
 if v3.snd != (0 : Int) then
 some (.inr ((0 : Int), v3.snd))
 else
 some (x10, x11, v3.fst) >>= fun v4 =>
 (if v3.fst < (0 : Int) then
 some true
 else
 ix x6.fDims x11 >>= fun v6 =>
 if v6 ≤ v3.fst then
 some true
 else
 some false) >>= fun v5 => if v5 then
 some (.inr ((0 : Int), (12 : Int)))
 else
 ix x6.fDims v4.snd.fst >>= fun v9 =>
 some (wr (wr (v4.fst * v9) + v4.snd.snd) : Int) >>= fun v10 =>
 UA x0 x1 x3 x6 v10 (wr (v4.snd.fst + (1 : Int)))
 else
 some (.inl x10)
 partial_fixpoint
theorem ED (x0 : List XG) (x1 : List Qd) (x3 : List Qa) (x6 : QK) (x10 : Int) (x11 : Int) (o : Int ⊕ (Int × Int)) (h : UA x0 x1 x3 x6 x10 x11 = some o) : LO 135 5 65 [0, 1, 3, 6, 10, 11] [.sl 8 (List.map VD x0), .sl 2 (List.map Qe x1), .sl 4 (List.map Q4 x3), .ptr 0 0 0, ii x10, ii x11] [.cells 0 (Zg x6).cells] [8, 9, 10] (Kd (x0, x1, x3, x6) () o) :=
 UA.partial_correctness x0 x1 x3 x6 (fun x10 x11 o => LO 135 5 65 [0, 1, 3, 6, 10, 11] [.sl 8 (List.map VD x0), .sl 2 (List.map Qe x1), .sl 4 (List.map Q4 x3), .ptr 0 0 0, ii x10, ii x11] [.cells 0 (Zg x6).cells] [8, 9, 10] (Kd (x0, x1, x3, x6) () o))
 (fun UA Q2u x10 x11 o h  =>
 Lp2 (hs := [(22, .n eI 22 none), (23, .split), (31, .e Q4), (36, .e eI), (38, .c Xb), (42, .split), (45, .split), (51, .e eI), (53, .split), (59, .e eI), (10, .n eI 10 none), (5000010, .l [] [] [] [0, 1, 3, 6, 10, 11, 12, 54] [kk 6] (VP (x0, x1, x3, x6)))]) (kb := [kk 6]) (kbx := []) ((kN _ (mLen (sh := Q4) x3) fun v0 => (kIfD (p := x11 < v0) (kIx (enc := Q4) (l := x3) (k := x11) fun v1 => (kIx (enc := eI) (l := x6.fDims) (k := x11) fun v2 => (kC (sh := Xb) (A1 x0 x1 v1 v2) fun v3 => (kIf (c := v3.snd != (0 : Int)) (kX (alts := Kd (x0, x1, x3, x6) ()) (.inr ((0 : Int), v3.snd)) (.next (.here _ rfl (.cons (LeV.refl (ii (0 : Int))) (.cons (LeV.refl (ii v3.snd)) (.cons (LeV.undef (ii x10)) .nil))) (.refl _))))
 (kJb (id := 5000010) (x10, x11, v3.fst) (fun v4 ev4 v5 => (kIfD (p := v3.fst < (0 : Int)) (kXj (alts := VP (x0, x1, x3, x6)) ev4 true (.here () rfl (.refl _) (.refl _)))
 (kIx (enc := eI) (l := x6.fDims) (k := x11) fun v6 => (kIfD (p := v6 ≤ v3.fst) (kXj (alts := VP (x0, x1, x3, x6)) ev4 true (.here () rfl (.refl _) (.refl _)))
 (kXj (alts := VP (x0, x1, x3, x6)) ev4 false (.next (.here () rfl (.refl _) (.refl _))))))))
 (fun v4 => (kX (alts := Kd (x0, x1, x3, x6) ()) (.inr ((0 : Int), (12 : Int))) (.next (.here _ rfl (.cons (LeV.refl (ii (0 : Int))) (.cons (LeV.refl (ii (12 : Int))) (.cons (LeV.undef (ii v4.fst)) .nil))) (.refl _)))))
 (fun v4 => (kIx (enc := eI) (l := x6.fDims) (k := v4.snd.fst) fun v9 => (kN (wr (wr (v4.fst * v9) + v4.snd.snd)) rfl fun v10 => (kM0 (alts := Kd (x0, x1, x3, x6) ()) (Q2u v10 (wr (v4.snd.fst + (1 : Int)))))))))))))
 (kX (alts := Kd (x0, x1, x3, x6) ()) (.inl x10) (.here _ rfl (.refl _) (.refl _))))) h)) x10 x11 o h
def Lz (x0 : List XG) (x1 : List Qd) (x2 : QK) (x3 : List Qa) : Option (Int × Int) :=
 some (List.length x3 : Int) >>= fun v0 =>
 some (List.length x2.fDims : Int) >>= fun v1 =>
 if v0 != v1 then
 some ((0 : Int), (11 : Int))
 else
 some ((0 : Int) : Int) >>= fun v2 =>
 some () >>= fun v3 =>
 UA x0 x1 x3 x2 v2 (0 : Int) >>= fun v4 => (match v4 with
 | (.inl v5) =>
 some (v5, (0 : Int))
 | (.inr v6) =>
 some (v6.fst, v6.snd))
theorem A0 (x0 : List XG) (x1 : List Qd) (x2 : QK) (x3 : List Qa) (r : (Int × Int)) (h : Lz x0 x1 x2 x3 = some r) : PU 135 [UC x0, QP x1, Zg x2, Gq x3] (Xb r) :=
 Pu2 (hs := [(15, .n eI 15 none), (18, .n eI 18 none), (19, .split), (10, .n eI 10 none), (3000006, .l [] [0, 1, 3, 6, 10, 11] [kk 6] [8, 9, 10] [] (Kd (x0, x1, x3, x2)))]) ((kN _ (mLen (sh := Q4) x3) fun v0 => (kN _ (mLen (sh := eI) x2.fDims) fun v1 => (kIf (c := v0 != v1) (kEr (enc := Xb) ((0 : Int), (11 : Int)))
 (kN (0 : Int) rfl fun v2 => (kL2 () (hL := (ED x0 x1 x3 x2 v2 (0 : Int))) (hA := fun v3 v5 => (kEr (enc := Xb) (v5, (0 : Int))))
 (hB := fun v3 v6 => (kEr (enc := Xb) (v6.fst, v6.snd)))))))) h)
def Kj (s : Unit) (u : (Qz × Int × Int)) (o : Bool) : List Alt := jb o (fun b => [.ptr 0 0 0, ii (u.2.1), ii (u.2.2), .bool b]) [.cells 0 (Qt (u.1)).cells]
def GI (s : Unit) (u : (Qz × Int)) (o : Int) : List Alt := [⟨fun (x : Int) => x = o, .normal, fun x => [.ptr 0 0 0, ii (u.2), ii x], fun x => [.cells 0 (Qt (u.1)).cells]⟩]
def W3 (x0 : List XG) (x1 : List Qd) (x2 : Q2) : Option Qz :=
 if x2.fOp == (1 : Int) then
 some ((Qz.mk x2.fVal x2.fType (0 : Int))) >>= fun v0 =>
 some v0
 else
 if x2.fOp == (2 : Int) then
 GM x2.fLin x1 >>= fun v1 =>
 some (((Qz.mk (gVal.mk (0 : Int) (0 : Int)) (Qi.mk (0 : Int) (0 : Int) (0 : Int) (0 : Int) (0 : Int)) (0 : Int))), v1.fst) >>= fun v2 =>
 (some ((Qz.mk (gVal.mk (0 : Int) (0 : Int)) (Qi.mk (0 : Int) (0 : Int) (0 : Int) (0 : Int) (0 : Int)) (0 : Int)), v1.fst, v1.snd) >>= fun v4 =>
 (if v1.snd == (0 : Int) then
 if (2147483647 : Int) < v1.fst then
 some true
 else
 if v1.fst < (-2147483647 : Int) then
 some true
 else
 some false
 else
 some false) >>= fun v5 => if v5 then
 some (3 : Int)
 else
 some v4.snd.snd) >>= fun v8 =>
 if v8 != (0 : Int) then
 some ((Qz.mk (gVal.mk (0 : Int) (0 : Int)) (Qi.mk (0 : Int) (0 : Int) (0 : Int) (0 : Int) (0 : Int)) v8)) >>= fun v9 =>
 some v9
 else
 some ((gVal.mk v2.snd (1 : Int))) >>= fun v10 =>
 some ((Qi.mk (3 : Int) (0 : Int) (0 : Int) (0 : Int) (0 : Int))) >>= fun v11 =>
 some ((Qz.mk v10 v11 (0 : Int))) >>= fun v12 =>
 some v12
 else
 GO x0 x2.fName >>= fun v13 =>
 if v13.snd != (0 : Int) then
 some ((Qz.mk (gVal.mk (0 : Int) (0 : Int)) (Qi.mk (0 : Int) (0 : Int) (0 : Int) (0 : Int) (0 : Int)) v13.snd)) >>= fun v14 =>
 some v14
 else
 Lz x0 x1 v13.fst x2.fIdx >>= fun v15 =>
 if v15.snd != (0 : Int) then
 some ((Qz.mk (gVal.mk (0 : Int) (0 : Int)) (Qi.mk (0 : Int) (0 : Int) (0 : Int) (0 : Int) (0 : Int)) v15.snd)) >>= fun v16 =>
 some v16
 else
 ix v13.fst.fVals v15.fst >>= fun v17 =>
 some ((Qz.mk v17 v13.fst.fType (0 : Int))) >>= fun v18 =>
 some v18
theorem F5 (x0 : List XG) (x1 : List Qd) (x2 : Q2) (r : Qz) (h : W3 x0 x1 x2 = some r) : PU 120 [UC x0, QP x1, Q8 x2] (Qt r) :=
 Pu2 (hs := [(16, .split), (21, .n Qt 21 none), (23, .split), (28, .c Xb), (32, .split), (35, .split), (38, .split), (42, .split), (44, .n Qt 44 none), (46, .n Qk 46 none), (47, .n Qy 47 none), (48, .n Qt 48 none), (53, .c J6), (57, .split), (59, .n Qt 59 none), (66, .c Xb), (70, .split), (72, .n Qt 72 none), (76, .e Qk), (80, .n Qt 80 none), (5000006, .l [] [] [] [6, 7, 8, 40] [kk 6] (Kj ())), (6000008, .l [] [] [] [6, 7, 8] [kk 6] (GI ()))]) ((kIf (c := x2.fOp == (1 : Int)) (kW (sh := Qt) (Qz.mk x2.fVal x2.fType (0 : Int)) lr fun v0 => (kEr (enc := Qt) v0))
 (kIf (c := x2.fOp == (2 : Int)) (kC (sh := Xb) (NO x2.fLin x1) fun v1 => (kJ1 (id := 6000008) (((Qz.mk (gVal.mk (0 : Int) (0 : Int)) (Qi.mk (0 : Int) (0 : Int) (0 : Int) (0 : Int) (0 : Int)) (0 : Int))), v1.fst) (fun v2 ev2 v3 => (kJbE (id := 5000006) ((Qz.mk (gVal.mk (0 : Int) (0 : Int)) (Qi.mk (0 : Int) (0 : Int) (0 : Int) (0 : Int) (0 : Int)) (0 : Int)), v1.fst, v1.snd) (fun v4 ev4 v5 => (kIf (c := v1.snd == (0 : Int)) (kIfD (p := (2147483647 : Int) < v1.fst) (kXj (alts := Kj ()) ev4 true (.here () rfl (.refl _) (.refl _)))
 (kIfD (p := v1.fst < (-2147483647 : Int)) (kXj (alts := Kj ()) ev4 true (.here () rfl (.refl _) (.refl _)))
 (kXj (alts := Kj ()) ev4 false (.next (.here () rfl (.refl _) (.refl _))))))
 (kXj (alts := Kj ()) ev4 false (.next (.here () rfl (.refl _) (.refl _))))))
 (fun v4 ev4 => (kXj (alts := GI ()) (u0 := (v4.fst, v4.snd.fst)) (by subst ev4; exact ev2) (3 : Int) (.here _ rfl (.refl _) (.refl _))))
 (fun v4 ev4 => (kXj (alts := GI ()) (u0 := (v4.fst, v4.snd.fst)) (by subst ev4; exact ev2) v4.snd.snd (.here _ rfl (.refl _) (.refl _))))))
 (fun v2 v8 => (kIf (c := v8 != (0 : Int)) (kW (sh := Qt) (Qz.mk (gVal.mk (0 : Int) (0 : Int)) (Qi.mk (0 : Int) (0 : Int) (0 : Int) (0 : Int) (0 : Int)) v8) lr fun v9 => (kEr (enc := Qt) v9))
 (kW (sh := Qk) (gVal.mk v2.snd (1 : Int)) lr fun v10 => (kW (sh := Qy) (Qi.mk (3 : Int) (0 : Int) (0 : Int) (0 : Int) (0 : Int)) lr fun v11 => (kW (sh := Qt) (Qz.mk v10 v11 (0 : Int)) lr fun v12 => (kEr (enc := Qt) v12))))))))
 (kC (sh := J6) (ML x0 x2.fName) fun v13 => (kIf (c := v13.snd != (0 : Int)) (kW (sh := Qt) (Qz.mk (gVal.mk (0 : Int) (0 : Int)) (Qi.mk (0 : Int) (0 : Int) (0 : Int) (0 : Int) (0 : Int)) v13.snd) lr fun v14 => (kEr (enc := Qt) v14))
 (kC (sh := Xb) (A0 x0 x1 v13.fst x2.fIdx) fun v15 => (kIf (c := v15.snd != (0 : Int)) (kW (sh := Qt) (Qz.mk (gVal.mk (0 : Int) (0 : Int)) (Qi.mk (0 : Int) (0 : Int) (0 : Int) (0 : Int) (0 : Int)) v15.snd) lr fun v16 => (kEr (enc := Qt) v16))
 (kIx (enc := Qk) (l := v13.fst.fVals) (k := v15.fst) fun v17 => (kW (sh := Qt) (Qz.mk v17 v13.fst.fType (0 : Int)) lr fun v18 => (kEr (enc := Qt) v18))))))))) h)
def Uv (x0 : Qi) : Option Int :=
 if (0 : Int) ≤ w6 x0.fFrac then
 some (wr ((1 : Int) * (2 : Int) ^ min (w6 x0.fFrac).toNat (64 : Nat)))
 else none
theorem W8 (x0 : Qi) (r : Int) (h : Uv x0 = some r) : PU 140 [Qy x0] (eI r) :=
 Pu2 (hs := [(6, .s)]) ((kG (p := (0 : Int) ≤ w6 x0.fFrac) (kEr (enc := eI) (wr ((1 : Int) * (2 : Int) ^ min (w6 x0.fFrac).toNat (64 : Nat))))) h)
def DI (x0 : Int) : Option Int :=
 if x0 < (0 : Int) then
 some (w6 (w6 (wr ((0 : Int) - wr (x0 + (1 : Int)))) + (1 : Int)))
 else
 some (w6 x0)
theorem Ig (x0 : Int) (r : Int) (h : DI x0 = some r) : PU 169 [eI x0] (eU64 r) :=
 Pu2 (hs := [(4, .split)]) ((kIfD (p := x0 < (0 : Int)) (kEr (enc := eU64) (w6 (w6 (wr ((0 : Int) - wr (x0 + (1 : Int)))) + (1 : Int))))
 (kEr (enc := eU64) (w6 x0))) h)
def GB (s : Unit) (u : Unit) (o : Int) : List Alt := [⟨fun (x : Int) => x = o, .exit 0, fun x => [.int .u64 x], fun x => []⟩]
def Vw (x0 : Int) (x1 : Int) : Option Int :=
 if x1 != (0 : Int) then
 if x1 ≠ (0 : Int) then
 some (x0.tmod x1 : Int) >>= fun v0 =>
 Vw x1 v0
 else none
 else
 some x0
 partial_fixpoint
theorem Tw (x0 : Int) (x1 : Int) (o : Int) (h : Vw x0 x1 = some o) : LO 171 1 12 [0, 1] [.int .u64 x0, .int .u64 x1] [] [0] (GB () () o) :=
 Vw.partial_correctness  (fun x0 x1 o => LO 171 1 12 [0, 1] [.int .u64 x0, .int .u64 x1] [] [0] (GB () () o))
 (fun Vw Q1v x0 x1 o h  =>
 Lp2 (hs := [(6, .split), (10, .s), (1, .n eU64 1 none)]) (kb := []) (kbx := []) ((kIf (c := x1 != (0 : Int)) (kG (p := x1 ≠ (0 : Int)) (kN (x0.tmod x1) rfl fun v0 => (kM0 (alts := GB () ()) (Q1v x1 v0))))
 (kX (alts := GB () ()) x0 (.here _ rfl (.refl _) (.refl _)))) h)) x0 x1 o h
def WP (x0 : Int) (x1 : Int) : Option Int :=
 some () >>= fun v0 =>
 Vw x0 x1 >>= fun v2 =>
 some v2
theorem PQ (x0 : Int) (x1 : Int) (r : Int) (h : WP x0 x1 = some r) : PU 171 [eU64 x0, eU64 x1] (eU64 r) :=
 Pu2 (hs := [(3000002, .l [] [0, 1] [] [0] [] (GB ()))]) ((kL1 () (Tw x0 x1) fun v0 v2 => (kEr (enc := eU64) v2)) h)
def Je (s : Bool) (u : (Int × Int × gVal)) (o : Bool) : List Alt := jb o (fun b => [.bool s, .int .u64 (u.1), .int .u64 (u.2.1), .ptr 0 0 0, .bool b]) [.cells 0 (Qk (u.2.2)).cells]
def CW (x0 : Bool) (x1 : Int) (x2 : Int) : Option (gVal × Int) :=
 WP x1 x2 >>= fun v0 =>
 if v0 ≠ (0 : Int) then
 some (w6 (x1.tdiv v0) : Int) >>= fun v1 =>
 if v0 ≠ (0 : Int) then
 some (w6 (x2.tdiv v0) : Int) >>= fun v2 =>
 some (v1, v2, (gVal.mk (0 : Int) (0 : Int))) >>= fun v3 =>
 (if (2147483647 : Int) < v1 then
 some true
 else
 if (2147483647 : Int) < v2 then
 some true
 else
 some false) >>= fun v4 => if v4 then
 some ((gVal.mk (0 : Int) (0 : Int))) >>= fun v6 =>
 some (v6, (3 : Int))
 else
 if x0 then
 some ((gVal.mk (wr ((0 : Int) - wr v3.fst)) (wr v3.snd.fst))) >>= fun v8 =>
 some (v8, (0 : Int))
 else
 some ((gVal.mk (wr v3.fst) (wr v3.snd.fst))) >>= fun v9 =>
 some (v9, (0 : Int))
 else none
 else none
theorem AT (x0 : Bool) (x1 : Int) (x2 : Int) (r : (gVal × Int)) (h : CW x0 x1 x2 = some r) : PU 168 [eB x0, eU64 x1, eU64 x2] (Qp r) :=
 Pu2 (hs := [(11, .c eU64), (14, .s), (1, .n eU64 1 none), (17, .s), (2, .n eU64 2 none), (19, .split), (22, .split), (24, .n Qk 24 none), (25, .split), (31, .n Qk 31 none), (36, .n Qk 36 none), (5000004, .l [] [] [] [0, 1, 2, 6, 23] [kk 6] (Je x0))]) ((kC (sh := eU64) (PQ x1 x2) fun v0 => (kG (p := v0 ≠ (0 : Int)) (kN (w6 (x1.tdiv v0)) rfl fun v1 => (kG (p := v0 ≠ (0 : Int)) (kN (w6 (x2.tdiv v0)) rfl fun v2 => (kJb (id := 5000004) (v1, v2, (gVal.mk (0 : Int) (0 : Int))) (fun v3 ev3 v4 => (kIfD (p := (2147483647 : Int) < v1) (kXj (alts := Je x0) ev3 true (.here () rfl (.refl _) (.refl _)))
 (kIfD (p := (2147483647 : Int) < v2) (kXj (alts := Je x0) ev3 true (.here () rfl (.refl _) (.refl _)))
 (kXj (alts := Je x0) ev3 false (.next (.here () rfl (.refl _) (.refl _)))))))
 (fun v3 => (kW (sh := Qk) (gVal.mk (0 : Int) (0 : Int)) lr fun v6 => (kEr (enc := Qp) (v6, (3 : Int)))))
 (fun v3 => (kIf (c := x0) (kW (sh := Qk) (gVal.mk (wr ((0 : Int) - wr v3.fst)) (wr v3.snd.fst)) lr fun v8 => (kEr (enc := Qp) (v8, (0 : Int))))
 (kW (sh := Qk) (gVal.mk (wr v3.fst) (wr v3.snd.fst)) lr fun v9 => (kEr (enc := Qp) (v9, (0 : Int)))))))))))) h)
def Ub (x0 : Int) (x1 : Int) : Option (gVal × Int) :=
 if x1 == (0 : Int) then
 some ((gVal.mk (0 : Int) (0 : Int))) >>= fun v0 =>
 some (v0, (4 : Int))
 else
 DI x0 >>= fun v1 =>
 DI x1 >>= fun v2 =>
 CW (!decide (x0 < (0 : Int)) == decide (x1 < (0 : Int))) v1 v2 >>= fun v3 =>
 some (v3.fst, v3.snd)
theorem Cm (x0 : Int) (x1 : Int) (r : (gVal × Int)) (h : Ub x0 x1 = some r) : PU 163 [eI x0, eI x1] (Qp r) :=
 Pu2 (hs := [(7, .split), (8, .n Qk 8 none), (15, .c eU64), (17, .c eU64), (18, .c Qp)]) ((kIf (c := x1 == (0 : Int)) (kW (sh := Qk) (gVal.mk (0 : Int) (0 : Int)) lr fun v0 => (kEr (enc := Qp) (v0, (4 : Int))))
 (kC (sh := eU64) (Ig x0) fun v1 => (kC (sh := eU64) (Ig x1) fun v2 => (kC (sh := Qp) (AT (!decide (x0 < (0 : Int)) == decide (x1 < (0 : Int))) v1 v2) fun v3 => (kEr (enc := Qp) (v3.fst, v3.snd)))))) h)
def Gi (s : Unit) (u : gVal) (o : gVal) : List Alt := [⟨fun (x : gVal) => x = o, .normal, fun x => [.ptr 0 0 0, .ptr 1 0 0], fun x => [.cells 0 (Qk x).cells, .cells 0 (Qk u).cells]⟩]
def Cy (x0 : Qi) (x1 : gVal) : Option gVal :=
 some (gVal.mk (0 : Int) (0 : Int)) >>= fun v0 =>
 (if x0.fKind == (2 : Int) then
 Uv x0 >>= fun v2 =>
 Ub x1.fN v2 >>= fun v3 =>
 some v3.fst
 else
 some x1) >>= fun v4 =>
 some v4
theorem SP (x0 : Qi) (x1 : gVal) (r : gVal) (h : Cy x0 x1 = some r) : PU 136 [Qy x0, Qk x1] (Qk r) :=
 Pu2 (hs := [(7, .split), (12, .c eI), (13, .c Qp), (6000003, .l [] [] [] [3, 4] [kk 3, kk 4] (Gi ()))]) ((kJ1 (id := 6000003) (gVal.mk (0 : Int) (0 : Int)) (fun v0 ev0 v1 => (kIf (c := x0.fKind == (2 : Int)) (kC (sh := eI) (W8 x0) fun v2 => (kC (sh := Qp) (Cm x1.fN v2) fun v3 => (kXj (alts := Gi ()) ev0 v3.fst (.here _ rfl (.refl _) (.refl _)))))
 (kXj (alts := Gi ()) ev0 x1 (.here _ rfl (.refl _) (.refl _)))))
 (fun v0 v4 => (kEr (enc := Qk) v4))) h)
def JM (x0 : Int) (x1 : Int) : Option Int :=
 if x1 ≠ (0 : Int) then
 some (wr (x0.tdiv x1) : Int) >>= fun v0 =>
 if x0 < wr (v0 * x1) then
 some (wr (v0 - (1 : Int)))
 else
 some v0
 else none
theorem CI (x0 : Int) (x1 : Int) (r : Int) (h : JM x0 x1 = some r) : PU 137 [eI x0, eI x1] (eI r) :=
 Pu2 (hs := [(8, .s), (5, .n eI 5 none), (13, .split)]) ((kG (p := x1 ≠ (0 : Int)) (kN (wr (x0.tdiv x1)) rfl fun v0 => (kIfD (p := x0 < wr (v0 * x1)) (kEr (enc := eI) (wr (v0 - (1 : Int))))
 (kEr (enc := eI) v0)))) h)
def VJ (s : (Int × Int × Int)) (u : (Int × Int)) (o : Bool) : List Alt := jb o (fun b => [ii (s.1), ii (s.2.1), ii (s.2.2), ii (u.1), ii (u.2), .bool b]) []
def YX (s : Unit) (u : Int) (o : Bool) : List Alt := jb o (fun b => [ii u, .bool b]) []
def UN (x0 : Int) (x1 : Int) (x2 : Int) : Option Int :=
 JM x0 x1 >>= fun v0 =>
 some (wr (x0 - wr (v0 * x1)) : Int) >>= fun v1 =>
 some (v0, v1) >>= fun v2 =>
 (if v1 == (0 : Int) then
 some true
 else
 if x2 == (1 : Int) then
 some true
 else
 some false) >>= fun v3 => if v3 then
 some v2.fst
 else
 if x2 == (2 : Int) then
 some (wr (v2.fst + (1 : Int)))
 else
 if x2 == (3 : Int) then
 if x0 < (0 : Int) then
 some (wr (v2.fst + (1 : Int)))
 else
 some v2.fst
 else
 some v2.fst >>= fun v6 =>
 (if wr (x1 - v2.snd) < v2.snd then
 some true
 else
 if v2.snd == wr (x1 - v2.snd) then
 if (2 : Int) ≠ (0 : Int) then
 if v2.fst.tmod (2 : Int) != (0 : Int) then
 some true
 else
 some false
 else none
 else
 some false) >>= fun v7 => if v7 then
 some (wr (v6 + (1 : Int)))
 else
 some v6
theorem Ng (x0 : Int) (x1 : Int) (x2 : Int) (r : Int) (h : UN x0 x1 x2 = some r) : PU 139 [eI x0, eI x1, eI x2] (eI r) :=
 Pu2 (hs := [(11, .c eI), (8, .n eI 8 none), (18, .split), (21, .split), (25, .split), (29, .split), (31, .split), (39, .split), (45, .split), (48, .s), (49, .split), (5000003, .l [] [] [] [0, 1, 2, 7, 8, 22] [] (VJ (x0, x1, x2))), (5000011, .l [] [] [] [7, 51] [] (YX ()))]) ((kC (sh := eI) (CI x0 x1) fun v0 => (kN (wr (x0 - wr (v0 * x1))) rfl fun v1 => (kJb (id := 5000003) (v0, v1) (fun v2 ev2 v3 => (kIf (c := v1 == (0 : Int)) (kXj (alts := VJ (x0, x1, x2)) ev2 true (.here () rfl (.refl _) (.refl _)))
 (kIf (c := x2 == (1 : Int)) (kXj (alts := VJ (x0, x1, x2)) ev2 true (.here () rfl (.refl _) (.refl _)))
 (kXj (alts := VJ (x0, x1, x2)) ev2 false (.next (.here () rfl (.refl _) (.refl _)))))))
 (fun v2 => (kEr (enc := eI) v2.fst))
 (fun v2 => (kIf (c := x2 == (2 : Int)) (kEr (enc := eI) (wr (v2.fst + (1 : Int))))
 (kIf (c := x2 == (3 : Int)) (kIfD (p := x0 < (0 : Int)) (kEr (enc := eI) (wr (v2.fst + (1 : Int))))
 (kEr (enc := eI) v2.fst))
 (kJb (id := 5000011) v2.fst (fun v6 ev6 v7 => (kIfD (p := wr (x1 - v2.snd) < v2.snd) (kXj (alts := YX ()) ev6 true (.here () rfl (.refl _) (.refl _)))
 (kIf (c := v2.snd == wr (x1 - v2.snd)) (kG (p := (2 : Int) ≠ (0 : Int)) (kIf (c := v2.fst.tmod (2 : Int) != (0 : Int)) (kXj (alts := YX ()) ev6 true (.here () rfl (.refl _) (.refl _)))
 (kXj (alts := YX ()) ev6 false (.next (.here () rfl (.refl _) (.refl _))))))
 (kXj (alts := YX ()) ev6 false (.next (.here () rfl (.refl _) (.refl _)))))))
 (fun v6 => (kEr (enc := eI) (wr (v6 + (1 : Int)))))
 (fun v6 => (kEr (enc := eI) v6))))))))) h)
def D4 (s : Unit) (u : (gVal × Int)) (o : Int) : List Alt := [⟨fun (x : Int) => x = o, .normal, fun x => [ii x, .ptr 0 0 0, ii (u.2)], fun x => [.cells 0 (Qk (u.1)).cells]⟩]
def VW (x0 : Qi) (x1 : Int) : Option gVal :=
 if (0 : Int) ≤ w6 (wr (x0.fBits - (1 : Int))) then
 some (wr ((1 : Int) * (2 : Int) ^ min (w6 (wr (x0.fBits - (1 : Int)))).toNat (64 : Nat)) : Int) >>= fun v0 =>
 some ((gVal.mk (0 : Int) (0 : Int)), v0) >>= fun v1 =>
 (if x0.fOver == (2 : Int) then
 JM (wr (x1 + v0)) (wr ((2 : Int) * v0)) >>= fun v3 =>
 some (wr (x1 - wr (wr (v3 * (2 : Int)) * v0)) : Int) >>= fun v4 =>
 some v4
 else
 some x1) >>= fun v5 =>
 some ((gVal.mk (if true = true then max (wr ((0 : Int) - v1.snd)) (if false = true then max (wr (v1.snd - (1 : Int))) v5 else min (wr (v1.snd - (1 : Int))) v5) else min (wr ((0 : Int) - v1.snd)) (if false = true then max (wr (v1.snd - (1 : Int))) v5 else min (wr (v1.snd - (1 : Int))) v5)) (1 : Int))) >>= fun v6 =>
 some v6
 else none
theorem Dz (x0 : Qi) (x1 : Int) (r : gVal) (h : VW x0 x1 = some r) : PU 138 [Qy x0, eI x1] (Qk r) :=
 Pu2 (hs := [(10, .s), (5, .n eI 5 none), (13, .split), (20, .c eI), (1, .n eI 1 none), (32, .n Qk 32 none), (6000004, .l [] [] [] [1, 4, 5] [kk 4] (D4 ()))]) ((kG (p := (0 : Int) ≤ w6 (wr (x0.fBits - (1 : Int)))) (kN (wr ((1 : Int) * (2 : Int) ^ min (w6 (wr (x0.fBits - (1 : Int)))).toNat (64 : Nat))) rfl fun v0 => (kJ1 (id := 6000004) ((gVal.mk (0 : Int) (0 : Int)), v0) (fun v1 ev1 v2 => (kIf (c := x0.fOver == (2 : Int)) (kC (sh := eI) (CI (wr (x1 + v0)) (wr ((2 : Int) * v0))) fun v3 => (kN (wr (x1 - wr (wr (v3 * (2 : Int)) * v0))) rfl fun v4 => (kXj (alts := D4 ()) ev1 v4 (.here _ rfl (.refl _) (.refl _)))))
 (kXj (alts := D4 ()) ev1 x1 (.here _ rfl (.refl _) (.refl _)))))
 (fun v1 v5 => (kW (sh := Qk) (gVal.mk (if true = true then max (wr ((0 : Int) - v1.snd)) (if false = true then max (wr (v1.snd - (1 : Int))) v5 else min (wr (v1.snd - (1 : Int))) v5) else min (wr ((0 : Int) - v1.snd)) (if false = true then max (wr (v1.snd - (1 : Int))) v5 else min (wr (v1.snd - (1 : Int))) v5)) (1 : Int)) lr fun v6 => (kEr (enc := Qk) v6)))))) h)
def Jf (s : (Qi × Qi × gVal)) (u : gVal) (o : Bool) : List Alt := jb o (fun b => [.ptr 0 0 0, .ptr 1 0 0, .ptr 2 0 0, .ptr 3 0 0, .bool b]) [.cells 0 (Qy (s.1)).cells, .cells 0 (Qy (s.2.1)).cells, .cells 0 (Qk (s.2.2)).cells, .cells 0 (Qk u).cells]
def CX (x0 : Qi) (x1 : Qi) (x2 : gVal) : Option (gVal × Int) :=
 some (gVal.mk (0 : Int) (0 : Int)) >>= fun v0 =>
 (Xv x0 >>= fun v2 => if v2 then
 Xv x1 >>= fun v3 => if v3 then
 some false
 else
 some true
 else
 some true) >>= fun v1 => if v1 then
 some ((gVal.mk (0 : Int) (0 : Int))) >>= fun v5 =>
 some (v5, (10 : Int))
 else
 Ka x0 x2 >>= fun v7 => if v7 then
 Cy x0 x2 >>= fun v8 =>
 if x1.fKind == (3 : Int) then
 JM v8.fN v8.fD >>= fun v9 =>
 some ((gVal.mk v9 (1 : Int))) >>= fun v10 =>
 some (v10, (0 : Int))
 else
 if x1.fKind == (2 : Int) then
 Uv x1 >>= fun v11 =>
 UN (wr (v8.fN * v11)) v8.fD x1.fRound >>= fun v12 =>
 VW x1 v12 >>= fun v13 =>
 some (v13, (0 : Int))
 else
 some (v8, (0 : Int))
 else
 some ((gVal.mk (0 : Int) (0 : Int))) >>= fun v14 =>
 some (v14, (1 : Int))
theorem AU (x0 : Qi) (x1 : Qi) (x2 : gVal) (r : (gVal × Int)) (h : CX x0 x1 x2 = some r) : PU 121 [Qy x0, Qy x1, Qk x2] (Qp r) :=
 Pu2 (hs := [(10, .cb), (14, .cb), (17, .n Qk 17 none), (20, .cb), (22, .n Qk 22 none), (25, .c Qk), (28, .split), (33, .c eI), (34, .n Qk 34 none), (37, .split), (42, .c eI), (48, .c eI), (49, .c Qk), (5000001, .l [] [] [] [3, 4, 5, 6, 16] [kk 3, kk 4, kk 5, kk 6] (Jf (x0, x1, x2)))]) ((kJb (id := 5000001) (gVal.mk (0 : Int) (0 : Int)) (fun v0 ev0 v1 => (kCb (Uc x0) (kCb (Uc x1) (kXj (alts := Jf (x0, x1, x2)) ev0 false (.next (.here () rfl (.refl _) (.refl _))))
 (kXj (alts := Jf (x0, x1, x2)) ev0 true (.here () rfl (.refl _) (.refl _))))
 (kXj (alts := Jf (x0, x1, x2)) ev0 true (.here () rfl (.refl _) (.refl _)))))
 (fun v0 => (kW (sh := Qk) (gVal.mk (0 : Int) (0 : Int)) lr fun v5 => (kEr (enc := Qp) (v5, (10 : Int)))))
 (fun v0 => (kCb (Dg x0 x2) (kC (sh := Qk) (SP x0 x2) fun v8 => (kIf (c := x1.fKind == (3 : Int)) (kC (sh := eI) (CI v8.fN v8.fD) fun v9 => (kW (sh := Qk) (gVal.mk v9 (1 : Int)) lr fun v10 => (kEr (enc := Qp) (v10, (0 : Int)))))
 (kIf (c := x1.fKind == (2 : Int)) (kC (sh := eI) (W8 x1) fun v11 => (kC (sh := eI) (Ng (wr (v8.fN * v11)) v8.fD x1.fRound) fun v12 => (kC (sh := Qk) (Dz x1 v12) fun v13 => (kEr (enc := Qp) (v13, (0 : Int))))))
 (kEr (enc := Qp) (v8, (0 : Int))))))
 (kW (sh := Qk) (gVal.mk (0 : Int) (0 : Int)) lr fun v14 => (kEr (enc := Qp) (v14, (1 : Int))))))) h)
def Dp (x0 : Qi) (x1 : gVal) : Option Bool :=
 Xv x0 >>= fun v0 => if v0 then
 Ka x0 x1 >>= fun v1 =>
 some v1
 else
 some false
theorem LB (x0 : Qi) (x1 : gVal) (r : Bool) (h : Dp x0 x1 = some r) : PU 123 [Qy x0, Qk x1] (eB r) :=
 Pu2 (hs := [(6, .cb), (10, .c eB)]) ((kCb (Uc x0) (kC (sh := eB) (Dg x0 x1) fun v1 => (kEr (enc := eB) v1))
 (kEr (enc := eB) false)) h)
def ZB (x0 : gVal) : Option Bool :=
 some ((Qi.mk (1 : Int) (0 : Int) (0 : Int) (0 : Int) (0 : Int))) >>= fun v0 =>
 Ka v0 x0 >>= fun v1 =>
 some v1
theorem XZ (x0 : gVal) (r : Bool) (h : ZB x0 = some r) : PU 148 [Qk x0] (eB r) :=
 Pu2 (hs := [(3, .n Qy 3 none), (5, .c eB)]) ((kW (sh := Qy) (Qi.mk (1 : Int) (0 : Int) (0 : Int) (0 : Int) (0 : Int)) lr fun v0 => (kC (sh := eB) (Dg v0 x0) fun v1 => (kEr (enc := eB) v1))) h)
def UM (x0 : Int) (x1 : Int) : Option Int :=
 if x0 < x1 then
 some (-1 : Int)
 else
 if x1 < x0 then
 some (1 : Int)
 else
 some (0 : Int)
theorem Nf (x0 : Int) (x1 : Int) (r : Int) (h : UM x0 x1 = some r) : PU 149 [eI x0, eI x1] (eI r) :=
 Pu2 (hs := [(7, .split), (10, .split)]) ((kIfD (p := x0 < x1) (kEr (enc := eI) (-1 : Int))
 (kIfD (p := x1 < x0) (kEr (enc := eI) (1 : Int))
 (kEr (enc := eI) (0 : Int)))) h)
def KF (s : (gVal × gVal)) (u : Unit) (o : Bool) : List Alt := jb o (fun b => [.ptr 0 0 0, .ptr 1 0 0, .bool b]) [.cells 0 (Qk (s.1)).cells, .cells 0 (Qk (s.2)).cells]
def DB (x0 : gVal) (x1 : gVal) : Option Int :=
 some () >>= fun v0 =>
 (ZB x0 >>= fun v2 => if v2 then
 ZB x1 >>= fun v3 => if v3 then
 some true
 else
 some false
 else
 some false) >>= fun v1 => if v1 then
 UM (wr (x0.fN * x1.fD)) (wr (x1.fN * x0.fD)) >>= fun v5 =>
 some v5
 else
 if x0.fN != x1.fN then
 UM x0.fN x1.fN >>= fun v7 =>
 some v7
 else
 UM x0.fD x1.fD >>= fun v8 =>
 some v8
theorem Rl (x0 : gVal) (x1 : gVal) (r : Int) (h : DB x0 x1 = some r) : PU 124 [Qk x0, Qk x1] (eI r) :=
 Pu2 (hs := [(6, .cb), (9, .cb), (21, .c eI), (26, .split), (31, .c eI), (36, .c eI), (5000001, .l [] [] [] [2, 3, 10] [kk 2, kk 3] (KF (x0, x1)))]) ((kJb (id := 5000001) () (fun v0 ev0 v1 => (kCb (XZ x0) (kCb (XZ x1) (kXj (alts := KF (x0, x1)) ev0 true (.here () rfl (.refl _) (.refl _)))
 (kXj (alts := KF (x0, x1)) ev0 false (.next (.here () rfl (.refl _) (.refl _)))))
 (kXj (alts := KF (x0, x1)) ev0 false (.next (.here () rfl (.refl _) (.refl _))))))
 (fun v0 => (kC (sh := eI) (Nf (wr (x0.fN * x1.fD)) (wr (x1.fN * x0.fD))) fun v5 => (kEr (enc := eI) v5)))
 (fun v0 => (kIf (c := x0.fN != x1.fN) (kC (sh := eI) (Nf x0.fN x1.fN) fun v7 => (kEr (enc := eI) v7))
 (kC (sh := eI) (Nf x0.fD x1.fD) fun v8 => (kEr (enc := eI) v8))))) h)
def KG (s : (gVal × gVal)) (u : Unit) (o : Bool) : List Alt := jb o (fun b => [.ptr 0 0 0, .ptr 1 0 0, .bool b]) [.cells 0 (Qk (s.1)).cells, .cells 0 (Qk (s.2)).cells]
def G5 (x0 : Qi) (x1 : gVal) (x2 : gVal) : Option Int :=
 some () >>= fun v0 =>
 (Dp x0 x1 >>= fun v2 => if v2 then
 Dp x0 x2 >>= fun v3 => if v3 then
 some false
 else
 some true
 else
 some true) >>= fun v1 => if v1 then
 some (0 : Int)
 else
 DB x1 x2 >>= fun v6 =>
 some v6
theorem Mf (x0 : Qi) (x1 : gVal) (x2 : gVal) (r : Int) (h : G5 x0 x1 x2 = some r) : PU 102 [Qy x0, Qk x1, Qk x2] (eI r) :=
 Pu2 (hs := [(9, .cb), (14, .cb), (19, .c eI), (5000001, .l [] [] [] [4, 5, 16] [kk 4, kk 5] (KG (x1, x2)))]) ((kJb (id := 5000001) () (fun v0 ev0 v1 => (kCb (LB x0 x1) (kCb (LB x0 x2) (kXj (alts := KG (x1, x2)) ev0 false (.next (.here () rfl (.refl _) (.refl _))))
 (kXj (alts := KG (x1, x2)) ev0 true (.here () rfl (.refl _) (.refl _))))
 (kXj (alts := KG (x1, x2)) ev0 true (.here () rfl (.refl _) (.refl _)))))
 (fun v0 => (kEr (enc := eI) (0 : Int)))
 (fun v0 => (kC (sh := eI) (Rl x1 x2) fun v6 => (kEr (enc := eI) v6)))) h)
def D5 (s : Qi) (u : gVal) (o : (Int × Int)) : List Alt := [⟨fun (x : (Int × Int)) => x = o, .normal, fun x => [ii (x.1), ii (x.2), .ptr 0 0 0, .ptr 1 0 0], fun x => [.cells 0 (Qy s).cells, .cells 0 (Qk u).cells]⟩]
def WQ (x0 : Int) (x1 : Qi) (x2 : Int) (x3 : Int) : Option (gVal × Int) :=
 if x0 == (4 : Int) then
 VW x1 (wr (x2 + x3)) >>= fun v0 =>
 some (v0, (0 : Int))
 else
 if x0 == (5 : Int) then
 VW x1 (wr (x2 - x3)) >>= fun v1 =>
 some (v1, (0 : Int))
 else
 if x0 == (6 : Int) then
 Uv x1 >>= fun v2 =>
 UN (wr (x2 * x3)) v2 x1.fRound >>= fun v3 =>
 VW x1 v3 >>= fun v4 =>
 some (v4, (0 : Int))
 else
 if x0 == (8 : Int) then
 VW x1 (wr ((0 : Int) - x2)) >>= fun v5 =>
 some (v5, (0 : Int))
 else
 if x3 == (0 : Int) then
 some ((gVal.mk (0 : Int) (0 : Int))) >>= fun v6 =>
 some (v6, (4 : Int))
 else
 some (gVal.mk (0 : Int) (0 : Int)) >>= fun v7 =>
 (if x3 < (0 : Int) then
 some (wr ((0 : Int) - x2) : Int) >>= fun v9 =>
 some (wr ((0 : Int) - x3) : Int) >>= fun v10 =>
 some (v9, v10)
 else
 some (x2, x3)) >>= fun v11 =>
 Uv x1 >>= fun v12 =>
 UN (wr (v11.fst * v12)) v11.snd x1.fRound >>= fun v13 =>
 VW x1 v13 >>= fun v14 =>
 some (v14, (0 : Int))
theorem PR (x0 : Int) (x1 : Qi) (x2 : Int) (x3 : Int) (r : (gVal × Int)) (h : WQ x0 x1 x2 x3 = some r) : PU 141 [eI x0, Qy x1, eI x2, eI x3] (Qp r) :=
 Pu2 (hs := [(12, .split), (17, .c Qk), (19, .split), (24, .c Qk), (26, .split), (32, .c eI), (35, .c eI), (36, .c Qk), (38, .split), (42, .c Qk), (44, .split), (45, .n Qk 45 none), (47, .split), (2, .n eI 2 none), (3, .n eI 3 none), (55, .c eI), (60, .c eI), (61, .c Qk), (6000014, .l [] [] [] [2, 3, 5, 8] [kk 5, kk 8] (D5 x1))]) ((kIf (c := x0 == (4 : Int)) (kC (sh := Qk) (Dz x1 (wr (x2 + x3))) fun v0 => (kEr (enc := Qp) (v0, (0 : Int))))
 (kIf (c := x0 == (5 : Int)) (kC (sh := Qk) (Dz x1 (wr (x2 - x3))) fun v1 => (kEr (enc := Qp) (v1, (0 : Int))))
 (kIf (c := x0 == (6 : Int)) (kC (sh := eI) (W8 x1) fun v2 => (kC (sh := eI) (Ng (wr (x2 * x3)) v2 x1.fRound) fun v3 => (kC (sh := Qk) (Dz x1 v3) fun v4 => (kEr (enc := Qp) (v4, (0 : Int))))))
 (kIf (c := x0 == (8 : Int)) (kC (sh := Qk) (Dz x1 (wr ((0 : Int) - x2))) fun v5 => (kEr (enc := Qp) (v5, (0 : Int))))
 (kIf (c := x3 == (0 : Int)) (kW (sh := Qk) (gVal.mk (0 : Int) (0 : Int)) lr fun v6 => (kEr (enc := Qp) (v6, (4 : Int))))
 (kJ1 (id := 6000014) (gVal.mk (0 : Int) (0 : Int)) (fun v7 ev7 v8 => (kIfD (p := x3 < (0 : Int)) (kN (wr ((0 : Int) - x2)) rfl fun v9 => (kN (wr ((0 : Int) - x3)) rfl fun v10 => (kXj (alts := D5 x1) ev7 (v9, v10) (.here _ rfl (.refl _) (.refl _)))))
 (kXj (alts := D5 x1) ev7 (x2, x3) (.here _ rfl (.refl _) (.refl _)))))
 (fun v7 v11 => (kC (sh := eI) (W8 x1) fun v12 => (kC (sh := eI) (Ng (wr (v11.fst * v12)) v11.snd x1.fRound) fun v13 => (kC (sh := Qk) (Dz x1 v13) fun v14 => (kEr (enc := Qp) (v14, (0 : Int))))))))))))) h)
def Gj (s : Unit) (u : gVal) (o : (Int × Int)) : List Alt := [⟨fun (x : (Int × Int)) => x = o, .normal, fun x => [ii (x.1), ii (x.2), .ptr 0 0 0], fun x => [.cells 0 (Qk u).cells]⟩]
def QH (s : Unit) (u : (gVal × Int)) (o : Bool) : List Alt := jb o (fun b => [.ptr 0 0 0, ii (u.2), .bool b]) [.cells 0 (Qk (u.1)).cells]
def Cz (x0 : Int) (x1 : Int) (x2 : Int) : Option (gVal × Int) :=
 some (wr ((0 : Int) - x1) : Int) >>= fun v0 =>
 if x0 == (4 : Int) then
 some (wr (x1 + x2) : Int) >>= fun v1 =>
 some ((gVal.mk (0 : Int) (0 : Int)), v1) >>= fun v2 =>
 (if (2147483647 : Int) < v1 then
 some true
 else
 if v1 < (-2147483647 : Int) then
 some true
 else
 some false) >>= fun v3 => if v3 then
 some ((gVal.mk (0 : Int) (0 : Int))) >>= fun v5 =>
 some (v5, (3 : Int))
 else
 some ((gVal.mk v2.snd (1 : Int))) >>= fun v7 =>
 some (v7, (0 : Int))
 else
 if x0 == (5 : Int) then
 some (wr (x1 - x2) : Int) >>= fun v8 =>
 some ((gVal.mk (0 : Int) (0 : Int)), v8) >>= fun v9 =>
 (if (2147483647 : Int) < v8 then
 some true
 else
 if v8 < (-2147483647 : Int) then
 some true
 else
 some false) >>= fun v10 => if v10 then
 some ((gVal.mk (0 : Int) (0 : Int))) >>= fun v12 =>
 some (v12, (3 : Int))
 else
 some ((gVal.mk v9.snd (1 : Int))) >>= fun v14 =>
 some (v14, (0 : Int))
 else
 if x0 == (6 : Int) then
 some (wr (x1 * x2) : Int) >>= fun v15 =>
 some ((gVal.mk (0 : Int) (0 : Int)), v15) >>= fun v16 =>
 (if (2147483647 : Int) < v15 then
 some true
 else
 if v15 < (-2147483647 : Int) then
 some true
 else
 some false) >>= fun v17 => if v17 then
 some ((gVal.mk (0 : Int) (0 : Int))) >>= fun v19 =>
 some (v19, (3 : Int))
 else
 some ((gVal.mk v16.snd (1 : Int))) >>= fun v21 =>
 some (v21, (0 : Int))
 else
 if x0 == (7 : Int) then
 if x2 == (0 : Int) then
 some ((gVal.mk (0 : Int) (0 : Int))) >>= fun v22 =>
 some (v22, (4 : Int))
 else
 some (gVal.mk (0 : Int) (0 : Int)) >>= fun v23 =>
 (if x2 < (0 : Int) then
 some (wr ((0 : Int) - x1) : Int) >>= fun v25 =>
 some (wr ((0 : Int) - x2) : Int) >>= fun v26 =>
 some (v25, v26)
 else
 some (x1, x2)) >>= fun v27 =>
 JM v27.fst v27.snd >>= fun v28 =>
 some (v28 : Int) >>= fun v29 =>
 some (v23, v29) >>= fun v30 =>
 (if (2147483647 : Int) < v29 then
 some true
 else
 if v29 < (-2147483647 : Int) then
 some true
 else
 some false) >>= fun v31 => if v31 then
 some ((gVal.mk (0 : Int) (0 : Int))) >>= fun v33 =>
 some (v33, (3 : Int))
 else
 some ((gVal.mk v30.snd (1 : Int))) >>= fun v35 =>
 some (v35, (0 : Int))
 else
 some ((gVal.mk (0 : Int) (0 : Int)), v0) >>= fun v36 =>
 (if (2147483647 : Int) < v0 then
 some true
 else
 if v0 < (-2147483647 : Int) then
 some true
 else
 some false) >>= fun v37 => if v37 then
 some ((gVal.mk (0 : Int) (0 : Int))) >>= fun v39 =>
 some (v39, (3 : Int))
 else
 some ((gVal.mk v36.snd (1 : Int))) >>= fun v41 =>
 some (v41, (0 : Int))
theorem SQ (x0 : Int) (x1 : Int) (x2 : Int) (r : (gVal × Int)) (h : Cz x0 x1 x2 = some r) : PU 142 [eI x0, eI x1, eI x2] (Qp r) :=
 Pu2 (hs := [(8, .n eI 8 none), (13, .split), (8, .n eI 8 none), (18, .split), (8, .n eI 8 none), (23, .split), (8, .n eI 8 none), (28, .split), (30, .split), (31, .n Qk 31 none), (33, .split), (1, .n eI 1 none), (2, .n eI 2 none), (40, .c eI), (42, .split), (45, .split), (47, .n Qk 47 none), (49, .n Qk 49 none), (6000014, .l [] [] [] [1, 2, 6] [kk 6] (Gj ())), (5000016, .l [] [] [] [6, 8, 46] [kk 6] (QH ()))]) ((kN (wr ((0 : Int) - x1)) rfl fun v0 => (kIf (c := x0 == (4 : Int)) (kN (wr (x1 + x2)) rfl fun v1 => (kJb (id := 5000016) ((gVal.mk (0 : Int) (0 : Int)), v1) (fun v2 ev2 v3 => (kIfD (p := (2147483647 : Int) < v1) (kXj (alts := QH ()) ev2 true (.here () rfl (.refl _) (.refl _)))
 (kIfD (p := v1 < (-2147483647 : Int)) (kXj (alts := QH ()) ev2 true (.here () rfl (.refl _) (.refl _)))
 (kXj (alts := QH ()) ev2 false (.next (.here () rfl (.refl _) (.refl _)))))))
 (fun v2 => (kW (sh := Qk) (gVal.mk (0 : Int) (0 : Int)) lr fun v5 => (kEr (enc := Qp) (v5, (3 : Int)))))
 (fun v2 => (kW (sh := Qk) (gVal.mk v2.snd (1 : Int)) lr fun v7 => (kEr (enc := Qp) (v7, (0 : Int)))))))
 (kIf (c := x0 == (5 : Int)) (kN (wr (x1 - x2)) rfl fun v8 => (kJb (id := 5000016) ((gVal.mk (0 : Int) (0 : Int)), v8) (fun v9 ev9 v10 => (kIfD (p := (2147483647 : Int) < v8) (kXj (alts := QH ()) ev9 true (.here () rfl (.refl _) (.refl _)))
 (kIfD (p := v8 < (-2147483647 : Int)) (kXj (alts := QH ()) ev9 true (.here () rfl (.refl _) (.refl _)))
 (kXj (alts := QH ()) ev9 false (.next (.here () rfl (.refl _) (.refl _)))))))
 (fun v9 => (kW (sh := Qk) (gVal.mk (0 : Int) (0 : Int)) lr fun v12 => (kEr (enc := Qp) (v12, (3 : Int)))))
 (fun v9 => (kW (sh := Qk) (gVal.mk v9.snd (1 : Int)) lr fun v14 => (kEr (enc := Qp) (v14, (0 : Int)))))))
 (kIf (c := x0 == (6 : Int)) (kN (wr (x1 * x2)) rfl fun v15 => (kJb (id := 5000016) ((gVal.mk (0 : Int) (0 : Int)), v15) (fun v16 ev16 v17 => (kIfD (p := (2147483647 : Int) < v15) (kXj (alts := QH ()) ev16 true (.here () rfl (.refl _) (.refl _)))
 (kIfD (p := v15 < (-2147483647 : Int)) (kXj (alts := QH ()) ev16 true (.here () rfl (.refl _) (.refl _)))
 (kXj (alts := QH ()) ev16 false (.next (.here () rfl (.refl _) (.refl _)))))))
 (fun v16 => (kW (sh := Qk) (gVal.mk (0 : Int) (0 : Int)) lr fun v19 => (kEr (enc := Qp) (v19, (3 : Int)))))
 (fun v16 => (kW (sh := Qk) (gVal.mk v16.snd (1 : Int)) lr fun v21 => (kEr (enc := Qp) (v21, (0 : Int)))))))
 (kIf (c := x0 == (7 : Int)) (kIf (c := x2 == (0 : Int)) (kW (sh := Qk) (gVal.mk (0 : Int) (0 : Int)) lr fun v22 => (kEr (enc := Qp) (v22, (4 : Int))))
 (kJ1 (id := 6000014) (gVal.mk (0 : Int) (0 : Int)) (fun v23 ev23 v24 => (kIfD (p := x2 < (0 : Int)) (kN (wr ((0 : Int) - x1)) rfl fun v25 => (kN (wr ((0 : Int) - x2)) rfl fun v26 => (kXj (alts := Gj ()) ev23 (v25, v26) (.here _ rfl (.refl _) (.refl _)))))
 (kXj (alts := Gj ()) ev23 (x1, x2) (.here _ rfl (.refl _) (.refl _)))))
 (fun v23 v27 => (kC (sh := eI) (CI v27.fst v27.snd) fun v28 => (kN v28 rfl fun v29 => (kJb (id := 5000016) (v23, v29) (fun v30 ev30 v31 => (kIfD (p := (2147483647 : Int) < v29) (kXj (alts := QH ()) ev30 true (.here () rfl (.refl _) (.refl _)))
 (kIfD (p := v29 < (-2147483647 : Int)) (kXj (alts := QH ()) ev30 true (.here () rfl (.refl _) (.refl _)))
 (kXj (alts := QH ()) ev30 false (.next (.here () rfl (.refl _) (.refl _)))))))
 (fun v30 => (kW (sh := Qk) (gVal.mk (0 : Int) (0 : Int)) lr fun v33 => (kEr (enc := Qp) (v33, (3 : Int)))))
 (fun v30 => (kW (sh := Qk) (gVal.mk v30.snd (1 : Int)) lr fun v35 => (kEr (enc := Qp) (v35, (0 : Int)))))))))))
 (kJb (id := 5000016) ((gVal.mk (0 : Int) (0 : Int)), v0) (fun v36 ev36 v37 => (kIfD (p := (2147483647 : Int) < v0) (kXj (alts := QH ()) ev36 true (.here () rfl (.refl _) (.refl _)))
 (kIfD (p := v0 < (-2147483647 : Int)) (kXj (alts := QH ()) ev36 true (.here () rfl (.refl _) (.refl _)))
 (kXj (alts := QH ()) ev36 false (.next (.here () rfl (.refl _) (.refl _)))))))
 (fun v36 => (kW (sh := Qk) (gVal.mk (0 : Int) (0 : Int)) lr fun v39 => (kEr (enc := Qp) (v39, (3 : Int)))))
 (fun v36 => (kW (sh := Qk) (gVal.mk v36.snd (1 : Int)) lr fun v41 => (kEr (enc := Qp) (v41, (0 : Int))))))))))) h)
def U2 (s : (gVal × gVal)) (u : gVal) (o : Bool) : List Alt := jb o (fun b => [.ptr 0 0 0, .ptr 1 0 0, .ptr 2 0 0, .bool b]) [.cells 0 (Qk (s.1)).cells, .cells 0 (Qk (s.2)).cells, .cells 0 (Qk u).cells]
def WK (x0 : gVal) (x1 : gVal) : Option (gVal × Int) :=
 some (gVal.mk (0 : Int) (0 : Int)) >>= fun v0 =>
 (ZB x0 >>= fun v2 => if v2 then
 ZB x1 >>= fun v3 => if v3 then
 some false
 else
 some true
 else
 some true) >>= fun v1 => if v1 then
 some ((gVal.mk (0 : Int) (0 : Int))) >>= fun v5 =>
 some (v5, (1 : Int))
 else
 Ub (wr (wr (x0.fN * x1.fD) + wr (x1.fN * x0.fD))) (wr (x0.fD * x1.fD)) >>= fun v7 =>
 some (v7.fst, v7.snd)
theorem PL (x0 : gVal) (x1 : gVal) (r : (gVal × Int)) (h : WK x0 x1 = some r) : PU 143 [Qk x0, Qk x1] (Qp r) :=
 Pu2 (hs := [(7, .cb), (11, .cb), (14, .n Qk 14 none), (31, .c Qp), (5000001, .l [] [] [] [2, 3, 4, 13] [kk 2, kk 3, kk 4] (U2 (x0, x1)))]) ((kJb (id := 5000001) (gVal.mk (0 : Int) (0 : Int)) (fun v0 ev0 v1 => (kCb (XZ x0) (kCb (XZ x1) (kXj (alts := U2 (x0, x1)) ev0 false (.next (.here () rfl (.refl _) (.refl _))))
 (kXj (alts := U2 (x0, x1)) ev0 true (.here () rfl (.refl _) (.refl _))))
 (kXj (alts := U2 (x0, x1)) ev0 true (.here () rfl (.refl _) (.refl _)))))
 (fun v0 => (kW (sh := Qk) (gVal.mk (0 : Int) (0 : Int)) lr fun v5 => (kEr (enc := Qp) (v5, (1 : Int)))))
 (fun v0 => (kC (sh := Qp) (Cm (wr (wr (x0.fN * x1.fD) + wr (x1.fN * x0.fD))) (wr (x0.fD * x1.fD))) fun v7 => (kEr (enc := Qp) (v7.fst, v7.snd))))) h)
def U5 (s : (gVal × gVal)) (u : gVal) (o : Bool) : List Alt := jb o (fun b => [.ptr 0 0 0, .ptr 1 0 0, .ptr 2 0 0, .bool b]) [.cells 0 (Qk (s.1)).cells, .cells 0 (Qk (s.2)).cells, .cells 0 (Qk u).cells]
def WO (x0 : gVal) (x1 : gVal) : Option (gVal × Int) :=
 some (gVal.mk (0 : Int) (0 : Int)) >>= fun v0 =>
 (ZB x0 >>= fun v2 => if v2 then
 ZB x1 >>= fun v3 => if v3 then
 some false
 else
 some true
 else
 some true) >>= fun v1 => if v1 then
 some ((gVal.mk (0 : Int) (0 : Int))) >>= fun v5 =>
 some (v5, (1 : Int))
 else
 Ub (wr (wr (x0.fN * x1.fD) - wr (x1.fN * x0.fD))) (wr (x0.fD * x1.fD)) >>= fun v7 =>
 some (v7.fst, v7.snd)
theorem PP (x0 : gVal) (x1 : gVal) (r : (gVal × Int)) (h : WO x0 x1 = some r) : PU 144 [Qk x0, Qk x1] (Qp r) :=
 Pu2 (hs := [(7, .cb), (11, .cb), (14, .n Qk 14 none), (31, .c Qp), (5000001, .l [] [] [] [2, 3, 4, 13] [kk 2, kk 3, kk 4] (U5 (x0, x1)))]) ((kJb (id := 5000001) (gVal.mk (0 : Int) (0 : Int)) (fun v0 ev0 v1 => (kCb (XZ x0) (kCb (XZ x1) (kXj (alts := U5 (x0, x1)) ev0 false (.next (.here () rfl (.refl _) (.refl _))))
 (kXj (alts := U5 (x0, x1)) ev0 true (.here () rfl (.refl _) (.refl _))))
 (kXj (alts := U5 (x0, x1)) ev0 true (.here () rfl (.refl _) (.refl _)))))
 (fun v0 => (kW (sh := Qk) (gVal.mk (0 : Int) (0 : Int)) lr fun v5 => (kEr (enc := Qp) (v5, (1 : Int)))))
 (fun v0 => (kC (sh := Qp) (Cm (wr (wr (x0.fN * x1.fD) - wr (x1.fN * x0.fD))) (wr (x0.fD * x1.fD))) fun v7 => (kEr (enc := Qp) (v7.fst, v7.snd))))) h)
def U4 (s : (gVal × gVal)) (u : gVal) (o : Bool) : List Alt := jb o (fun b => [.ptr 0 0 0, .ptr 1 0 0, .ptr 2 0 0, .bool b]) [.cells 0 (Qk (s.1)).cells, .cells 0 (Qk (s.2)).cells, .cells 0 (Qk u).cells]
def WM (x0 : gVal) (x1 : gVal) : Option (gVal × Int) :=
 some (gVal.mk (0 : Int) (0 : Int)) >>= fun v0 =>
 (ZB x0 >>= fun v2 => if v2 then
 ZB x1 >>= fun v3 => if v3 then
 some false
 else
 some true
 else
 some true) >>= fun v1 => if v1 then
 some ((gVal.mk (0 : Int) (0 : Int))) >>= fun v5 =>
 some (v5, (1 : Int))
 else
 Ub (wr (x0.fN * x1.fN)) (wr (x0.fD * x1.fD)) >>= fun v7 =>
 some (v7.fst, v7.snd)
theorem PN (x0 : gVal) (x1 : gVal) (r : (gVal × Int)) (h : WM x0 x1 = some r) : PU 145 [Qk x0, Qk x1] (Qp r) :=
 Pu2 (hs := [(7, .cb), (11, .cb), (14, .n Qk 14 none), (25, .c Qp), (5000001, .l [] [] [] [2, 3, 4, 13] [kk 2, kk 3, kk 4] (U4 (x0, x1)))]) ((kJb (id := 5000001) (gVal.mk (0 : Int) (0 : Int)) (fun v0 ev0 v1 => (kCb (XZ x0) (kCb (XZ x1) (kXj (alts := U4 (x0, x1)) ev0 false (.next (.here () rfl (.refl _) (.refl _))))
 (kXj (alts := U4 (x0, x1)) ev0 true (.here () rfl (.refl _) (.refl _))))
 (kXj (alts := U4 (x0, x1)) ev0 true (.here () rfl (.refl _) (.refl _)))))
 (fun v0 => (kW (sh := Qk) (gVal.mk (0 : Int) (0 : Int)) lr fun v5 => (kEr (enc := Qp) (v5, (1 : Int)))))
 (fun v0 => (kC (sh := Qp) (Cm (wr (x0.fN * x1.fN)) (wr (x0.fD * x1.fD))) fun v7 => (kEr (enc := Qp) (v7.fst, v7.snd))))) h)
def U3 (s : (gVal × gVal)) (u : gVal) (o : Bool) : List Alt := jb o (fun b => [.ptr 0 0 0, .ptr 1 0 0, .ptr 2 0 0, .bool b]) [.cells 0 (Qk (s.1)).cells, .cells 0 (Qk (s.2)).cells, .cells 0 (Qk u).cells]
def WL (x0 : gVal) (x1 : gVal) : Option (gVal × Int) :=
 some (gVal.mk (0 : Int) (0 : Int)) >>= fun v0 =>
 (ZB x0 >>= fun v2 => if v2 then
 ZB x1 >>= fun v3 => if v3 then
 some false
 else
 some true
 else
 some true) >>= fun v1 => if v1 then
 some ((gVal.mk (0 : Int) (0 : Int))) >>= fun v5 =>
 some (v5, (1 : Int))
 else
 Ub (wr (x0.fN * x1.fD)) (wr (x0.fD * x1.fN)) >>= fun v7 =>
 some (v7.fst, v7.snd)
theorem PM (x0 : gVal) (x1 : gVal) (r : (gVal × Int)) (h : WL x0 x1 = some r) : PU 146 [Qk x0, Qk x1] (Qp r) :=
 Pu2 (hs := [(7, .cb), (11, .cb), (14, .n Qk 14 none), (25, .c Qp), (5000001, .l [] [] [] [2, 3, 4, 13] [kk 2, kk 3, kk 4] (U3 (x0, x1)))]) ((kJb (id := 5000001) (gVal.mk (0 : Int) (0 : Int)) (fun v0 ev0 v1 => (kCb (XZ x0) (kCb (XZ x1) (kXj (alts := U3 (x0, x1)) ev0 false (.next (.here () rfl (.refl _) (.refl _))))
 (kXj (alts := U3 (x0, x1)) ev0 true (.here () rfl (.refl _) (.refl _))))
 (kXj (alts := U3 (x0, x1)) ev0 true (.here () rfl (.refl _) (.refl _)))))
 (fun v0 => (kW (sh := Qk) (gVal.mk (0 : Int) (0 : Int)) lr fun v5 => (kEr (enc := Qp) (v5, (1 : Int)))))
 (fun v0 => (kC (sh := Qp) (Cm (wr (x0.fN * x1.fD)) (wr (x0.fD * x1.fN))) fun v7 => (kEr (enc := Qp) (v7.fst, v7.snd))))) h)
def WN (x0 : gVal) : Option gVal :=
 ZB x0 >>= fun v0 => if v0 then
 some ((gVal.mk (wr ((0 : Int) - x0.fN)) x0.fD)) >>= fun v1 =>
 some v1
 else
 some ((gVal.mk (0 : Int) (0 : Int))) >>= fun v2 =>
 some v2
theorem PO (x0 : gVal) (r : gVal) (h : WN x0 = some r) : PU 147 [Qk x0] (Qk r) :=
 Pu2 (hs := [(4, .cb), (6, .n Qk 6 none), (12, .n Qk 12 none)]) ((kCb (XZ x0) (kW (sh := Qk) (gVal.mk (wr ((0 : Int) - x0.fN)) x0.fD) lr fun v1 => (kEr (enc := Qk) v1))
 (kW (sh := Qk) (gVal.mk (0 : Int) (0 : Int)) lr fun v2 => (kEr (enc := Qk) v2))) h)
def VH (s : (Int × Qi × gVal × gVal)) (u : gVal) (o : Bool) : List Alt := jb o (fun b => [ii (s.1), .ptr 0 0 0, .ptr 1 0 0, .ptr 2 0 0, .ptr 3 0 0, .bool b]) [.cells 0 (Qy (s.2.1)).cells, .cells 0 (Qk (s.2.2.1)).cells, .cells 0 (Qk (s.2.2.2)).cells, .cells 0 (Qk u).cells]
def YW (s : (Int × Qi × gVal × gVal)) (u : gVal) (o : Bool) : List Alt := jb o (fun b => [ii (s.1), .ptr 0 0 0, .ptr 1 0 0, .ptr 2 0 0, .ptr 3 0 0, .bool b]) [.cells 0 (Qy (s.2.1)).cells, .cells 0 (Qk (s.2.2.1)).cells, .cells 0 (Qk (s.2.2.2)).cells, .cells 0 (Qk u).cells]
def VI (s : (Int × Qi × gVal × gVal)) (u : gVal) (o : Bool) : List Alt := jb o (fun b => [ii (s.1), .ptr 0 0 0, .ptr 1 0 0, .ptr 2 0 0, .ptr 3 0 0, .bool b]) [.cells 0 (Qy (s.2.1)).cells, .cells 0 (Qk (s.2.2.1)).cells, .cells 0 (Qk (s.2.2.2)).cells, .cells 0 (Qk u).cells]
def Cx (x0 : Int) (x1 : Qi) (x2 : gVal) (x3 : gVal) : Option (gVal × Int) :=
 some (gVal.mk (0 : Int) (0 : Int)) >>= fun v0 =>
 (if x0 < (4 : Int) then
 some true
 else
 if (10 : Int) < x0 then
 some true
 else
 some false) >>= fun v1 => if v1 then
 some ((gVal.mk (0 : Int) (0 : Int))) >>= fun v3 =>
 some (v3, (1 : Int))
 else
 Xv x1 >>= fun v5 => if v5 then
 some v0 >>= fun v6 =>
 (Ka x1 x2 >>= fun v8 => if v8 then
 if x0 != (8 : Int) then
 Ka x1 x3 >>= fun v9 => if v9 then
 some false
 else
 some true
 else
 some false
 else
 some true) >>= fun v7 => if v7 then
 some ((gVal.mk (0 : Int) (0 : Int))) >>= fun v11 =>
 some (v11, (1 : Int))
 else
 some v6 >>= fun v13 =>
 (if x0 == (9 : Int) then
 some true
 else
 if x0 == (10 : Int) then
 some true
 else
 some false) >>= fun v14 => if v14 then
 G5 x1 x2 x3 >>= fun v16 =>
 if decide ((0 : Int) < v16) == (x0 == (9 : Int)) then
 some (x3, (0 : Int))
 else
 some (x2, (0 : Int))
 else
 if x1.fKind == (2 : Int) then
 WQ x0 x1 x2.fN x3.fN >>= fun v18 =>
 some (v18.fst, v18.snd)
 else
 if x1.fKind == (3 : Int) then
 Cz x0 x2.fN x3.fN >>= fun v19 =>
 some (v19.fst, v19.snd)
 else
 if x0 == (4 : Int) then
 WK x2 x3 >>= fun v20 =>
 some (v20.fst, v20.snd)
 else
 if x0 == (5 : Int) then
 WO x2 x3 >>= fun v21 =>
 some (v21.fst, v21.snd)
 else
 if x0 == (6 : Int) then
 WM x2 x3 >>= fun v22 =>
 some (v22.fst, v22.snd)
 else
 if x0 == (7 : Int) then
 WL x2 x3 >>= fun v23 =>
 some (v23.fst, v23.snd)
 else
 WN x2 >>= fun v24 =>
 some (v24, (0 : Int))
 else
 some ((gVal.mk (0 : Int) (0 : Int))) >>= fun v25 =>
 some (v25, (10 : Int))
theorem SO (x0 : Int) (x1 : Qi) (x2 : gVal) (x3 : gVal) (r : (gVal × Int)) (h : Cx x0 x1 x2 x3 = some r) : PU 122 [eI x0, Qy x1, Qk x2, Qk x3] (Qp r) :=
 Pu2 (hs := [(11, .split), (14, .split), (16, .n Qk 16 none), (18, .cb), (20, .n Qk 20 none), (23, .cb), (27, .split), (31, .cb), (35, .n Qk 35 none), (37, .split), (40, .split), (45, .c eI), (49, .split), (54, .split), (61, .c Qp), (66, .split), (72, .c Qp), (77, .split), (80, .c Qp), (84, .split), (87, .c Qp), (91, .split), (94, .c Qp), (98, .split), (101, .c Qp), (105, .c Qk), (5000001, .l [] [] [] [0, 5, 6, 7, 8, 15] [kk 5, kk 6, kk 7, kk 8] (VH (x0, x1, x2, x3))), (5000005, .l [] [] [] [0, 5, 6, 7, 8, 34] [kk 5, kk 6, kk 7, kk 8] (YW (x0, x1, x2, x3))), (5000007, .l [] [] [] [0, 5, 6, 7, 8, 41] [kk 5, kk 6, kk 7, kk 8] (VI (x0, x1, x2, x3)))]) ((kJb (id := 5000001) (gVal.mk (0 : Int) (0 : Int)) (fun v0 ev0 v1 => (kIfD (p := x0 < (4 : Int)) (kXj (alts := VH (x0, x1, x2, x3)) ev0 true (.here () rfl (.refl _) (.refl _)))
 (kIfD (p := (10 : Int) < x0) (kXj (alts := VH (x0, x1, x2, x3)) ev0 true (.here () rfl (.refl _) (.refl _)))
 (kXj (alts := VH (x0, x1, x2, x3)) ev0 false (.next (.here () rfl (.refl _) (.refl _)))))))
 (fun v0 => (kW (sh := Qk) (gVal.mk (0 : Int) (0 : Int)) lr fun v3 => (kEr (enc := Qp) (v3, (1 : Int)))))
 (fun v0 => (kCb (Uc x1) (kJb (id := 5000005) v0 (fun v6 ev6 v7 => (kCb (Dg x1 x2) (kIf (c := x0 != (8 : Int)) (kCb (Dg x1 x3) (kXj (alts := YW (x0, x1, x2, x3)) ev6 false (.next (.here () rfl (.refl _) (.refl _))))
 (kXj (alts := YW (x0, x1, x2, x3)) ev6 true (.here () rfl (.refl _) (.refl _))))
 (kXj (alts := YW (x0, x1, x2, x3)) ev6 false (.next (.here () rfl (.refl _) (.refl _)))))
 (kXj (alts := YW (x0, x1, x2, x3)) ev6 true (.here () rfl (.refl _) (.refl _)))))
 (fun v6 => (kW (sh := Qk) (gVal.mk (0 : Int) (0 : Int)) lr fun v11 => (kEr (enc := Qp) (v11, (1 : Int)))))
 (fun v6 => (kJb (id := 5000007) v6 (fun v13 ev13 v14 => (kIf (c := x0 == (9 : Int)) (kXj (alts := VI (x0, x1, x2, x3)) ev13 true (.here () rfl (.refl _) (.refl _)))
 (kIf (c := x0 == (10 : Int)) (kXj (alts := VI (x0, x1, x2, x3)) ev13 true (.here () rfl (.refl _) (.refl _)))
 (kXj (alts := VI (x0, x1, x2, x3)) ev13 false (.next (.here () rfl (.refl _) (.refl _)))))))
 (fun v13 => (kC (sh := eI) (Mf x1 x2 x3) fun v16 => (kIf (c := decide ((0 : Int) < v16) == (x0 == (9 : Int))) (kEr (enc := Qp) (x3, (0 : Int)))
 (kEr (enc := Qp) (x2, (0 : Int))))))
 (fun v13 => (kIf (c := x1.fKind == (2 : Int)) (kC (sh := Qp) (PR x0 x1 x2.fN x3.fN) fun v18 => (kEr (enc := Qp) (v18.fst, v18.snd)))
 (kIf (c := x1.fKind == (3 : Int)) (kC (sh := Qp) (SQ x0 x2.fN x3.fN) fun v19 => (kEr (enc := Qp) (v19.fst, v19.snd)))
 (kIf (c := x0 == (4 : Int)) (kC (sh := Qp) (PL x2 x3) fun v20 => (kEr (enc := Qp) (v20.fst, v20.snd)))
 (kIf (c := x0 == (5 : Int)) (kC (sh := Qp) (PP x2 x3) fun v21 => (kEr (enc := Qp) (v21.fst, v21.snd)))
 (kIf (c := x0 == (6 : Int)) (kC (sh := Qp) (PN x2 x3) fun v22 => (kEr (enc := Qp) (v22.fst, v22.snd)))
 (kIf (c := x0 == (7 : Int)) (kC (sh := Qp) (PM x2 x3) fun v23 => (kEr (enc := Qp) (v23.fst, v23.snd)))
 (kC (sh := Qk) (PO x2) fun v24 => (kEr (enc := Qp) (v24, (0 : Int))))))))))))))
 (kW (sh := Qk) (gVal.mk (0 : Int) (0 : Int)) lr fun v25 => (kEr (enc := Qp) (v25, (10 : Int))))))) h)
def VO (s : ((List XG) × (List Qd) × Q2)) (u : (Bool × Int)) (o : Bool) : List Alt := jb o (fun b => [.sl 8 (List.map VD (s.1)), .sl 2 (List.map Qe (s.2.1)), .ptr 0 0 0, .bool (u.1), ii (u.2), .bool b]) [.cells 0 (Q8 (s.2.2)).cells]
def Gm (s : Q2) (u : (Qz × Qz)) (o : Qz) : List Alt := [⟨fun (x : Qz) => x = o, .normal, fun x => [.ptr 0 0 0, .ptr 1 0 0, .ptr 2 0 0, .ptr 3 0 0], fun x => [.cells 0 (Q8 s).cells, .cells 0 (Qt (u.1)).cells, .cells 0 (Qt (u.2)).cells, .cells 0 (Qt x).cells]⟩]
mutual
def Xm (x0 : List XG) (x1 : List Qd) (x2 : Q2) : Option (Bool × Int) :=
 if (16 : Int) ≤ x2.fOp then
 Option.map Qb.f (ix x2.fArgs (0 : Int)) >>= fun v0 =>
 Xm x0 x1 v0 >>= fun v1 =>
 some (v1.fst, v1.snd) >>= fun v2 =>
 (if v1.snd != (0 : Int) then
 some true
 else
 if x2.fOp == (18 : Int) then
 some true
 else
 some false) >>= fun v3 => if v3 then
 if v2.snd == (0 : Int) then
 some ((!v2.fst), v2.snd)
 else
 some (false, v2.snd)
 else
 Option.map Qb.f (ix x2.fArgs (1 : Int)) >>= fun v6 =>
 Xm x0 x1 v6 >>= fun v7 =>
 if v7.snd != (0 : Int) then
 some (false, v7.snd)
 else
 if x2.fOp == (16 : Int) then
 if v2.fst then
 if v7.fst then
 some (true, (0 : Int))
 else
 if x2.fOp == (17 : Int) then
 if v2.fst then
 some (true, (0 : Int))
 else
 some (v7.fst, (0 : Int))
 else
 some (false, (0 : Int))
 else
 if x2.fOp == (17 : Int) then
 if v2.fst then
 some (true, (0 : Int))
 else
 some (v7.fst, (0 : Int))
 else
 some (false, (0 : Int))
 else
 if x2.fOp == (17 : Int) then
 if v2.fst then
 some (true, (0 : Int))
 else
 some (v7.fst, (0 : Int))
 else
 some (false, (0 : Int))
 else
 Option.map Qb.f (ix x2.fArgs (0 : Int)) >>= fun v8 =>
 Xn x0 x1 v8 >>= fun v9 =>
 if v9.fE != (0 : Int) then
 some (false, v9.fE)
 else
 Option.map Qb.f (ix x2.fArgs (1 : Int)) >>= fun v10 =>
 Xn x0 x1 v10 >>= fun v11 =>
 if v11.fE != (0 : Int) then
 some (false, v11.fE)
 else
 if !(v9.fT.fKind == v11.fT.fKind && (v9.fT.fBits == v11.fT.fBits && (v9.fT.fFrac == v11.fT.fFrac && (v9.fT.fRound == v11.fT.fRound && (v9.fT.fOver == v11.fT.fOver && true))))) then
 some (false, (10 : Int))
 else
 G5 v9.fT v9.fV v11.fV >>= fun v12 =>
 if v12 < (0 : Int) then
 if x2.fOp != (15 : Int) then
 some (true, (0 : Int))
 else
 if v12 == (0 : Int) then
 some ((x2.fOp != (13 : Int)), (0 : Int))
 else
 some (false, (0 : Int))
 else
 if v12 == (0 : Int) then
 some ((x2.fOp != (13 : Int)), (0 : Int))
 else
 some (false, (0 : Int))
 partial_fixpoint
def Xn (x0 : List XG) (x1 : List Qd) (x2 : Q2) : Option Qz :=
 if x2.fOp ≤ (3 : Int) then
 W3 x0 x1 x2 >>= fun v0 =>
 some v0
 else
 if x2.fOp == (11 : Int) then
 Option.map Qb.f (ix x2.fArgs (0 : Int)) >>= fun v1 =>
 Xm x0 x1 v1 >>= fun v2 =>
 if v2.snd != (0 : Int) then
 some ((Qz.mk (gVal.mk (0 : Int) (0 : Int)) (Qi.mk (0 : Int) (0 : Int) (0 : Int) (0 : Int) (0 : Int)) v2.snd)) >>= fun v3 =>
 some v3
 else
 if v2.fst then
 Option.map Qb.f (ix x2.fArgs (1 : Int)) >>= fun v4 =>
 Xn x0 x1 v4 >>= fun v5 =>
 some v5
 else
 Option.map Qb.f (ix x2.fArgs (2 : Int)) >>= fun v6 =>
 Xn x0 x1 v6 >>= fun v7 =>
 some v7
 else
 Option.map Qb.f (ix x2.fArgs (0 : Int)) >>= fun v8 =>
 Xn x0 x1 v8 >>= fun v9 =>
 if v9.fE != (0 : Int) then
 some v9
 else
 if x2.fOp == (12 : Int) then
 CX v9.fT x2.fType v9.fV >>= fun v10 =>
 if v10.snd != (0 : Int) then
 some ((Qz.mk (gVal.mk (0 : Int) (0 : Int)) (Qi.mk (0 : Int) (0 : Int) (0 : Int) (0 : Int) (0 : Int)) v10.snd)) >>= fun v11 =>
 some v11
 else
 some ((Qz.mk v10.fst x2.fType (0 : Int))) >>= fun v12 =>
 some v12
 else
 some ((Qz.mk (gVal.mk (0 : Int) (0 : Int)) (Qi.mk (0 : Int) (0 : Int) (0 : Int) (0 : Int) (0 : Int)) (0 : Int)), v9) >>= fun v13 =>
 (if x2.fOp != (8 : Int) then
 Option.map Qb.f (ix x2.fArgs (1 : Int)) >>= fun v15 =>
 Xn x0 x1 v15 >>= fun v16 =>
 some v16
 else
 some v9) >>= fun v17 =>
 if v17.fE != (0 : Int) then
 some v17
 else
 if !(v13.snd.fT.fKind == v17.fT.fKind && (v13.snd.fT.fBits == v17.fT.fBits && (v13.snd.fT.fFrac == v17.fT.fFrac && (v13.snd.fT.fRound == v17.fT.fRound && (v13.snd.fT.fOver == v17.fT.fOver && true))))) then
 some ((Qz.mk (gVal.mk (0 : Int) (0 : Int)) (Qi.mk (0 : Int) (0 : Int) (0 : Int) (0 : Int) (0 : Int)) (10 : Int))) >>= fun v18 =>
 some v18
 else
 Cx x2.fOp v13.snd.fT v13.snd.fV v17.fV >>= fun v19 =>
 if v19.snd != (0 : Int) then
 some ((Qz.mk (gVal.mk (0 : Int) (0 : Int)) (Qi.mk (0 : Int) (0 : Int) (0 : Int) (0 : Int) (0 : Int)) v19.snd)) >>= fun v20 =>
 some v20
 else
 some ((Qz.mk v19.fst v13.snd.fT (0 : Int))) >>= fun v21 =>
 some v21
 partial_fixpoint
end
theorem To (x0 : List XG) (x1 : List Qd) : (∀ (x2 : Q2) (r : (Bool × Int)), Xm x0 x1 x2 = some r → PU 82 [UC x0, QP x1, Q8 x2] (Z7 r)) ∧ (∀ (x2 : Q2) (r : Qz), Xn x0 x1 x2 = some r → PU 101 [UC x0, QP x1, Q8 x2] (Qt r)) :=
 Xm.mutual_partial_correctness x0 x1 (fun x2 r => PU 82 [UC x0, QP x1, Q8 x2] (Z7 r)) (fun x2 r => PU 101 [UC x0, QP x1, Q8 x2] (Qt r))
 (fun Xm Xn Q2t Q2v x2 r h  =>
 Pu2 (hs := [(17, .split), (23, .e Q8), (25, .c Z7), (29, .split), (33, .split), (36, .split), (47, .e Q8), (49, .c Z7), (53, .split), (57, .split), (59, .split), (62, .split), (67, .split), (69, .split), (79, .e Q8), (81, .c Qt), (84, .split), (91, .e Q8), (93, .c Qt), (96, .split), (103, .split), (110, .c eI), (112, .split), (116, .split), (120, .split), (5000003, .l [] [] [] [0, 1, 5, 8, 9, 34] [kk 5] (VO (x0, x1, x2)))]) ((kIfD (p := (16 : Int) ≤ x2.fOp) (kIxR (l := x2.fArgs) (k := (0 : Int)) QS fun v0 => (kC (sh := Z7) (Q2t v0) fun v1 => (kJb (id := 5000003) (v1.fst, v1.snd) (fun v2 ev2 v3 => (kIf (c := v1.snd != (0 : Int)) (kXj (alts := VO (x0, x1, x2)) ev2 true (.here () rfl (.refl _) (.refl _)))
 (kIf (c := x2.fOp == (18 : Int)) (kXj (alts := VO (x0, x1, x2)) ev2 true (.here () rfl (.refl _) (.refl _)))
 (kXj (alts := VO (x0, x1, x2)) ev2 false (.next (.here () rfl (.refl _) (.refl _)))))))
 (fun v2 => (kIf (c := v2.snd == (0 : Int)) (kEr (enc := Z7) ((!v2.fst), v2.snd))
 (kEr (enc := Z7) (false, v2.snd))))
 (fun v2 => (kIxR (l := x2.fArgs) (k := (1 : Int)) QS fun v6 => (kC (sh := Z7) (Q2t v6) fun v7 => (kIf (c := v7.snd != (0 : Int)) (kEr (enc := Z7) (false, v7.snd))
 (kIf (c := x2.fOp == (16 : Int)) (kIf (c := v2.fst) (kIf (c := v7.fst) (kEr (enc := Z7) (true, (0 : Int)))
 (kIf (c := x2.fOp == (17 : Int)) (kIf (c := v2.fst) (kEr (enc := Z7) (true, (0 : Int)))
 (kEr (enc := Z7) (v7.fst, (0 : Int))))
 (kEr (enc := Z7) (false, (0 : Int)))))
 (kIf (c := x2.fOp == (17 : Int)) (kIf (c := v2.fst) (kEr (enc := Z7) (true, (0 : Int)))
 (kEr (enc := Z7) (v7.fst, (0 : Int))))
 (kEr (enc := Z7) (false, (0 : Int)))))
 (kIf (c := x2.fOp == (17 : Int)) (kIf (c := v2.fst) (kEr (enc := Z7) (true, (0 : Int)))
 (kEr (enc := Z7) (v7.fst, (0 : Int))))
 (kEr (enc := Z7) (false, (0 : Int))))))))))))
 (kIxR (l := x2.fArgs) (k := (0 : Int)) QS fun v8 => (kC (sh := Qt) (Q2v v8) fun v9 => (kIf (c := v9.fE != (0 : Int)) (kEr (enc := Z7) (false, v9.fE))
 (kIxR (l := x2.fArgs) (k := (1 : Int)) QS fun v10 => (kC (sh := Qt) (Q2v v10) fun v11 => (kIf (c := v11.fE != (0 : Int)) (kEr (enc := Z7) (false, v11.fE))
 (kIf (c := !(v9.fT.fKind == v11.fT.fKind && (v9.fT.fBits == v11.fT.fBits && (v9.fT.fFrac == v11.fT.fFrac && (v9.fT.fRound == v11.fT.fRound && (v9.fT.fOver == v11.fT.fOver && true)))))) (kEr (enc := Z7) (false, (10 : Int)))
 (kC (sh := eI) (Mf v9.fT v9.fV v11.fV) fun v12 => (kIfD (p := v12 < (0 : Int)) (kIf (c := x2.fOp != (15 : Int)) (kEr (enc := Z7) (true, (0 : Int)))
 (kIf (c := v12 == (0 : Int)) (kEr (enc := Z7) ((x2.fOp != (13 : Int)), (0 : Int)))
 (kEr (enc := Z7) (false, (0 : Int)))))
 (kIf (c := v12 == (0 : Int)) (kEr (enc := Z7) ((x2.fOp != (13 : Int)), (0 : Int)))
 (kEr (enc := Z7) (false, (0 : Int)))))))))))))) h))
 (fun Xm Xn Q2t Q2v x2 r h  =>
 Pu2 (hs := [(17, .split), (21, .c Qt), (24, .split), (30, .e Q8), (32, .c Z7), (37, .split), (39, .n Qt 39 none), (41, .split), (46, .e Q8), (48, .c Qt), (53, .e Q8), (55, .c Qt), (60, .e Q8), (62, .c Qt), (65, .split), (69, .split), (77, .c Qp), (81, .split), (83, .n Qt 83 none), (87, .n Qt 87 none), (91, .split), (96, .e Q8), (98, .c Qt), (101, .split), (107, .split), (108, .n Qt 108 none), (118, .c Qp), (122, .split), (124, .n Qt 124 none), (128, .n Qt 128 none), (6000021, .l [] [] [] [5, 6, 9, 12] [kk 5, kk 6, kk 9, kk 12] (Gm x2))]) ((kIfD (p := x2.fOp ≤ (3 : Int)) (kC (sh := Qt) (F5 x0 x1 x2) fun v0 => (kEr (enc := Qt) v0))
 (kIf (c := x2.fOp == (11 : Int)) (kIxR (l := x2.fArgs) (k := (0 : Int)) QS fun v1 => (kC (sh := Z7) (Q2t v1) fun v2 => (kIf (c := v2.snd != (0 : Int)) (kW (sh := Qt) (Qz.mk (gVal.mk (0 : Int) (0 : Int)) (Qi.mk (0 : Int) (0 : Int) (0 : Int) (0 : Int) (0 : Int)) v2.snd) lr fun v3 => (kEr (enc := Qt) v3))
 (kIf (c := v2.fst) (kIxR (l := x2.fArgs) (k := (1 : Int)) QS fun v4 => (kC (sh := Qt) (Q2v v4) fun v5 => (kEr (enc := Qt) v5)))
 (kIxR (l := x2.fArgs) (k := (2 : Int)) QS fun v6 => (kC (sh := Qt) (Q2v v6) fun v7 => (kEr (enc := Qt) v7)))))))
 (kIxR (l := x2.fArgs) (k := (0 : Int)) QS fun v8 => (kC (sh := Qt) (Q2v v8) fun v9 => (kIf (c := v9.fE != (0 : Int)) (kEr (enc := Qt) v9)
 (kIf (c := x2.fOp == (12 : Int)) (kC (sh := Qp) (AU v9.fT x2.fType v9.fV) fun v10 => (kIf (c := v10.snd != (0 : Int)) (kW (sh := Qt) (Qz.mk (gVal.mk (0 : Int) (0 : Int)) (Qi.mk (0 : Int) (0 : Int) (0 : Int) (0 : Int) (0 : Int)) v10.snd) lr fun v11 => (kEr (enc := Qt) v11))
 (kW (sh := Qt) (Qz.mk v10.fst x2.fType (0 : Int)) lr fun v12 => (kEr (enc := Qt) v12))))
 (kJ1 (id := 6000021) ((Qz.mk (gVal.mk (0 : Int) (0 : Int)) (Qi.mk (0 : Int) (0 : Int) (0 : Int) (0 : Int) (0 : Int)) (0 : Int)), v9) (fun v13 ev13 v14 => (kIf (c := x2.fOp != (8 : Int)) (kIxR (l := x2.fArgs) (k := (1 : Int)) QS fun v15 => (kC (sh := Qt) (Q2v v15) fun v16 => (kXj (alts := Gm x2) ev13 v16 (.here _ rfl (.refl _) (.refl _)))))
 (kXj (alts := Gm x2) ev13 v9 (.here _ rfl (.refl _) (.refl _)))))
 (fun v13 v17 => (kIf (c := v17.fE != (0 : Int)) (kEr (enc := Qt) v17)
 (kIf (c := !(v13.snd.fT.fKind == v17.fT.fKind && (v13.snd.fT.fBits == v17.fT.fBits && (v13.snd.fT.fFrac == v17.fT.fFrac && (v13.snd.fT.fRound == v17.fT.fRound && (v13.snd.fT.fOver == v17.fT.fOver && true)))))) (kW (sh := Qt) (Qz.mk (gVal.mk (0 : Int) (0 : Int)) (Qi.mk (0 : Int) (0 : Int) (0 : Int) (0 : Int) (0 : Int)) (10 : Int)) lr fun v18 => (kEr (enc := Qt) v18))
 (kC (sh := Qp) (SO x2.fOp v13.snd.fT v13.snd.fV v17.fV) fun v19 => (kIf (c := v19.snd != (0 : Int)) (kW (sh := Qt) (Qz.mk (gVal.mk (0 : Int) (0 : Int)) (Qi.mk (0 : Int) (0 : Int) (0 : Int) (0 : Int) (0 : Int)) v19.snd) lr fun v20 => (kEr (enc := Qt) v20))
 (kW (sh := Qt) (Qz.mk v19.fst v13.snd.fT (0 : Int)) lr fun v21 => (kEr (enc := Qt) v21)))))))))))))) h))
theorem SZ (x0 : List XG) (x1 : List Qd) (x2 : Q2) (r : (Bool × Int)) (h : Xm x0 x1 x2 = some r) : PU 82 [UC x0, QP x1, Q8 x2] (Z7 r) := (To x0 x1).1 x2 r h
def Gu (x0 : List XG) (x1 : List Qd) (x2 : Q2) : Option (Bool × Int) :=
 Uy x2 >>= fun v0 =>
 if v0 != (0 : Int) then
 some (false, v0)
 else
 Zn x2 >>= fun v1 => if v1 then
 Xm x0 x1 x2 >>= fun v2 =>
 some (v2.fst, v2.snd)
 else
 some (false, (10 : Int))
theorem HI (x0 : List XG) (x1 : List Qd) (x2 : Q2) (r : (Bool × Int)) (h : Gu x0 x1 x2 = some r) : PU 52 [UC x0, QP x1, Q8 x2] (Z7 r) :=
 Pu2 (hs := [(10, .c eI), (12, .split), (15, .cb), (20, .c Z7)]) ((kC (sh := eI) (NQ x2) fun v0 => (kIf (c := v0 != (0 : Int)) (kEr (enc := Z7) (false, v0))
 (kCb (YU x2) (kC (sh := Z7) (SZ x0 x1 x2) fun v2 => (kEr (enc := Z7) (v2.fst, v2.snd)))
 (kEr (enc := Z7) (false, (10 : Int)))))) h)
def GG (s : Int) (u : (Bool × Int)) (o : Int) : List Alt := [⟨fun (x : Int) => x = o, .normal, fun x => [ii s, .bool (u.1), .int .u64 x, .int .u64 (u.2)], fun x => []⟩]
def GH (s : Unit) (u : (Bool × Int)) (o : Int) : List Alt := [⟨fun (x : Int) => x = o, .normal, fun x => [.bool (u.1), .int .u64 (u.2), .int .u64 x], fun x => []⟩]
def Jk (s : Unit) (u : Unit) (o : (Int × Int)) : List Alt := [⟨fun (x : (Int × Int)) => x = o, .normal, fun x => [.int .u64 (x.1), .int .u64 (x.2)], fun x => []⟩]
def W1 (x0 : Int) (x1 : Int) : Option (Int × Int) :=
 some (w6 x0 : Int) >>= fun v0 =>
 some (w6 x1 : Int) >>= fun v1 =>
 some ((!decide (x0 < (0 : Int)) == decide (x1 < (0 : Int))), v1) >>= fun v2 =>
 (if x0 < (0 : Int) then
 some (w6 ((0 : Int) - v0) : Int) >>= fun v4 =>
 some v4
 else
 some v0) >>= fun v5 =>
 some (v2.fst, v5) >>= fun v6 =>
 (if x1 < (0 : Int) then
 some (w6 ((0 : Int) - v2.snd) : Int) >>= fun v8 =>
 some v8
 else
 some v2.snd) >>= fun v9 =>
 if (0 : Int) ≤ (32 : Int) then
 if (0 : Int) ≤ (32 : Int) then
 some (v6.snd.fdiv ((2 : Int) ^ (32 : Nat)) : Int) >>= fun v10 =>
 some (w6 (↑(BitVec.ofInt (64 : Nat) v6.snd &&& BitVec.ofInt (64 : Nat) (4294967295 : Int)).toNat : Int) : Int) >>= fun v11 =>
 some (Int.fdiv v9 ((2 : Int) ^ (32 : Nat)) : Int) >>= fun v12 =>
 some (w6 (↑(BitVec.ofInt (64 : Nat) v9 &&& BitVec.ofInt (64 : Nat) (4294967295 : Int)).toNat : Int) : Int) >>= fun v13 =>
 some (w6 (v11 * v13) : Int) >>= fun v14 =>
 some (w6 (v10 * v13) : Int) >>= fun v15 =>
 some (w6 (v11 * v12) : Int) >>= fun v16 =>
 if (0 : Int) ≤ (32 : Int) then
 some (w6 (w6 (v14.fdiv ((2 : Int) ^ (32 : Nat)) + w6 (↑(BitVec.ofInt (64 : Nat) v15 &&& BitVec.ofInt (64 : Nat) (4294967295 : Int)).toNat : Int)) + w6 (↑(BitVec.ofInt (64 : Nat) v16 &&& BitVec.ofInt (64 : Nat) (4294967295 : Int)).toNat : Int)) : Int) >>= fun v17 =>
 if (0 : Int) ≤ (32 : Int) then
 some (w6 (↑(BitVec.ofInt (64 : Nat) (w6 (↑(BitVec.ofInt (64 : Nat) v14 &&& BitVec.ofInt (64 : Nat) (4294967295 : Int)).toNat : Int)) ||| BitVec.ofInt (64 : Nat) (w6 (v17 * (2 : Int) ^ (32 : Nat)))).toNat : Int) : Int) >>= fun v18 =>
 if (0 : Int) ≤ (32 : Int) then
 if (0 : Int) ≤ (32 : Int) then
 if (0 : Int) ≤ (32 : Int) then
 some (w6 (w6 (w6 (w6 (v10 * v12) + v15.fdiv ((2 : Int) ^ (32 : Nat))) + v16.fdiv ((2 : Int) ^ (32 : Nat))) + v17.fdiv ((2 : Int) ^ (32 : Nat))) : Int) >>= fun v19 =>
 some () >>= fun v20 =>
 (if v6.fst then
 some (w6 ((0 : Int) - v18) : Int) >>= fun v22 =>
 some (w6 (↑(BitVec.ofInt (64 : Nat) (if false = true then (-1 : Int) else IntKind.u64.max) ^^^ BitVec.ofInt (64 : Nat) v19).toNat : Int) : Int) >>= fun v23 =>
 if v22 == (0 : Int) then
 some (w6 (v23 + (1 : Int)) : Int) >>= fun v24 =>
 some (v22, v24)
 else
 some (v22, v23)
 else
 some (v18, v19)) >>= fun v25 =>
 some ((wr v25.snd), v25.fst)
 else none
 else none
 else none
 else none
 else none
 else none
 else none
theorem F3 (x0 : Int) (x1 : Int) (r : (Int × Int)) (h : W1 x0 x1 = some r) : PU 170 [eI x0, eI x1] (Ld r) :=
 Pu2 (hs := [(7, .n eU64 7 none), (8, .n eU64 8 none), (30, .split), (7, .n eU64 7 none), (34, .split), (8, .n eU64 8 none), (38, .s), (42, .s), (9, .n eU64 9 none), (10, .n eU64 10 none), (11, .n eU64 11 none), (12, .n eU64 12 none), (13, .n eU64 13 none), (14, .n eU64 14 none), (15, .n eU64 15 none), (58, .s), (17, .n eU64 17 none), (68, .s), (18, .n eU64 18 none), (72, .s), (75, .s), (78, .s), (19, .n eU64 19 none), (80, .split), (18, .n eU64 18 none), (86, .split), (6000005, .l [] [] [] [1, 6, 7, 8] [] (GG x1)), (6000007, .l [] [] [] [6, 7, 8] [] (GH ())), (6000014, .l [] [] [] [18, 19] [] (Jk ()))]) ((kN (w6 x0) rfl fun v0 => (kN (w6 x1) rfl fun v1 => (kJ1 (id := 6000005) ((!decide (x0 < (0 : Int)) == decide (x1 < (0 : Int))), v1) (fun v2 ev2 v3 => (kIfD (p := x0 < (0 : Int)) (kN (w6 ((0 : Int) - v0)) rfl fun v4 => (kXj (alts := GG x1) ev2 v4 (.here _ rfl (.refl _) (.refl _))))
 (kXj (alts := GG x1) ev2 v0 (.here _ rfl (.refl _) (.refl _)))))
 (fun v2 v5 => (kJ1 (id := 6000007) (v2.fst, v5) (fun v6 ev6 v7 => (kIfD (p := x1 < (0 : Int)) (kN (w6 ((0 : Int) - v2.snd)) rfl fun v8 => (kXj (alts := GH ()) ev6 v8 (.here _ rfl (.refl _) (.refl _))))
 (kXj (alts := GH ()) ev6 v2.snd (.here _ rfl (.refl _) (.refl _)))))
 (fun v6 v9 => (kG (p := (0 : Int) ≤ (32 : Int)) (kG (p := (0 : Int) ≤ (32 : Int)) (kN (v6.snd.fdiv ((2 : Int) ^ (32 : Nat))) rfl fun v10 => (kN (w6 (↑(BitVec.ofInt (64 : Nat) v6.snd &&& BitVec.ofInt (64 : Nat) (4294967295 : Int)).toNat : Int)) rfl fun v11 => (kN (Int.fdiv v9 ((2 : Int) ^ (32 : Nat))) rfl fun v12 => (kN (w6 (↑(BitVec.ofInt (64 : Nat) v9 &&& BitVec.ofInt (64 : Nat) (4294967295 : Int)).toNat : Int)) rfl fun v13 => (kN (w6 (v11 * v13)) rfl fun v14 => (kN (w6 (v10 * v13)) rfl fun v15 => (kN (w6 (v11 * v12)) rfl fun v16 => (kG (p := (0 : Int) ≤ (32 : Int)) (kN (w6 (w6 (v14.fdiv ((2 : Int) ^ (32 : Nat)) + w6 (↑(BitVec.ofInt (64 : Nat) v15 &&& BitVec.ofInt (64 : Nat) (4294967295 : Int)).toNat : Int)) + w6 (↑(BitVec.ofInt (64 : Nat) v16 &&& BitVec.ofInt (64 : Nat) (4294967295 : Int)).toNat : Int))) rfl fun v17 => (kG (p := (0 : Int) ≤ (32 : Int)) (kN (w6 (↑(BitVec.ofInt (64 : Nat) (w6 (↑(BitVec.ofInt (64 : Nat) v14 &&& BitVec.ofInt (64 : Nat) (4294967295 : Int)).toNat : Int)) ||| BitVec.ofInt (64 : Nat) (w6 (v17 * (2 : Int) ^ (32 : Nat)))).toNat : Int)) rfl fun v18 => (kG (p := (0 : Int) ≤ (32 : Int)) (kG (p := (0 : Int) ≤ (32 : Int)) (kG (p := (0 : Int) ≤ (32 : Int)) (kN (w6 (w6 (w6 (w6 (v10 * v12) + v15.fdiv ((2 : Int) ^ (32 : Nat))) + v16.fdiv ((2 : Int) ^ (32 : Nat))) + v17.fdiv ((2 : Int) ^ (32 : Nat)))) rfl fun v19 => (kJ1 (id := 6000014) () (fun v20 ev20 v21 => (kIf (c := v6.fst) (kN (w6 ((0 : Int) - v18)) rfl fun v22 => (kN (w6 (↑(BitVec.ofInt (64 : Nat) (if false = true then (-1 : Int) else IntKind.u64.max) ^^^ BitVec.ofInt (64 : Nat) v19).toNat : Int)) rfl fun v23 => (kIf (c := v22 == (0 : Int)) (kN (w6 (v23 + (1 : Int))) rfl fun v24 => (kXj (alts := Jk ()) ev20 (v22, v24) (.here _ rfl (.refl _) (.refl _))))
 (kXj (alts := Jk ()) ev20 (v22, v23) (.here _ rfl (.refl _) (.refl _))))))
 (kXj (alts := Jk ()) ev20 (v18, v19) (.here _ rfl (.refl _) (.refl _)))))
 (fun v20 v25 => (kEr (enc := Ld) ((wr v25.snd), v25.fst))))))))))))))))))))))))))) h)
def GE (s : Int) (u : (Int × Int)) (o : Int) : List Alt := [⟨fun (x : Int) => x = o, .normal, fun x => [ii s, ii (u.1), .int .u64 (u.2), ii x], fun x => []⟩]
def GF (s : Unit) (u : Int) (o : Int) : List Alt := [⟨fun (x : Int) => x = o, .normal, fun x => [.int .u64 u, ii x], fun x => []⟩]
def Uz (x0 : Int) (x1 : Int) (x2 : Int) : Option (Int × Bool) :=
 W1 x1 x2 >>= fun v0 =>
 some (w6 (v0.snd + w6 x0) : Int) >>= fun v1 =>
 some (v0.fst, v1) >>= fun v2 =>
 (if v1 < v0.snd then
 some (1 : Int)
 else
 some (0 : Int)) >>= fun v4 =>
 some (wr (v2.fst + v4) : Int) >>= fun v5 =>
 some v2.snd >>= fun v6 =>
 (if x0 < (0 : Int) then
 some (wr (v5 - (1 : Int)) : Int) >>= fun v8 =>
 some v8
 else
 some v5) >>= fun v9 =>
 some (wr v6 : Int) >>= fun v10 =>
 if v9 == (0 : Int) then
 if (0 : Int) ≤ v10 then
 some (v10, true)
 else
 if v9 == (-1 : Int) then
 some (v10, (decide (v10 < (0 : Int))))
 else
 some (v10, false)
 else
 if v9 == (-1 : Int) then
 some (v10, (decide (v10 < (0 : Int))))
 else
 some (v10, false)
theorem Wa (x0 : Int) (x1 : Int) (x2 : Int) (r : (Int × Bool)) (h : Uz x0 x1 x2 = some r) : PU 164 [eI x0, eI x1, eI x2] (ZM r) :=
 Pu2 (hs := [(17, .c Ld), (10, .n eU64 10 none), (26, .split), (12, .n eI 12 none), (31, .split), (13, .n eI 13 none), (38, .split), (41, .split), (45, .split), (6000006, .l [] [] [] [0, 8, 10, 11] [] (GE x0)), (6000009, .l [] [] [] [10, 12] [] (GF ()))]) ((kC (sh := Ld) (F3 x1 x2) fun v0 => (kN (w6 (v0.snd + w6 x0)) rfl fun v1 => (kJ1 (id := 6000006) (v0.fst, v1) (fun v2 ev2 v3 => (kIfD (p := v1 < v0.snd) (kXj (alts := GE x0) ev2 (1 : Int) (.here _ rfl (.refl _) (.refl _)))
 (kXj (alts := GE x0) ev2 (0 : Int) (.here _ rfl (.refl _) (.refl _)))))
 (fun v2 v4 => (kN (wr (v2.fst + v4)) rfl fun v5 => (kJ1 (id := 6000009) v2.snd (fun v6 ev6 v7 => (kIfD (p := x0 < (0 : Int)) (kN (wr (v5 - (1 : Int))) rfl fun v8 => (kXj (alts := GF ()) ev6 v8 (.here _ rfl (.refl _) (.refl _))))
 (kXj (alts := GF ()) ev6 v5 (.here _ rfl (.refl _) (.refl _)))))
 (fun v6 v9 => (kN (wr v6) rfl fun v10 => (kIf (c := v9 == (0 : Int)) (kIfD (p := (0 : Int) ≤ v10) (kEr (enc := ZM) (v10, true))
 (kIf (c := v9 == (-1 : Int)) (kEr (enc := ZM) (v10, (decide (v10 < (0 : Int)))))
 (kEr (enc := ZM) (v10, false))))
 (kIf (c := v9 == (-1 : Int)) (kEr (enc := ZM) (v10, (decide (v10 < (0 : Int)))))
 (kEr (enc := ZM) (v10, false)))))))))))) h)
def KW (s : (Int × gLin)) (u : Unit) (o : Unit ⊕ Bool) : List Alt := [⟨fun (x : Unit) => (Sum.inl x : Unit ⊕ Bool) = o, .exit 0, fun x => [.undef], fun x => []⟩, ⟨fun (x : Bool) => (Sum.inr x : Unit ⊕ Bool) = o, .ret, fun x => [.bool x], fun x => []⟩]
def Xh (x1 : Int) (x2 : gLin) (x7 : Int) : Option (Unit ⊕ Bool) :=
 some (List.length x2.fL : Int) >>= fun v0 =>
 if x7 < v0 then
 ix x2.fL x7 >>= fun v1 =>
 Uz (0 : Int) v1.fBy x1 >>= fun v2 =>
 if v2.snd then
 Xh x1 x2 (wr (x7 + (1 : Int)))
 else
 some (.inr false)
 else
 some (.inl ())
 partial_fixpoint
theorem HH (x1 : Int) (x2 : gLin) (x7 : Int) (o : Unit ⊕ Bool) (h : Xh x1 x2 x7 = some o) : LO 150 5 39 [1, 2, 7] [ii x1, .ptr 0 0 0, ii x7] [.cells 0 (Qj x2).cells] [4] (KW (x1, x2) () o) :=
 Xh.partial_correctness x1 x2 (fun x7 o => LO 150 5 39 [1, 2, 7] [ii x1, .ptr 0 0 0, ii x7] [.cells 0 (Qj x2).cells] [4] (KW (x1, x2) () o))
 (fun Xh Q2n x7 o h  =>
 Lp2 (hs := [(22, .n eI 22 none), (23, .split), (30, .e Qf), (34, .c ZM), (37, .split)]) (kb := [kk 2]) (kbx := []) ((kN _ (mLen (sh := Qf) x2.fL) fun v0 => (kIfD (p := x7 < v0) (kIx (enc := Qf) (l := x2.fL) (k := x7) fun v1 => (kC (sh := ZM) (Wa (0 : Int) v1.fBy x1) fun v2 => (kIf (c := v2.snd) (kM0 (alts := KW (x1, x2) ()) (Q2n (wr (x7 + (1 : Int)))))
 (kX (alts := KW (x1, x2) ()) (.inr false) (.next (.here _ rfl (.refl _) (.refl _)))))))
 (kX (alts := KW (x1, x2) ()) (.inl ()) (.here _ rfl (.refl _) (.refl _))))) h)) x7 o h
def GN (x0 : gLin) (x1 : Int) : Option Bool :=
 Uz (0 : Int) x0.fK x1 >>= fun v0 =>
 if v0.snd then
 some () >>= fun v1 =>
 Xh x1 x0 (0 : Int) >>= fun v2 => (match v2 with
 | (.inl v3) =>
 some true
 | (.inr v4) =>
 some v4)
 else
 some false
theorem Tz (x0 : gLin) (x1 : Int) (r : Bool) (h : GN x0 x1 = some r) : PU 150 [Qj x0, eI x1] (eB r) :=
 Pu2 (hs := [(14, .c ZM), (17, .split), (3000006, .l [] [1, 2, 7] [kk 2] [4] [] (KW (x1, x0)))]) ((kC (sh := ZM) (Wa (0 : Int) x0.fK x1) fun v0 => (kIf (c := v0.snd) (kL2 () (hL := (HH x1 x0 (0 : Int))) (hA := fun v1 v3 => (kEr (enc := eB) true))
 (hB := fun v1 v4 => (kEr (enc := eB) v4)))
 (kEr (enc := eB) false))) h)
def Ug (s : (Int × gLin × gLin)) (u : gLin) (o : (Bool × gLin)) : List Alt := [⟨fun (x : (Bool × gLin)) => x = o, .exit 0, fun x => [.ptr 0 0 0, .bool x.1, .ptr 1 0 0], fun x => [.cells 0 (Qj u).cells, .cells 0 [ii x.2.fK, .ow 2 0 2 (List.length x.2.fL)], .own 0 2 (List.map Qf x.2.fL)]⟩]
def U6 (s : (Int × gLin × gLin × gLin)) (u : (Bool × gLin × Int × Int)) (o : Bool) : List Alt := jb o (fun b => [ii (s.1), .ptr 0 0 0, .ptr 1 0 0, .ptr 2 0 0, .bool (u.1), .ptr 3 0 0, ii (u.2.2.1), ii (u.2.2.2), .bool b]) [.cells 0 (Qj (s.2.1)).cells, .cells 0 (Qj (s.2.2.1)).cells, .cells 0 (Qj (s.2.2.2)).cells, .cells 0 [ii (u.2.1).fK, .ow 4 0 2 (List.length ((u.2.1).fL))], .own 0 2 (List.map Qf (u.2.1).fL)]
def KJ (s : (Int × gLin × gLin × gLin)) (u : (Bool × gLin × Int × Int × Int × Int)) (o : Bool) : List Alt := jb o (fun b => [ii (s.1), .ptr 0 0 0, .ptr 1 0 0, .ptr 2 0 0, .bool (u.1), .ptr 3 0 0, ii (u.2.2.1), ii (u.2.2.2.1), ii (u.2.2.2.2.1), ii (u.2.2.2.2.2), .bool b]) [.cells 0 (Qj (s.2.1)).cells, .cells 0 (Qj (s.2.2.1)).cells, .cells 0 (Qj (s.2.2.2)).cells, .cells 0 [ii (u.2.1).fK, .ow 4 0 2 (List.length ((u.2.1).fL))], .own 0 2 (List.map Qf (u.2.1).fL)]
def D7 (s : (Int × gLin × gLin × gLin)) (u : (Bool × gLin × Int × Int × Int)) (o : (Int × Str)) : List Alt := [⟨fun (x : (Int × Str)) => x = o, .normal, fun x => [ii (s.1), .ptr 0 0 0, .ptr 1 0 0, .ptr 2 0 0, .bool (u.1), .ptr 3 0 0, ii (u.2.2.1), ii (u.2.2.2.1), ii (x.1), ii (u.2.2.2.2), .str (x.2)], fun x => [.cells 0 (Qj (s.2.1)).cells, .cells 0 (Qj (s.2.2.1)).cells, .cells 0 (Qj (s.2.2.2)).cells, .cells 0 [ii (u.2.1).fK, .ow 4 0 2 (List.length ((u.2.1).fL))], .own 0 2 (List.map Qf (u.2.1).fL)]⟩]
def U7 (s : (Int × gLin × gLin × gLin)) (u : (Bool × gLin × Int × Int × Int × Int × Str)) (o : Bool) : List Alt := jb o (fun b => [ii (s.1), .ptr 0 0 0, .ptr 1 0 0, .ptr 2 0 0, .bool (u.1), .ptr 3 0 0, ii (u.2.2.1), ii (u.2.2.2.1), ii (u.2.2.2.2.1), ii (u.2.2.2.2.2.1), .str (u.2.2.2.2.2.2), .bool b]) [.cells 0 (Qj (s.2.1)).cells, .cells 0 (Qj (s.2.2.1)).cells, .cells 0 (Qj (s.2.2.2)).cells, .cells 0 [ii (u.2.1).fK, .ow 4 0 2 (List.length ((u.2.1).fL))], .own 0 2 (List.map Qf (u.2.1).fL)]
def D8 (s : (Int × gLin × gLin × gLin)) (u : (Bool × gLin × Int × Int × Str)) (o : (Int × Int)) : List Alt := [⟨fun (x : (Int × Int)) => x = o, .normal, fun x => [ii (s.1), .ptr 0 0 0, .ptr 1 0 0, .ptr 2 0 0, .bool (u.1), .ptr 3 0 0, ii (u.2.2.1), ii (x.1), ii (u.2.2.2.1), ii (x.2), .str (u.2.2.2.2)], fun x => [.cells 0 (Qj (s.2.1)).cells, .cells 0 (Qj (s.2.2.1)).cells, .cells 0 (Qj (s.2.2.2)).cells, .cells 0 [ii (u.2.1).fK, .ow 4 0 2 (List.length ((u.2.1).fL))], .own 0 2 (List.map Qf (u.2.1).fL)]⟩]
def D9 (s : (Int × gLin × gLin × gLin)) (u : (Bool × gLin × Int × Int × Int × Str)) (o : Int) : List Alt := [⟨fun (x : Int) => x = o, .normal, fun x => [ii (s.1), .ptr 0 0 0, .ptr 1 0 0, .ptr 2 0 0, .bool (u.1), .ptr 3 0 0, ii x, ii (u.2.2.1), ii (u.2.2.2.1), ii (u.2.2.2.2.1), .str (u.2.2.2.2.2)], fun x => [.cells 0 (Qj (s.2.1)).cells, .cells 0 (Qj (s.2.2.1)).cells, .cells 0 (Qj (s.2.2.2)).cells, .cells 0 [ii (u.2.1).fK, .ow 4 0 2 (List.length ((u.2.1).fL))], .own 0 2 (List.map Qf (u.2.1).fL)]⟩]
def D6 (s : (Int × gLin × gLin × gLin)) (u : (gLin × Int × Int × Str × Int)) (o : Bool) : List Alt := [⟨fun (x : Bool) => x = o, .normal, fun x => [ii (s.1), .ptr 0 0 0, .ptr 1 0 0, .ptr 2 0 0, .bool x, .ptr 3 0 0, ii (u.2.1), ii (u.2.2.1), .str (u.2.2.2.1), ii (u.2.2.2.2)], fun x => [.cells 0 (Qj (s.2.1)).cells, .cells 0 (Qj (s.2.2.1)).cells, .cells 0 (Qj (s.2.2.2)).cells, .cells 0 [ii (u.1).fK, .ow 4 0 2 (List.length ((u.1).fL))], .own 0 2 (List.map Qf (u.1).fL)]⟩]
def ZQ (x2 : Int) (x3 : gLin) (x4 : gLin) (x9 : Bool) (x10 : gLin) (x11 : Int) (x12 : Int) : Option (Bool × gLin) :=
 some (x9, x10, x11, x12) >>= fun v0 =>
 (some (List.length x3.fL : Int) >>= fun v2 =>
 if x11 < v2 then
 some true
 else
 some (List.length x4.fL : Int) >>= fun v3 =>
 if x12 < v3 then
 some true
 else
 some false) >>= fun v1 => if v1 then
 some (v0.fst, v0.snd.fst, v0.snd.snd.fst, v0.snd.snd.snd, ((0 : Int))) >>= fun v5 =>
 (some (v0.fst, v0.snd.fst, v0.snd.snd.fst, v0.snd.snd.snd, (0 : Int), (0 : Int)) >>= fun v7 =>
 (if v0.snd.snd.snd == (↑(List.map Qf x4.fL).length : Int) then
 some (List.length x4.fL : Int) >>= fun v9 =>
 some true
 else
 if v0.snd.snd.fst < (↑(List.map Qf x3.fL).length : Int) then
 ix x3.fL v0.snd.snd.fst >>= fun v10 =>
 ix x4.fL v0.snd.snd.snd >>= fun v11 =>
 some (List.length x4.fL : Int) >>= fun v12 =>
 some (List.length x3.fL : Int) >>= fun v13 =>
 if Op.bytesLess v10.fName v11.fName || v10.fName == v11.fName then
 some true
 else
 some false
 else
 some (List.length x4.fL : Int) >>= fun v14 =>
 some (List.length x3.fL : Int) >>= fun v15 =>
 some false) >>= fun v8 => if v8 then
 ix x3.fL v7.snd.snd.fst >>= fun v17 =>
 ix x3.fL v7.snd.snd.fst >>= fun v18 =>
 some (v18.fBy, v17.fName)
 else
 ix x4.fL v7.snd.snd.snd.fst >>= fun v20 =>
 some (v7.snd.snd.snd.snd.fst, v20.fName)) >>= fun v21 =>
 some (v5.fst, v5.snd.fst, v5.snd.snd.fst, v21.fst, v21.snd) >>= fun v22 =>
 (some (v5.fst, v5.snd.fst, v5.snd.snd.fst, v5.snd.snd.snd.fst, v21.fst, v5.snd.snd.snd.snd, v21.snd) >>= fun v24 =>
 (some (List.length x4.fL : Int) >>= fun v26 =>
 if v5.snd.snd.snd.fst < v26 then
 ix x4.fL v5.snd.snd.snd.fst >>= fun v27 =>
 if v27.fName == v21.snd then
 some true
 else
 some false
 else
 some false) >>= fun v25 => if v25 then
 ix x4.fL v24.snd.snd.snd.fst >>= fun v29 =>
 some ((wr (v24.snd.snd.snd.fst + (1 : Int))), v29.fBy)
 else
 some (v24.snd.snd.snd.fst, v24.snd.snd.snd.snd.snd.fst)) >>= fun v31 =>
 some (v22.fst, v22.snd.fst, v31.fst, v22.snd.snd.snd.fst, v31.snd, v22.snd.snd.snd.snd) >>= fun v32 =>
 (if v22.snd.snd.snd.fst != (0 : Int) then
 some (wr (v22.snd.snd.fst + (1 : Int)))
 else
 some v22.snd.snd.fst) >>= fun v34 =>
 Uz v32.snd.snd.snd.fst v32.snd.snd.snd.snd.fst x2 >>= fun v35 =>
 some (v32.snd.fst, v34, v32.snd.snd.fst, v32.snd.snd.snd.snd.snd, v35.fst) >>= fun v36 =>
 (if v32.fst then
 some v35.snd
 else
 some false) >>= fun v38 =>
 if v36.snd.snd.snd.snd != (0 : Int) then
 some ((C8.mk v36.snd.snd.snd.fst v36.snd.snd.snd.snd)) >>= fun v39 =>
 if (v36.fst.fL.length + (1 : Nat)) * (24 : Nat) ≤ (140737488355328 : Nat) ∧ v36.fst.fL.length + (1 : Nat) ≤ (9223372036854775807 : Nat) then
 some (v36.fst.fL ++ [v39]) >>= fun v40 =>
 ZQ x2 x3 x4 v38 (gLin.mk v36.fst.fK v40) v36.snd.fst v36.snd.snd.fst
 else none
 else
 ZQ x2 x3 x4 v38 v36.fst v36.snd.fst v36.snd.snd.fst
 else
 some (v0.fst, v0.snd.fst)
 partial_fixpoint
theorem TA (x2 : Int) (x3 : gLin) (x4 : gLin) (x6 : gLin) (x9 : Bool) (x10 : gLin) (x11 : Int) (x12 : Int) (o : (Bool × gLin)) (h : ZQ x2 x3 x4 x9 x10 x11 x12 = some o) : LO 151 4 138 [2, 3, 4, 6, 9, 10, 11, 12] [ii x2, .ptr 0 0 0, .ptr 1 0 0, .ptr 2 0 0, .bool x9, .ptr 3 0 0, ii x11, ii x12] [.cells 0 (Qj x3).cells, .cells 0 (Qj x4).cells, .cells 0 (Qj x6).cells, .cells 0 [ii x10.fK, .ow 4 0 2 (List.length x10.fL)], .own 0 2 (List.map Qf x10.fL)] [6, 9, 10] (Ug (x2, x3, x4) x6 o) :=
 ZQ.partial_correctness x2 x3 x4 (fun x9 x10 x11 x12 o => ∀ (x6 : gLin), LO 151 4 138 [2, 3, 4, 6, 9, 10, 11, 12] [ii x2, .ptr 0 0 0, .ptr 1 0 0, .ptr 2 0 0, .bool x9, .ptr 3 0 0, ii x11, ii x12] [.cells 0 (Qj x3).cells, .cells 0 (Qj x4).cells, .cells 0 (Qj x6).cells, .cells 0 [ii x10.fK, .ow 4 0 2 (List.length x10.fL)], .own 0 2 (List.map Qf x10.fL)] [6, 9, 10] (Ug (x2, x3, x4) x6 o))
 (fun ZQ Q2q x9 x10 x11 x12 o h x6 =>
 Lp2 (hs := [(32, .n eI 32 none), (33, .split), (38, .n eI 38 none), (39, .split), (44, .n eI 44 none), (45, .split), (50, .n eI 50 none), (51, .split), (56, .e Qf), (62, .e Qf), (65, .split), (71, .e Qf), (77, .e Qf), (83, .e Qf), (89, .n eI 89 none), (90, .split), (95, .e Qf), (99, .split), (104, .e Qf), (110, .split), (117, .c ZM), (120, .split), (125, .split), (130, .n Qf 130 none), (132, .z [{ slot := 127, own := 2 }] (some (.n Qf 132 (some .a)))), (5000004, .l [] [] [] [2, 3, 4, 6, 9, 10, 11, 12, 40] [kk 3, kk 4, kk 6, kk 10, { slot := 10, path := [1], own := 2 }] (U6 (x2, x3, x4, x6))), (5000006, .l [] [] [] [2, 3, 4, 6, 9, 10, 11, 12, 13, 14, 67] [kk 3, kk 4, kk 6, kk 10, { slot := 10, path := [1], own := 2 }] (KJ (x2, x3, x4, x6))), (6000008, .l [] [] [] [2, 3, 4, 6, 9, 10, 11, 12, 13, 14, 15] [kk 3, kk 4, kk 6, kk 10, { slot := 10, path := [1], own := 2 }] (D7 (x2, x3, x4, x6))), (5000010, .l [] [] [] [2, 3, 4, 6, 9, 10, 11, 12, 13, 14, 15, 100] [kk 3, kk 4, kk 6, kk 10, { slot := 10, path := [1], own := 2 }] (U7 (x2, x3, x4, x6))), (6000012, .l [] [] [] [2, 3, 4, 6, 9, 10, 11, 12, 13, 14, 15] [kk 3, kk 4, kk 6, kk 10, { slot := 10, path := [1], own := 2 }] (D8 (x2, x3, x4, x6))), (6000015, .l [] [] [] [2, 3, 4, 6, 9, 10, 11, 12, 13, 14, 15] [kk 3, kk 4, kk 6, kk 10, { slot := 10, path := [1], own := 2 }] (D9 (x2, x3, x4, x6))), (5000016, .l [] [] [] [2, 3, 4, 6, 9, 10, 11, 12, 15, 16] [kk 3, kk 4, kk 6, kk 10, { slot := 10, path := [1], own := 2 }] (D6 (x2, x3, x4, x6)))]) (kb := [kk 3, kk 4, kk 6, kk 10, { slot := 10, path := [1], own := 2 }]) (kbx := [kk 6, kk 10, { slot := 10, path := [1], own := 2 }]) ((kJb (id := 5000004) (x9, x10, x11, x12) (fun v0 ev0 v1 => (kN _ (mLen (sh := Qf) x3.fL) fun v2 => (kIfD (p := x11 < v2) (kXj (alts := U6 (x2, x3, x4, x6)) ev0 true (.here () rfl (.refl _) (.refl _)))
 (kN _ (mLen (sh := Qf) x4.fL) fun v3 => (kIfD (p := x12 < v3) (kXj (alts := U6 (x2, x3, x4, x6)) ev0 true (.here () rfl (.refl _) (.refl _)))
 (kXj (alts := U6 (x2, x3, x4, x6)) ev0 false (.next (.here () rfl (.refl _) (.refl _)))))))))
 (fun v0 => (kJ1 (id := 6000008) (v0.fst, v0.snd.fst, v0.snd.snd.fst, v0.snd.snd.snd, ((0 : Int))) (fun v5 ev5 v6 => (kJbE (id := 5000006) (v0.fst, v0.snd.fst, v0.snd.snd.fst, v0.snd.snd.snd, (0 : Int), (0 : Int)) (fun v7 ev7 v8 => (kIf (c := v0.snd.snd.snd == (↑(List.map Qf x4.fL).length : Int)) (kN _ (mLen (sh := Qf) x4.fL) fun v9 => (kXj (alts := KJ (x2, x3, x4, x6)) ev7 true (.here () rfl (.refl _) (.refl _))))
 (kIfD (p := v0.snd.snd.fst < (↑(List.map Qf x3.fL).length : Int)) (kIx (enc := Qf) (l := x3.fL) (k := v0.snd.snd.fst) fun v10 => (kIx (enc := Qf) (l := x4.fL) (k := v0.snd.snd.snd) fun v11 => (kN _ (mLen (sh := Qf) x4.fL) fun v12 => (kN _ (mLen (sh := Qf) x3.fL) fun v13 => (kIf (c := Op.bytesLess v10.fName v11.fName || v10.fName == v11.fName) (kXj (alts := KJ (x2, x3, x4, x6)) ev7 true (.here () rfl (.refl _) (.refl _)))
 (kXj (alts := KJ (x2, x3, x4, x6)) ev7 false (.next (.here () rfl (.refl _) (.refl _)))))))))
 (kN _ (mLen (sh := Qf) x4.fL) fun v14 => (kN _ (mLen (sh := Qf) x3.fL) fun v15 => (kXj (alts := KJ (x2, x3, x4, x6)) ev7 false (.next (.here () rfl (.refl _) (.refl _)))))))))
 (fun v7 ev7 => (kIx (enc := Qf) (l := x3.fL) (k := v7.snd.snd.fst) fun v17 => (kIx (enc := Qf) (l := x3.fL) (k := v7.snd.snd.fst) fun v18 => (kXj (alts := D7 (x2, x3, x4, x6)) (u0 := (v7.fst, v7.snd.fst, v7.snd.snd.fst, v7.snd.snd.snd.fst, v7.snd.snd.snd.snd.snd)) (by subst ev7; exact ev5) (v18.fBy, v17.fName) (.here _ rfl (.refl _) (.refl _))))))
 (fun v7 ev7 => (kIx (enc := Qf) (l := x4.fL) (k := v7.snd.snd.snd.fst) fun v20 => (kXj (alts := D7 (x2, x3, x4, x6)) (u0 := (v7.fst, v7.snd.fst, v7.snd.snd.fst, v7.snd.snd.snd.fst, v7.snd.snd.snd.snd.snd)) (by subst ev7; exact ev5) (v7.snd.snd.snd.snd.fst, v20.fName) (.here _ rfl (.refl _) (.refl _)))))))
 (fun v5 v21 => (kJ1 (id := 6000012) (v5.fst, v5.snd.fst, v5.snd.snd.fst, v21.fst, v21.snd) (fun v22 ev22 v23 => (kJbE (id := 5000010) (v5.fst, v5.snd.fst, v5.snd.snd.fst, v5.snd.snd.snd.fst, v21.fst, v5.snd.snd.snd.snd, v21.snd) (fun v24 ev24 v25 => (kN _ (mLen (sh := Qf) x4.fL) fun v26 => (kIfD (p := v5.snd.snd.snd.fst < v26) (kIx (enc := Qf) (l := x4.fL) (k := v5.snd.snd.snd.fst) fun v27 => (kIf (c := v27.fName == v21.snd) (kXj (alts := U7 (x2, x3, x4, x6)) ev24 true (.here () rfl (.refl _) (.refl _)))
 (kXj (alts := U7 (x2, x3, x4, x6)) ev24 false (.next (.here () rfl (.refl _) (.refl _))))))
 (kXj (alts := U7 (x2, x3, x4, x6)) ev24 false (.next (.here () rfl (.refl _) (.refl _)))))))
 (fun v24 ev24 => (kIx (enc := Qf) (l := x4.fL) (k := v24.snd.snd.snd.fst) fun v29 => (kXj (alts := D8 (x2, x3, x4, x6)) (u0 := (v24.fst, v24.snd.fst, v24.snd.snd.fst, v24.snd.snd.snd.snd.fst, v24.snd.snd.snd.snd.snd.snd)) (by subst ev24; exact ev22) ((wr (v24.snd.snd.snd.fst + (1 : Int))), v29.fBy) (.here _ rfl (.refl _) (.refl _)))))
 (fun v24 ev24 => (kXj (alts := D8 (x2, x3, x4, x6)) (u0 := (v24.fst, v24.snd.fst, v24.snd.snd.fst, v24.snd.snd.snd.snd.fst, v24.snd.snd.snd.snd.snd.snd)) (by subst ev24; exact ev22) (v24.snd.snd.snd.fst, v24.snd.snd.snd.snd.snd.fst) (.here _ rfl (.refl _) (.refl _))))))
 (fun v22 v31 => (kJ1 (id := 6000015) (v22.fst, v22.snd.fst, v31.fst, v22.snd.snd.snd.fst, v31.snd, v22.snd.snd.snd.snd) (fun v32 ev32 v33 => (kIf (c := v22.snd.snd.snd.fst != (0 : Int)) (kXj (alts := D9 (x2, x3, x4, x6)) ev32 (wr (v22.snd.snd.fst + (1 : Int))) (.here _ rfl (.refl _) (.refl _)))
 (kXj (alts := D9 (x2, x3, x4, x6)) ev32 v22.snd.snd.fst (.here _ rfl (.refl _) (.refl _)))))
 (fun v32 v34 => (kC (sh := ZM) (Wa v32.snd.snd.snd.fst v32.snd.snd.snd.snd.fst x2) fun v35 => (kJ1 (id := 5000016) (v32.snd.fst, v34, v32.snd.snd.fst, v32.snd.snd.snd.snd.snd, v35.fst) (fun v36 ev36 v37 => (kIf (c := v32.fst) (kXj (alts := D6 (x2, x3, x4, x6)) ev36 v35.snd (.here _ rfl (.refl _) (.refl _)))
 (kXj (alts := D6 (x2, x3, x4, x6)) ev36 false (.here _ rfl (.refl _) (.refl _)))))
 (fun v36 v38 => (kIf (c := v36.snd.snd.snd.snd != (0 : Int)) (kW (sh := Qf) (C8.mk v36.snd.snd.snd.fst v36.snd.snd.snd.snd) lr fun v39 => (kA (q := (v36.fst.fL.length + (1 : Nat)) * (24 : Nat) ≤ (140737488355328 : Nat) ∧ v36.fst.fL.length + (1 : Nat) ≤ (9223372036854775807 : Nat)) (sh := Qf) (l := v36.fst.fL) (kO (sh := Qf) (v36.fst.fL ++ [v39]) (mA (sh := Qf) v36.fst.fL v39) (nA v36.fst.fL v39) fun v40 => (kM0 (alts := Ug (x2, x3, x4) x6) (fun y hy => Q2q v38 (gLin.mk v36.fst.fK v40) v36.snd.fst v36.snd.snd.fst y hy x6)))))
 (kM0 (alts := Ug (x2, x3, x4) x6) (fun y hy => Q2q v38 v36.fst v36.snd.fst v36.snd.snd.fst y hy x6)))))))))))))
 (fun v0 => (kX (alts := Ug (x2, x3, x4) x6) (v0.fst, v0.snd.fst) (.here _ rfl (.refl _) (.refl _))))) h)) x9 x10 x11 x12 o h x6
def Cl (x0 : gLin) (x1 : gLin) (x2 : Int) : Option (gLin × Int) :=
 Uz x0.fK x1.fK x2 >>= fun v0 =>
 some (gLin.mk (0 : Int) []) >>= fun v1 =>
 ZQ x2 x0 x1 v0.snd (gLin.mk v0.fst []) (0 : Int) (0 : Int) >>= fun v3 =>
 if v3.fst then
 some (v3.snd, (0 : Int))
 else
 some ((gLin.mk (0 : Int) [])) >>= fun v4 =>
 some (v4, (3 : Int))
theorem PS (x0 : gLin) (x1 : gLin) (x2 : Int) (r : (gLin × Int)) (h : Cl x0 x1 x2 = some r) : PU 151 [Qj x0, Qj x1, eI x2] (Y9 r) :=
 Pu2 (hs := [(24, .c ZM), (134, .split), (136, .n Qj 136 none), (3000005, .l [] [2, 3, 4, 6, 9, 10, 11, 12] [kk 3, kk 4, kk 6, kk 10, { slot := 10, path := [1], own := 2 }] [6, 9, 10] [kk 6, kk 10, { slot := 10, path := [1], own := 2 }] (Ug (x2, x0, x1)))]) ((kC (sh := ZM) (Wa x0.fK x1.fK x2) fun v0 => (kL1 (gLin.mk (0 : Int) []) (fun y hy => ZC.le (.cons (LeV.refl (ii x2)) (.cons (LeV.refl (AV.ptr (0 : Nat) (0 : Nat) (0 : Nat))) (.cons (LeV.refl (AV.ptr (1 : Nat) (0 : Nat) (0 : Nat))) (.cons (LeV.refl (AV.ptr (2 : Nat) (0 : Nat) (0 : Nat))) (.cons (LeV.refl (AV.bool v0.snd)) (.cons (LeV.refl (AV.ptr (3 : Nat) (0 : Nat) (0 : Nat))) (.cons (LeV.refl (ii (0 : Int))) (.cons (LeV.refl (ii (0 : Int))) .nil)))))))) (.cons (LeB.refl (Box.cells (0 : Nat) [ii x0.fK, AV.sl (2 : Nat) (List.map Qf x0.fL)])) (.cons (LeB.refl (Box.cells (0 : Nat) [ii x1.fK, AV.sl (2 : Nat) (List.map Qf x1.fL)])) (.cons (LeB.cells (0 : Nat) (.cons (LeV.refl (ii (0 : Int))) (.cons (LeV.nil 2) .nil))) (.cons (LeB.refl (Box.cells (0 : Nat) [ii v0.fst, AV.ow (4 : Nat) (0 : Nat) (2 : Nat) (0 : Nat)])) (.cons (LeB.refl (Box.own (0 : Nat) (2 : Nat) [])) .nil))))) (TA x2 x0 x1 (gLin.mk (0 : Int) []) v0.snd (gLin.mk v0.fst []) (0 : Int) (0 : Int) y hy)) fun v1 v3 => (kIf (c := v3.fst) (kT (nM (sh := Qf) v3.snd.fL) (kEr (enc := Y9) (v3.snd, (0 : Int))))
 (kW (sh := Qj) (gLin.mk (0 : Int) []) (LeV.agg (.cons (LeV.refl (ii (0 : Int))) (.cons (LeV.nil 2) .nil))) fun v4 => (kEr (enc := Y9) (v4, (3 : Int))))))) h)
def Yr (s : (Str × gLin × gLin)) (u : gLin) (o : (Int × gLin)) : List Alt := [⟨fun (x : (Int × gLin)) => x = o, .exit 0, fun x => [.ptr 0 0 0, .ptr 1 0 0, .ptr 2 0 0, ii x.1, .ptr 3 0 0], fun x => [.cells 0 (Qj s.2.1).cells, .cells 0 (Qj s.2.2).cells, .cells 0 (Qj u).cells, .cells 0 [ii x.2.fK, .ow 4 0 2 (List.length x.2.fL)], .own 0 2 (List.map Qf x.2.fL)]⟩]
def KI (s : (Str × gLin × gLin × gLin)) (u : Int) (o : (Int × gLin)) : List Alt := [⟨fun (x : (Int × gLin)) => x = o, .normal, fun x => [.str (s.1), .ptr 0 0 0, .ptr 1 0 0, .ptr 2 0 0, ii (x.1), .ptr 3 0 0, ii u], fun x => [.cells 0 (Qj (s.2.1)).cells, .cells 0 (Qj (s.2.2.1)).cells, .cells 0 (Qj (s.2.2.2)).cells, .cells 0 [ii (x.2).fK, .ow 4 0 2 (List.length ((x.2).fL))], .own 0 2 (List.map Qf (x.2).fL)]⟩]
def QL (x1 : Str) (x3 : gLin) (x8 : Int) (x9 : gLin) (x10 : Int) : Option (Int × gLin) :=
 some (List.length x3.fL : Int) >>= fun v0 =>
 if x10 < v0 then
 some x10 >>= fun v1 =>
 (ix x3.fL x10 >>= fun v3 =>
 if v3.fName == x1 then
 ix x3.fL x10 >>= fun v4 =>
 some (v4.fBy, x9)
 else
 ix x3.fL x10 >>= fun v5 =>
 if (x9.fL.length + (1 : Nat)) * (24 : Nat) ≤ (140737488355328 : Nat) ∧ x9.fL.length + (1 : Nat) ≤ (9223372036854775807 : Nat) then
 some (x9.fL ++ [v5]) >>= fun v6 =>
 some (x8, (gLin.mk x9.fK v6))
 else none) >>= fun v7 =>
 QL x1 x3 v7.fst v7.snd (wr (v1 + (1 : Int)))
 else
 some (x8, x9)
 partial_fixpoint
theorem NP (x1 : Str) (x3 : gLin) (x5 : gLin) (x6 : gLin) (x8 : Int) (x9 : gLin) (x10 : Int) (o : (Int × gLin)) (h : QL x1 x3 x8 x9 x10 = some o) : LO 125 6 73 [1, 3, 5, 6, 8, 9, 10] [.str x1, .ptr 0 0 0, .ptr 1 0 0, .ptr 2 0 0, ii x8, .ptr 3 0 0, ii x10] [.cells 0 (Qj x3).cells, .cells 0 (Qj x5).cells, .cells 0 (Qj x6).cells, .cells 0 [ii x9.fK, .ow 4 0 2 (List.length x9.fL)], .own 0 2 (List.map Qf x9.fL)] [3, 5, 6, 8, 9] (Yr (x1, x3, x5) x6 o) :=
 QL.partial_correctness x1 x3 (fun x8 x9 x10 o => ∀ (x5 : gLin) (x6 : gLin), LO 125 6 73 [1, 3, 5, 6, 8, 9, 10] [.str x1, .ptr 0 0 0, .ptr 1 0 0, .ptr 2 0 0, ii x8, .ptr 3 0 0, ii x10] [.cells 0 (Qj x3).cells, .cells 0 (Qj x5).cells, .cells 0 (Qj x6).cells, .cells 0 [ii x9.fK, .ow 4 0 2 (List.length x9.fL)], .own 0 2 (List.map Qf x9.fL)] [3, 5, 6, 8, 9] (Yr (x1, x3, x5) x6 o))
 (fun QL Q26 x8 x9 x10 o h x5 x6 =>
 Lp2 (hs := [(31, .n eI 31 none), (32, .split), (38, .e Qf), (42, .split), (46, .e Qf), (54, .e Qf), (57, .z [{ slot := 50, own := 2 }] (some (.n Qf 57 (some .a)))), (7000001, .l [] [] [] [1, 3, 5, 6, 8, 9, 10] [kk 3, kk 5, kk 6, kk 9, { slot := 9, path := [1], own := 2 }] (KI (x1, x3, x5, x6)))]) (kb := [kk 3, kk 5, kk 6, kk 9, { slot := 9, path := [1], own := 2 }]) (kbx := [kk 3, kk 5, kk 6, kk 9, { slot := 9, path := [1], own := 2 }]) ((kN _ (mLen (sh := Qf) x3.fL) fun v0 => (kIfD (p := x10 < v0) (kJ1 (id := 7000001) x10 (fun v1 ev1 v2 => (kIx (enc := Qf) (l := x3.fL) (k := x10) fun v3 => (kIf (c := v3.fName == x1) (kIx (enc := Qf) (l := x3.fL) (k := x10) fun v4 => (kXj (alts := KI (x1, x3, x5, x6)) ev1 (v4.fBy, x9) (.here _ rfl (.refl _) (.refl _))))
 (kIx (enc := Qf) (l := x3.fL) (k := x10) fun v5 => (kA (q := (x9.fL.length + (1 : Nat)) * (24 : Nat) ≤ (140737488355328 : Nat) ∧ x9.fL.length + (1 : Nat) ≤ (9223372036854775807 : Nat)) (sh := Qf) (l := x9.fL) (kO (sh := Qf) (x9.fL ++ [v5]) (mA (sh := Qf) x9.fL v5) (nA x9.fL v5) fun v6 => (kXj (alts := KI (x1, x3, x5, x6)) ev1 (x8, (gLin.mk x9.fK v6)) (.here _ rfl (.refl _) (.refl _)))))))))
 (fun v1 v7 => (kM0 (alts := Yr (x1, x3, x5) x6) (fun y hy => Q26 v7.fst v7.snd (wr (v1 + (1 : Int))) y hy x5 x6))))
 (kX (alts := Yr (x1, x3, x5) x6) (x8, x9) (.here _ rfl (.refl _) (.refl _))))) h)) x8 x9 x10 o h x5 x6
def ZS (s : (Str × gLin × gLin)) (u : gLin) (o : Bool) : List Alt := jb o (fun b => [.str (s.1), .ptr 0 0 0, .ptr 1 0 0, .ptr 2 0 0, .bool b]) [.cells 0 (Qj (s.2.1)).cells, .cells 0 (Qj (s.2.2)).cells, .cells 0 (Qj u).cells]
def Yp (x0 : gLin) (x1 : Str) (x2 : gLin) : Option (gLin × Int) :=
 some (gLin.mk (0 : Int) []) >>= fun v0 =>
 (ZA x0 >>= fun v2 => if v2 then
 ZA x2 >>= fun v3 => if v3 then
 VV x1 >>= fun v4 => if v4 then
 some false
 else
 some true
 else
 some true
 else
 some true) >>= fun v1 => if v1 then
 some ((gLin.mk (0 : Int) [])) >>= fun v6 =>
 some (v6, (1 : Int))
 else
 some v0 >>= fun v8 =>
 QL x1 x0 (0 : Int) (gLin.mk x0.fK []) (0 : Int) >>= fun v10 =>
 if v10.fst == (0 : Int) then
 some (x0, (0 : Int))
 else
 GN x2 v10.fst >>= fun v11 => if v11 then
 Cl v10.snd x2 v10.fst >>= fun v12 =>
 some (v12.fst, v12.snd)
 else
 some ((gLin.mk (0 : Int) [])) >>= fun v13 =>
 some (v13, (3 : Int))
theorem GR (x0 : gLin) (x1 : Str) (x2 : gLin) (r : (gLin × Int)) (h : Yp x0 x1 x2 = some r) : PU 125 [Qj x0, eS x1, Qj x2] (Y9 r) :=
 Pu2 (hs := [(12, .cb), (16, .cb), (21, .cb), (24, .n Qj 24 none), (60, .split), (64, .cb), (66, .n Qj 66 none), (70, .z [{ slot := 67, path := [1], fz := true }] (some (.c Y9))), (3000007, .l [] [1, 3, 5, 6, 8, 9, 10] [kk 3, kk 5, kk 6, kk 9, { slot := 9, path := [1], own := 2 }] [3, 5, 6, 8, 9] [kk 3, kk 5, kk 6, kk 9, { slot := 9, path := [1], own := 2 }] (Yr (x1, x0, x2))), (5000001, .l [] [] [] [1, 3, 5, 6, 23] [kk 3, kk 5, kk 6] (ZS (x1, x0, x2)))]) ((kJb (id := 5000001) (gLin.mk (0 : Int) []) (fun v0 ev0 v1 => (kCb (KQ x0) (kCb (KQ x2) (kCb (Dy x1) (kXj (alts := ZS (x1, x0, x2)) ev0 false (.next (.here () rfl (.cons (LeV.refl (AV.str x1)) (.cons (LeV.refl (AV.ptr (0 : Nat) (0 : Nat) (0 : Nat))) (.cons (LeV.refl (AV.ptr (1 : Nat) (0 : Nat) (0 : Nat))) (.cons (LeV.refl (AV.ptr (2 : Nat) (0 : Nat) (0 : Nat))) (.cons (LeV.refl (AV.bool false)) .nil))))) (.cons (LeB.refl (Box.cells (0 : Nat) [ii x0.fK, AV.sl (2 : Nat) (List.map Qf x0.fL)])) (.cons (LeB.refl (Box.cells (0 : Nat) [ii x2.fK, AV.sl (2 : Nat) (List.map Qf x2.fL)])) (.cons (LeB.cells (0 : Nat) (.cons (LeV.refl (ii (0 : Int))) (.cons (LeV.nil 2) .nil))) .nil))))))
 (kXj (alts := ZS (x1, x0, x2)) ev0 true (.here () rfl (.cons (LeV.refl (AV.str x1)) (.cons (LeV.refl (AV.ptr (0 : Nat) (0 : Nat) (0 : Nat))) (.cons (LeV.refl (AV.ptr (1 : Nat) (0 : Nat) (0 : Nat))) (.cons (LeV.refl (AV.ptr (2 : Nat) (0 : Nat) (0 : Nat))) (.cons (LeV.refl (AV.bool true)) .nil))))) (.cons (LeB.refl (Box.cells (0 : Nat) [ii x0.fK, AV.sl (2 : Nat) (List.map Qf x0.fL)])) (.cons (LeB.refl (Box.cells (0 : Nat) [ii x2.fK, AV.sl (2 : Nat) (List.map Qf x2.fL)])) (.cons (LeB.cells (0 : Nat) (.cons (LeV.refl (ii (0 : Int))) (.cons (LeV.nil 2) .nil))) .nil))))))
 (kXj (alts := ZS (x1, x0, x2)) ev0 true (.here () rfl (.cons (LeV.refl (AV.str x1)) (.cons (LeV.refl (AV.ptr (0 : Nat) (0 : Nat) (0 : Nat))) (.cons (LeV.refl (AV.ptr (1 : Nat) (0 : Nat) (0 : Nat))) (.cons (LeV.refl (AV.ptr (2 : Nat) (0 : Nat) (0 : Nat))) (.cons (LeV.refl (AV.bool true)) .nil))))) (.cons (LeB.refl (Box.cells (0 : Nat) [ii x0.fK, AV.sl (2 : Nat) (List.map Qf x0.fL)])) (.cons (LeB.refl (Box.cells (0 : Nat) [ii x2.fK, AV.sl (2 : Nat) (List.map Qf x2.fL)])) (.cons (LeB.cells (0 : Nat) (.cons (LeV.refl (ii (0 : Int))) (.cons (LeV.nil 2) .nil))) .nil))))))
 (kXj (alts := ZS (x1, x0, x2)) ev0 true (.here () rfl (.cons (LeV.refl (AV.str x1)) (.cons (LeV.refl (AV.ptr (0 : Nat) (0 : Nat) (0 : Nat))) (.cons (LeV.refl (AV.ptr (1 : Nat) (0 : Nat) (0 : Nat))) (.cons (LeV.refl (AV.ptr (2 : Nat) (0 : Nat) (0 : Nat))) (.cons (LeV.refl (AV.bool true)) .nil))))) (.cons (LeB.refl (Box.cells (0 : Nat) [ii x0.fK, AV.sl (2 : Nat) (List.map Qf x0.fL)])) (.cons (LeB.refl (Box.cells (0 : Nat) [ii x2.fK, AV.sl (2 : Nat) (List.map Qf x2.fL)])) (.cons (LeB.cells (0 : Nat) (.cons (LeV.refl (ii (0 : Int))) (.cons (LeV.nil 2) .nil))) .nil)))))))
 (fun v0 => (kW (sh := Qj) (gLin.mk (0 : Int) []) (LeV.agg (.cons (LeV.refl (ii (0 : Int))) (.cons (LeV.nil 2) .nil))) fun v6 => (kEr (enc := Y9) (v6, (1 : Int)))))
 (fun v0 => (kL1 v0 (NP x1 x0 x2 v0 (0 : Int) (gLin.mk x0.fK []) (0 : Int)) fun v8 v10 => (kIf (c := v10.fst == (0 : Int)) (kEr (enc := Y9) (x0, (0 : Int)))
 (kCb (Tz x2 v10.fst) (kT (nM (sh := Qf) v10.snd.fL) (kC (sh := Y9) (PS v10.snd x2 v10.fst) fun v12 => (kEr (enc := Y9) (v12.fst, v12.snd))))
 (kW (sh := Qj) (gLin.mk (0 : Int) []) (LeV.agg (.cons (LeV.refl (ii (0 : Int))) (.cons (LeV.nil 2) .nil))) fun v13 => (kEr (enc := Y9) (v13, (3 : Int))))))))) h)
def ZP (s : (Str × Qa × gLin)) (u : Unit) (o : (Qa × Qa) ⊕ (Qa × Int × Qa)) : List Alt := [⟨fun (x : (Qa × Qa)) => (Sum.inl x : (Qa × Qa) ⊕ (Qa × Int × Qa)) = o, .exit 0, fun x => [.ptr 0 0 0, .undef, .ptr 1 0 0], fun x => [.cells 0 (Q4 x.1).cells, .cells 0 [ii x.2.fLin.fK, .sl 2 (List.map Qf x.2.fLin.fL), .str x.2.fFrom, .ow 2 0 2 (List.length x.2.fAt)], .own 0 2 (List.map Qj x.2.fAt)]⟩, ⟨fun (x : (Qa × Int × Qa)) => (Sum.inr x : (Qa × Qa) ⊕ (Qa × Int × Qa)) = o, .ret, fun x => [.ptr 0 0 0, ii x.2.1, .ptr 1 0 0], fun x => [.cells 0 (Q4 x.1).cells, .cells 0 [ii x.2.2.fLin.fK, .sl 2 (List.map Qf x.2.2.fLin.fL), .str x.2.2.fFrom, .ow 2 0 2 (List.length x.2.2.fAt)], .own 0 2 (List.map Qj x.2.2.fAt)]⟩]
def QV (x1 : Str) (x3 : Qa) (x5 : gLin) (x6 : Qa) (x10 : Qa) (x11 : Int) : Option ((Qa × Qa) ⊕ (Qa × Int × Qa)) :=
 some (List.length x3.fAt : Int) >>= fun v0 =>
 if x11 < v0 then
 ix x3.fAt x11 >>= fun v1 =>
 Yp v1 x1 x5 >>= fun v2 =>
 if v2.snd != (0 : Int) then
 some ((Qa.mk (gLin.mk (0 : Int) []) [] [])) >>= fun v3 =>
 some (.inr (v3, v2.snd, x10))
 else
 if (x10.fAt.length + (1 : Nat)) * (32 : Nat) ≤ (140737488355328 : Nat) ∧ x10.fAt.length + (1 : Nat) ≤ (9223372036854775807 : Nat) then
 some (x10.fAt ++ [v2.fst]) >>= fun v4 =>
 QV x1 x3 x5 x6 (Qa.mk x10.fLin x10.fFrom v4) (wr (x11 + (1 : Int)))
 else none
 else
 some (.inl (x6, x10))
 partial_fixpoint
theorem Nh (x1 : Str) (x3 : Qa) (x5 : gLin) (x6 : Qa) (x10 : Qa) (x11 : Int) (o : (Qa × Qa) ⊕ (Qa × Int × Qa)) (h : QV x1 x3 x5 x6 x10 x11 = some o) : LO 126 6 59 [1, 3, 5, 6, 10, 11] [.str x1, .ptr 0 0 0, .ptr 1 0 0, .ptr 2 0 0, .ptr 3 0 0, ii x11] [.cells 0 (Q4 x3).cells, .cells 0 (Qj x5).cells, .cells 0 (Q4 x6).cells, .cells 0 [ii x10.fLin.fK, .sl 2 (List.map Qf x10.fLin.fL), .str x10.fFrom, .ow 4 0 2 (List.length x10.fAt)], .own 0 2 (List.map Qj x10.fAt)] [6, 7, 10] (ZP (x1, x3, x5) () o) :=
 QV.partial_correctness x1 x3 x5 x6 (fun x10 x11 o => LO 126 6 59 [1, 3, 5, 6, 10, 11] [.str x1, .ptr 0 0 0, .ptr 1 0 0, .ptr 2 0 0, .ptr 3 0 0, ii x11] [.cells 0 (Q4 x3).cells, .cells 0 (Qj x5).cells, .cells 0 (Q4 x6).cells, .cells 0 [ii x10.fLin.fK, .sl 2 (List.map Qf x10.fLin.fL), .str x10.fFrom, .ow 4 0 2 (List.length x10.fAt)], .own 0 2 (List.map Qj x10.fAt)] [6, 7, 10] (ZP (x1, x3, x5) () o))
 (fun QV Q2h x10 x11 o h  =>
 Lp2 (hs := [(33, .n eI 33 none), (34, .split), (41, .e Qj), (45, .c Y9), (49, .split), (50, .n Q4 50 none), (56, .z [{ slot := 53, own := 2 }] (some (.n Qj 56 (some .a))))]) (kb := [kk 3, kk 5, kk 6, kk 10, { slot := 10, path := [3], own := 2 }]) (kbx := [kk 6, kk 10, { slot := 10, path := [3], own := 2 }]) ((kN _ (mLen (sh := Qj) x3.fAt) fun v0 => (kIfD (p := x11 < v0) (kIx (enc := Qj) (l := x3.fAt) (k := x11) fun v1 => (kC (sh := Y9) (GR v1 x1 x5) fun v2 => (kIf (c := v2.snd != (0 : Int)) (kW (sh := Q4) (Qa.mk (gLin.mk (0 : Int) []) [] []) (LeV.agg (.cons (LeV.refl (ii (0 : Int))) (.cons (LeV.nil 2) (.cons (LeV.refl (AV.str [])) (.cons (LeV.nil 2) .nil))))) fun v3 => (kX (alts := ZP (x1, x3, x5) ()) (.inr (v3, v2.snd, x10)) (.next (.here _ rfl (.refl _) (.refl _)))))
 (kA (q := (x10.fAt.length + (1 : Nat)) * (32 : Nat) ≤ (140737488355328 : Nat) ∧ x10.fAt.length + (1 : Nat) ≤ (9223372036854775807 : Nat)) (sh := Qj) (l := x10.fAt) (kO (sh := Qj) (x10.fAt ++ [v2.fst]) (mA (sh := Qj) x10.fAt v2.fst) (nA x10.fAt v2.fst) fun v4 => (kM0 (alts := ZP (x1, x3, x5) ()) (Q2h (Qa.mk x10.fLin x10.fFrom v4) (wr (x11 + (1 : Int))))))))))
 (kX (alts := ZP (x1, x3, x5) ()) (.inl (x6, x10)) (.here _ rfl (.refl _) (.refl _))))) h)) x10 x11 o h
def Vi (x0 : Qa) (x1 : Str) (x2 : gLin) : Option (Qa × Int) :=
 Yp x0.fLin x1 x2 >>= fun v0 =>
 if v0.snd != (0 : Int) then
 some ((Qa.mk (gLin.mk (0 : Int) []) [] [])) >>= fun v1 =>
 some (v1, v0.snd)
 else
 some () >>= fun v2 =>
 QV x1 x0 x2 (Qa.mk (gLin.mk (0 : Int) []) [] []) (Qa.mk v0.fst x0.fFrom []) (0 : Int) >>= fun v3 => (match v3 with
 | (.inl v4) =>
 some (v4.snd, (0 : Int))
 | (.inr v5) =>
 some (v5.fst, v5.snd.fst))
theorem Md (x0 : Qa) (x1 : Str) (x2 : gLin) (r : (Qa × Int)) (h : Vi x0 x1 x2 = some r) : PU 126 [Q4 x0, eS x1, Qj x2] (DA r) :=
 Pu2 (hs := [(19, .c Y9), (23, .split), (24, .n Q4 24 none), (3000007, .l [] [1, 3, 5, 6, 10, 11] [kk 3, kk 5, kk 6, kk 10, { slot := 10, path := [3], own := 2 }] [6, 7, 10] [kk 6, kk 10, { slot := 10, path := [3], own := 2 }] (ZP (x1, x0, x2)))]) ((kC (sh := Y9) (GR x0.fLin x1 x2) fun v0 => (kIf (c := v0.snd != (0 : Int)) (kW (sh := Q4) (Qa.mk (gLin.mk (0 : Int) []) [] []) (LeV.agg (.cons (LeV.refl (ii (0 : Int))) (.cons (LeV.nil 2) (.cons (LeV.refl (AV.str [])) (.cons (LeV.nil 2) .nil))))) fun v1 => (kEr (enc := DA) (v1, v0.snd)))
 (kL2 () (hL := (fun y hy => ZC.le (.cons (LeV.refl (AV.str x1)) (.cons (LeV.refl (AV.ptr (0 : Nat) (0 : Nat) (0 : Nat))) (.cons (LeV.refl (AV.ptr (1 : Nat) (0 : Nat) (0 : Nat))) (.cons (LeV.refl (AV.ptr (2 : Nat) (0 : Nat) (0 : Nat))) (.cons (LeV.refl (AV.ptr (3 : Nat) (0 : Nat) (0 : Nat))) (.cons (LeV.refl (ii (0 : Int))) .nil)))))) (.cons (LeB.refl (Box.cells (0 : Nat) [ii x0.fLin.fK, AV.sl (2 : Nat) (List.map Qf x0.fLin.fL), AV.str x0.fFrom, AV.sl (2 : Nat) (List.map Qj x0.fAt)])) (.cons (LeB.refl (Box.cells (0 : Nat) [ii x2.fK, AV.sl (2 : Nat) (List.map Qf x2.fL)])) (.cons (LeB.cells (0 : Nat) (.cons (LeV.refl (ii (0 : Int))) (.cons (LeV.nil 2) (.cons (LeV.refl (AV.str [])) (.cons (LeV.nil 2) .nil))))) (.cons (LeB.refl (Box.cells (0 : Nat) [ii v0.fst.fK, AV.sl (2 : Nat) (List.map Qf v0.fst.fL), AV.str x0.fFrom, AV.ow (4 : Nat) (0 : Nat) (2 : Nat) (0 : Nat)])) (.cons (LeB.refl (Box.own (0 : Nat) (2 : Nat) [])) .nil))))) (Nh x1 x0 x2 (Qa.mk (gLin.mk (0 : Int) []) [] []) (Qa.mk v0.fst x0.fFrom []) (0 : Int) y hy))) (hA := fun v2 v4 => (kT (nM (sh := Qj) v4.snd.fAt) (kEr (enc := DA) (v4.snd, (0 : Int)))))
 (hB := fun v2 v5 => (kEr (enc := DA) (v5.fst, v5.snd.fst)))))) h)
def Yo (s : (Str × Q2 × gLin)) (u : Unit) (o : (Q2 × Q2) ⊕ (Q2 × Int × Q2)) : List Alt := [⟨fun (x : (Q2 × Q2)) => (Sum.inl x : (Q2 × Q2) ⊕ (Q2 × Int × Q2)) = o, .exit 0, fun x => [.str s.1, .ptr 0 0 0, .ptr 1 0 0, .ptr 2 0 0, .undef, .ptr 3 0 0], fun x => [.cells 0 (Q8 s.2.1).cells, .cells 0 (Qj s.2.2).cells, .cells 0 (Q8 x.1).cells, .cells 0 [ii x.2.fOp, .str x.2.fName, ii x.2.fVal.fN, ii x.2.fVal.fD, ii x.2.fType.fKind, ii x.2.fType.fBits, ii x.2.fType.fFrac, ii x.2.fType.fRound, ii x.2.fType.fOver, ii x.2.fLin.fK, .sl 2 (List.map Qf x.2.fLin.fL), .ow 4 0 4 (List.length x.2.fIdx), .ow 5 0 13 (List.length x.2.fArgs)], .own 0 4 (List.map Q4 x.2.fIdx), .own 0 13 (List.map Qm x.2.fArgs)]⟩, ⟨fun (x : (Q2 × Int × Q2)) => (Sum.inr x : (Q2 × Q2) ⊕ (Q2 × Int × Q2)) = o, .ret, fun x => [.str s.1, .ptr 0 0 0, .ptr 1 0 0, .ptr 2 0 0, ii x.2.1, .ptr 3 0 0], fun x => [.cells 0 (Q8 s.2.1).cells, .cells 0 (Qj s.2.2).cells, .cells 0 (Q8 x.1).cells, .cells 0 [ii x.2.2.fOp, .str x.2.2.fName, ii x.2.2.fVal.fN, ii x.2.2.fVal.fD, ii x.2.2.fType.fKind, ii x.2.2.fType.fBits, ii x.2.2.fType.fFrac, ii x.2.2.fType.fRound, ii x.2.2.fType.fOver, ii x.2.2.fLin.fK, .sl 2 (List.map Qf x.2.2.fLin.fL), .ow 4 0 4 (List.length x.2.2.fIdx), .ow 5 0 13 (List.length x.2.2.fArgs)], .own 0 4 (List.map Q4 x.2.2.fIdx), .own 0 13 (List.map Qm x.2.2.fArgs)]⟩]
def Zk (x1 : Str) (x3 : Q2) (x5 : gLin) (x6 : Q2) (x8 : Q2) (x11 : Int) : Option ((Q2 × Q2) ⊕ (Q2 × Int × Q2)) :=
 some (List.length x3.fIdx : Int) >>= fun v0 =>
 if x11 < v0 then
 ix x3.fIdx x11 >>= fun v1 =>
 Vi v1 x1 x5 >>= fun v2 =>
 if v2.snd != (0 : Int) then
 some ((QO.mk (0 : Int) [] (gVal.mk (0 : Int) (0 : Int)) (Qi.mk (0 : Int) (0 : Int) (0 : Int) (0 : Int) (0 : Int)) (gLin.mk (0 : Int) []) [] [] : Q2)) >>= fun v3 =>
 some (.inr (v3, v2.snd, x8))
 else
 if (x8.fIdx.length + (1 : Nat)) * (72 : Nat) ≤ (140737488355328 : Nat) ∧ x8.fIdx.length + (1 : Nat) ≤ (9223372036854775807 : Nat) then
 some (x8.fIdx ++ [v2.fst]) >>= fun v4 =>
 Zk x1 x3 x5 x6 (QO.mk x8.fOp x8.fName x8.fVal x8.fType x8.fLin v4 x8.fArgs : Q2) (wr (x11 + (1 : Int)))
 else none
 else
 some (.inl (x6, x8))
 partial_fixpoint
theorem MK (x1 : Str) (x3 : Q2) (x5 : gLin) (x6 : Q2) (x8 : Q2) (x11 : Int) (o : (Q2 × Q2) ⊕ (Q2 × Int × Q2)) (h : Zk x1 x3 x5 x6 x8 x11 = some o) : LO 103 7 97 [1, 3, 5, 6, 8, 11] [.str x1, .ptr 0 0 0, .ptr 1 0 0, .ptr 2 0 0, .ptr 3 0 0, ii x11] [.cells 0 (Q8 x3).cells, .cells 0 (Qj x5).cells, .cells 0 (Q8 x6).cells, .cells 0 [ii x8.fOp, .str x8.fName, ii x8.fVal.fN, ii x8.fVal.fD, ii x8.fType.fKind, ii x8.fType.fBits, ii x8.fType.fFrac, ii x8.fType.fRound, ii x8.fType.fOver, ii x8.fLin.fK, .sl 2 (List.map Qf x8.fLin.fL), .ow 4 0 4 (List.length x8.fIdx), .ow 5 0 13 (List.length x8.fArgs)], .own 0 4 (List.map Q4 x8.fIdx), .own 0 13 (List.map Qm x8.fArgs)] [1, 3, 5, 6, 7, 8] (Yo (x1, x3, x5) () o) :=
 Zk.partial_correctness x1 x3 x5 x6 (fun x8 x11 o => LO 103 7 97 [1, 3, 5, 6, 8, 11] [.str x1, .ptr 0 0 0, .ptr 1 0 0, .ptr 2 0 0, .ptr 3 0 0, ii x11] [.cells 0 (Q8 x3).cells, .cells 0 (Qj x5).cells, .cells 0 (Q8 x6).cells, .cells 0 [ii x8.fOp, .str x8.fName, ii x8.fVal.fN, ii x8.fVal.fD, ii x8.fType.fKind, ii x8.fType.fBits, ii x8.fType.fFrac, ii x8.fType.fRound, ii x8.fType.fOver, ii x8.fLin.fK, .sl 2 (List.map Qf x8.fLin.fL), .ow 4 0 4 (List.length x8.fIdx), .ow 5 0 13 (List.length x8.fArgs)], .own 0 4 (List.map Q4 x8.fIdx), .own 0 13 (List.map Qm x8.fArgs)] [1, 3, 5, 6, 7, 8] (Yo (x1, x3, x5) () o))
 (fun Zk Q2b x8 x11 o h  =>
 Lp2 (hs := [(43, .n eI 43 none), (44, .split), (51, .e Q4), (55, .c DA), (59, .split), (60, .n Q8 60 none), (66, .z [{ slot := 63, own := 4 }] (some (.n Q4 66 (some .a))))]) (kb := [kk 3, kk 5, kk 6, kk 8, { slot := 8, path := [11], own := 4 }, { slot := 8, path := [12], own := 13 }]) (kbx := [kk 3, kk 5, kk 6, kk 8, { slot := 8, path := [11], own := 4 }, { slot := 8, path := [12], own := 13 }]) ((kN _ (mLen (sh := Q4) x3.fIdx) fun v0 => (kIfD (p := x11 < v0) (kIx (enc := Q4) (l := x3.fIdx) (k := x11) fun v1 => (kC (sh := DA) (Md v1 x1 x5) fun v2 => (kIf (c := v2.snd != (0 : Int)) (kW (sh := Q8) (QO.mk (0 : Int) [] (gVal.mk (0 : Int) (0 : Int)) (Qi.mk (0 : Int) (0 : Int) (0 : Int) (0 : Int) (0 : Int)) (gLin.mk (0 : Int) []) [] [] : Q2) (LeV.agg (.cons (LeV.refl (ii (0 : Int))) (.cons (LeV.refl (AV.str [])) (.cons (LeV.refl (ii (0 : Int))) (.cons (LeV.refl (ii (0 : Int))) (.cons (LeV.refl (ii (0 : Int))) (.cons (LeV.refl (ii (0 : Int))) (.cons (LeV.refl (ii (0 : Int))) (.cons (LeV.refl (ii (0 : Int))) (.cons (LeV.refl (ii (0 : Int))) (.cons (LeV.refl (ii (0 : Int))) (.cons (LeV.nil 2) (.cons (LeV.nil 4) (.cons (LeV.nil 13) .nil)))))))))))))) fun v3 => (kX (alts := Yo (x1, x3, x5) ()) (.inr (v3, v2.snd, x8)) (.next (.here _ rfl (.refl _) (.refl _)))))
 (kA (q := (x8.fIdx.length + (1 : Nat)) * (72 : Nat) ≤ (140737488355328 : Nat) ∧ x8.fIdx.length + (1 : Nat) ≤ (9223372036854775807 : Nat)) (sh := Q4) (l := x8.fIdx) (kO (sh := Q4) (x8.fIdx ++ [v2.fst]) (mA (sh := Q4) x8.fIdx v2.fst) (nA x8.fIdx v2.fst) fun v4 => (kM0 (alts := Yo (x1, x3, x5) ()) (Q2b (QO.mk x8.fOp x8.fName x8.fVal x8.fType x8.fLin v4 x8.fArgs : Q2) (wr (x11 + (1 : Int))))))))))
 (kX (alts := Yo (x1, x3, x5) ()) (.inl (x6, x8)) (.here _ rfl (.refl _) (.refl _))))) h)) x8 x11 o h
def Y1 (s : (Str × Q2 × gLin)) (u : Unit) (o : (Q2 × Q2) ⊕ (Q2 × Int × Q2)) : List Alt := [⟨fun (x : (Q2 × Q2)) => (Sum.inl x : (Q2 × Q2) ⊕ (Q2 × Int × Q2)) = o, .exit 2, fun x => [.ptr 0 0 0, .undef, .ptr 1 0 0], fun x => [.cells 0 (Q8 x.1).cells, .cells 0 [ii x.2.fOp, .str x.2.fName, ii x.2.fVal.fN, ii x.2.fVal.fD, ii x.2.fType.fKind, ii x.2.fType.fBits, ii x.2.fType.fFrac, ii x.2.fType.fRound, ii x.2.fType.fOver, ii x.2.fLin.fK, .sl 2 (List.map Qf x.2.fLin.fL), .ow 2 0 4 (List.length x.2.fIdx), .ow 3 0 13 (List.length x.2.fArgs)], .own 0 4 (List.map Q4 x.2.fIdx), .own 0 13 (List.map Qm x.2.fArgs)]⟩, ⟨fun (x : (Q2 × Int × Q2)) => (Sum.inr x : (Q2 × Q2) ⊕ (Q2 × Int × Q2)) = o, .ret, fun x => [.ptr 0 0 0, ii x.2.1, .ptr 1 0 0], fun x => [.cells 0 (Q8 x.1).cells, .cells 0 [ii x.2.2.fOp, .str x.2.2.fName, ii x.2.2.fVal.fN, ii x.2.2.fVal.fD, ii x.2.2.fType.fKind, ii x.2.2.fType.fBits, ii x.2.2.fType.fFrac, ii x.2.2.fType.fRound, ii x.2.2.fType.fOver, ii x.2.2.fLin.fK, .sl 2 (List.map Qf x.2.2.fLin.fL), .ow 2 0 4 (List.length x.2.2.fIdx), .ow 3 0 13 (List.length x.2.2.fArgs)], .own 0 4 (List.map Q4 x.2.2.fIdx), .own 0 13 (List.map Qm x.2.2.fArgs)]⟩]
mutual
def Zv (x0 : Q2) (x1 : Str) (x2 : gLin) : Option (Q2 × Int) :=
 Yp x0.fLin x1 x2 >>= fun v0 =>
 if v0.snd != (0 : Int) then
 some ((QO.mk (0 : Int) [] (gVal.mk (0 : Int) (0 : Int)) (Qi.mk (0 : Int) (0 : Int) (0 : Int) (0 : Int) (0 : Int)) (gLin.mk (0 : Int) []) [] [] : Q2)) >>= fun v1 =>
 some (v1, v0.snd)
 else
 some () >>= fun v2 =>
 Zk x1 x0 x2 (QO.mk (0 : Int) [] (gVal.mk (0 : Int) (0 : Int)) (Qi.mk (0 : Int) (0 : Int) (0 : Int) (0 : Int) (0 : Int)) (gLin.mk (0 : Int) []) [] [] : Q2) (QO.mk x0.fOp x0.fName x0.fVal x0.fType v0.fst [] [] : Q2) (0 : Int) >>= fun v3 => (match v3 with
 | (.inl v4) =>
 some () >>= fun v5 =>
 Ze x1 x0 x2 v4.fst v4.snd (0 : Int) >>= fun v6 => (match v6 with
 | (.inl v7) =>
 some (v7.snd, (0 : Int))
 | (.inr v8) =>
 some (v8.fst, v8.snd.fst))
 | (.inr v9) =>
 some (v9.fst, v9.snd.fst))
 partial_fixpoint
def Ze (x1 : Str) (x3 : Q2) (x5 : gLin) (x6 : Q2) (x8 : Q2) (x14 : Int) : Option ((Q2 × Q2) ⊕ (Q2 × Int × Q2)) :=
 some (List.length x3.fArgs : Int) >>= fun v0 =>
 if x14 < v0 then
 Option.map Qb.f (ix x3.fArgs x14) >>= fun v1 =>
 Zv v1 x1 x5 >>= fun v2 =>
 if v2.snd != (0 : Int) then
 some ((QO.mk (0 : Int) [] (gVal.mk (0 : Int) (0 : Int)) (Qi.mk (0 : Int) (0 : Int) (0 : Int) (0 : Int) (0 : Int)) (gLin.mk (0 : Int) []) [] [] : Q2)) >>= fun v3 =>
 some (.inr (v3, v2.snd, x8))
 else
 if (x8.fArgs.length + (1 : Nat)) * (160 : Nat) ≤ (140737488355328 : Nat) ∧ x8.fArgs.length + (1 : Nat) ≤ (9223372036854775807 : Nat) then
 some (x8.fArgs ++ [(Qb.mk v2.fst)]) >>= fun v4 =>
 Ze x1 x3 x5 x6 (QO.mk x8.fOp x8.fName x8.fVal x8.fType x8.fLin x8.fIdx v4 : Q2) (wr (x14 + (1 : Int)))
 else none
 else
 some (.inl (x6, x8))
 partial_fixpoint
end
theorem LU (x1 : Str) (x2 : gLin) : (∀ (x0 : Q2) (r : (Q2 × Int)), Zv x0 x1 x2 = some r → PU 103 [Q8 x0, eS x1, Qj x2] (YB r)) ∧ (∀ (x3 : Q2) (x6 : Q2) (x8 : Q2) (x14 : Int) (o : (Q2 × Q2) ⊕ (Q2 × Int × Q2)), Ze x1 x3 x2 x6 x8 x14 = some o → LO 103 14 97 [1, 3, 5, 6, 8, 14] [.str x1, .ptr 0 0 0, .ptr 1 0 0, .ptr 2 0 0, .ptr 3 0 0, ii x14] [.cells 0 (Q8 x3).cells, .cells 0 (Qj x2).cells, .cells 0 (Q8 x6).cells, .cells 0 [ii x8.fOp, .str x8.fName, ii x8.fVal.fN, ii x8.fVal.fD, ii x8.fType.fKind, ii x8.fType.fBits, ii x8.fType.fFrac, ii x8.fType.fRound, ii x8.fType.fOver, ii x8.fLin.fK, .sl 2 (List.map Qf x8.fLin.fL), .ow 4 0 4 (List.length x8.fIdx), .ow 5 0 13 (List.length x8.fArgs)], .own 0 4 (List.map Q4 x8.fIdx), .own 0 13 (List.map Qm x8.fArgs)] [6, 7, 8] (Y1 (x1, x3, x2) () o)) :=
 Zv.mutual_partial_correctness x1 x2 (fun x0 r => PU 103 [Q8 x0, eS x1, Qj x2] (YB r)) (fun x3 x6 x8 x14 o => LO 103 14 97 [1, 3, 5, 6, 8, 14] [.str x1, .ptr 0 0 0, .ptr 1 0 0, .ptr 2 0 0, .ptr 3 0 0, ii x14] [.cells 0 (Q8 x3).cells, .cells 0 (Qj x2).cells, .cells 0 (Q8 x6).cells, .cells 0 [ii x8.fOp, .str x8.fName, ii x8.fVal.fN, ii x8.fVal.fD, ii x8.fType.fKind, ii x8.fType.fBits, ii x8.fType.fFrac, ii x8.fType.fRound, ii x8.fType.fOver, ii x8.fLin.fK, .sl 2 (List.map Qf x8.fLin.fL), .ow 4 0 4 (List.length x8.fIdx), .ow 5 0 13 (List.length x8.fArgs)], .own 0 4 (List.map Q4 x8.fIdx), .own 0 13 (List.map Qm x8.fArgs)] [6, 7, 8] (Y1 (x1, x3, x2) () o))
 (fun Ze Q2a x0 r h  =>
 Pu2 (hs := [(31, .c Y9), (35, .split), (36, .n Q8 36 none), (3000015, .l [] [1, 3, 5, 6, 8, 14] [kk 3, kk 5, kk 6, kk 8, { slot := 8, path := [11], own := 4 }, { slot := 8, path := [12], own := 13 }] [6, 7, 8] [kk 6, kk 8, { slot := 8, path := [11], own := 4 }, { slot := 8, path := [12], own := 13 }] (Y1 (x1, x0, x2))), (3000008, .l [] [1, 3, 5, 6, 8, 11] [kk 3, kk 5, kk 6, kk 8, { slot := 8, path := [11], own := 4 }, { slot := 8, path := [12], own := 13 }] [1, 3, 5, 6, 7, 8] [kk 3, kk 5, kk 6, kk 8, { slot := 8, path := [11], own := 4 }, { slot := 8, path := [12], own := 13 }] (Yo (x1, x0, x2)))]) ((kC (sh := Y9) (GR x0.fLin x1 x2) fun v0 => (kIf (c := v0.snd != (0 : Int)) (kW (sh := Q8) (QO.mk (0 : Int) [] (gVal.mk (0 : Int) (0 : Int)) (Qi.mk (0 : Int) (0 : Int) (0 : Int) (0 : Int) (0 : Int)) (gLin.mk (0 : Int) []) [] [] : Q2) (LeV.agg (.cons (LeV.refl (ii (0 : Int))) (.cons (LeV.refl (AV.str [])) (.cons (LeV.refl (ii (0 : Int))) (.cons (LeV.refl (ii (0 : Int))) (.cons (LeV.refl (ii (0 : Int))) (.cons (LeV.refl (ii (0 : Int))) (.cons (LeV.refl (ii (0 : Int))) (.cons (LeV.refl (ii (0 : Int))) (.cons (LeV.refl (ii (0 : Int))) (.cons (LeV.refl (ii (0 : Int))) (.cons (LeV.nil 2) (.cons (LeV.nil 4) (.cons (LeV.nil 13) .nil)))))))))))))) fun v1 => (kEr (enc := YB) (v1, v0.snd)))
 (kL2 () (hL := (fun y hy => ZC.le (.cons (LeV.refl (AV.str x1)) (.cons (LeV.refl (AV.ptr (0 : Nat) (0 : Nat) (0 : Nat))) (.cons (LeV.refl (AV.ptr (1 : Nat) (0 : Nat) (0 : Nat))) (.cons (LeV.refl (AV.ptr (2 : Nat) (0 : Nat) (0 : Nat))) (.cons (LeV.refl (AV.ptr (3 : Nat) (0 : Nat) (0 : Nat))) (.cons (LeV.refl (ii (0 : Int))) .nil)))))) (.cons (LeB.refl (Box.cells (0 : Nat) [ii x0.fOp, AV.str x0.fName, ii x0.fVal.fN, ii x0.fVal.fD, ii x0.fType.fKind, ii x0.fType.fBits, ii x0.fType.fFrac, ii x0.fType.fRound, ii x0.fType.fOver, ii x0.fLin.fK, AV.sl (2 : Nat) (List.map Qf x0.fLin.fL), AV.sl (4 : Nat) (List.map Q4 x0.fIdx), AV.sl (13 : Nat) (List.map Qm x0.fArgs)])) (.cons (LeB.refl (Box.cells (0 : Nat) [ii x2.fK, AV.sl (2 : Nat) (List.map Qf x2.fL)])) (.cons (LeB.cells (0 : Nat) (.cons (LeV.refl (ii (0 : Int))) (.cons (LeV.refl (AV.str [])) (.cons (LeV.refl (ii (0 : Int))) (.cons (LeV.refl (ii (0 : Int))) (.cons (LeV.refl (ii (0 : Int))) (.cons (LeV.refl (ii (0 : Int))) (.cons (LeV.refl (ii (0 : Int))) (.cons (LeV.refl (ii (0 : Int))) (.cons (LeV.refl (ii (0 : Int))) (.cons (LeV.refl (ii (0 : Int))) (.cons (LeV.nil 2) (.cons (LeV.nil 4) (.cons (LeV.nil 13) .nil)))))))))))))) (.cons (LeB.refl (Box.cells (0 : Nat) [ii x0.fOp, AV.str x0.fName, ii x0.fVal.fN, ii x0.fVal.fD, ii x0.fType.fKind, ii x0.fType.fBits, ii x0.fType.fFrac, ii x0.fType.fRound, ii x0.fType.fOver, ii v0.fst.fK, AV.sl (2 : Nat) (List.map Qf v0.fst.fL), AV.ow (4 : Nat) (0 : Nat) (4 : Nat) (0 : Nat), AV.ow (5 : Nat) (0 : Nat) (13 : Nat) (0 : Nat)])) (.cons (LeB.refl (Box.own (0 : Nat) (4 : Nat) [])) (.cons (LeB.refl (Box.own (0 : Nat) (13 : Nat) [])) .nil)))))) (MK x1 x0 x2 (QO.mk (0 : Int) [] (gVal.mk (0 : Int) (0 : Int)) (Qi.mk (0 : Int) (0 : Int) (0 : Int) (0 : Int) (0 : Int)) (gLin.mk (0 : Int) []) [] [] : Q2) (QO.mk x0.fOp x0.fName x0.fVal x0.fType v0.fst [] [] : Q2) (0 : Int) y hy))) (hA := fun v2 v4 => (kL2 () (hL := (Q2a x0 v4.fst v4.snd (0 : Int))) (hA := fun v5 v7 => (kT (nM (sh := Q4) v7.snd.fIdx) (kT (nM (sh := Qm) v7.snd.fArgs) (kEr (enc := YB) (v7.snd, (0 : Int))))))
 (hB := fun v5 v8 => (kEr (enc := YB) (v8.fst, v8.snd.fst)))))
 (hB := fun v2 v9 => (kEr (enc := YB) (v9.fst, v9.snd.fst)))))) h))
 (fun Zv Ze Q29 Q2a x3 x6 x8 x14 o h  =>
 Lp2 (hs := [(71, .n eI 71 none), (72, .split), (79, .e Q8), (83, .c YB), (87, .split), (88, .n Q8 88 none), (94, .z [{ slot := 91, own := 13 }] (some (.n Qm 94 (some .a))))]) (kb := [kk 3, kk 5, kk 6, kk 8, { slot := 8, path := [11], own := 4 }, { slot := 8, path := [12], own := 13 }]) (kbx := [kk 6, kk 8, { slot := 8, path := [11], own := 4 }, { slot := 8, path := [12], own := 13 }]) ((kN _ (mLen (sh := Qm) x3.fArgs) fun v0 => (kIfD (p := x14 < v0) (kIxR (l := x3.fArgs) (k := x14) QS fun v1 => (kC (sh := YB) (Q29 v1) fun v2 => (kIf (c := v2.snd != (0 : Int)) (kW (sh := Q8) (QO.mk (0 : Int) [] (gVal.mk (0 : Int) (0 : Int)) (Qi.mk (0 : Int) (0 : Int) (0 : Int) (0 : Int) (0 : Int)) (gLin.mk (0 : Int) []) [] [] : Q2) (LeV.agg (.cons (LeV.refl (ii (0 : Int))) (.cons (LeV.refl (AV.str [])) (.cons (LeV.refl (ii (0 : Int))) (.cons (LeV.refl (ii (0 : Int))) (.cons (LeV.refl (ii (0 : Int))) (.cons (LeV.refl (ii (0 : Int))) (.cons (LeV.refl (ii (0 : Int))) (.cons (LeV.refl (ii (0 : Int))) (.cons (LeV.refl (ii (0 : Int))) (.cons (LeV.refl (ii (0 : Int))) (.cons (LeV.nil 2) (.cons (LeV.nil 4) (.cons (LeV.nil 13) .nil)))))))))))))) fun v3 => (kX (alts := Y1 (x1, x3, x2) ()) (.inr (v3, v2.snd, x8)) (.next (.here _ rfl (.refl _) (.refl _)))))
 (kA (q := (x8.fArgs.length + (1 : Nat)) * (160 : Nat) ≤ (140737488355328 : Nat) ∧ x8.fArgs.length + (1 : Nat) ≤ (9223372036854775807 : Nat)) (sh := Qm) (l := x8.fArgs) (kO (sh := Qm) (x8.fArgs ++ [(Qb.mk v2.fst)]) (mAR N5 x8.fArgs v2.fst) (nA x8.fArgs (Qb.mk v2.fst)) fun v4 => (kM0 (alts := Y1 (x1, x3, x2) ()) (Q2a x3 x6 (QO.mk x8.fOp x8.fName x8.fVal x8.fType x8.fLin x8.fIdx v4 : Q2) (wr (x14 + (1 : Int))))))))))
 (kX (alts := Y1 (x1, x3, x2) ()) (.inl (x6, x8)) (.here _ rfl (.refl _) (.refl _))))) h))
theorem N4 (x0 : Q2) (x1 : Str) (x2 : gLin) (r : (Q2 × Int)) (h : Zv x0 x1 x2 = some r) : PU 103 [Q8 x0, eS x1, Qj x2] (YB r) := (LU x1 x2).1 x0 r h
def ZJ (s : ((List Q9) × Str × gLin)) (u : Unit) (o : (List Q9) ⊕ ((List Q9) × Int)) : List Alt := [⟨fun (x : List Q9) => (Sum.inl x : (List Q9) ⊕ ((List Q9) × Int)) = o, .exit 0, fun x => [.undef, .undef, .sl 20 (List.map Qq x)], fun x => []⟩, ⟨fun (x : ((List Q9) × Int)) => (Sum.inr x : (List Q9) ⊕ ((List Q9) × Int)) = o, .ret, fun x => [.sl 20 (List.map Qq x.1), ii x.2, .undef], fun x => []⟩]
mutual
def XE (x0 : List Q9) (x1 : Str) (x2 : gLin) : Option (List Q9 × Int) :=
 some () >>= fun v0 =>
 Zl x0 x1 x2 [] (0 : Int) >>= fun v1 => (match v1 with
 | (.inl v2) =>
 some (v2, (0 : Int))
 | (.inr v3) =>
 some (v3.fst, v3.snd))
 partial_fixpoint
def Zl (x0 : List Q9) (x1 : Str) (x5 : gLin) (x8 : List Q9) (x9 : Int) : Option ((List Q9) ⊕ ((List Q9) × Int)) :=
 some (List.length x0 : Int) >>= fun v0 =>
 if x9 < v0 then
 Option.map Q9.f (ix x0 x9) >>= fun v1 =>
 some ((QO.mk (3 : Int) [] (gVal.mk (0 : Int) (0 : Int)) (Qi.mk (0 : Int) (0 : Int) (0 : Int) (0 : Int) (0 : Int)) (gLin.mk (0 : Int) []) v1.fIdx [] : Q2)) >>= fun v2 =>
 Zv v2 x1 x5 >>= fun v3 =>
 if v3.snd != (0 : Int) then
 some (.inr ([], v3.snd))
 else
 Zv v1.fExpr x1 x5 >>= fun v4 =>
 if v4.snd != (0 : Int) then
 some (.inr ([], v4.snd))
 else
 XE v1.fBody x1 x5 >>= fun v5 =>
 if v5.snd != (0 : Int) then
 some (.inr ([], v5.snd))
 else
 if (x8.length + (1 : Nat)) * (256 : Nat) ≤ (140737488355328 : Nat) ∧ x8.length + (1 : Nat) ≤ (9223372036854775807 : Nat) then
 some (x8 ++ [(Q9.mk (Xc.mk v1.fOp v1.fName v1.fMany v1.fMark v1.fFold v3.fst.fIdx v4.fst v5.fst : Qc))]) >>= fun v6 =>
 Zl x0 x1 x5 v6 (wr (x9 + (1 : Int)))
 else none
 else
 some (.inl x8)
 partial_fixpoint
end
theorem LV (x1 : Str) (x2 : gLin) : (∀ (x0 : List Q9) (r : (List Q9 × Int)), XE x0 x1 x2 = some r → PU 83 [Zf x0, eS x1, Qj x2] (VX r)) ∧ (∀ (x0 : List Q9) (x8 : List Q9) (x9 : Int) (o : (List Q9) ⊕ ((List Q9) × Int)), Zl x0 x1 x2 x8 x9 = some o → LO 83 3 73 [0, 1, 5, 8, 9] [.sl 20 (List.map Qq x0), .str x1, .ptr 0 0 0, .ow 1 0 20 (List.length x8), ii x9] [.cells 0 (Qj x2).cells, .own 0 20 (List.map Qq x8)] [6, 7, 8] (ZJ (x0, x1, x2) () o)) :=
 XE.mutual_partial_correctness x1 x2 (fun x0 r => PU 83 [Zf x0, eS x1, Qj x2] (VX r)) (fun x0 x8 x9 o => LO 83 3 73 [0, 1, 5, 8, 9] [.sl 20 (List.map Qq x0), .str x1, .ptr 0 0 0, .ow 1 0 20 (List.length x8), ii x9] [.cells 0 (Qj x2).cells, .own 0 20 (List.map Qq x8)] [6, 7, 8] (ZJ (x0, x1, x2) () o))
 (fun Zl Q32 x0 r h  =>
 Pu2 (hs := [(3000004, .l [] [0, 1, 5, 8, 9] [kk 5, { slot := 8, own := 20 }] [6, 7, 8] [{ slot := 6, fz := true }, { slot := 8, fz := true }] (ZJ (x0, x1, x2)))]) ((kL2 () (hL := (Q32 x0 [] (0 : Int))) (hA := fun v0 v2 => (kEr (enc := VX) (v2, (0 : Int))))
 (hB := fun v0 v3 => (kEr (enc := VX) (v3.fst, v3.snd)))) h))
 (fun XE Zl Q31 Q32 x0 x8 x9 o h  =>
 Lp2 (hs := [(19, .n eI 19 none), (20, .split), (25, .e Qn), (30, .n Q8 30 none), (33, .c YB), (37, .split), (44, .c YB), (48, .split), (55, .c VX), (59, .split), (71, .z [{ slot := 68, own := 20 }] (some (.n Qq 71 (some .a))))]) (kb := [kk 5, { slot := 8, own := 20 }]) (kbx := [{ slot := 6, fz := true }, { slot := 8, fz := true }]) ((kN _ (mLen (sh := Qq) x0) fun v0 => (kIfD (p := x9 < v0) (kIxR (l := x0) (k := x9) QW fun v1 => (kW (sh := Q8) (QO.mk (3 : Int) [] (gVal.mk (0 : Int) (0 : Int)) (Qi.mk (0 : Int) (0 : Int) (0 : Int) (0 : Int) (0 : Int)) (gLin.mk (0 : Int) []) v1.fIdx [] : Q2) (LeV.agg (.cons (LeV.refl (ii (3 : Int))) (.cons (LeV.refl (AV.str [])) (.cons (LeV.refl (ii (0 : Int))) (.cons (LeV.refl (ii (0 : Int))) (.cons (LeV.refl (ii (0 : Int))) (.cons (LeV.refl (ii (0 : Int))) (.cons (LeV.refl (ii (0 : Int))) (.cons (LeV.refl (ii (0 : Int))) (.cons (LeV.refl (ii (0 : Int))) (.cons (LeV.refl (ii (0 : Int))) (.cons (LeV.nil 2) (.cons (LeV.refl (AV.sl (4 : Nat) (List.map Q4 v1.fIdx))) (.cons (LeV.nil 13) .nil)))))))))))))) fun v2 => (kC (sh := YB) (N4 v2 x1 x2) fun v3 => (kIf (c := v3.snd != (0 : Int)) (kT (nM (sh := Qq) x8) (kX (alts := ZJ (x0, x1, x2) ()) (.inr ([], v3.snd)) (.next (.here _ rfl (.cons (LeV.nil 20) (.cons (LeV.refl (ii v3.snd)) (.cons (LeV.undef (AV.sl (20 : Nat) (List.map Qq x8))) .nil))) (.refl _)))))
 (kC (sh := YB) (N4 v1.fExpr x1 x2) fun v4 => (kIf (c := v4.snd != (0 : Int)) (kT (nM (sh := Qq) x8) (kX (alts := ZJ (x0, x1, x2) ()) (.inr ([], v4.snd)) (.next (.here _ rfl (.cons (LeV.nil 20) (.cons (LeV.refl (ii v4.snd)) (.cons (LeV.undef (AV.sl (20 : Nat) (List.map Qq x8))) .nil))) (.refl _)))))
 (kC (sh := VX) (Q31 v1.fBody) fun v5 => (kIf (c := v5.snd != (0 : Int)) (kT (nM (sh := Qq) x8) (kX (alts := ZJ (x0, x1, x2) ()) (.inr ([], v5.snd)) (.next (.here _ rfl (.cons (LeV.nil 20) (.cons (LeV.refl (ii v5.snd)) (.cons (LeV.undef (AV.sl (20 : Nat) (List.map Qq x8))) .nil))) (.refl _)))))
 (kA (q := (x8.length + (1 : Nat)) * (256 : Nat) ≤ (140737488355328 : Nat) ∧ x8.length + (1 : Nat) ≤ (9223372036854775807 : Nat)) (sh := Qq) (l := x8) (kO (sh := Qq) (x8 ++ [(Q9.mk (Xc.mk v1.fOp v1.fName v1.fMany v1.fMark v1.fFold v3.fst.fIdx v4.fst v5.fst : Qc))]) (mAR Mj x8 (Xc.mk v1.fOp v1.fName v1.fMany v1.fMark v1.fFold v3.fst.fIdx v4.fst v5.fst : Qc)) (nA x8 (Q9.mk (Xc.mk v1.fOp v1.fName v1.fMany v1.fMark v1.fFold v3.fst.fIdx v4.fst v5.fst : Qc))) fun v6 => (kM0 (alts := ZJ (x0, x1, x2) ()) (Q32 x0 v6 (wr (x9 + (1 : Int)))))))))))))))
 (kT (nM (sh := Qq) x8) (kX (alts := ZJ (x0, x1, x2) ()) (.inl x8) (.here _ rfl (.refl _) (.refl _)))))) h))
theorem Ij (x0 : List Q9) (x1 : Str) (x2 : gLin) (r : (List Q9 × Int)) (h : XE x0 x1 x2 = some r) : PU 83 [Zf x0, eS x1, Qj x2] (VX r) := (LV x1 x2).1 x0 r h
def YS (s : List Qd) (u : Unit) (o : (Qc × (List Q9)) ⊕ (Qc × Int)) : List Alt := [⟨fun (x : (Qc × (List Q9))) => (Sum.inl x : (Qc × (List Q9)) ⊕ (Qc × Int)) = o, .exit 0, fun x => [.ptr 0 0 0, .undef, .sl 20 (List.map Qq x.2)], fun x => [.cells 0 (Qn x.1).cells]⟩, ⟨fun (x : (Qc × Int)) => (Sum.inr x : (Qc × (List Q9)) ⊕ (Qc × Int)) = o, .ret, fun x => [.ptr 0 0 0, ii x.2, .undef], fun x => [.cells 0 (Qn x.1).cells]⟩]
def ZG (x1 : List Qd) (x4 : Qc) (x6 : List Q9) (x7 : Int) : Option ((Qc × (List Q9)) ⊕ (Qc × Int)) :=
 some (List.length x1 : Int) >>= fun v0 =>
 if x7 < v0 then
 ix x1 x7 >>= fun v1 =>
 ix x1 x7 >>= fun v2 =>
 XE x6 v1.fName (gLin.mk v2.fVal []) >>= fun v3 =>
 some ((gLin.mk v2.fVal [])) >>= fun v4 =>
 if v3.snd != (0 : Int) then
 some ((Xc.mk (0 : Int) [] (0 : Int) (0 : Int) (0 : Int) [] (QO.mk (0 : Int) [] (gVal.mk (0 : Int) (0 : Int)) (Qi.mk (0 : Int) (0 : Int) (0 : Int) (0 : Int) (0 : Int)) (gLin.mk (0 : Int) []) [] [] : Q2) [] : Qc)) >>= fun v5 =>
 some (.inr (v5, v3.snd))
 else
 ZG x1 x4 v3.fst (wr (x7 + (1 : Int)))
 else
 some (.inl (x4, x6))
 partial_fixpoint
theorem I3 (x1 : List Qd) (x4 : Qc) (x6 : List Q9) (x7 : Int) (o : (Qc × (List Q9)) ⊕ (Qc × Int)) (h : ZG x1 x4 x6 x7 = some o) : LO 53 3 42 [1, 4, 6, 7] [.sl 2 (List.map Qe x1), .ptr 0 0 0, .sl 20 (List.map Qq x6), ii x7] [.cells 0 (Qn x4).cells] [4, 5, 6] (YS x1 () o) :=
 ZG.partial_correctness x1 x4 (fun x6 x7 o => LO 53 3 42 [1, 4, 6, 7] [.sl 2 (List.map Qe x1), .ptr 0 0 0, .sl 20 (List.map Qq x6), ii x7] [.cells 0 (Qn x4).cells] [4, 5, 6] (YS x1 () o))
 (fun ZG Q3g x6 x7 o h  =>
 Lp2 (hs := [(6, .z [{ slot := 11, own := 20 }, { slot := 11, fz := true }] none), (14, .n eI 14 none), (15, .split), (22, .e Qe), (27, .e Qe), (30, .n Qj 30 none), (31, .c VX), (35, .split), (36, .n Qn 36 none)]) (kb := [kk 4]) (kbx := [kk 4]) ((kN _ (mLen (sh := Qe) x1) fun v0 => (kIfD (p := x7 < v0) (kIx (enc := Qe) (l := x1) (k := x7) fun v1 => (kIx (enc := Qe) (l := x1) (k := x7) fun v2 => (kC (sh := VX) (fun y hy => Pu.le (Ij x6 v1.fName (gLin.mk v2.fVal []) y hy) (.cons (LeT.refl (AV.sl (20 : Nat) (List.map Qq x6))) (.cons (LeT.refl (AV.str v1.fName)) (.cons (LeT.agg (.cons (LeT.refl (ii v2.fVal)) (.cons (LeT.nil 2) .nil))) .nil))) (LeT.refl _)) fun v3 => (kW (sh := Qj) (gLin.mk v2.fVal []) (LeV.agg (.cons (LeV.refl (ii v2.fVal)) (.cons (LeV.nil 2) .nil))) fun v4 => (kIf (c := v3.snd != (0 : Int)) (kW (sh := Qn) (Xc.mk (0 : Int) [] (0 : Int) (0 : Int) (0 : Int) [] (QO.mk (0 : Int) [] (gVal.mk (0 : Int) (0 : Int)) (Qi.mk (0 : Int) (0 : Int) (0 : Int) (0 : Int) (0 : Int)) (gLin.mk (0 : Int) []) [] [] : Q2) [] : Qc) (LeV.agg (.cons (LeV.refl (ii (0 : Int))) (.cons (LeV.refl (AV.str [])) (.cons (LeV.refl (ii (0 : Int))) (.cons (LeV.refl (ii (0 : Int))) (.cons (LeV.refl (ii (0 : Int))) (.cons (LeV.nil 4) (.cons (LeV.refl (ii (0 : Int))) (.cons (LeV.refl (AV.str [])) (.cons (LeV.refl (ii (0 : Int))) (.cons (LeV.refl (ii (0 : Int))) (.cons (LeV.refl (ii (0 : Int))) (.cons (LeV.refl (ii (0 : Int))) (.cons (LeV.refl (ii (0 : Int))) (.cons (LeV.refl (ii (0 : Int))) (.cons (LeV.refl (ii (0 : Int))) (.cons (LeV.refl (ii (0 : Int))) (.cons (LeV.nil 2) (.cons (LeV.nil 4) (.cons (LeV.nil 13) (.cons (LeV.nil 20) .nil))))))))))))))))))))) fun v5 => (kX (alts := YS x1 ()) (.inr (v5, v3.snd)) (.next (.here _ rfl (.cons (LeV.refl (AV.ptr (0 : Nat) (0 : Nat) (0 : Nat))) (.cons (LeV.refl (ii v3.snd)) (.cons (LeV.undef (AV.sl (20 : Nat) (List.map Qq x6))) .nil))) (.refl _)))))
 (kM0 (alts := YS x1 ()) (Q3g v3.fst (wr (x7 + (1 : Int))))))))))
 (kX (alts := YS x1 ()) (.inl (x4, x6)) (.here _ rfl (.refl _) (.refl _))))) h)) x6 x7 o h
def UB (x0 : Qc) (x1 : List Qd) : Option (Qc × Int) :=
 some () >>= fun v0 =>
 ZG x1 (Xc.mk (0 : Int) [] (0 : Int) (0 : Int) (0 : Int) [] (QO.mk (0 : Int) [] (gVal.mk (0 : Int) (0 : Int)) (Qi.mk (0 : Int) (0 : Int) (0 : Int) (0 : Int) (0 : Int)) (gLin.mk (0 : Int) []) [] [] : Q2) [] : Qc) [(Q9.mk x0)] (0 : Int) >>= fun v1 => (match v1 with
 | (.inl v2) =>
 Option.map Q9.f (ix v2.snd (0 : Int)) >>= fun v3 =>
 some (v3, (0 : Int))
 | (.inr v4) =>
 some (v4.fst, v4.snd))
theorem NR (x0 : Qc) (x1 : List Qd) (r : (Qc × Int)) (h : UB x0 x1 = some r) : PU 53 [Qn x0, QP x1] (Di r) :=
 Pu2 (hs := [(6, .z [{ slot := 11, own := 20 }, { slot := 11, fz := true }] none), (40, .e Qn), (3000004, .l [] [1, 4, 6, 7] [kk 4] [4, 5, 6] [kk 4] (YS x1))]) ((kT (rfl : (1 : Nat) = (1 : Nat)) (kL2 () (hL := (fun y hy => ZC.le (.cons (LeV.refl (AV.sl (2 : Nat) (List.map Qe x1))) (.cons (LeV.refl (AV.ptr (0 : Nat) (0 : Nat) (0 : Nat))) (.cons (LeV.sl (.cons (Ot x0) .nil)) (.cons (LeV.refl (ii (0 : Int))) .nil)))) (.cons (LeB.cells (0 : Nat) (.cons (LeV.refl (ii (0 : Int))) (.cons (LeV.refl (AV.str [])) (.cons (LeV.refl (ii (0 : Int))) (.cons (LeV.refl (ii (0 : Int))) (.cons (LeV.refl (ii (0 : Int))) (.cons (LeV.nil 4) (.cons (LeV.refl (ii (0 : Int))) (.cons (LeV.refl (AV.str [])) (.cons (LeV.refl (ii (0 : Int))) (.cons (LeV.refl (ii (0 : Int))) (.cons (LeV.refl (ii (0 : Int))) (.cons (LeV.refl (ii (0 : Int))) (.cons (LeV.refl (ii (0 : Int))) (.cons (LeV.refl (ii (0 : Int))) (.cons (LeV.refl (ii (0 : Int))) (.cons (LeV.refl (ii (0 : Int))) (.cons (LeV.nil 2) (.cons (LeV.nil 4) (.cons (LeV.nil 13) (.cons (LeV.nil 20) .nil))))))))))))))))))))) .nil) (I3 x1 (Xc.mk (0 : Int) [] (0 : Int) (0 : Int) (0 : Int) [] (QO.mk (0 : Int) [] (gVal.mk (0 : Int) (0 : Int)) (Qi.mk (0 : Int) (0 : Int) (0 : Int) (0 : Int) (0 : Int)) (gLin.mk (0 : Int) []) [] [] : Q2) [] : Qc) [(Q9.mk x0)] (0 : Int) y hy))) (hA := fun v0 v2 => (kIxR (l := v2.snd) (k := (0 : Int)) QW fun v3 => (kEr (enc := Di) (v3, (0 : Int)))))
 (hB := fun v0 v4 => (kEr (enc := Di) (v4.fst, v4.snd))))) h)
def JS (s : List Qd) (u : ((List Qb) × Q3 × Q3 × QT)) (o : Qc) : List Alt := [⟨fun (x : Qc) => x = o, .exit 2, fun x => [.sl 2 (List.map Qe s), .ptr 0 0 0, .ptr 2 0 0, .ptr 4 0 0, .ptr 5 0 0], fun x => [.cells 0 [.ow 1 0 22 (List.length u.2.1.fL), ii u.2.1.fCount, ii u.2.1.fE], .own 0 22 (List.map Ql u.2.1.fL), .cells 0 [.ow 3 0 22 (List.length u.2.2.1.fL), ii u.2.2.1.fCount, ii u.2.2.1.fE], .own 0 22 (List.map Ql u.2.2.1.fL), .cells 0 (Qn x).cells, .cells 0 [ii u.2.2.2.fStmt, .ow 6 0 1 (List.length u.2.2.2.fAt), ii u.2.2.2.fOp.fOp, .str u.2.2.2.fOp.fName, ii u.2.2.2.fOp.fMany, ii u.2.2.2.fOp.fMark, ii u.2.2.2.fOp.fFold, .sl 4 (List.map Q4 u.2.2.2.fOp.fIdx), ii u.2.2.2.fOp.fExpr.fOp, .str u.2.2.2.fOp.fExpr.fName, ii u.2.2.2.fOp.fExpr.fVal.fN, ii u.2.2.2.fOp.fExpr.fVal.fD, ii u.2.2.2.fOp.fExpr.fType.fKind, ii u.2.2.2.fOp.fExpr.fType.fBits, ii u.2.2.2.fOp.fExpr.fType.fFrac, ii u.2.2.2.fOp.fExpr.fType.fRound, ii u.2.2.2.fOp.fExpr.fType.fOver, ii u.2.2.2.fOp.fExpr.fLin.fK, .sl 2 (List.map Qf u.2.2.2.fOp.fExpr.fLin.fL), .sl 4 (List.map Q4 u.2.2.2.fOp.fExpr.fIdx), .sl 13 (List.map Qm u.2.2.2.fOp.fExpr.fArgs), .sl 20 (List.map Qq u.2.2.2.fOp.fBody)], .own 0 1 (List.map eI u.2.2.2.fAt)]⟩]
def Y8 (x4 : List Qb) (x11 : Qc) (x17 : Int) : Option Qc :=
 if (0 : Int) ≤ x17 then
 Option.map Qb.f (ix x4 x17) >>= fun v0 =>
 some ((Xc.mk (4 : Int) [] (0 : Int) (0 : Int) (0 : Int) [] v0 [(Q9.mk x11)] : Qc)) >>= fun v1 =>
 Y8 x4 v1 (wr (x17 - (1 : Int)))
 else
 some x11
 partial_fixpoint
theorem HM (x3 : List Qd) (x4 : List Qb) (x5 : Q3) (x10 : Q3) (x11 : Qc) (x13 : QT) (x17 : Int) (o : Qc) (h : Y8 x4 x11 x17 = some o) : LO 32 13 100 [3, 4, 5, 10, 11, 13, 17] [.sl 2 (List.map Qe x3), .sl 13 (List.map Qm x4), .ptr 0 0 0, .ptr 2 0 0, .ptr 4 0 0, .ptr 5 0 0, ii x17] [.cells 0 [.ow 1 0 22 (List.length x5.fL), ii x5.fCount, ii x5.fE], .own 0 22 (List.map Ql x5.fL), .cells 0 [.ow 3 0 22 (List.length x10.fL), ii x10.fCount, ii x10.fE], .own 0 22 (List.map Ql x10.fL), .cells 0 (Qn x11).cells, .cells 0 [ii x13.fStmt, .ow 6 0 1 (List.length x13.fAt), ii x13.fOp.fOp, .str x13.fOp.fName, ii x13.fOp.fMany, ii x13.fOp.fMark, ii x13.fOp.fFold, .sl 4 (List.map Q4 x13.fOp.fIdx), ii x13.fOp.fExpr.fOp, .str x13.fOp.fExpr.fName, ii x13.fOp.fExpr.fVal.fN, ii x13.fOp.fExpr.fVal.fD, ii x13.fOp.fExpr.fType.fKind, ii x13.fOp.fExpr.fType.fBits, ii x13.fOp.fExpr.fType.fFrac, ii x13.fOp.fExpr.fType.fRound, ii x13.fOp.fExpr.fType.fOver, ii x13.fOp.fExpr.fLin.fK, .sl 2 (List.map Qf x13.fOp.fExpr.fLin.fL), .sl 4 (List.map Q4 x13.fOp.fExpr.fIdx), .sl 13 (List.map Qm x13.fOp.fExpr.fArgs), .sl 20 (List.map Qq x13.fOp.fBody)], .own 0 1 (List.map eI x13.fAt)] [3, 5, 10, 11, 13] (JS x3 (x4, x5, x10, x13) o) :=
 Y8.partial_correctness x4 (fun x11 x17 o => ∀ (x3 : List Qd) (x5 : Q3) (x10 : Q3) (x13 : QT), LO 32 13 100 [3, 4, 5, 10, 11, 13, 17] [.sl 2 (List.map Qe x3), .sl 13 (List.map Qm x4), .ptr 0 0 0, .ptr 2 0 0, .ptr 4 0 0, .ptr 5 0 0, ii x17] [.cells 0 [.ow 1 0 22 (List.length x5.fL), ii x5.fCount, ii x5.fE], .own 0 22 (List.map Ql x5.fL), .cells 0 [.ow 3 0 22 (List.length x10.fL), ii x10.fCount, ii x10.fE], .own 0 22 (List.map Ql x10.fL), .cells 0 (Qn x11).cells, .cells 0 [ii x13.fStmt, .ow 6 0 1 (List.length x13.fAt), ii x13.fOp.fOp, .str x13.fOp.fName, ii x13.fOp.fMany, ii x13.fOp.fMark, ii x13.fOp.fFold, .sl 4 (List.map Q4 x13.fOp.fIdx), ii x13.fOp.fExpr.fOp, .str x13.fOp.fExpr.fName, ii x13.fOp.fExpr.fVal.fN, ii x13.fOp.fExpr.fVal.fD, ii x13.fOp.fExpr.fType.fKind, ii x13.fOp.fExpr.fType.fBits, ii x13.fOp.fExpr.fType.fFrac, ii x13.fOp.fExpr.fType.fRound, ii x13.fOp.fExpr.fType.fOver, ii x13.fOp.fExpr.fLin.fK, .sl 2 (List.map Qf x13.fOp.fExpr.fLin.fL), .sl 4 (List.map Q4 x13.fOp.fExpr.fIdx), .sl 13 (List.map Qm x13.fOp.fExpr.fArgs), .sl 20 (List.map Qq x13.fOp.fBody)], .own 0 1 (List.map eI x13.fAt)] [3, 5, 10, 11, 13] (JS x3 (x4, x5, x10, x13) o))
 (fun Y8 Q3y x11 x17 o h x3 x5 x10 x13 =>
 Lp2 (hs := [(60, .split), (65, .e Q8), (69, .z [{ slot := 68, own := 20 }, { slot := 68, fz := true }] (some (.n Qn 69 none)))]) (kb := [{ slot := 4, fz := true }, kk 5, { slot := 5, path := [0], own := 22 }, kk 10, { slot := 10, path := [0], own := 22 }, kk 11, kk 13, { slot := 13, path := [1], own := 1 }]) (kbx := [kk 5, { slot := 5, path := [0], own := 22 }, kk 10, { slot := 10, path := [0], own := 22 }, kk 11, kk 13, { slot := 13, path := [1], own := 1 }]) ((kIfD (p := (0 : Int) ≤ x17) (kIxR (l := x4) (k := x17) QS fun v0 => (kT (rfl : (1 : Nat) = (1 : Nat)) (kW (sh := Qn) (Xc.mk (4 : Int) [] (0 : Int) (0 : Int) (0 : Int) [] v0 [(Q9.mk x11)] : Qc) (LeV.agg (.cons (LeV.refl (ii (4 : Int))) (.cons (LeV.refl (AV.str [])) (.cons (LeV.refl (ii (0 : Int))) (.cons (LeV.refl (ii (0 : Int))) (.cons (LeV.refl (ii (0 : Int))) (.cons (LeV.nil 4) (.cons (LeV.refl (ii v0.fOp)) (.cons (LeV.refl (AV.str v0.fName)) (.cons (LeV.refl (ii v0.fVal.fN)) (.cons (LeV.refl (ii v0.fVal.fD)) (.cons (LeV.refl (ii v0.fType.fKind)) (.cons (LeV.refl (ii v0.fType.fBits)) (.cons (LeV.refl (ii v0.fType.fFrac)) (.cons (LeV.refl (ii v0.fType.fRound)) (.cons (LeV.refl (ii v0.fType.fOver)) (.cons (LeV.refl (ii v0.fLin.fK)) (.cons (LeV.refl (AV.sl (2 : Nat) (List.map Qf v0.fLin.fL))) (.cons (LeV.refl (AV.sl (4 : Nat) (List.map Q4 v0.fIdx))) (.cons (LeV.refl (AV.sl (13 : Nat) (List.map Qm v0.fArgs))) (.cons (LeV.sl (.cons (Ot x11) .nil)) .nil))))))))))))))))))))) fun v1 => (kM0 (alts := JS x3 (x4, x5, x10, x13)) (fun y hy => Q3y v1 (wr (x17 - (1 : Int))) y hy x3 x5 x10 x13)))))
 (kX (alts := JS x3 (x4, x5, x10, x13)) x11 (.here _ rfl (.refl _) (.refl _)))) h)) x11 x17 o h x3 x5 x10 x13
def JU (s : List Qd) (u : (Q3 × Q3)) (o : QT) : List Alt := [⟨fun (x : QT) => x = o, .exit 4, fun x => [.ptr 0 0 0, .ptr 2 0 0, .ptr 4 0 0], fun x => [.cells 0 [.ow 1 0 22 (List.length u.1.fL), ii u.1.fCount, ii u.1.fE], .own 0 22 (List.map Ql u.1.fL), .cells 0 [.ow 3 0 22 (List.length u.2.fL), ii u.2.fCount, ii u.2.fE], .own 0 22 (List.map Ql u.2.fL), .cells 0 [ii x.fStmt, .ow 5 0 1 (List.length x.fAt), ii x.fOp.fOp, .str x.fOp.fName, ii x.fOp.fMany, ii x.fOp.fMark, ii x.fOp.fFold, .sl 4 (List.map Q4 x.fOp.fIdx), ii x.fOp.fExpr.fOp, .str x.fOp.fExpr.fName, ii x.fOp.fExpr.fVal.fN, ii x.fOp.fExpr.fVal.fD, ii x.fOp.fExpr.fType.fKind, ii x.fOp.fExpr.fType.fBits, ii x.fOp.fExpr.fType.fFrac, ii x.fOp.fExpr.fType.fRound, ii x.fOp.fExpr.fType.fOver, ii x.fOp.fExpr.fLin.fK, .sl 2 (List.map Qf x.fOp.fExpr.fLin.fL), .sl 4 (List.map Q4 x.fOp.fExpr.fIdx), .sl 13 (List.map Qm x.fOp.fExpr.fArgs), .sl 20 (List.map Qq x.fOp.fBody)], .own 0 1 (List.map eI x.fAt)]⟩]
def Xj (x3 : List Qd) (x13 : QT) (x18 : Int) : Option QT :=
 some (List.length x3 : Int) >>= fun v0 =>
 if x18 < v0 then
 ix x3 x18 >>= fun v1 =>
 if (x13.fAt.length + (1 : Nat)) * (8 : Nat) ≤ (140737488355328 : Nat) ∧ x13.fAt.length + (1 : Nat) ≤ (9223372036854775807 : Nat) then
 some (x13.fAt ++ [v1.fVal]) >>= fun v2 =>
 Xj x3 (QT.mk x13.fStmt v2 x13.fOp) (wr (x18 + (1 : Int)))
 else none
 else
 some x13
 partial_fixpoint
theorem HN (x3 : List Qd) (x5 : Q3) (x10 : Q3) (x13 : QT) (x18 : Int) (o : QT) (h : Xj x3 x13 x18 = some o) : LO 32 18 100 [3, 5, 10, 13, 18] [.sl 2 (List.map Qe x3), .ptr 0 0 0, .ptr 2 0 0, .ptr 4 0 0, ii x18] [.cells 0 [.ow 1 0 22 (List.length x5.fL), ii x5.fCount, ii x5.fE], .own 0 22 (List.map Ql x5.fL), .cells 0 [.ow 3 0 22 (List.length x10.fL), ii x10.fCount, ii x10.fE], .own 0 22 (List.map Ql x10.fL), .cells 0 [ii x13.fStmt, .ow 5 0 1 (List.length x13.fAt), ii x13.fOp.fOp, .str x13.fOp.fName, ii x13.fOp.fMany, ii x13.fOp.fMark, ii x13.fOp.fFold, .sl 4 (List.map Q4 x13.fOp.fIdx), ii x13.fOp.fExpr.fOp, .str x13.fOp.fExpr.fName, ii x13.fOp.fExpr.fVal.fN, ii x13.fOp.fExpr.fVal.fD, ii x13.fOp.fExpr.fType.fKind, ii x13.fOp.fExpr.fType.fBits, ii x13.fOp.fExpr.fType.fFrac, ii x13.fOp.fExpr.fType.fRound, ii x13.fOp.fExpr.fType.fOver, ii x13.fOp.fExpr.fLin.fK, .sl 2 (List.map Qf x13.fOp.fExpr.fLin.fL), .sl 4 (List.map Q4 x13.fOp.fExpr.fIdx), .sl 13 (List.map Qm x13.fOp.fExpr.fArgs), .sl 20 (List.map Qq x13.fOp.fBody)], .own 0 1 (List.map eI x13.fAt)] [5, 10, 13] (JU x3 (x5, x10) o) :=
 Xj.partial_correctness x3 (fun x13 x18 o => ∀ (x5 : Q3) (x10 : Q3), LO 32 18 100 [3, 5, 10, 13, 18] [.sl 2 (List.map Qe x3), .ptr 0 0 0, .ptr 2 0 0, .ptr 4 0 0, ii x18] [.cells 0 [.ow 1 0 22 (List.length x5.fL), ii x5.fCount, ii x5.fE], .own 0 22 (List.map Ql x5.fL), .cells 0 [.ow 3 0 22 (List.length x10.fL), ii x10.fCount, ii x10.fE], .own 0 22 (List.map Ql x10.fL), .cells 0 [ii x13.fStmt, .ow 5 0 1 (List.length x13.fAt), ii x13.fOp.fOp, .str x13.fOp.fName, ii x13.fOp.fMany, ii x13.fOp.fMark, ii x13.fOp.fFold, .sl 4 (List.map Q4 x13.fOp.fIdx), ii x13.fOp.fExpr.fOp, .str x13.fOp.fExpr.fName, ii x13.fOp.fExpr.fVal.fN, ii x13.fOp.fExpr.fVal.fD, ii x13.fOp.fExpr.fType.fKind, ii x13.fOp.fExpr.fType.fBits, ii x13.fOp.fExpr.fType.fFrac, ii x13.fOp.fExpr.fType.fRound, ii x13.fOp.fExpr.fType.fOver, ii x13.fOp.fExpr.fLin.fK, .sl 2 (List.map Qf x13.fOp.fExpr.fLin.fL), .sl 4 (List.map Q4 x13.fOp.fExpr.fIdx), .sl 13 (List.map Qm x13.fOp.fExpr.fArgs), .sl 20 (List.map Qq x13.fOp.fBody)], .own 0 1 (List.map eI x13.fAt)] [5, 10, 13] (JU x3 (x5, x10) o))
 (fun Xj Q3z x13 x18 o h x5 x10 =>
 Lp2 (hs := [(74, .n eI 74 none), (75, .split), (82, .e Qe), (86, .z [{ slot := 79, own := 1 }] (some (.n eI 86 (some .a))))]) (kb := [kk 5, { slot := 5, path := [0], own := 22 }, kk 10, { slot := 10, path := [0], own := 22 }, kk 13, { slot := 13, path := [1], own := 1 }]) (kbx := [kk 5, { slot := 5, path := [0], own := 22 }, kk 10, { slot := 10, path := [0], own := 22 }, kk 13, { slot := 13, path := [1], own := 1 }]) ((kN _ (mLen (sh := Qe) x3) fun v0 => (kIfD (p := x18 < v0) (kIx (enc := Qe) (l := x3) (k := x18) fun v1 => (kA (q := (x13.fAt.length + (1 : Nat)) * (8 : Nat) ≤ (140737488355328 : Nat) ∧ x13.fAt.length + (1 : Nat) ≤ (9223372036854775807 : Nat)) (sh := eI) (l := x13.fAt) (kO (sh := eI) (x13.fAt ++ [v1.fVal]) (mA (sh := eI) x13.fAt v1.fVal) (nA x13.fAt v1.fVal) fun v2 => (kM0 (alts := JU x3 (x5, x10)) (fun y hy => Q3z (QT.mk x13.fStmt v2 x13.fOp) (wr (x18 + (1 : Int))) y hy x5 x10)))))
 (kX (alts := JU x3 (x5, x10)) x13 (.here _ rfl (.refl _) (.refl _))))) h)) x13 x18 o h x5 x10
def Vu (s : List Qd) (u : (Q3 × Qc × QT)) (o : ((List Qb) × Q3) ⊕ Q3) : List Alt := [⟨fun (x : ((List Qb) × Q3)) => (Sum.inl x : ((List Qb) × Q3) ⊕ Q3) = o, .exit 0, fun x => [.sl 2 (List.map Qe s), .sl 13 (List.map Qm x.1), .ptr 0 0 0, .ptr 2 0 0, .ptr 4 0 0, .ptr 5 0 0], fun x => [.cells 0 [.ow 1 0 22 (List.length u.1.fL), ii u.1.fCount, ii u.1.fE], .own 0 22 (List.map Ql u.1.fL), .cells 0 [.ow 3 0 22 (List.length x.2.fL), ii x.2.fCount, ii x.2.fE], .own 0 22 (List.map Ql x.2.fL), .cells 0 (Qn u.2.1).cells, .cells 0 [ii u.2.2.fStmt, .ow 6 0 1 (List.length u.2.2.fAt), ii u.2.2.fOp.fOp, .str u.2.2.fOp.fName, ii u.2.2.fOp.fMany, ii u.2.2.fOp.fMark, ii u.2.2.fOp.fFold, .sl 4 (List.map Q4 u.2.2.fOp.fIdx), ii u.2.2.fOp.fExpr.fOp, .str u.2.2.fOp.fExpr.fName, ii u.2.2.fOp.fExpr.fVal.fN, ii u.2.2.fOp.fExpr.fVal.fD, ii u.2.2.fOp.fExpr.fType.fKind, ii u.2.2.fOp.fExpr.fType.fBits, ii u.2.2.fOp.fExpr.fType.fFrac, ii u.2.2.fOp.fExpr.fType.fRound, ii u.2.2.fOp.fExpr.fType.fOver, ii u.2.2.fOp.fExpr.fLin.fK, .sl 2 (List.map Qf u.2.2.fOp.fExpr.fLin.fL), .sl 4 (List.map Q4 u.2.2.fOp.fExpr.fIdx), .sl 13 (List.map Qm u.2.2.fOp.fExpr.fArgs), .sl 20 (List.map Qq u.2.2.fOp.fBody)], .own 0 1 (List.map eI u.2.2.fAt)]⟩, ⟨fun (x : Q3) => (Sum.inr x : ((List Qb) × Q3) ⊕ Q3) = o, .ret, fun x => [.sl 2 (List.map Qe s), .undef, .ptr 0 0 0, .ptr 2 0 0, .ptr 4 0 0, .ptr 5 0 0], fun x => [.cells 0 [.ow 1 0 22 (List.length u.1.fL), ii u.1.fCount, ii u.1.fE], .own 0 22 (List.map Ql u.1.fL), .cells 0 [.ow 3 0 22 (List.length x.fL), ii x.fCount, ii x.fE], .own 0 22 (List.map Ql x.fL), .cells 0 (Qn u.2.1).cells, .cells 0 [ii u.2.2.fStmt, .ow 6 0 1 (List.length u.2.2.fAt), ii u.2.2.fOp.fOp, .str u.2.2.fOp.fName, ii u.2.2.fOp.fMany, ii u.2.2.fOp.fMark, ii u.2.2.fOp.fFold, .sl 4 (List.map Q4 u.2.2.fOp.fIdx), ii u.2.2.fOp.fExpr.fOp, .str u.2.2.fOp.fExpr.fName, ii u.2.2.fOp.fExpr.fVal.fN, ii u.2.2.fOp.fExpr.fVal.fD, ii u.2.2.fOp.fExpr.fType.fKind, ii u.2.2.fOp.fExpr.fType.fBits, ii u.2.2.fOp.fExpr.fType.fFrac, ii u.2.2.fOp.fExpr.fType.fRound, ii u.2.2.fOp.fExpr.fType.fOver, ii u.2.2.fOp.fExpr.fLin.fK, .sl 2 (List.map Qf u.2.2.fOp.fExpr.fLin.fL), .sl 4 (List.map Q4 u.2.2.fOp.fExpr.fIdx), .sl 13 (List.map Qm u.2.2.fOp.fExpr.fArgs), .sl 20 (List.map Qq u.2.2.fOp.fBody)], .own 0 1 (List.map eI u.2.2.fAt)]⟩]
def XW (x3 : List Qd) (x4 : List Qb) (x10 : Q3) (x14 : Int) : Option (((List Qb) × Q3) ⊕ Q3) :=
 if x14 < (↑x4.length : Int) then
 if (0 : Int) ≤ x14 ∧ x14 < (↑x4.length : Int) then
 Option.map Qb.f x4[x14.toNat]? >>= fun v0 =>
 some ((Xc.mk (4 : Int) [] (0 : Int) (0 : Int) (0 : Int) [] v0 [] : Qc)) >>= fun v1 =>
 UB v1 x3 >>= fun v2 =>
 if v2.snd != (0 : Int) then
 some (.inr (Q3.mk [] (0 : Int) v2.snd))
 else
 if (0 : Int) ≤ x14 ∧ x14 < (↑x4.length : Int) then
 if x14.toNat < (List.map Qm x4).length then
 some (List.set x4 x14.toNat (Qb.mk v2.fst.fExpr)) >>= fun v3 =>
 XW x3 v3 x10 (wr (x14 + (1 : Int)))
 else none
 else none
 else none
 else
 some (.inl (x4, x10))
 partial_fixpoint
theorem EK (x3 : List Qd) (x4 : List Qb) (x5 : Q3) (x10 : Q3) (x11 : Qc) (x13 : QT) (x14 : Int) (o : ((List Qb) × Q3) ⊕ Q3) (h : XW x3 x4 x10 x14 = some o) : LO 32 6 100 [3, 4, 5, 10, 11, 13, 14] [.sl 2 (List.map Qe x3), .ow 0 0 13 (List.length x4), .ptr 1 0 0, .ptr 3 0 0, .ptr 5 0 0, .ptr 6 0 0, ii x14] [.own 0 13 (List.map Qm x4), .cells 0 [.ow 2 0 22 (List.length x5.fL), ii x5.fCount, ii x5.fE], .own 0 22 (List.map Ql x5.fL), .cells 0 [.ow 4 0 22 (List.length x10.fL), ii x10.fCount, ii x10.fE], .own 0 22 (List.map Ql x10.fL), .cells 0 (Qn x11).cells, .cells 0 [ii x13.fStmt, .ow 7 0 1 (List.length x13.fAt), ii x13.fOp.fOp, .str x13.fOp.fName, ii x13.fOp.fMany, ii x13.fOp.fMark, ii x13.fOp.fFold, .sl 4 (List.map Q4 x13.fOp.fIdx), ii x13.fOp.fExpr.fOp, .str x13.fOp.fExpr.fName, ii x13.fOp.fExpr.fVal.fN, ii x13.fOp.fExpr.fVal.fD, ii x13.fOp.fExpr.fType.fKind, ii x13.fOp.fExpr.fType.fBits, ii x13.fOp.fExpr.fType.fFrac, ii x13.fOp.fExpr.fType.fRound, ii x13.fOp.fExpr.fType.fOver, ii x13.fOp.fExpr.fLin.fK, .sl 2 (List.map Qf x13.fOp.fExpr.fLin.fL), .sl 4 (List.map Q4 x13.fOp.fExpr.fIdx), .sl 13 (List.map Qm x13.fOp.fExpr.fArgs), .sl 20 (List.map Qq x13.fOp.fBody)], .own 0 1 (List.map eI x13.fAt)] [3, 4, 5, 10, 11, 13] (Vu x3 (x5, x11, x13) o) :=
 XW.partial_correctness x3 x10 (fun x4 x14 o => ∀ (x5 : Q3) (x11 : Qc) (x13 : QT), LO 32 6 100 [3, 4, 5, 10, 11, 13, 14] [.sl 2 (List.map Qe x3), .ow 0 0 13 (List.length x4), .ptr 1 0 0, .ptr 3 0 0, .ptr 5 0 0, .ptr 6 0 0, ii x14] [.own 0 13 (List.map Qm x4), .cells 0 [.ow 2 0 22 (List.length x5.fL), ii x5.fCount, ii x5.fE], .own 0 22 (List.map Ql x5.fL), .cells 0 [.ow 4 0 22 (List.length x10.fL), ii x10.fCount, ii x10.fE], .own 0 22 (List.map Ql x10.fL), .cells 0 (Qn x11).cells, .cells 0 [ii x13.fStmt, .ow 7 0 1 (List.length x13.fAt), ii x13.fOp.fOp, .str x13.fOp.fName, ii x13.fOp.fMany, ii x13.fOp.fMark, ii x13.fOp.fFold, .sl 4 (List.map Q4 x13.fOp.fIdx), ii x13.fOp.fExpr.fOp, .str x13.fOp.fExpr.fName, ii x13.fOp.fExpr.fVal.fN, ii x13.fOp.fExpr.fVal.fD, ii x13.fOp.fExpr.fType.fKind, ii x13.fOp.fExpr.fType.fBits, ii x13.fOp.fExpr.fType.fFrac, ii x13.fOp.fExpr.fType.fRound, ii x13.fOp.fExpr.fType.fOver, ii x13.fOp.fExpr.fLin.fK, .sl 2 (List.map Qf x13.fOp.fExpr.fLin.fL), .sl 4 (List.map Q4 x13.fOp.fExpr.fIdx), .sl 13 (List.map Qm x13.fOp.fExpr.fArgs), .sl 20 (List.map Qq x13.fOp.fBody)], .own 0 1 (List.map eI x13.fAt)] [3, 4, 5, 10, 11, 13] (Vu x3 (x5, x11, x13) o))
 (fun XW Q40 x4 x14 o h x5 x11 x13 =>
 Lp2 (hs := [(34, .split), (40, .s), (41, .e Q8), (42, .n Qn 42 none), (44, .c Di), (48, .split), (55, .s), (1000055, .n Qm 55 (some .s))]) (kb := [{ slot := 4, own := 13 }, kk 5, { slot := 5, path := [0], own := 22 }, kk 10, { slot := 10, path := [0], own := 22 }, kk 11, kk 13, { slot := 13, path := [1], own := 1 }]) (kbx := [{ slot := 4, fz := true }, kk 5, { slot := 5, path := [0], own := 22 }, kk 10, { slot := 10, path := [0], own := 22 }, kk 11, kk 13, { slot := 13, path := [1], own := 1 }]) ((kIfD (p := x14 < (↑x4.length : Int)) (kG (p := (0 : Int) ≤ x14 ∧ x14 < (↑x4.length : Int)) (kOxR (l := x4) (k := x14.toNat) QS fun v0 => (kW (sh := Qn) (Xc.mk (4 : Int) [] (0 : Int) (0 : Int) (0 : Int) [] v0 [] : Qc) (LeV.agg (.cons (LeV.refl (ii (4 : Int))) (.cons (LeV.refl (AV.str [])) (.cons (LeV.refl (ii (0 : Int))) (.cons (LeV.refl (ii (0 : Int))) (.cons (LeV.refl (ii (0 : Int))) (.cons (LeV.nil 4) (.cons (LeV.refl (ii v0.fOp)) (.cons (LeV.refl (AV.str v0.fName)) (.cons (LeV.refl (ii v0.fVal.fN)) (.cons (LeV.refl (ii v0.fVal.fD)) (.cons (LeV.refl (ii v0.fType.fKind)) (.cons (LeV.refl (ii v0.fType.fBits)) (.cons (LeV.refl (ii v0.fType.fFrac)) (.cons (LeV.refl (ii v0.fType.fRound)) (.cons (LeV.refl (ii v0.fType.fOver)) (.cons (LeV.refl (ii v0.fLin.fK)) (.cons (LeV.refl (AV.sl (2 : Nat) (List.map Qf v0.fLin.fL))) (.cons (LeV.refl (AV.sl (4 : Nat) (List.map Q4 v0.fIdx))) (.cons (LeV.refl (AV.sl (13 : Nat) (List.map Qm v0.fArgs))) (.cons (LeV.nil 20) .nil))))))))))))))))))))) fun v1 => (kC (sh := Di) (NR v1 x3) fun v2 => (kIf (c := v2.snd != (0 : Int)) (kT (nM (sh := Qm) x4) (kX (alts := Vu x3 (x5, x11, x13)) (.inr (Q3.mk [] (0 : Int) v2.snd)) (.next (.here _ rfl (.cons (LeV.refl (AV.sl (2 : Nat) (List.map Qe x3))) (.cons (LeV.undef (AV.sl (13 : Nat) (List.map Qm x4))) (.cons (LeV.refl (AV.ptr (0 : Nat) (0 : Nat) (0 : Nat))) (.cons (LeV.refl (AV.ptr (2 : Nat) (0 : Nat) (0 : Nat))) (.cons (LeV.refl (AV.ptr (4 : Nat) (0 : Nat) (0 : Nat))) (.cons (LeV.refl (AV.ptr (5 : Nat) (0 : Nat) (0 : Nat))) .nil)))))) (.refl _)))))
 (kG (p := (0 : Int) ≤ x14 ∧ x14 < (↑x4.length : Int)) (kG (p := x14.toNat < (List.map Qm x4).length) (kBE (sh := Qm) (List.set x4 x14.toNat (Qb.mk v2.fst.fExpr)) (mSR N5 x4 x14.toNat v2.fst.fExpr) fun v3 ev3 => (kM (alts := Vu x3 (x5, x11, x13)) (.cons (LeV.refl (AV.sl (2 : Nat) (List.map Qe x3))) (.cons (LeV.owl (by simp [ev3] : x4.length = List.length v3)) (.cons (LeV.refl (AV.ptr (1 : Nat) (0 : Nat) (0 : Nat))) (.cons (LeV.refl (AV.ptr (3 : Nat) (0 : Nat) (0 : Nat))) (.cons (LeV.refl (AV.ptr (5 : Nat) (0 : Nat) (0 : Nat))) (.cons (LeV.refl (AV.ptr (6 : Nat) (0 : Nat) (0 : Nat))) (.cons (LeV.refl (ii (wr (x14 + (1 : Int))))) .nil))))))) (.refl _) (fun y hy => Q40 v3 (wr (x14 + (1 : Int))) y hy x5 x11 x13))))))))))
 (kT (nM (sh := Qm) x4) (kX (alts := Vu x3 (x5, x11, x13)) (.inl (x4, x10)) (.here _ rfl (.refl _) (.refl _))))) h)) x4 x14 o h x5 x11 x13
def V8 (r : Q3) : AV := .agg [.ow 0 0 22 (List.length r.fL), ii r.fCount, ii r.fE]
def GL (r : Q3) : List Box := [.own 0 22 (List.map Ql r.fL)]
def Nb (r : Q3) : List Box := [.own 0 22 (List.map Ql r.fL), .own 0 13 []]
def CH (x0 : Q3) (x1 : Qc) (x2 : Int) (x3 : List Qd) (x4 : List Qb) : Option Q3 :=
 UB x1 x3 >>= fun v0 =>
 if v0.snd != (0 : Int) then
 some (Q3.mk [] (0 : Int) v0.snd)
 else
 some (x0, v0.fst, (QT.mk x2 [] (Xc.mk (0 : Int) [] (0 : Int) (0 : Int) (0 : Int) [] (QO.mk (0 : Int) [] (gVal.mk (0 : Int) (0 : Int)) (Qi.mk (0 : Int) (0 : Int) (0 : Int) (0 : Int) (0 : Int)) (gLin.mk (0 : Int) []) [] [] : Q2) [] : Qc))) >>= fun v1 =>
 XW x3 x4 (Q3.mk [] (0 : Int) (0 : Int)) (0 : Int) >>= fun v2 => (match v2 with
 | (.inl v3) =>
 some (List.length v3.fst : Int) >>= fun v4 =>
 some (v3.fst, v1.fst, v3.snd, v1.snd.snd) >>= fun v5 =>
 Y8 v3.fst v1.snd.fst (wr (v4 - (1 : Int))) >>= fun v7 =>
 some (v5.snd.fst, v5.snd.snd.fst) >>= fun v8 =>
 Xj x3 (QT.mk v5.snd.snd.snd.fStmt v5.snd.snd.snd.fAt v7) (0 : Int) >>= fun v10 =>
 some ((↑v8.fst.fL.length : Int) : Int) >>= fun v11 =>
 if (2048 : Int) ≤ v11 then
 some (Q3.mk [] (0 : Int) (2 : Int))
 else
 if (v8.fst.fL.length + (1 : Nat)) * (288 : Nat) ≤ (140737488355328 : Nat) ∧ v8.fst.fL.length + (1 : Nat) ≤ (9223372036854775807 : Nat) then
 some (v8.fst.fL ++ [v10]) >>= fun v12 =>
 some (Q3.mk v12 v8.fst.fCount v8.fst.fE)
 else none
 | (.inr v13) =>
 some v13)
theorem A6 (x0 : Q3) (x1 : Qc) (x2 : Int) (x3 : List Qd) (x4 : List Qb) (r : Q3) (h : CH x0 x1 x2 x3 x4 = some r) : PH 32 [.agg [.ow 0 0 22 (List.length x0.fL), ii x0.fCount, ii x0.fE], Qn x1, eI x2, QP x3, .ow 1 0 13 (List.length x4)] [.own 0 22 (List.map Ql x0.fL), .own 0 13 (List.map Qm x4)] (V8 r) (Nb r) :=
 ((show PH 32 [.agg [.ow 0 0 22 (List.length x0.fL), ii x0.fCount, ii x0.fE], Qn x1, eI x2, QP x3, .ow 1 0 13 (List.length x4)] [.own 0 22 (List.map Ql x0.fL), .own 0 13 (List.map Qm x4)] (V8 r) (GL r) from PuH2 (hs := [(22, .c Di), (26, .split), (57, .n eI 57 none), (90, .n eI 90 none), (91, .split), (96, .z [{ slot := 95, path := [1], fz := true }] none), (97, .z [{ slot := 94, own := 22 }] (some (.n Ql 97 (some .a)))), (3000019, .l [] [3, 5, 10, 13, 18] [kk 5, { slot := 5, path := [0], own := 22 }, kk 10, { slot := 10, path := [0], own := 22 }, kk 13, { slot := 13, path := [1], own := 1 }] [5, 10, 13] [kk 5, { slot := 5, path := [0], own := 22 }, kk 10, { slot := 10, path := [0], own := 22 }, kk 13, { slot := 13, path := [1], own := 1 }] (JU x3)), (3000014, .l [] [3, 4, 5, 10, 11, 13, 17] [{ slot := 4, fz := true }, kk 5, { slot := 5, path := [0], own := 22 }, kk 10, { slot := 10, path := [0], own := 22 }, kk 11, kk 13, { slot := 13, path := [1], own := 1 }] [3, 5, 10, 11, 13] [kk 5, { slot := 5, path := [0], own := 22 }, kk 10, { slot := 10, path := [0], own := 22 }, kk 11, kk 13, { slot := 13, path := [1], own := 1 }] (JS x3)), (3000007, .l [] [3, 4, 5, 10, 11, 13, 14] [{ slot := 4, own := 13 }, kk 5, { slot := 5, path := [0], own := 22 }, kk 10, { slot := 10, path := [0], own := 22 }, kk 11, kk 13, { slot := 13, path := [1], own := 1 }] [3, 4, 5, 10, 11, 13] [{ slot := 4, fz := true }, kk 5, { slot := 5, path := [0], own := 22 }, kk 10, { slot := 10, path := [0], own := 22 }, kk 11, kk 13, { slot := 13, path := [1], own := 1 }] (Vu x3))]) (kb := [{ slot := 0, path := [0], own := 22 }]) ((kC (sh := Di) (NR x1 x3) fun v0 => (kIf (c := v0.snd != (0 : Int)) (kEH (enc := V8) (bt := GL) (Q3.mk [] (0 : Int) v0.snd) ⟨.refl _, .refl _⟩)
 (kL2 (x0, v0.fst, (QT.mk x2 [] (Xc.mk (0 : Int) [] (0 : Int) (0 : Int) (0 : Int) [] (QO.mk (0 : Int) [] (gVal.mk (0 : Int) (0 : Int)) (Qi.mk (0 : Int) (0 : Int) (0 : Int) (0 : Int) (0 : Int)) (gLin.mk (0 : Int) []) [] [] : Q2) [] : Qc))) (hL := (fun y hy => ZC.le (.cons (LeV.refl (AV.sl (2 : Nat) (List.map Qe x3))) (.cons (LeV.refl (AV.ow (0 : Nat) (0 : Nat) (13 : Nat) x4.length)) (.cons (LeV.refl (AV.ptr (1 : Nat) (0 : Nat) (0 : Nat))) (.cons (LeV.refl (AV.ptr (3 : Nat) (0 : Nat) (0 : Nat))) (.cons (LeV.refl (AV.ptr (5 : Nat) (0 : Nat) (0 : Nat))) (.cons (LeV.refl (AV.ptr (6 : Nat) (0 : Nat) (0 : Nat))) (.cons (LeV.refl (ii (0 : Int))) .nil))))))) (.cons (LeB.refl (Box.own (0 : Nat) (13 : Nat) (List.map Qm x4))) (.cons (LeB.refl (Box.cells (0 : Nat) [AV.ow (2 : Nat) (0 : Nat) (22 : Nat) x0.fL.length, ii x0.fCount, ii x0.fE])) (.cons (LeB.refl (Box.own (0 : Nat) (22 : Nat) (List.map Ql x0.fL))) (.cons (LeB.refl (Box.cells (0 : Nat) [AV.ow (4 : Nat) (0 : Nat) (22 : Nat) (0 : Nat), ii (0 : Int), ii (0 : Int)])) (.cons (LeB.refl (Box.own (0 : Nat) (22 : Nat) [])) (.cons (LeB.refl (Box.cells (0 : Nat) [ii v0.fst.fOp, AV.str v0.fst.fName, ii v0.fst.fMany, ii v0.fst.fMark, ii v0.fst.fFold, AV.sl (4 : Nat) (List.map Q4 v0.fst.fIdx), ii v0.fst.fExpr.fOp, AV.str v0.fst.fExpr.fName, ii v0.fst.fExpr.fVal.fN, ii v0.fst.fExpr.fVal.fD, ii v0.fst.fExpr.fType.fKind, ii v0.fst.fExpr.fType.fBits, ii v0.fst.fExpr.fType.fFrac, ii v0.fst.fExpr.fType.fRound, ii v0.fst.fExpr.fType.fOver, ii v0.fst.fExpr.fLin.fK, AV.sl (2 : Nat) (List.map Qf v0.fst.fExpr.fLin.fL), AV.sl (4 : Nat) (List.map Q4 v0.fst.fExpr.fIdx), AV.sl (13 : Nat) (List.map Qm v0.fst.fExpr.fArgs), AV.sl (20 : Nat) (List.map Qq v0.fst.fBody)])) (.cons (LeB.cells (0 : Nat) (.cons (LeV.refl (ii x2)) (.cons (LeV.refl (AV.ow (7 : Nat) (0 : Nat) (1 : Nat) (0 : Nat))) (.cons (LeV.refl (ii (0 : Int))) (.cons (LeV.refl (AV.str [])) (.cons (LeV.refl (ii (0 : Int))) (.cons (LeV.refl (ii (0 : Int))) (.cons (LeV.refl (ii (0 : Int))) (.cons (LeV.nil 4) (.cons (LeV.refl (ii (0 : Int))) (.cons (LeV.refl (AV.str [])) (.cons (LeV.refl (ii (0 : Int))) (.cons (LeV.refl (ii (0 : Int))) (.cons (LeV.refl (ii (0 : Int))) (.cons (LeV.refl (ii (0 : Int))) (.cons (LeV.refl (ii (0 : Int))) (.cons (LeV.refl (ii (0 : Int))) (.cons (LeV.refl (ii (0 : Int))) (.cons (LeV.refl (ii (0 : Int))) (.cons (LeV.nil 2) (.cons (LeV.nil 4) (.cons (LeV.nil 13) (.cons (LeV.nil 20) .nil))))))))))))))))))))))) (.cons (LeB.refl (Box.own (0 : Nat) (1 : Nat) [])) .nil)))))))) (EK x3 x4 x0 (Q3.mk [] (0 : Int) (0 : Int)) v0.fst (QT.mk x2 [] (Xc.mk (0 : Int) [] (0 : Int) (0 : Int) (0 : Int) [] (QO.mk (0 : Int) [] (gVal.mk (0 : Int) (0 : Int)) (Qi.mk (0 : Int) (0 : Int) (0 : Int) (0 : Int) (0 : Int)) (gLin.mk (0 : Int) []) [] [] : Q2) [] : Qc)) (0 : Int) y hy))) (hA := fun v1 v3 => (kN _ (mLen (sh := Qm) v3.fst) fun v4 => (kL1 (v3.fst, v1.fst, v3.snd, v1.snd.snd) (HM x3 v3.fst v1.fst v3.snd v1.snd.fst v1.snd.snd (wr (v4 - (1 : Int)))) fun v5 v7 => (kL1 (v5.snd.fst, v5.snd.snd.fst) (HN x3 v5.snd.fst v5.snd.snd.fst (QT.mk v5.snd.snd.snd.fStmt v5.snd.snd.snd.fAt v7) (0 : Int)) fun v8 v10 => (kN (↑v8.fst.fL.length : Int) rfl fun v11 => (kIfD (p := (2048 : Int) ≤ v11) (kEH (enc := V8) (bt := GL) (Q3.mk [] (0 : Int) (2 : Int)) ⟨.refl _, .refl _⟩)
 (kT (nM (sh := eI) v10.fAt) (kA (q := (v8.fst.fL.length + (1 : Nat)) * (288 : Nat) ≤ (140737488355328 : Nat) ∧ v8.fst.fL.length + (1 : Nat) ≤ (9223372036854775807 : Nat)) (sh := Ql) (l := v8.fst.fL) (kO (sh := Ql) (v8.fst.fL ++ [v10]) (mA (sh := Ql) v8.fst.fL v10) (nA v8.fst.fL v10) fun v12 => (kEH (enc := V8) (bt := GL) (Q3.mk v12 v8.fst.fCount v8.fst.fE) ⟨.refl _, .refl _⟩))))))))))
 (hB := fun v1 v13 => (kEH (enc := V8) (bt := GL) v13 ⟨.refl _, .refl _⟩))))) h))).pad 13 (by decide)
def XF (r : List (List Int)) : AV := .ow 0 0 1 (List.length r)
def XD (r : List (List Int)) : List Box := [.own 0 1 (List.map eLI r)]
def Kn (s : ((List Q9) × (List Int))) (u : Unit) (o : List (List Int)) : List Alt := [⟨fun (x : List (List Int)) => x = o, .exit 0, fun x => [.ow 0 0 1 (List.length x)], fun x => [.own 0 1 (List.map eLI x)]⟩]
def YJ (s : ((List Q9) × (List Int))) (u : ((List (List Int)) × Int × (List Int))) (o : Bool) : List Alt := jb o (fun b => [.ow 0 0 1 (List.length (u.1)), .sl 20 (List.map Qq (s.1)), .sl 1 (List.map eI (s.2)), ii (u.2.1), .sl 1 (List.map eI (u.2.2)), .bool b]) [.own 0 1 (List.map eLI (u.1))]
def J0 (s : ((List Q9) × (List Int))) (u : (Int × (List Int))) (o : List (List Int)) : List Alt := [⟨fun (x : List (List Int)) => x = o, .normal, fun x => [.ow 0 0 1 (List.length x), .sl 20 (List.map Qq (s.1)), .sl 1 (List.map eI (s.2)), ii (u.1), .sl 1 (List.map eI (u.2))], fun x => [.own 0 1 (List.map eLI x)]⟩]
def GZ (s : ((List Q9) × (List Int))) (u : Int) (o : List (List Int)) : List Alt := [⟨fun (x : List (List Int)) => x = o, .normal, fun x => [.ow 0 0 1 (List.length x), .sl 20 (List.map Qq (s.1)), .sl 1 (List.map eI (s.2)), ii u], fun x => [.own 0 1 (List.map eLI x)]⟩]
mutual
def ZW (x0 : List (List Int)) (x1 : List Q9) (x2 : List Int) : Option (List (List Int)) :=
 some () >>= fun v0 =>
 Z9 x0 x1 x2 (0 : Int) >>= fun v2 =>
 some v2
 partial_fixpoint
def Z9 (x0 : List (List Int)) (x1 : List Q9) (x2 : List Int) (x7 : Int) : Option (List (List Int)) :=
 some (List.length x1 : Int) >>= fun v0 =>
 if x7 < v0 then
 some x7 >>= fun v1 =>
 (if (0 : Nat) = (0 : Nat) ∧ ((0 : Nat) + (List.map eI x2).length) * (8 : Nat) ≤ (140737488355328 : Nat) ∧ (0 : Nat) + (List.map eI x2).length ≤ (9223372036854775807 : Nat) then
 some ([] ++ x2) >>= fun v3 =>
 if (v3.length + (1 : Nat)) * (8 : Nat) ≤ (140737488355328 : Nat) ∧ v3.length + (1 : Nat) ≤ (9223372036854775807 : Nat) then
 some (v3 ++ [x7]) >>= fun v4 =>
 some (x7, v4) >>= fun v5 =>
 (some (x0, x7, v4) >>= fun v7 =>
 (Option.map Q9.f (ix x1 x7) >>= fun v9 =>
 if v9.fOp == (2 : Int) then
 some true
 else
 Option.map Q9.f (ix x1 x7) >>= fun v10 =>
 if v10.fOp == (3 : Int) then
 some true
 else
 some false) >>= fun v8 => if v8 then
 if (v7.fst.length + (1 : Nat)) * (24 : Nat) ≤ (140737488355328 : Nat) ∧ v7.fst.length + (1 : Nat) ≤ (9223372036854775807 : Nat) then
 some (v7.fst ++ [v7.snd.snd]) >>= fun v12 =>
 some v12
 else none
 else
 some v7.fst) >>= fun v14 =>
 Option.map Q9.f (ix x1 v5.fst) >>= fun v15 =>
 ZW v14 v15.fBody v5.snd >>= fun v16 =>
 some v16
 else none
 else none) >>= fun v17 =>
 Z9 v17 x1 x2 (wr (v1 + (1 : Int)))
 else
 some x0
 partial_fixpoint
end
theorem LW  : (∀ (x0 : List (List Int)) (x1 : List Q9) (x2 : List Int) (r : List (List Int)), ZW x0 x1 x2 = some r → PH 54 [.ow 0 0 1 (List.length x0), Zf x1, eLI x2] [.own 0 1 (List.map eLI x0)] (XF r) (XD r)) ∧ (∀ (x0 : List (List Int)) (x1 : List Q9) (x2 : List Int) (x7 : Int) (o : List (List Int)), Z9 x0 x1 x2 x7 = some o → LO 54 2 49 [0, 1, 2, 7] [.ow 0 0 1 (List.length x0), .sl 20 (List.map Qq x1), .sl 1 (List.map eI x2), ii x7] [.own 0 1 (List.map eLI x0)] [0] (Kn (x1, x2) () o)) :=
 ZW.mutual_partial_correctness  (fun x0 x1 x2 r => PH 54 [.ow 0 0 1 (List.length x0), Zf x1, eLI x2] [.own 0 1 (List.map eLI x0)] (XF r) (XD r)) (fun x0 x1 x2 x7 o => LO 54 2 49 [0, 1, 2, 7] [.ow 0 0 1 (List.length x0), .sl 20 (List.map Qq x1), .sl 1 (List.map eI x2), ii x7] [.own 0 1 (List.map eLI x0)] [0] (Kn (x1, x2) () o))
 (fun Z9 Q3x x0 x1 x2 r h  =>
 PuH2 (hs := [(3000003, .l [] [0, 1, 2, 7] [{ slot := 0, own := 1 }] [0] [{ slot := 0, own := 1 }] (Kn (x1, x2)))]) (kb := [{ slot := 0, path := [], own := 1 }]) ((kL1 () (Q3x x0 x1 x2 (0 : Int)) fun v0 v2 => (kEH (enc := XF) (bt := XD) v2 ⟨.refl _, .refl _⟩)) h))
 (fun ZW Z9 Q3w Q3x x0 x1 x2 x7 o h  =>
 Lp2 (hs := [(11, .n eI 11 none), (12, .split), (17, .z [{ slot := 15, own := 1 }] (some (.n eI 17 (some .a)))), (21, .z [{ slot := 18, own := 1 }] (some (.n eI 21 (some .a)))), (8, .z [{ slot := 21, fz := true }] none), (24, .e Qn), (27, .split), (31, .e Qn), (34, .split), (39, .z [{ slot := 36, own := 1 }] (some (.n eLI 39 (some .a)))), (43, .e Qn), (47, .h [{ slot := 0, own := 1 }] XF XD), (5000007, .l [] [] [] [0, 1, 2, 7, 8, 35] [{ slot := 0, own := 1 }, { slot := 8, fz := true }] (YJ (x1, x2))), (6000009, .l [] [] [] [0, 1, 2, 7, 8] [{ slot := 0, own := 1 }, { slot := 8, fz := true }] (J0 (x1, x2))), (7000001, .l [] [] [] [0, 1, 2, 7] [{ slot := 0, own := 1 }] (GZ (x1, x2)))]) (kb := [{ slot := 0, own := 1 }]) (kbx := [{ slot := 0, own := 1 }]) ((kN _ (mLen (sh := Qq) x1) fun v0 => (kIfD (p := x7 < v0) (kJ1 (id := 7000001) x7 (fun v1 ev1 v2 => (kG (p := (0 : Nat) = (0 : Nat) ∧ ((0 : Nat) + (List.map eI x2).length) * (8 : Nat) ≤ (140737488355328 : Nat) ∧ (0 : Nat) + (List.map eI x2).length ≤ (9223372036854775807 : Nat)) (kO (sh := eI) ([] ++ x2) (mAA (sh := eI) [] x2) (nAA (sh := eI) [] x2) fun v3 => (kA (q := (v3.length + (1 : Nat)) * (8 : Nat) ≤ (140737488355328 : Nat) ∧ v3.length + (1 : Nat) ≤ (9223372036854775807 : Nat)) (sh := eI) (l := v3) (kO (sh := eI) (v3 ++ [x7]) (mA (sh := eI) v3 x7) (nA v3 x7) fun v4 => (kT (nM (sh := eI) v4) (kJ1E (id := 6000009) (x7, v4) (fun v5 ev5 v6 => (kJbE (id := 5000007) (x0, x7, v4) (fun v7 ev7 v8 => (kIxR (l := x1) (k := x7) QW fun v9 => (kIf (c := v9.fOp == (2 : Int)) (kXj (alts := YJ (x1, x2)) ev7 true (.here () rfl (.refl _) (.refl _)))
 (kIxR (l := x1) (k := x7) QW fun v10 => (kIf (c := v10.fOp == (3 : Int)) (kXj (alts := YJ (x1, x2)) ev7 true (.here () rfl (.refl _) (.refl _)))
 (kXj (alts := YJ (x1, x2)) ev7 false (.next (.here () rfl (.refl _) (.refl _)))))))))
 (fun v7 ev7 => (kA (q := (v7.fst.length + (1 : Nat)) * (24 : Nat) ≤ (140737488355328 : Nat) ∧ v7.fst.length + (1 : Nat) ≤ (9223372036854775807 : Nat)) (sh := eLI) (l := v7.fst) (kO (sh := eLI) (v7.fst ++ [v7.snd.snd]) (mA (sh := eLI) v7.fst v7.snd.snd) (nA v7.fst v7.snd.snd) fun v12 => (kXj (alts := J0 (x1, x2)) (u0 := (v7.snd.fst, v7.snd.snd)) (by subst ev7; exact ev5) v12 (.here _ rfl (.refl _) (.refl _))))))
 (fun v7 ev7 => (kXj (alts := J0 (x1, x2)) (u0 := (v7.snd.fst, v7.snd.snd)) (by subst ev7; exact ev5) v7.fst (.here _ rfl (.refl _) (.refl _))))))
 (fun v5 ev5 v14 => (kIxR (l := x1) (k := v5.fst) QW fun v15 => (kH (sh := XF) (bt := XD) (Q3w v14 v15.fBody v5.snd) fun v16 => (kXj (alts := GZ (x1, x2)) (u0 := v5.fst) (by subst ev5; exact ev1) v16 (.here _ rfl (.refl _) (.refl _)))))))))))))
 (fun v1 v17 => (kM0 (alts := Kn (x1, x2) ()) (Q3x v17 x1 x2 (wr (v1 + (1 : Int)))))))
 (kX (alts := Kn (x1, x2) ()) x0 (.here _ rfl (.refl _) (.refl _))))) h))
theorem In (x0 : List (List Int)) (x1 : List Q9) (x2 : List Int) (r : List (List Int)) (h : ZW x0 x1 x2 = some r) : PH 54 [.ow 0 0 1 (List.length x0), Zf x1, eLI x2] [.own 0 1 (List.map eLI x0)] (XF r) (XD r) := (LW ).1 x0 x1 x2 r h
def Vx (x0 : List Q9) : Option Int :=
 ZW [] x0 [] >>= fun v0 =>
 some (↑v0.length : Int)
theorem Wv (x0 : List Q9) (r : Int) (h : Vx x0 = some r) : PU 33 [Zf x0] (eI r) :=
 Pu2 (hs := [(4, .h [{ slot := 0, own := 1 }] XF XD)]) ((kH (sh := XF) (bt := XD) (fun y hy => PuH.le (In [] x0 [] y hy) (.cons (LeV.refl (AV.ow (0 : Nat) (0 : Nat) (1 : Nat) (0 : Nat))) (.cons (LeV.refl (AV.sl (20 : Nat) (List.map Qq x0))) (.cons (LeV.nil 1) .nil))) (.refl _) (.refl _) (.refl _)) fun v0 => (kEr (enc := eI) (↑v0.length : Int))) h)
def Xt (r : Q3) : AV := .agg [.ow 0 0 22 (List.length r.fL), ii r.fCount, ii r.fE]
def Xr (r : Q3) : List Box := [.own 0 22 (List.map Ql r.fL)]
def Yz (r : Q3) : AV := .agg [.ow 0 0 22 (List.length r.fL), ii r.fCount, ii r.fE]
def Yv (r : Q3) : List Box := [.own 0 22 (List.map Ql r.fL)]
def YK (s : ((List Q9) × (List Qd) × (List Qb))) (u : Unit) (o : (Q3 × Q3) ⊕ (Q3 × Q3)) : List Alt := [⟨fun (x : (Q3 × Q3)) => (Sum.inl x : (Q3 × Q3) ⊕ (Q3 × Q3)) = o, .exit 0, fun x => [.ptr 0 0 0, .ptr 2 0 0], fun x => [.cells 0 [.ow 1 0 22 (List.length x.1.fL), ii x.1.fCount, ii x.1.fE], .own 0 22 (List.map Ql x.1.fL), .cells 0 [.ow 3 0 22 (List.length x.2.fL), ii x.2.fCount, ii x.2.fE], .own 0 22 (List.map Ql x.2.fL)]⟩, ⟨fun (x : (Q3 × Q3)) => (Sum.inr x : (Q3 × Q3) ⊕ (Q3 × Q3)) = o, .ret, fun x => [.ptr 0 0 0, .ptr 2 0 0], fun x => [.cells 0 [.ow 1 0 22 (List.length x.1.fL), ii x.1.fCount, ii x.1.fE], .own 0 22 (List.map Ql x.1.fL), .cells 0 [.ow 3 0 22 (List.length x.2.fL), ii x.2.fCount, ii x.2.fE], .own 0 22 (List.map Ql x.2.fL)]⟩]
def Vv (s : ((List Q9) × (List Qd) × (List Qb))) (u : (Int × Int × Qc)) (o : (Q3 × Q3) ⊕ (Q3 × Q3)) : List Alt := [⟨fun (x : (Q3 × Q3)) => (Sum.inl x : (Q3 × Q3) ⊕ (Q3 × Q3)) = o, .exit 3, fun x => [.sl 20 (List.map Qq s.1), ii u.1, .sl 2 (List.map Qe s.2.1), .sl 13 (List.map Qm s.2.2), .ptr 0 0 0, .ptr 2 0 0, ii u.2.1], fun x => [.cells 0 [.ow 1 0 22 (List.length x.1.fL), ii x.1.fCount, ii x.1.fE], .own 0 22 (List.map Ql x.1.fL), .cells 0 [.ow 3 0 22 (List.length x.2.fL), ii x.2.fCount, ii x.2.fE], .own 0 22 (List.map Ql x.2.fL)]⟩, ⟨fun (x : (Q3 × Q3)) => (Sum.inr x : (Q3 × Q3) ⊕ (Q3 × Q3)) = o, .ret, fun x => [.sl 20 (List.map Qq s.1), ii u.1, .sl 2 (List.map Qe s.2.1), .sl 13 (List.map Qm s.2.2), .ptr 0 0 0, .ptr 2 0 0, ii u.2.1], fun x => [.cells 0 [.ow 1 0 22 (List.length x.1.fL), ii x.1.fCount, ii x.1.fE], .own 0 22 (List.map Ql x.1.fL), .cells 0 [.ow 3 0 22 (List.length x.2.fL), ii x.2.fCount, ii x.2.fE], .own 0 22 (List.map Ql x.2.fL)]⟩]
def Jt (s : ((List Q9) × (List Qd) × (List Qb))) (u : (Int × Q3 × Q3 × Int)) (o : Bool) : List Alt := jb o (fun b => [.sl 20 (List.map Qq (s.1)), ii (u.1), .sl 2 (List.map Qe (s.2.1)), .sl 13 (List.map Qm (s.2.2)), .ptr 0 0 0, .ptr 2 0 0, ii (u.2.2.2), .bool b]) [.cells 0 [.ow 1 0 22 (List.length ((u.2.1).fL)), ii (u.2.1).fCount, ii (u.2.1).fE], .own 0 22 (List.map Ql (u.2.1).fL), .cells 0 [.ow 3 0 22 (List.length ((u.2.2.1).fL)), ii (u.2.2.1).fCount, ii (u.2.2.1).fE], .own 0 22 (List.map Ql (u.2.2.1).fL)]
def Ju (s : ((List Q9) × Int × (List Qd) × (List Qb) × Int × Qc)) (u : (Q3 × Q3 × Int)) (o : Bool) : List Alt := jb o (fun b => [.sl 20 (List.map Qq (s.1)), ii (s.2.1), .sl 2 (List.map Qe (s.2.2.1)), .sl 13 (List.map Qm (s.2.2.2.1)), .ptr 0 0 0, .ptr 2 0 0, ii (s.2.2.2.2.1), .ptr 4 0 0, ii (u.2.2), .bool b]) [.cells 0 [.ow 1 0 22 (List.length ((u.1).fL)), ii (u.1).fCount, ii (u.1).fE], .own 0 22 (List.map Ql (u.1).fL), .cells 0 [.ow 3 0 22 (List.length ((u.2.1).fL)), ii (u.2.1).fCount, ii (u.2.1).fE], .own 0 22 (List.map Ql (u.2.1).fL), .cells 0 (Qn (s.2.2.2.2.2)).cells]
def XI (s : Unit) (u : (Q3 × Q3)) (o : Bool) : List Alt := jb o (fun b => [.ptr 0 0 0, .ptr 2 0 0, .bool b]) [.cells 0 [.ow 1 0 22 (List.length ((u.1).fL)), ii (u.1).fCount, ii (u.1).fE], .own 0 22 (List.map Ql (u.1).fL), .cells 0 [.ow 3 0 22 (List.length ((u.2).fL)), ii (u.2).fCount, ii (u.2).fE], .own 0 22 (List.map Ql (u.2).fL)]
mutual
def XY (x0 : Q3) (x1 : List Q9) (x2 : Int) (x3 : List Qd) (x4 : List Qb) : Option Q3 :=
 some () >>= fun v0 =>
 Zm x1 x2 x3 x4 x0 (Q3.mk [] (0 : Int) (0 : Int)) (0 : Int) >>= fun v1 => (match v1 with
 | (.inl v2) =>
 some v2.fst
 | (.inr v3) =>
 some v3.snd)
 partial_fixpoint
def Zm (x1 : List Q9) (x2 : Int) (x3 : List Qd) (x4 : List Qb) (x5 : Q3) (x10 : Q3) (x11 : Int) : Option ((Q3 × Q3) ⊕ (Q3 × Q3)) :=
 some (x2, x5, x10, x11) >>= fun v0 =>
 (some (List.length x1 : Int) >>= fun v2 =>
 if x11 < v2 then
 if x5.fE == (0 : Int) then
 some true
 else
 some false
 else
 some false) >>= fun v1 => if v1 then
 Option.map Q9.f (ix x1 v0.snd.snd.snd) >>= fun v4 =>
 if v4.fOp == (1 : Int) then
 some (v0.fst, v0.snd.snd.snd, v4) >>= fun v5 =>
 X7 v0.fst x3 x4 v0.snd.fst v0.snd.snd.fst v4 (0 : Int) >>= fun v6 => (match v6 with
 | (.inl v7) =>
 if (0 : Int) ≤ v5.snd.fst ∧ v5.snd.fst ≤ wr (v5.snd.fst + (1 : Int)) ∧ wr (v5.snd.fst + (1 : Int)) ≤ (↑(List.map Qq x1).length : Int) then
 some ((List.drop v5.snd.fst.toNat (List.take ((wr (v5.snd.fst + (1 : Int))).toNat) x1)) : List Q9) >>= fun v8 =>
 Vx v8 >>= fun v9 =>
 some (wr (v5.fst + v9) : Int) >>= fun v10 =>
 Zm x1 v10 x3 x4 v7.fst v7.snd (wr (v5.snd.fst + (1 : Int)))
 else none
 | (.inr v11) =>
 some (.inr (v11.fst, v11.snd)))
 else
 if v4.fOp == (4 : Int) then
 GP v0.snd.fst v4 v0.fst x3 x4 >>= fun v12 =>
 if (0 : Int) ≤ v0.snd.snd.snd ∧ v0.snd.snd.snd ≤ wr (v0.snd.snd.snd + (1 : Int)) ∧ wr (v0.snd.snd.snd + (1 : Int)) ≤ (↑(List.map Qq x1).length : Int) then
 some ((List.drop v0.snd.snd.snd.toNat (List.take ((wr (v0.snd.snd.snd + (1 : Int))).toNat) x1)) : List Q9) >>= fun v13 =>
 Vx v13 >>= fun v14 =>
 some (wr (v0.fst + v14) : Int) >>= fun v15 =>
 Zm x1 v15 x3 x4 v12 v0.snd.snd.fst (wr (v0.snd.snd.snd + (1 : Int)))
 else none
 else
 if (0 : Nat) = (0 : Nat) ∧ ((0 : Nat) + (List.map Qm x4).length) * (160 : Nat) ≤ (140737488355328 : Nat) ∧ (0 : Nat) + (List.map Qm x4).length ≤ (9223372036854775807 : Nat) then
 CH v0.snd.fst v4 v0.fst x3 ([] ++ x4) >>= fun v16 =>
 if (0 : Int) ≤ v0.snd.snd.snd ∧ v0.snd.snd.snd ≤ wr (v0.snd.snd.snd + (1 : Int)) ∧ wr (v0.snd.snd.snd + (1 : Int)) ≤ (↑(List.map Qq x1).length : Int) then
 some ((List.drop v0.snd.snd.snd.toNat (List.take ((wr (v0.snd.snd.snd + (1 : Int))).toNat) x1)) : List Q9) >>= fun v17 =>
 Vx v17 >>= fun v18 =>
 some (wr (v0.fst + v18) : Int) >>= fun v19 =>
 Zm x1 v19 x3 x4 v16 v0.snd.snd.fst (wr (v0.snd.snd.snd + (1 : Int)))
 else none
 else none
 else
 some (.inl (v0.snd.fst, v0.snd.snd.fst))
 partial_fixpoint
def GP (x0 : Q3) (x1 : Qc) (x2 : Int) (x3 : List Qd) (x4 : List Qb) : Option Q3 :=
 Ks x1.fExpr >>= fun v0 => if v0 then
 Gu [] x3 x1.fExpr >>= fun v1 =>
 if v1.snd != (0 : Int) then
 some (Q3.mk [] (0 : Int) v1.snd)
 else
 if v1.fst then
 XY x0 x1.fBody x2 x3 x4 >>= fun v2 =>
 some v2
 else
 some x0
 else
 if (0 : Nat) = (0 : Nat) ∧ ((0 : Nat) + (List.map Qm x4).length) * (160 : Nat) ≤ (140737488355328 : Nat) ∧ (0 : Nat) + (List.map Qm x4).length ≤ (9223372036854775807 : Nat) then
 some ([] ++ x4) >>= fun v3 =>
 some ((↑x0.fL.length : Int) : Int) >>= fun v4 =>
 if (v3.length + (1 : Nat)) * (160 : Nat) ≤ (140737488355328 : Nat) ∧ v3.length + (1 : Nat) ≤ (9223372036854775807 : Nat) then
 if v3.length + (1 : Nat) = (List.map Qm v3 ++ [AV.agg [ii x1.fExpr.fOp, AV.str x1.fExpr.fName, ii x1.fExpr.fVal.fN, ii x1.fExpr.fVal.fD, ii x1.fExpr.fType.fKind, ii x1.fExpr.fType.fBits, ii x1.fExpr.fType.fFrac, ii x1.fExpr.fType.fRound, ii x1.fExpr.fType.fOver, ii x1.fExpr.fLin.fK, AV.sl (2 : Nat) (List.map Qf x1.fExpr.fLin.fL), AV.sl (4 : Nat) (List.map Q4 x1.fExpr.fIdx), AV.sl (13 : Nat) (List.map Qm x1.fExpr.fArgs)]]).length then
 XY x0 x1.fBody x2 x3 (v3 ++ [(Qb.mk x1.fExpr)]) >>= fun v5 =>
 some (v5, (Q3.mk [] (0 : Int) (0 : Int))) >>= fun v6 =>
 (if v5.fE == (0 : Int) then
 if (↑v5.fL.length : Int) == v4 then
 some ((↑v5.fL.length : Int) : Int) >>= fun v8 =>
 some true
 else
 if (1 : Int) < wr ((↑v5.fL.length : Int) - v4) then
 CB x1.fExpr >>= fun v9 =>
 some ((↑v5.fL.length : Int) : Int) >>= fun v10 =>
 some ((↑v5.fL.length : Int) : Int) >>= fun v11 =>
 Xz x1.fBody v9 >>= fun v12 => if v12 then
 some true
 else
 some false
 else
 some ((↑v5.fL.length : Int) : Int) >>= fun v13 =>
 some ((↑v5.fL.length : Int) : Int) >>= fun v14 =>
 some false
 else
 some false) >>= fun v7 => if v7 then
 some (Q3.mk [] (0 : Int) (18 : Int))
 else
 some v6.fst
 else none
 else none
 else none
 partial_fixpoint
def X7 (x2 : Int) (x3 : List Qd) (x4 : List Qb) (x5 : Q3) (x10 : Q3) (x12 : Qc) (x13 : Int) : Option ((Q3 × Q3) ⊕ (Q3 × Q3)) :=
 some (x5, x10, x13) >>= fun v0 =>
 (if x13 < x12.fMany then
 if x5.fE == (0 : Int) then
 some true
 else
 some false
 else
 some false) >>= fun v1 => if v1 then
 if (65536 : Int) ≤ v0.fst.fCount then
 some (.inr (v0.fst, (Q3.mk [] (0 : Int) (2 : Int))))
 else
 if (0 : Nat) = (0 : Nat) ∧ ((0 : Nat) + (List.map Qe x3).length) * (24 : Nat) ≤ (140737488355328 : Nat) ∧ (0 : Nat) + (List.map Qe x3).length ≤ (9223372036854775807 : Nat) then
 some ([] ++ x3) >>= fun v3 =>
 if (v3.length + (1 : Nat)) * (24 : Nat) ≤ (140737488355328 : Nat) ∧ v3.length + (1 : Nat) ≤ (9223372036854775807 : Nat) then
 some ((Qd.mk x12.fName v0.snd.snd)) >>= fun v4 =>
 if v3.length + (1 : Nat) = (List.map Qe v3 ++ [AV.agg [AV.str x12.fName, ii v0.snd.snd]]).length then
 XY (Q3.mk v0.fst.fL (wr (v0.fst.fCount + (1 : Int))) v0.fst.fE) x12.fBody x2 (v3 ++ [(Qd.mk x12.fName v0.snd.snd)]) x4 >>= fun v5 =>
 X7 x2 x3 x4 v5 v0.snd.fst x12 (wr (v0.snd.snd + (1 : Int)))
 else none
 else none
 else none
 else
 some (.inl (v0.fst, v0.snd.fst))
 partial_fixpoint
end
theorem SJ  : (∀ (x0 : Q3) (x1 : List Q9) (x2 : Int) (x3 : List Qd) (x4 : List Qb) (r : Q3), XY x0 x1 x2 x3 x4 = some r → PH 15 [.agg [.ow 0 0 22 (List.length x0.fL), ii x0.fCount, ii x0.fE], Zf x1, eI x2, QP x3, YA x4] [.own 0 22 (List.map Ql x0.fL)] (Xt r) (Xr r)) ∧ (∀ (x1 : List Q9) (x2 : Int) (x3 : List Qd) (x4 : List Qb) (x5 : Q3) (x10 : Q3) (x11 : Int) (o : (Q3 × Q3) ⊕ (Q3 × Q3)), Zm x1 x2 x3 x4 x5 x10 x11 = some o → LO 15 2 95 [1, 2, 3, 4, 5, 10, 11] [.sl 20 (List.map Qq x1), ii x2, .sl 2 (List.map Qe x3), .sl 13 (List.map Qm x4), .ptr 0 0 0, .ptr 2 0 0, ii x11] [.cells 0 [.ow 1 0 22 (List.length x5.fL), ii x5.fCount, ii x5.fE], .own 0 22 (List.map Ql x5.fL), .cells 0 [.ow 3 0 22 (List.length x10.fL), ii x10.fCount, ii x10.fE], .own 0 22 (List.map Ql x10.fL)] [5, 10] (YK (x1, x3, x4) () o)) ∧ (∀ (x0 : Q3) (x1 : Qc) (x2 : Int) (x3 : List Qd) (x4 : List Qb) (r : Q3), GP x0 x1 x2 x3 x4 = some r → PH 31 [.agg [.ow 0 0 22 (List.length x0.fL), ii x0.fCount, ii x0.fE], Qn x1, eI x2, QP x3, YA x4] [.own 0 22 (List.map Ql x0.fL)] (Yz r) (Yv r)) ∧ (∀ (x2 : Int) (x3 : List Qd) (x4 : List Qb) (x5 : Q3) (x10 : Q3) (x12 : Qc) (x13 : Int) (o : (Q3 × Q3) ⊕ (Q3 × Q3)), X7 x2 x3 x4 x5 x10 x12 x13 = some o → ∀ (x1 : List Q9) (x11 : Int), LO 15 10 95 [1, 2, 3, 4, 5, 10, 11, 12, 13] [.sl 20 (List.map Qq x1), ii x2, .sl 2 (List.map Qe x3), .sl 13 (List.map Qm x4), .ptr 0 0 0, .ptr 2 0 0, ii x11, .ptr 4 0 0, ii x13] [.cells 0 [.ow 1 0 22 (List.length x5.fL), ii x5.fCount, ii x5.fE], .own 0 22 (List.map Ql x5.fL), .cells 0 [.ow 3 0 22 (List.length x10.fL), ii x10.fCount, ii x10.fE], .own 0 22 (List.map Ql x10.fL), .cells 0 (Qn x12).cells] [1, 2, 3, 4, 5, 10, 11] (Vv (x1, x3, x4) (x2, x11, x12) o)) :=
 XY.mutual_partial_correctness  (fun x0 x1 x2 x3 x4 r => PH 15 [.agg [.ow 0 0 22 (List.length x0.fL), ii x0.fCount, ii x0.fE], Zf x1, eI x2, QP x3, YA x4] [.own 0 22 (List.map Ql x0.fL)] (Xt r) (Xr r)) (fun x1 x2 x3 x4 x5 x10 x11 o => LO 15 2 95 [1, 2, 3, 4, 5, 10, 11] [.sl 20 (List.map Qq x1), ii x2, .sl 2 (List.map Qe x3), .sl 13 (List.map Qm x4), .ptr 0 0 0, .ptr 2 0 0, ii x11] [.cells 0 [.ow 1 0 22 (List.length x5.fL), ii x5.fCount, ii x5.fE], .own 0 22 (List.map Ql x5.fL), .cells 0 [.ow 3 0 22 (List.length x10.fL), ii x10.fCount, ii x10.fE], .own 0 22 (List.map Ql x10.fL)] [5, 10] (YK (x1, x3, x4) () o)) (fun x0 x1 x2 x3 x4 r => PH 31 [.agg [.ow 0 0 22 (List.length x0.fL), ii x0.fCount, ii x0.fE], Qn x1, eI x2, QP x3, YA x4] [.own 0 22 (List.map Ql x0.fL)] (Yz r) (Yv r)) (fun x2 x3 x4 x5 x10 x12 x13 o => ∀ (x1 : List Q9) (x11 : Int), LO 15 10 95 [1, 2, 3, 4, 5, 10, 11, 12, 13] [.sl 20 (List.map Qq x1), ii x2, .sl 2 (List.map Qe x3), .sl 13 (List.map Qm x4), .ptr 0 0 0, .ptr 2 0 0, ii x11, .ptr 4 0 0, ii x13] [.cells 0 [.ow 1 0 22 (List.length x5.fL), ii x5.fCount, ii x5.fE], .own 0 22 (List.map Ql x5.fL), .cells 0 [.ow 3 0 22 (List.length x10.fL), ii x10.fCount, ii x10.fE], .own 0 22 (List.map Ql x10.fL), .cells 0 (Qn x12).cells] [1, 2, 3, 4, 5, 10, 11] (Vv (x1, x3, x4) (x2, x11, x12) o))
 (fun Zm Q43 x0 x1 x2 x3 x4 r h  =>
 PuH2 (hs := [(3000003, .l [] [1, 2, 3, 4, 5, 10, 11] [kk 5, { slot := 5, path := [0], own := 22 }, kk 10, { slot := 10, path := [0], own := 22 }] [5, 10] [kk 5, { slot := 5, path := [0], own := 22 }, kk 10, { slot := 10, path := [0], own := 22 }] (YK (x1, x3, x4)))]) (kb := [{ slot := 0, path := [0], own := 22 }]) ((kL2 () (hL := (Q43 x1 x2 x3 x4 x0 (Q3.mk [] (0 : Int) (0 : Int)) (0 : Int))) (hA := fun v0 v2 => (kEH (enc := Xt) (bt := Xr) v2.fst ⟨.refl _, .refl _⟩))
 (hB := fun v0 v3 => (kEH (enc := Xt) (bt := Xr) v3.snd ⟨.refl _, .refl _⟩))) h))
 (fun Zm GP X7 Q43 Q3n Q42 x1 x2 x3 x4 x5 x10 x11 o h  =>
 Lp2 (hs := [(18, .n eI 18 none), (19, .split), (23, .split), (29, .e Qn), (42, .split), (79, .split), (85, .h [{ slot := 0, path := [0], own := 22 }] Yz Yv), (39, .a), (40, .h [{ slot := 0, path := [0], own := 22 }, { slot := 4, own := 13 }] V8 Nb), (91, .n Zf 91 (some .s)), (92, .c eI), (2, .n eI 2 none), (7500007, .z [{ slot := 15, own := 13 }] none), (3000011, .l [] [1, 2, 3, 4, 5, 10, 11, 12, 13] [kk 5, { slot := 5, path := [0], own := 22 }, kk 10, { slot := 10, path := [0], own := 22 }, kk 12] [1, 2, 3, 4, 5, 10, 11] [kk 5, { slot := 5, path := [0], own := 22 }, kk 10, { slot := 10, path := [0], own := 22 }] (Vv (x1, x3, x4))), (5000002, .l [] [] [] [1, 2, 3, 4, 5, 10, 11, 24] [kk 5, { slot := 5, path := [0], own := 22 }, kk 10, { slot := 10, path := [0], own := 22 }] (Jt (x1, x3, x4)))]) (kb := [kk 5, { slot := 5, path := [0], own := 22 }, kk 10, { slot := 10, path := [0], own := 22 }]) (kbx := [kk 5, { slot := 5, path := [0], own := 22 }, kk 10, { slot := 10, path := [0], own := 22 }]) ((kJb (id := 5000002) (x2, x5, x10, x11) (fun v0 ev0 v1 => (kN _ (mLen (sh := Qq) x1) fun v2 => (kIfD (p := x11 < v2) (kIf (c := x5.fE == (0 : Int)) (kXj (alts := Jt (x1, x3, x4)) ev0 true (.here () rfl (.refl _) (.refl _)))
 (kXj (alts := Jt (x1, x3, x4)) ev0 false (.next (.here () rfl (.refl _) (.refl _)))))
 (kXj (alts := Jt (x1, x3, x4)) ev0 false (.next (.here () rfl (.refl _) (.refl _)))))))
 (fun v0 => (kIxR (l := x1) (k := v0.snd.snd.snd) QW fun v4 => (kIf (c := v4.fOp == (1 : Int)) (kL2 (v0.fst, v0.snd.snd.snd, v4) (hL := (fun y hy => Q42 v0.fst x3 x4 v0.snd.fst v0.snd.snd.fst v4 (0 : Int) y hy x1 v0.snd.snd.snd)) (hA := fun v5 v7 => (kG (p := (0 : Int) ≤ v5.snd.fst ∧ v5.snd.fst ≤ wr (v5.snd.fst + (1 : Int)) ∧ wr (v5.snd.fst + (1 : Int)) ≤ (↑(List.map Qq x1).length : Int)) (kW (sh := Zf) (List.drop v5.snd.fst.toNat (List.take ((wr (v5.snd.fst + (1 : Int))).toNat) x1)) (leSl (mTD (sh := Qq) x1 ((wr (v5.snd.fst + (1 : Int))).toNat) v5.snd.fst.toNat)) fun v8 => (kC (sh := eI) (Wv v8) fun v9 => (kN (wr (v5.fst + v9)) rfl fun v10 => (kM0 (alts := YK (x1, x3, x4) ()) (Q43 x1 v10 x3 x4 v7.fst v7.snd (wr (v5.snd.fst + (1 : Int))))))))))
 (hB := fun v5 v11 => (kX (alts := YK (x1, x3, x4) ()) (.inr (v11.fst, v11.snd)) (.next (.here _ rfl (.refl _) (.refl _))))))
 (kIf (c := v4.fOp == (4 : Int)) (kH (sh := Yz) (bt := Yv) (Q3n v0.snd.fst v4 v0.fst x3 x4) fun v12 => (kG (p := (0 : Int) ≤ v0.snd.snd.snd ∧ v0.snd.snd.snd ≤ wr (v0.snd.snd.snd + (1 : Int)) ∧ wr (v0.snd.snd.snd + (1 : Int)) ≤ (↑(List.map Qq x1).length : Int)) (kW (sh := Zf) (List.drop v0.snd.snd.snd.toNat (List.take ((wr (v0.snd.snd.snd + (1 : Int))).toNat) x1)) (leSl (mTD (sh := Qq) x1 ((wr (v0.snd.snd.snd + (1 : Int))).toNat) v0.snd.snd.snd.toNat)) fun v13 => (kC (sh := eI) (Wv v13) fun v14 => (kN (wr (v0.fst + v14)) rfl fun v15 => (kM0 (alts := YK (x1, x3, x4) ()) (Q43 x1 v15 x3 x4 v12 v0.snd.snd.fst (wr (v0.snd.snd.snd + (1 : Int))))))))))
 (kG (p := (0 : Nat) = (0 : Nat) ∧ ((0 : Nat) + (List.map Qm x4).length) * (160 : Nat) ≤ (140737488355328 : Nat) ∧ (0 : Nat) + (List.map Qm x4).length ≤ (9223372036854775807 : Nat)) (kH (sh := V8) (bt := Nb) (fun y hy => PuH.le (A6 v0.snd.fst v4 v0.fst x3 ([] ++ x4) y hy) (.cons (LeV.refl (AV.agg [AV.ow (0 : Nat) (0 : Nat) (22 : Nat) v0.snd.fst.fL.length, ii v0.snd.fst.fCount, ii v0.snd.fst.fE])) (.cons (LeV.refl (AV.agg [ii v4.fOp, AV.str v4.fName, ii v4.fMany, ii v4.fMark, ii v4.fFold, AV.sl (4 : Nat) (List.map Q4 v4.fIdx), ii v4.fExpr.fOp, AV.str v4.fExpr.fName, ii v4.fExpr.fVal.fN, ii v4.fExpr.fVal.fD, ii v4.fExpr.fType.fKind, ii v4.fExpr.fType.fBits, ii v4.fExpr.fType.fFrac, ii v4.fExpr.fType.fRound, ii v4.fExpr.fType.fOver, ii v4.fExpr.fLin.fK, AV.sl (2 : Nat) (List.map Qf v4.fExpr.fLin.fL), AV.sl (4 : Nat) (List.map Q4 v4.fExpr.fIdx), AV.sl (13 : Nat) (List.map Qm v4.fExpr.fArgs), AV.sl (20 : Nat) (List.map Qq v4.fBody)])) (.cons (LeV.refl (ii v0.fst)) (.cons (LeV.refl (AV.sl (2 : Nat) (List.map Qe x3))) (.cons (LeV.owl (by simp : (0 : Nat) + (List.map Qm x4).length = List.length ([] ++ x4))) .nil))))) (.cons (LeB.refl (Box.own (0 : Nat) (22 : Nat) (List.map Ql v0.snd.fst.fL))) (.cons (LeB.ownEq (mAA (sh := Qm) [] x4)) .nil)) (.refl _) (.refl _)) fun v16 => (kG (p := (0 : Int) ≤ v0.snd.snd.snd ∧ v0.snd.snd.snd ≤ wr (v0.snd.snd.snd + (1 : Int)) ∧ wr (v0.snd.snd.snd + (1 : Int)) ≤ (↑(List.map Qq x1).length : Int)) (kW (sh := Zf) (List.drop v0.snd.snd.snd.toNat (List.take ((wr (v0.snd.snd.snd + (1 : Int))).toNat) x1)) (leSl (mTD (sh := Qq) x1 ((wr (v0.snd.snd.snd + (1 : Int))).toNat) v0.snd.snd.snd.toNat)) fun v17 => (kC (sh := eI) (Wv v17) fun v18 => (kN (wr (v0.fst + v18)) rfl fun v19 => (kM0 (alts := YK (x1, x3, x4) ()) (Q43 x1 v19 x3 x4 v16 v0.snd.snd.fst (wr (v0.snd.snd.snd + (1 : Int)))))))))))))))
 (fun v0 => (kX (alts := YK (x1, x3, x4) ()) (.inl (v0.snd.fst, v0.snd.snd.fst)) (.here _ rfl (.refl _) (.refl _))))) h))
 (fun XY Q41 x0 x1 x2 x3 x4 r h  =>
 PuH2 (hs := [(17, .cb), (21, .z [{ slot := 19, own := 13 }] (some (.n Qm 21 (some .a)))), (24, .n eI 24 none), (34, .a), (35, .h [{ slot := 0, path := [0], own := 22 }, { slot := 4, fz := true }] Xt Xr), (38, .split), (42, .n eI 42 none), (44, .split), (48, .n eI 48 none), (51, .split), (57, .c eLS), (58, .cb), (68, .c Z7), (72, .split), (75, .split), (84, .h [{ slot := 0, path := [0], own := 22 }] Xt Xr), (7500005, .z [{ slot := 11, own := 13 }] none), (5000006, .l [] [] [] [5, 10, 61] [kk 5, { slot := 5, path := [0], own := 22 }, kk 10, { slot := 10, path := [0], own := 22 }] (XI ()))]) (kb := [{ slot := 0, path := [0], own := 22 }]) ((kCb (TB x1.fExpr) (kC (sh := Z7) (fun y hy => Pu.le (HI [] x3 x1.fExpr y hy) (.cons (LeT.nil 8) (.cons (LeT.refl (AV.sl (2 : Nat) (List.map Qe x3))) (.cons (LeT.refl (AV.agg [ii x1.fExpr.fOp, AV.str x1.fExpr.fName, ii x1.fExpr.fVal.fN, ii x1.fExpr.fVal.fD, ii x1.fExpr.fType.fKind, ii x1.fExpr.fType.fBits, ii x1.fExpr.fType.fFrac, ii x1.fExpr.fType.fRound, ii x1.fExpr.fType.fOver, ii x1.fExpr.fLin.fK, AV.sl (2 : Nat) (List.map Qf x1.fExpr.fLin.fL), AV.sl (4 : Nat) (List.map Q4 x1.fExpr.fIdx), AV.sl (13 : Nat) (List.map Qm x1.fExpr.fArgs)])) .nil))) (LeT.refl _)) fun v1 => (kIf (c := v1.snd != (0 : Int)) (kEH (enc := Yz) (bt := Yv) (Q3.mk [] (0 : Int) v1.snd) ⟨.refl _, .refl _⟩)
 (kIf (c := v1.fst) (kH (sh := Xt) (bt := Xr) (Q41 x0 x1.fBody x2 x3 x4) fun v2 => (kEH (enc := Yz) (bt := Yv) v2 ⟨.refl _, .refl _⟩))
 (kEH (enc := Yz) (bt := Yv) x0 ⟨.refl _, .refl _⟩))))
 (kG (p := (0 : Nat) = (0 : Nat) ∧ ((0 : Nat) + (List.map Qm x4).length) * (160 : Nat) ≤ (140737488355328 : Nat) ∧ (0 : Nat) + (List.map Qm x4).length ≤ (9223372036854775807 : Nat)) (kO (sh := Qm) ([] ++ x4) (mAA (sh := Qm) [] x4) (nAA (sh := Qm) [] x4) fun v3 => (kN (↑x0.fL.length : Int) rfl fun v4 => (kA (q := (v3.length + (1 : Nat)) * (160 : Nat) ≤ (140737488355328 : Nat) ∧ v3.length + (1 : Nat) ≤ (9223372036854775807 : Nat)) (sh := Qm) (l := v3) (kG (p := v3.length + (1 : Nat) = (List.map Qm v3 ++ [AV.agg [ii x1.fExpr.fOp, AV.str x1.fExpr.fName, ii x1.fExpr.fVal.fN, ii x1.fExpr.fVal.fD, ii x1.fExpr.fType.fKind, ii x1.fExpr.fType.fBits, ii x1.fExpr.fType.fFrac, ii x1.fExpr.fType.fRound, ii x1.fExpr.fType.fOver, ii x1.fExpr.fLin.fK, AV.sl (2 : Nat) (List.map Qf x1.fExpr.fLin.fL), AV.sl (4 : Nat) (List.map Q4 x1.fExpr.fIdx), AV.sl (13 : Nat) (List.map Qm x1.fExpr.fArgs)]]).length) (kH (sh := Xt) (bt := Xr) (fun y hy => PuH.le (Q41 x0 x1.fBody x2 x3 (v3 ++ [(Qb.mk x1.fExpr)]) y hy) (.cons (LeV.refl (AV.agg [AV.ow (0 : Nat) (0 : Nat) (22 : Nat) x0.fL.length, ii x0.fCount, ii x0.fE])) (.cons (LeV.refl (AV.sl (20 : Nat) (List.map Qq x1.fBody))) (.cons (LeV.refl (ii x2)) (.cons (LeV.refl (AV.sl (2 : Nat) (List.map Qe x3))) (.cons (leSl (mAR N5 v3 x1.fExpr)) .nil))))) (.refl _) (.refl _) (.refl _)) fun v5 => (kJb (id := 5000006) (v5, (Q3.mk [] (0 : Int) (0 : Int))) (fun v6 ev6 v7 => (kIf (c := v5.fE == (0 : Int)) (kIf (c := (↑v5.fL.length : Int) == v4) (kN (↑v5.fL.length : Int) rfl fun v8 => (kXj (alts := XI ()) ev6 true (.here () rfl (.refl _) (.refl _))))
 (kIfD (p := (1 : Int) < wr ((↑v5.fL.length : Int) - v4)) (kC (sh := eLS) (ST x1.fExpr) fun v9 => (kN (↑v5.fL.length : Int) rfl fun v10 => (kN (↑v5.fL.length : Int) rfl fun v11 => (kCb (Rx x1.fBody v9) (kXj (alts := XI ()) ev6 true (.here () rfl (.refl _) (.refl _)))
 (kXj (alts := XI ()) ev6 false (.next (.here () rfl (.refl _) (.refl _))))))))
 (kN (↑v5.fL.length : Int) rfl fun v13 => (kN (↑v5.fL.length : Int) rfl fun v14 => (kXj (alts := XI ()) ev6 false (.next (.here () rfl (.refl _) (.refl _))))))))
 (kXj (alts := XI ()) ev6 false (.next (.here () rfl (.refl _) (.refl _))))))
 (fun v6 => (kEH (enc := Yz) (bt := Yv) (Q3.mk [] (0 : Int) (18 : Int)) ⟨.refl _, .refl _⟩))
 (fun v6 => (kEH (enc := Yz) (bt := Yv) v6.fst ⟨.refl _, .refl _⟩)))))))))) h))
 (fun XY X7 Q41 Q42 x2 x3 x4 x5 x10 x12 x13 o h x1 x11 =>
 Lp2 (hs := [(46, .split), (50, .split), (56, .split), (64, .z [{ slot := 62, own := 2 }] (some (.n Qe 64 (some .a)))), (73, .n Qe 73 none), (75, .a), (77, .h [{ slot := 0, path := [0], own := 22 }, { slot := 3, fz := true }] Xt Xr), (7500017, .z [{ slot := 14, own := 2 }] none), (5000010, .l [] [] [] [1, 2, 3, 4, 5, 10, 11, 12, 13, 51] [kk 5, { slot := 5, path := [0], own := 22 }, kk 10, { slot := 10, path := [0], own := 22 }, kk 12] (Ju (x1, x2, x3, x4, x11, x12)))]) (kb := [kk 5, { slot := 5, path := [0], own := 22 }, kk 10, { slot := 10, path := [0], own := 22 }, kk 12]) (kbx := [kk 5, { slot := 5, path := [0], own := 22 }, kk 10, { slot := 10, path := [0], own := 22 }]) ((kJb (id := 5000010) (x5, x10, x13) (fun v0 ev0 v1 => (kIfD (p := x13 < x12.fMany) (kIf (c := x5.fE == (0 : Int)) (kXj (alts := Ju (x1, x2, x3, x4, x11, x12)) ev0 true (.here () rfl (.refl _) (.refl _)))
 (kXj (alts := Ju (x1, x2, x3, x4, x11, x12)) ev0 false (.next (.here () rfl (.refl _) (.refl _)))))
 (kXj (alts := Ju (x1, x2, x3, x4, x11, x12)) ev0 false (.next (.here () rfl (.refl _) (.refl _))))))
 (fun v0 => (kIfD (p := (65536 : Int) ≤ v0.fst.fCount) (kX (alts := Vv (x1, x3, x4) (x2, x11, x12)) (.inr (v0.fst, (Q3.mk [] (0 : Int) (2 : Int)))) (.next (.here _ rfl (.refl _) (.refl _))))
 (kG (p := (0 : Nat) = (0 : Nat) ∧ ((0 : Nat) + (List.map Qe x3).length) * (24 : Nat) ≤ (140737488355328 : Nat) ∧ (0 : Nat) + (List.map Qe x3).length ≤ (9223372036854775807 : Nat)) (kO (sh := Qe) ([] ++ x3) (mAA (sh := Qe) [] x3) (nAA (sh := Qe) [] x3) fun v3 => (kA (q := (v3.length + (1 : Nat)) * (24 : Nat) ≤ (140737488355328 : Nat) ∧ v3.length + (1 : Nat) ≤ (9223372036854775807 : Nat)) (sh := Qe) (l := v3) (kW (sh := Qe) (Qd.mk x12.fName v0.snd.snd) lr fun v4 => (kG (p := v3.length + (1 : Nat) = (List.map Qe v3 ++ [AV.agg [AV.str x12.fName, ii v0.snd.snd]]).length) (kH (sh := Xt) (bt := Xr) (fun y hy => PuH.le (Q41 (Q3.mk v0.fst.fL (wr (v0.fst.fCount + (1 : Int))) v0.fst.fE) x12.fBody x2 (v3 ++ [(Qd.mk x12.fName v0.snd.snd)]) x4 y hy) (.cons (LeV.refl (AV.agg [AV.ow (0 : Nat) (0 : Nat) (22 : Nat) v0.fst.fL.length, ii (wr (v0.fst.fCount + (1 : Int))), ii v0.fst.fE])) (.cons (LeV.refl (AV.sl (20 : Nat) (List.map Qq x12.fBody))) (.cons (LeV.refl (ii x2)) (.cons (leSl (mA (sh := Qe) v3 (Qd.mk x12.fName v0.snd.snd))) (.cons (LeV.refl (AV.sl (13 : Nat) (List.map Qm x4))) .nil))))) (.refl _) (.refl _) (.refl _)) fun v5 => (kM0 (alts := Vv (x1, x3, x4) (x2, x11, x12)) (fun y hy => Q42 x2 x3 x4 v5 v0.snd.fst x12 (wr (v0.snd.snd + (1 : Int))) y hy x1 x11))))))))))
 (fun v0 => (kX (alts := Vv (x1, x3, x4) (x2, x11, x12)) (.inl (v0.fst, v0.snd.fst)) (.here _ rfl (.refl _) (.refl _))))) h))
theorem Fc (x0 : Q3) (x1 : List Q9) (x2 : Int) (x3 : List Qd) (x4 : List Qb) (r : Q3) (h : XY x0 x1 x2 x3 x4 = some r) : PH 15 [.agg [.ow 0 0 22 (List.length x0.fL), ii x0.fCount, ii x0.fE], Zf x1, eI x2, QP x3, YA x4] [.own 0 22 (List.map Ql x0.fL)] (Xt r) (Xr r) := (SJ ).1 x0 x1 x2 x3 x4 r h
def JZ (x0 : Qh) : Option (List QT × Int) :=
 Dd x0 >>= fun v0 =>
 if v0.snd != (0 : Int) then
 some ([], v0.snd)
 else
 XY (Q3.mk [] (0 : Int) (0 : Int)) x0.fBody (0 : Int) [] [] >>= fun v1 =>
 if v1.fE != (0 : Int) then
 some ([], v1.fE)
 else
 some (v1.fL, (0 : Int))
theorem Nk (x0 : Qh) (r : (List QT × Int)) (h : JZ x0 = some r) : PU 7 [Qs x0] (YL r) :=
 Pu2 (hs := [(9, .c Wx), (13, .split), (18, .h [{ slot := 0, path := [0], own := 22 }] Xt Xr), (21, .split)]) ((kC (sh := Wx) (EE x0) fun v0 => (kIf (c := v0.snd != (0 : Int)) (kE (enc := YL) ([], v0.snd) (LeT.tup (.cons (LeT.nil 22) (.cons (LeT.refl (ii v0.snd)) .nil))))
 (kH (sh := Xt) (bt := Xr) (fun y hy => PuH.le (Fc (Q3.mk [] (0 : Int) (0 : Int)) x0.fBody (0 : Int) [] [] y hy) (.cons (LeV.refl (AV.agg [AV.ow (0 : Nat) (0 : Nat) (22 : Nat) (0 : Nat), ii (0 : Int), ii (0 : Int)])) (.cons (LeV.refl (AV.sl (20 : Nat) (List.map Qq x0.fBody))) (.cons (LeV.refl (ii (0 : Int))) (.cons (LeV.nil 2) (.cons (LeV.nil 13) .nil))))) (.refl _) (.refl _) (.refl _)) fun v1 => (kIf (c := v1.fE != (0 : Int)) (kE (enc := YL) ([], v1.fE) (LeT.tup (.cons (LeT.nil 22) (.cons (LeT.refl (ii v1.fE)) .nil))))
 (kT (nM (sh := Ql) v1.fL) (kEr (enc := YL) (v1.fL, (0 : Int)))))))) h)
def Vc (s : (Int × Qh)) (u : Unit) (o : Bool) : List Alt := jb o (fun b => [ii (s.1), .ptr 0 0 0, .bool b]) [.cells 0 (Qs (s.2)).cells]
def C4 (x0 : Qh) (x1 : Int) : Option Bool :=
 some () >>= fun v0 =>
 (some (List.length x0.fBufs : Int) >>= fun v2 =>
 if (20 : Int) < v2 then
 some true
 else
 Y7 x0.fBody (300 : Int) >>= fun v3 =>
 if (300 : Int) < v3 then
 some true
 else
 some false) >>= fun v1 => if v1 then
 some false
 else
 JZ x0 >>= fun v6 =>
 if v6.snd != (0 : Int) then
 some true
 else
 some (List.length v6.fst : Int) >>= fun v7 =>
 some (decide (v7 ≤ x1))
theorem TD (x0 : Qh) (x1 : Int) (r : Bool) (h : C4 x0 x1 = some r) : PU 12 [Qs x0, eI x1] (eB r) :=
 Pu2 (hs := [(9, .n eI 9 none), (10, .split), (14, .c eI), (15, .split), (19, .c YL), (23, .split), (26, .n eI 26 none), (5000001, .l [] [] [] [1, 2, 16] [kk 2] (Vc (x1, x0)))]) ((kJb (id := 5000001) () (fun v0 ev0 v1 => (kN _ (mLen (sh := Qx) x0.fBufs) fun v2 => (kIfD (p := (20 : Int) < v2) (kXj (alts := Vc (x1, x0)) ev0 true (.here () rfl (.refl _) (.refl _)))
 (kC (sh := eI) (HA x0.fBody (300 : Int)) fun v3 => (kIfD (p := (300 : Int) < v3) (kXj (alts := Vc (x1, x0)) ev0 true (.here () rfl (.refl _) (.refl _)))
 (kXj (alts := Vc (x1, x0)) ev0 false (.next (.here () rfl (.refl _) (.refl _)))))))))
 (fun v0 => (kEr (enc := eB) false))
 (fun v0 => (kC (sh := YL) (Nk x0) fun v6 => (kIf (c := v6.snd != (0 : Int)) (kEr (enc := eB) true)
 (kN _ (mLen (sh := Ql) v6.fst) fun v7 => (kEr (enc := eB) (decide (v7 ≤ x1)))))))) h)
def WT (x0 : Qh) : Option Bool :=
 C4 x0 (120 : Int) >>= fun v0 =>
 some v0
theorem PV (x0 : Qh) (r : Bool) (h : WT x0 = some r) : PU 5 [Qs x0] (eB r) :=
 Pu2 (hs := [(4, .c eB)]) ((kC (sh := eB) (TD x0 (120 : Int)) fun v0 => (kEr (enc := eB) v0)) h)
def Yb (s : List Int) (u : Unit) (o : Int ⊕ (Int × Bool)) : List Alt := [⟨fun (x : Int) => (Sum.inl x : Int ⊕ (Int × Bool)) = o, .exit 0, fun x => [.sl 1 (List.map eI s), .undef, .undef, ii x], fun x => []⟩, ⟨fun (x : (Int × Bool)) => (Sum.inr x : Int ⊕ (Int × Bool)) = o, .ret, fun x => [.sl 1 (List.map eI s), ii x.1, .bool x.2, .undef], fun x => []⟩]
def Ky (s : List Int) (u : (Int × Int)) (o : Bool) : List Alt := jb o (fun b => [.sl 1 (List.map eI s), ii (u.1), ii (u.2), .bool b]) []
def ZH (x0 : List Int) (x4 : Int) (x5 : Int) : Option (Int ⊕ (Int × Bool)) :=
 some (List.length x0 : Int) >>= fun v0 =>
 if x5 < v0 then
 some (x4, x5) >>= fun v1 =>
 (ix x0 x5 >>= fun v3 =>
 if v3 < (1 : Int) then
 some true
 else
 ix x0 x5 >>= fun v4 =>
 if (4096 : Int) < v4 then
 some true
 else
 some false) >>= fun v2 => if v2 then
 some (.inr ((0 : Int), false))
 else
 ix x0 v1.snd >>= fun v7 =>
 some (wr (v1.fst * v7) : Int) >>= fun v8 =>
 if (4096 : Int) < v8 then
 some (.inr ((0 : Int), false))
 else
 ZH x0 v8 (wr (v1.snd + (1 : Int)))
 else
 some (.inl x4)
 partial_fixpoint
theorem I4 (x0 : List Int) (x4 : Int) (x5 : Int) (o : Int ⊕ (Int × Bool)) (h : ZH x0 x4 x5 = some o) : LO 89 3 36 [0, 4, 5] [.sl 1 (List.map eI x0), ii x4, ii x5] [] [0, 2, 3, 4] (Yb x0 () o) :=
 ZH.partial_correctness x0 (fun x4 x5 o => LO 89 3 36 [0, 4, 5] [.sl 1 (List.map eI x0), ii x4, ii x5] [] [0, 2, 3, 4] (Yb x0 () o))
 (fun ZH Q3q x4 x5 o h  =>
 Lp2 (hs := [(8, .n eI 8 none), (9, .split), (14, .e eI), (16, .split), (20, .e eI), (22, .split), (27, .e eI), (4, .n eI 4 none), (31, .split), (5000005, .l [] [] [] [0, 4, 5, 23] [] (Ky x0))]) (kb := []) (kbx := []) ((kN _ (mLen (sh := eI) x0) fun v0 => (kIfD (p := x5 < v0) (kJb (id := 5000005) (x4, x5) (fun v1 ev1 v2 => (kIx (enc := eI) (l := x0) (k := x5) fun v3 => (kIfD (p := v3 < (1 : Int)) (kXj (alts := Ky x0) ev1 true (.here () rfl (.refl _) (.refl _)))
 (kIx (enc := eI) (l := x0) (k := x5) fun v4 => (kIfD (p := (4096 : Int) < v4) (kXj (alts := Ky x0) ev1 true (.here () rfl (.refl _) (.refl _)))
 (kXj (alts := Ky x0) ev1 false (.next (.here () rfl (.refl _) (.refl _)))))))))
 (fun v1 => (kX (alts := Yb x0 ()) (.inr ((0 : Int), false)) (.next (.here _ rfl (.cons (LeV.refl (AV.sl (1 : Nat) (List.map eI x0))) (.cons (LeV.refl (ii (0 : Int))) (.cons (LeV.refl (AV.bool false)) (.cons (LeV.undef (ii v1.fst)) .nil)))) (.refl _)))))
 (fun v1 => (kIx (enc := eI) (l := x0) (k := v1.snd) fun v7 => (kN (wr (v1.fst * v7)) rfl fun v8 => (kIfD (p := (4096 : Int) < v8) (kX (alts := Yb x0 ()) (.inr ((0 : Int), false)) (.next (.here _ rfl (.cons (LeV.refl (AV.sl (1 : Nat) (List.map eI x0))) (.cons (LeV.refl (ii (0 : Int))) (.cons (LeV.refl (AV.bool false)) (.cons (LeV.undef (ii v8)) .nil)))) (.refl _))))
 (kM0 (alts := Yb x0 ()) (Q3q v8 (wr (v1.snd + (1 : Int))))))))))
 (kX (alts := Yb x0 ()) (.inl x4) (.here _ rfl (.refl _) (.refl _))))) h)) x4 x5 o h
def De (x0 : List Int) : Option (Int × Bool) :=
 some ((1 : Int) : Int) >>= fun v0 =>
 some () >>= fun v1 =>
 ZH x0 v0 (0 : Int) >>= fun v2 => (match v2 with
 | (.inl v3) =>
 some (List.length x0 : Int) >>= fun v4 =>
 some (v3, (decide (v4 ≤ (6 : Int))))
 | (.inr v5) =>
 some (v5.fst, v5.snd))
theorem EJ (x0 : List Int) (r : (Int × Bool)) (h : De x0 = some r) : PU 89 [eLI x0] (ZM r) :=
 Pu2 (hs := [(4, .n eI 4 none), (34, .n eI 34 none), (3000004, .l [] [0, 4, 5] [] [0, 2, 3, 4] [] (Yb x0))]) ((kN (1 : Int) rfl fun v0 => (kL2 () (hL := (I4 x0 v0 (0 : Int))) (hA := fun v1 v3 => (kN _ (mLen (sh := eI) x0) fun v4 => (kEr (enc := ZM) (v3, (decide (v4 ≤ (6 : Int)))))))
 (hB := fun v1 v5 => (kEr (enc := ZM) (v5.fst, v5.snd))))) h)
def JR (s : (Str × (List Qa))) (u : (Qw × Int)) (o : (Int × Bool)) : List Alt := [⟨fun (x : (Int × Bool)) => x = o, .exit 0, fun x => [.str s.1, ii u.2, ii x.1, .bool x.2], fun x => []⟩]
def Vb (s : (Str × (List Qa) × Qw × Int)) (u : (Int × Bool × Int)) (o : Bool) : List Alt := jb o (fun b => [.str (s.1), .sl 4 (List.map Q4 (s.2.1)), .ptr 0 0 0, ii (s.2.2.2), ii (u.1), .bool (u.2.1), ii (u.2.2), .bool b]) [.cells 0 (Qx (s.2.2.1)).cells]
def XJ (s : (Str × (List Qa) × Qw × Int)) (u : (Int × Bool × Int × Int)) (o : Bool) : List Alt := jb o (fun b => [.str (s.1), .sl 4 (List.map Q4 (s.2.1)), .ptr 0 0 0, ii (s.2.2.2), ii (u.1), .bool (u.2.1), ii (u.2.2.1), ii (u.2.2.2), .bool b]) [.cells 0 (Qx (s.2.2.1)).cells]
def UG (s : (Str × (List Qa) × Qw × Int)) (u : Int) (o : (Int × Bool)) : List Alt := [⟨fun (x : (Int × Bool)) => x = o, .normal, fun x => [.str (s.1), .sl 4 (List.map Q4 (s.2.1)), .ptr 0 0 0, ii (s.2.2.2), ii (x.1), .bool (x.2), ii u], fun x => [.cells 0 (Qx (s.2.2.1)).cells]⟩]
def Zd (x2 : List Qa) (x7 : Qw) (x11 : Int) (x12 : Bool) (x13 : Int) : Option (Int × Bool) :=
 some (x11, x12, x13) >>= fun v0 =>
 (some (List.length x2 : Int) >>= fun v2 =>
 if x13 < v2 then
 if x12 then
 some true
 else
 some false
 else
 some false) >>= fun v1 => if v1 then
 some v0.snd.snd >>= fun v4 =>
 (ix x2 v0.snd.snd >>= fun v6 =>
 some (v0.fst, v0.snd.fst, v0.snd.snd, v6.fLin.fK) >>= fun v7 =>
 (ix x2 v0.snd.snd >>= fun v9 =>
 if !v9.fFrom == [] then
 some true
 else
 ix x2 v0.snd.snd >>= fun v10 =>
 some (List.length v10.fLin.fL : Int) >>= fun v11 =>
 if (0 : Int) < v11 then
 some true
 else
 if v6.fLin.fK < (0 : Int) then
 some true
 else
 ix x7.fDims v0.snd.snd >>= fun v12 =>
 if v12 ≤ v6.fLin.fK then
 some true
 else
 some false) >>= fun v8 => if v8 then
 some (v7.fst, false)
 else
 ix x7.fDims v7.snd.snd.fst >>= fun v15 =>
 some (wr (wr (v7.fst * v15) + v7.snd.snd.snd) : Int) >>= fun v16 =>
 some (v16, v7.snd.fst)) >>= fun v17 =>
 Zd x2 x7 v17.fst v17.snd (wr (v4 + (1 : Int)))
 else
 some (v0.fst, v0.snd.fst)
 partial_fixpoint
theorem HL (x1 : Str) (x2 : List Qa) (x7 : Qw) (x9 : Int) (x11 : Int) (x12 : Bool) (x13 : Int) (o : (Int × Bool)) (h : Zd x2 x7 x11 x12 x13 = some o) : LO 59 9 101 [1, 2, 7, 9, 11, 12, 13] [.str x1, .sl 4 (List.map Q4 x2), .ptr 0 0 0, ii x9, ii x11, .bool x12, ii x13] [.cells 0 (Qx x7).cells] [1, 9, 11, 12] (JR (x1, x2) (x7, x9) o) :=
 Zd.partial_correctness x2 x7 (fun x11 x12 x13 o => ∀ (x1 : Str) (x9 : Int), LO 59 9 101 [1, 2, 7, 9, 11, 12, 13] [.str x1, .sl 4 (List.map Q4 x2), .ptr 0 0 0, ii x9, ii x11, .bool x12, ii x13] [.cells 0 (Qx x7).cells] [1, 9, 11, 12] (JR (x1, x2) (x7, x9) o))
 (fun Zd Q3v x11 x12 x13 o h x1 x9 =>
 Lp2 (hs := [(39, .n eI 39 none), (40, .split), (42, .split), (48, .e Q4), (54, .e Q4), (57, .split), (61, .e Q4), (65, .n eI 65 none), (66, .split), (70, .split), (77, .e eI), (79, .split), (85, .e eI), (11, .n eI 11 none), (5000009, .l [] [] [] [1, 2, 7, 9, 11, 12, 13, 43] [kk 7] (Vb (x1, x2, x7, x9))), (5000012, .l [] [] [] [1, 2, 7, 9, 11, 12, 13, 14, 80] [kk 7] (XJ (x1, x2, x7, x9))), (7000001, .l [] [] [] [1, 2, 7, 9, 11, 12, 13] [kk 7] (UG (x1, x2, x7, x9)))]) (kb := [kk 7]) (kbx := []) ((kJb (id := 5000009) (x11, x12, x13) (fun v0 ev0 v1 => (kN _ (mLen (sh := Q4) x2) fun v2 => (kIfD (p := x13 < v2) (kIf (c := x12) (kXj (alts := Vb (x1, x2, x7, x9)) ev0 true (.here () rfl (.refl _) (.refl _)))
 (kXj (alts := Vb (x1, x2, x7, x9)) ev0 false (.next (.here () rfl (.refl _) (.refl _)))))
 (kXj (alts := Vb (x1, x2, x7, x9)) ev0 false (.next (.here () rfl (.refl _) (.refl _)))))))
 (fun v0 => (kJ1 (id := 7000001) v0.snd.snd (fun v4 ev4 v5 => (kIx (enc := Q4) (l := x2) (k := v0.snd.snd) fun v6 => (kJbE (id := 5000012) (v0.fst, v0.snd.fst, v0.snd.snd, v6.fLin.fK) (fun v7 ev7 v8 => (kIx (enc := Q4) (l := x2) (k := v0.snd.snd) fun v9 => (kIf (c := !v9.fFrom == []) (kXj (alts := XJ (x1, x2, x7, x9)) ev7 true (.here () rfl (.refl _) (.refl _)))
 (kIx (enc := Q4) (l := x2) (k := v0.snd.snd) fun v10 => (kN _ (mLen (sh := Qf) v10.fLin.fL) fun v11 => (kIfD (p := (0 : Int) < v11) (kXj (alts := XJ (x1, x2, x7, x9)) ev7 true (.here () rfl (.refl _) (.refl _)))
 (kIfD (p := v6.fLin.fK < (0 : Int)) (kXj (alts := XJ (x1, x2, x7, x9)) ev7 true (.here () rfl (.refl _) (.refl _)))
 (kIx (enc := eI) (l := x7.fDims) (k := v0.snd.snd) fun v12 => (kIfD (p := v12 ≤ v6.fLin.fK) (kXj (alts := XJ (x1, x2, x7, x9)) ev7 true (.here () rfl (.refl _) (.refl _)))
 (kXj (alts := XJ (x1, x2, x7, x9)) ev7 false (.next (.here () rfl (.refl _) (.refl _)))))))))))))
 (fun v7 ev7 => (kXj (alts := UG (x1, x2, x7, x9)) (u0 := v7.snd.snd.fst) (by subst ev7; exact ev4) (v7.fst, false) (.here _ rfl (.refl _) (.refl _))))
 (fun v7 ev7 => (kIx (enc := eI) (l := x7.fDims) (k := v7.snd.snd.fst) fun v15 => (kN (wr (wr (v7.fst * v15) + v7.snd.snd.snd)) rfl fun v16 => (kXj (alts := UG (x1, x2, x7, x9)) (u0 := v7.snd.snd.fst) (by subst ev7; exact ev4) (v16, v7.snd.fst) (.here _ rfl (.refl _) (.refl _)))))))))
 (fun v4 v17 => (kM0 (alts := JR (x1, x2) (x7, x9)) (fun y hy => Q3v v17.fst v17.snd (wr (v4 + (1 : Int))) y hy x1 x9)))))
 (fun v0 => (kX (alts := JR (x1, x2) (x7, x9)) (v0.fst, v0.snd.fst) (.here _ rfl (.refl _) (.refl _))))) h)) x11 x12 x13 o h x1 x9
def Uh (x0 : Qh) (x1 : Str) (x2 : List Qa) : Option (List Q6) :=
 Xs x0 x1 >>= fun v0 =>
 if v0.snd then
 De v0.fst.fDims >>= fun v1 =>
 if v1.snd then
 some (List.length x2 : Int) >>= fun v2 =>
 some (List.length v0.fst.fDims : Int) >>= fun v3 =>
 some ((0 : Int) : Int) >>= fun v4 =>
 some (v0.fst, v1.fst) >>= fun v5 =>
 Zd x2 v0.fst v4 ((↑(List.map Q4 x2).length : Int) == (↑(List.map eI v0.fst.fDims).length : Int)) (0 : Int) >>= fun v7 =>
 if v7.snd then
 some ((Q6.mk x1 v7.fst (wr (v7.fst + (1 : Int))))) >>= fun v8 =>
 some [v8]
 else
 some ((Q6.mk x1 (0 : Int) v5.snd)) >>= fun v9 =>
 some [v9]
 else
 some []
 else
 some []
theorem Wu (x0 : Qh) (x1 : Str) (x2 : List Qa) (r : List Q6) (h : Uh x0 x1 x2 = some r) : PU 59 [Qs x0, eS x1, Gq x2] (Qu r) :=
 Pu2 (hs := [(18, .c QX), (21, .split), (26, .c ZM), (29, .split), (32, .n eI 32 none), (35, .n eI 35 none), (11, .n eI 11 none), (90, .split), (95, .n Q1 95 none), (6, .z [{ slot := 96, own := 3 }, { slot := 96, fz := true }] none), (99, .n Q1 99 none), (6, .z [{ slot := 100, own := 3 }, { slot := 100, fz := true }] none), (3000010, .l [] [1, 2, 7, 9, 11, 12, 13] [kk 7] [1, 9, 11, 12] [] (JR (x1, x2)))]) ((kC (sh := QX) (Uj x0 x1) fun v0 => (kIf (c := v0.snd) (kC (sh := ZM) (EJ v0.fst.fDims) fun v1 => (kIf (c := v1.snd) (kN _ (mLen (sh := Q4) x2) fun v2 => (kN _ (mLen (sh := eI) v0.fst.fDims) fun v3 => (kN (0 : Int) rfl fun v4 => (kL1 (v0.fst, v1.fst) (HL x1 x2 v0.fst v1.fst v4 ((↑(List.map Q4 x2).length : Int) == (↑(List.map eI v0.fst.fDims).length : Int)) (0 : Int)) fun v5 v7 => (kIf (c := v7.snd) (kW (sh := Q1) (Q6.mk x1 v7.fst (wr (v7.fst + (1 : Int)))) lr fun v8 => (kT (rfl : (1 : Nat) = (1 : Nat)) (kEr (enc := Qu) [v8])))
 (kW (sh := Q1) (Q6.mk x1 (0 : Int) v5.snd) lr fun v9 => (kEr (enc := Qu) [v9])))))))
 (kE (enc := Qu) [] (LeT.nil 3))))
 (kE (enc := Qu) [] (LeT.nil 3)))) h)
def JP (s : (Qh × Qc)) (u : Unit) (o : List Q6) : List Alt := [⟨fun (x : List Q6) => x = o, .exit 0, fun x => [.sl 3 (List.map Q1 x)], fun x => []⟩]
def Va (s : (Qh × Qc)) (u : Unit) (o : Bool) : List Alt := jb o (fun b => [.ptr 0 0 0, .ptr 1 0 0, .bool b]) [.cells 0 (Qs (s.1)).cells, .cells 0 (Qn (s.2)).cells]
def YE (s : (Qh × Qc)) (u : ((List Q6) × Int)) (o : Bool) : List Alt := jb o (fun b => [.ptr 0 0 0, .ptr 1 0 0, .ow 2 0 3 (List.length (u.1)), ii (u.2), .bool b]) [.cells 0 (Qs (s.1)).cells, .cells 0 (Qn (s.2)).cells, .own 0 3 (List.map Q1 (u.1))]
mutual
def Kt (x0 : Qh) (x1 : Qc) : Option (List Q6) :=
 some () >>= fun v0 =>
 (if x1.fOp == (2 : Int) then
 some true
 else
 if x1.fOp == (3 : Int) then
 some true
 else
 some false) >>= fun v1 => if v1 then
 Uh x0 x1.fName x1.fIdx >>= fun v3 =>
 some v3
 else
 some () >>= fun v5 =>
 ZK x0 x1 [] (0 : Int) >>= fun v7 =>
 some v7
 partial_fixpoint
def ZK (x2 : Qh) (x3 : Qc) (x5 : List Q6) (x6 : Int) : Option (List Q6) :=
 some (x5, x6) >>= fun v0 =>
 (some (List.length x3.fBody : Int) >>= fun v2 =>
 if x6 < v2 then
 if x3.fOp == (1 : Int) then
 some true
 else
 if x3.fOp == (4 : Int) then
 some true
 else
 some false
 else
 some false) >>= fun v1 => if v1 then
 Option.map Q9.f (ix x3.fBody v0.snd) >>= fun v4 =>
 Kt x2 v4 >>= fun v5 =>
 if (v0.fst.length + (List.map Q1 v5).length) * (32 : Nat) ≤ (140737488355328 : Nat) ∧ v0.fst.length + (List.map Q1 v5).length ≤ (9223372036854775807 : Nat) then
 some (v0.fst ++ v5) >>= fun v6 =>
 ZK x2 x3 v6 (wr (v0.snd + (1 : Int)))
 else none
 else
 some v0.fst
 partial_fixpoint
end
theorem Rh (x0 : Qh) : (∀ (x1 : Qc) (r : List Q6), Kt x0 x1 = some r → PU 38 [Qs x0, Qn x1] (Qu r)) ∧ (∀ (x3 : Qc) (x5 : List Q6) (x6 : Int) (o : List Q6), ZK x0 x3 x5 x6 = some o → LO 38 5 48 [2, 3, 5, 6] [.ptr 0 0 0, .ptr 1 0 0, .ow 2 0 3 (List.length x5), ii x6] [.cells 0 (Qs x0).cells, .cells 0 (Qn x3).cells, .own 0 3 (List.map Q1 x5)] [5] (JP (x0, x3) () o)) :=
 Kt.mutual_partial_correctness x0 (fun x1 r => PU 38 [Qs x0, Qn x1] (Qu r)) (fun x3 x5 x6 o => LO 38 5 48 [2, 3, 5, 6] [.ptr 0 0 0, .ptr 1 0 0, .ow 2 0 3 (List.length x5), ii x6] [.cells 0 (Qs x0).cells, .cells 0 (Qn x3).cells, .own 0 3 (List.map Q1 x5)] [5] (JP (x0, x3) () o))
 (fun ZK Q3m x1 r h  =>
 Pu2 (hs := [(9, .split), (13, .split), (20, .c Qu), (3000006, .l [] [2, 3, 5, 6] [kk 2, kk 3, { slot := 5, own := 3 }] [5] [{ slot := 5, fz := true }] (JP (x0, x1))), (5000001, .l [] [] [] [2, 3, 14] [kk 2, kk 3] (Va (x0, x1)))]) ((kJb (id := 5000001) () (fun v0 ev0 v1 => (kIf (c := x1.fOp == (2 : Int)) (kXj (alts := Va (x0, x1)) ev0 true (.here () rfl (.refl _) (.refl _)))
 (kIf (c := x1.fOp == (3 : Int)) (kXj (alts := Va (x0, x1)) ev0 true (.here () rfl (.refl _) (.refl _)))
 (kXj (alts := Va (x0, x1)) ev0 false (.next (.here () rfl (.refl _) (.refl _)))))))
 (fun v0 => (kC (sh := Qu) (Wu x0 x1.fName x1.fIdx) fun v3 => (kEr (enc := Qu) v3)))
 (fun v0 => (kL1 () (Q3m x1 [] (0 : Int)) fun v5 v7 => (kEr (enc := Qu) v7)))) h))
 (fun Kt ZK Q3l Q3m x3 x5 x6 o h  =>
 Lp2 (hs := [(24, .n eI 24 none), (25, .split), (29, .split), (33, .split), (43, .e Qn), (45, .c Qu), (46, .z [{ slot := 38, own := 3 }] (some (.n Q1 46 (some .a)))), (5000005, .l [] [] [] [2, 3, 5, 6, 35] [kk 2, kk 3, { slot := 5, own := 3 }] (YE (x0, x3)))]) (kb := [kk 2, kk 3, { slot := 5, own := 3 }]) (kbx := [{ slot := 5, fz := true }]) ((kJb (id := 5000005) (x5, x6) (fun v0 ev0 v1 => (kN _ (mLen (sh := Qq) x3.fBody) fun v2 => (kIfD (p := x6 < v2) (kIf (c := x3.fOp == (1 : Int)) (kXj (alts := YE (x0, x3)) ev0 true (.here () rfl (.refl _) (.refl _)))
 (kIf (c := x3.fOp == (4 : Int)) (kXj (alts := YE (x0, x3)) ev0 true (.here () rfl (.refl _) (.refl _)))
 (kXj (alts := YE (x0, x3)) ev0 false (.next (.here () rfl (.refl _) (.refl _))))))
 (kXj (alts := YE (x0, x3)) ev0 false (.next (.here () rfl (.refl _) (.refl _)))))))
 (fun v0 => (kIxR (l := x3.fBody) (k := v0.snd) QW fun v4 => (kC (sh := Qu) (Q3l v4) fun v5 => (kA (q := (v0.fst.length + (List.map Q1 v5).length) * (32 : Nat) ≤ (140737488355328 : Nat) ∧ v0.fst.length + (List.map Q1 v5).length ≤ (9223372036854775807 : Nat)) (sh := Q1) (l := v0.fst) (kO (sh := Q1) (v0.fst ++ v5) (mAA (sh := Q1) v0.fst v5) (nAA (sh := Q1) v0.fst v5) fun v6 => (kM0 (alts := JP (x0, x3) ()) (Q3m x3 v6 (wr (v0.snd + (1 : Int))))))))))
 (fun v0 => (kT (nM (sh := Q1) v0.fst) (kX (alts := JP (x0, x3) ()) v0.fst (.here _ rfl (.refl _) (.refl _)))))) h))
theorem TC (x0 : Qh) (x1 : Qc) (r : List Q6) (h : Kt x0 x1 = some r) : PU 38 [Qs x0, Qn x1] (Qu r) := (Rh x0).1 x1 r h
def VZ (s : ((List Qa) × Qh)) (u : ((List Q6) × Int)) (o : List Qa) : List Alt := [⟨fun (x : List Qa) => x = o, .exit 2, fun x => [.sl 4 (List.map Q4 s.1), .ptr 0 0 0, .ow 1 0 3 (List.length u.1), ii u.2, .sl 4 (List.map Q4 x)], fun x => [.cells 0 (Qs s.2).cells, .own 0 3 (List.map Q1 u.1)]⟩]
def ZV (x1 : List Qa) (x6 : Int) (x7 : List Qa) (x8 : Int) : Option (List Qa) :=
 ix x1 x6 >>= fun v0 =>
 some (List.length v0.fAt : Int) >>= fun v1 =>
 if x8 < v1 then
 ix x1 x6 >>= fun v2 =>
 ix v2.fAt x8 >>= fun v3 =>
 some ((Qa.mk v3 [] [])) >>= fun v4 =>
 if (x7.length + (1 : Nat)) * (72 : Nat) ≤ (140737488355328 : Nat) ∧ x7.length + (1 : Nat) ≤ (9223372036854775807 : Nat) then
 some (x7 ++ [v4]) >>= fun v5 =>
 ZV x1 x6 v5 (wr (x8 + (1 : Int)))
 else none
 else
 some x7
 partial_fixpoint
theorem Il (x1 : List Qa) (x2 : Qh) (x5 : List Q6) (x6 : Int) (x7 : List Qa) (x8 : Int) (o : List Qa) (h : ZV x1 x6 x7 x8 = some o) : LO 60 8 54 [1, 2, 5, 6, 7, 8] [.sl 4 (List.map Q4 x1), .ptr 0 0 0, .ow 1 0 3 (List.length x5), ii x6, .ow 2 0 4 (List.length x7), ii x8] [.cells 0 (Qs x2).cells, .own 0 3 (List.map Q1 x5), .own 0 4 (List.map Q4 x7)] [1, 2, 5, 6, 7] (VZ (x1, x2) (x5, x6) o) :=
 ZV.partial_correctness x1 x6 (fun x7 x8 o => ∀ (x2 : Qh) (x5 : List Q6), LO 60 8 54 [1, 2, 5, 6, 7, 8] [.sl 4 (List.map Q4 x1), .ptr 0 0 0, .ow 1 0 3 (List.length x5), ii x6, .ow 2 0 4 (List.length x7), ii x8] [.cells 0 (Qs x2).cells, .own 0 3 (List.map Q1 x5), .own 0 4 (List.map Q4 x7)] [1, 2, 5, 6, 7] (VZ (x1, x2) (x5, x6) o))
 (fun ZV Q3s x7 x8 o h x2 x5 =>
 Lp2 (hs := [(24, .e Q4), (27, .n eI 27 none), (28, .split), (34, .e Q4), (38, .e Qj), (40, .n Q4 40 none), (42, .z [{ slot := 31, own := 4 }] (some (.n Q4 42 (some .a))))]) (kb := [kk 2, { slot := 5, own := 3 }, { slot := 7, own := 4 }]) (kbx := [kk 2, { slot := 5, own := 3 }, { slot := 7, fz := true }]) ((kIx (enc := Q4) (l := x1) (k := x6) fun v0 => (kN _ (mLen (sh := Qj) v0.fAt) fun v1 => (kIfD (p := x8 < v1) (kIx (enc := Q4) (l := x1) (k := x6) fun v2 => (kIx (enc := Qj) (l := v2.fAt) (k := x8) fun v3 => (kW (sh := Q4) (Qa.mk v3 [] []) (LeV.agg (.cons (LeV.refl (ii v3.fK)) (.cons (LeV.refl (AV.sl (2 : Nat) (List.map Qf v3.fL))) (.cons (LeV.refl (AV.str [])) (.cons (LeV.nil 2) .nil))))) fun v4 => (kA (q := (x7.length + (1 : Nat)) * (72 : Nat) ≤ (140737488355328 : Nat) ∧ x7.length + (1 : Nat) ≤ (9223372036854775807 : Nat)) (sh := Q4) (l := x7) (kO (sh := Q4) (x7 ++ [v4]) (mA (sh := Q4) x7 v4) (nA x7 v4) fun v5 => (kM0 (alts := VZ (x1, x2) (x5, x6)) (fun y hy => Q3s v5 (wr (x8 + (1 : Int))) y hy x2 x5)))))))
 (kT (nM (sh := Q4) x7) (kX (alts := VZ (x1, x2) (x5, x6)) x7 (.here _ rfl (.refl _) (.refl _))))))) h)) x7 x8 o h x2 x5
def Km (s : ((List Qa) × Qh)) (u : Unit) (o : List Q6) : List Alt := [⟨fun (x : List Q6) => x = o, .exit 0, fun x => [.ow 0 0 3 (List.length x)], fun x => [.own 0 3 (List.map Q1 x)]⟩]
def Zw (x1 : List Qa) (x2 : Qh) (x5 : List Q6) (x6 : Int) : Option (List Q6) :=
 some (List.length x1 : Int) >>= fun v0 =>
 if x6 < v0 then
 ix x1 x6 >>= fun v1 =>
 if v1.fFrom == [] then
 Zw x1 x2 x5 (wr (x6 + (1 : Int)))
 else
 some (x5, x6) >>= fun v2 =>
 ZV x1 x6 [] (0 : Int) >>= fun v4 =>
 ix x1 v2.snd >>= fun v5 =>
 Uh x2 v5.fFrom v4 >>= fun v6 =>
 if (v2.fst.length + (List.map Q1 v6).length) * (32 : Nat) ≤ (140737488355328 : Nat) ∧ v2.fst.length + (List.map Q1 v6).length ≤ (9223372036854775807 : Nat) then
 some (v2.fst ++ v6) >>= fun v7 =>
 Zw x1 x2 v7 (wr (v2.snd + (1 : Int)))
 else none
 else
 some x5
 partial_fixpoint
theorem Ik (x1 : List Qa) (x2 : Qh) (x5 : List Q6) (x6 : Int) (o : List Q6) (h : Zw x1 x2 x5 x6 = some o) : LO 60 3 54 [1, 2, 5, 6] [.sl 4 (List.map Q4 x1), .ptr 0 0 0, .ow 1 0 3 (List.length x5), ii x6] [.cells 0 (Qs x2).cells, .own 0 3 (List.map Q1 x5)] [5] (Km (x1, x2) () o) :=
 Zw.partial_correctness x1 x2 (fun x5 x6 o => LO 60 3 54 [1, 2, 5, 6] [.sl 4 (List.map Q4 x1), .ptr 0 0 0, .ow 1 0 3 (List.length x5), ii x6] [.cells 0 (Qs x2).cells, .own 0 3 (List.map Q1 x5)] [5] (Km (x1, x2) () o))
 (fun Zw Q3r x5 x6 o h  =>
 Lp2 (hs := [(11, .n eI 11 none), (12, .split), (17, .e Q4), (20, .split), (47, .e Q4), (51, .c Qu), (52, .z [{ slot := 43, own := 3 }] (some (.n Q1 52 (some .a)))), (3000009, .l [] [1, 2, 5, 6, 7, 8] [kk 2, { slot := 5, own := 3 }, { slot := 7, own := 4 }] [1, 2, 5, 6, 7] [kk 2, { slot := 5, own := 3 }, { slot := 7, fz := true }] (VZ (x1, x2)))]) (kb := [kk 2, { slot := 5, own := 3 }]) (kbx := [{ slot := 5, own := 3 }]) ((kN _ (mLen (sh := Q4) x1) fun v0 => (kIfD (p := x6 < v0) (kIx (enc := Q4) (l := x1) (k := x6) fun v1 => (kIf (c := v1.fFrom == []) (kM0 (alts := Km (x1, x2) ()) (Q3r x5 (wr (x6 + (1 : Int)))))
 (kL1 (x5, x6) (Il x1 x2 x5 x6 [] (0 : Int)) fun v2 v4 => (kIx (enc := Q4) (l := x1) (k := v2.snd) fun v5 => (kC (sh := Qu) (Wu x2 v5.fFrom v4) fun v6 => (kA (q := (v2.fst.length + (List.map Q1 v6).length) * (32 : Nat) ≤ (140737488355328 : Nat) ∧ v2.fst.length + (List.map Q1 v6).length ≤ (9223372036854775807 : Nat)) (sh := Q1) (l := v2.fst) (kO (sh := Q1) (v2.fst ++ v6) (mAA (sh := Q1) v2.fst v6) (nAA (sh := Q1) v2.fst v6) fun v7 => (kM0 (alts := Km (x1, x2) ()) (Q3r v7 (wr (v2.snd + (1 : Int))))))))))))
 (kX (alts := Km (x1, x2) ()) x5 (.here _ rfl (.refl _) (.refl _))))) h)) x5 x6 o h
def JD (r : List Q6) : AV := .ow 0 0 3 (List.length r)
def Jw (r : List Q6) : List Box := [.own 0 3 (List.map Q1 r)]
def G7 (x0 : Qh) (x1 : List Qa) : Option (List Q6) :=
 some () >>= fun v0 =>
 Zw x1 x0 [] (0 : Int) >>= fun v2 =>
 some v2
theorem Mg (x0 : Qh) (x1 : List Qa) (r : List Q6) (h : G7 x0 x1 = some r) : PH 60 [Qs x0, Gq x1] [] (JD r) (Jw r) :=
 PuH2 (hs := [(3000004, .l [] [1, 2, 5, 6] [kk 2, { slot := 5, own := 3 }] [5] [{ slot := 5, own := 3 }] (Km (x1, x0)))]) (kb := [{ slot := 0, path := [], own := 3 }]) ((kL1 () (Ik x1 x0 [] (0 : Int)) fun v0 v2 => (kEH (enc := JD) (bt := Jw) v2 ⟨.refl _, .refl _⟩)) h)
def KR (r : List Q6) : AV := .ow 0 0 3 (List.length r)
def KN (r : List Q6) : List Box := [.own 0 3 (List.map Q1 r)]
theorem Ff {args : List AV} (r : List Q6) (h : PH 61 args [] (KR r) (KN r)) : PU 61 args (Qu r) := PuT1 h (by kernel_rfl) (And.intro (nM (sh := Q1) r) (LeT.refl (Qu r)))
def G2 (s : (Qh × Q2)) (u : Unit) (o : List Q6) : List Alt := [⟨fun (x : List Q6) => x = o, .exit 0, fun x => [.ow 0 0 3 (List.length x)], fun x => [.own 0 3 (List.map Q1 x)]⟩]
def GK (s : (Qh × Q2)) (u : Unit) (o : List Q6) : List Alt := [⟨fun (x : List Q6) => x = o, .normal, fun x => [.ptr 0 0 0, .ptr 1 0 0, .ow 2 0 3 (List.length x)], fun x => [.cells 0 (Qs (s.1)).cells, .cells 0 (Q8 (s.2)).cells, .own 0 3 (List.map Q1 x)]⟩]
mutual
def K3 (x0 : Qh) (x1 : Q2) : Option (List Q6) :=
 some () >>= fun v0 =>
 (if x1.fOp == (3 : Int) then
 G7 x0 x1.fIdx >>= fun v2 =>
 if (0 : Nat) = (0 : Nat) ∧ ((0 : Nat) + (List.map Q1 v2).length) * (32 : Nat) ≤ (140737488355328 : Nat) ∧ (0 : Nat) + (List.map Q1 v2).length ≤ (9223372036854775807 : Nat) then
 some ([] ++ v2) >>= fun v3 =>
 Uh x0 x1.fName x1.fIdx >>= fun v4 =>
 if (v3.length + (List.map Q1 v4).length) * (32 : Nat) ≤ (140737488355328 : Nat) ∧ v3.length + (List.map Q1 v4).length ≤ (9223372036854775807 : Nat) then
 some (v3 ++ v4) >>= fun v5 =>
 some v5
 else none
 else none
 else
 some []) >>= fun v6 =>
 some () >>= fun v7 =>
 XA x0 x1 v6 (0 : Int) >>= fun v9 =>
 some v9
 partial_fixpoint
def XA (x2 : Qh) (x3 : Q2) (x5 : List Q6) (x6 : Int) : Option (List Q6) :=
 some (List.length x3.fArgs : Int) >>= fun v0 =>
 if x6 < v0 then
 Option.map Qb.f (ix x3.fArgs x6) >>= fun v1 =>
 K3 x2 v1 >>= fun v2 =>
 if (x5.length + (List.map Q1 v2).length) * (32 : Nat) ≤ (140737488355328 : Nat) ∧ x5.length + (List.map Q1 v2).length ≤ (9223372036854775807 : Nat) then
 some (x5 ++ v2) >>= fun v3 =>
 XA x2 x3 v3 (wr (x6 + (1 : Int)))
 else none
 else
 some x5
 partial_fixpoint
end
theorem SI (x0 : Qh) : (∀ (x1 : Q2) (r : List Q6), K3 x0 x1 = some r → PH 61 [Qs x0, Q8 x1] [] (KR r) (KN r)) ∧ (∀ (x3 : Q2) (x5 : List Q6) (x6 : Int) (o : List Q6), XA x0 x3 x5 x6 = some o → LO 61 6 41 [2, 3, 5, 6] [.ptr 0 0 0, .ptr 1 0 0, .ow 2 0 3 (List.length x5), ii x6] [.cells 0 (Qs x0).cells, .cells 0 (Q8 x3).cells, .own 0 3 (List.map Q1 x5)] [5] (G2 (x0, x3) () o)) :=
 K3.mutual_partial_correctness x0 (fun x1 r => PH 61 [Qs x0, Q8 x1] [] (KR r) (KN r)) (fun x3 x5 x6 o => LO 61 6 41 [2, 3, 5, 6] [.ptr 0 0 0, .ptr 1 0 0, .ow 2 0 3 (List.length x5), ii x6] [.cells 0 (Qs x0).cells, .cells 0 (Q8 x3).cells, .own 0 3 (List.map Q1 x5)] [5] (G2 (x0, x3) () o))
 (fun XA Q3u x1 r h  =>
 PuH2 (hs := [(9, .split), (14, .h [] JD Jw), (15, .z [{ slot := 10, own := 3 }, { slot := 14, fz := true }] (some (.n Q1 15 (some .a)))), (22, .c Qu), (23, .z [{ slot := 16, own := 3 }] (some (.n Q1 23 (some .a)))), (3000007, .l [] [2, 3, 5, 6] [kk 2, kk 3, { slot := 5, own := 3 }] [5] [{ slot := 5, own := 3 }] (G2 (x0, x1))), (6000004, .l [] [] [] [2, 3, 5] [kk 2, kk 3, { slot := 5, own := 3 }] (GK (x0, x1)))]) (kb := [{ slot := 0, path := [], own := 3 }]) ((kJ1 (id := 6000004) () (fun v0 ev0 v1 => (kIf (c := x1.fOp == (3 : Int)) (kH (sh := JD) (bt := Jw) (Mg x0 x1.fIdx) fun v2 => (kT (nM (sh := Q1) v2) (kG (p := (0 : Nat) = (0 : Nat) ∧ ((0 : Nat) + (List.map Q1 v2).length) * (32 : Nat) ≤ (140737488355328 : Nat) ∧ (0 : Nat) + (List.map Q1 v2).length ≤ (9223372036854775807 : Nat)) (kO (sh := Q1) ([] ++ v2) (mAA (sh := Q1) [] v2) (nAA (sh := Q1) [] v2) fun v3 => (kC (sh := Qu) (Wu x0 x1.fName x1.fIdx) fun v4 => (kA (q := (v3.length + (List.map Q1 v4).length) * (32 : Nat) ≤ (140737488355328 : Nat) ∧ v3.length + (List.map Q1 v4).length ≤ (9223372036854775807 : Nat)) (sh := Q1) (l := v3) (kO (sh := Q1) (v3 ++ v4) (mAA (sh := Q1) v3 v4) (nAA (sh := Q1) v3 v4) fun v5 => (kXj (alts := GK (x0, x1)) ev0 v5 (.here _ rfl (.refl _) (.refl _))))))))))
 (kXj (alts := GK (x0, x1)) ev0 [] (.here _ rfl (.refl _) (.refl _)))))
 (fun v0 v6 => (kL1 () (Q3u x1 v6 (0 : Int)) fun v7 v9 => (kEH (enc := KR) (bt := KN) v9 ⟨.refl _, .refl _⟩)))) h))
 (fun K3 XA Q3t Q3u x3 x5 x6 o h  =>
 Lp2 (hs := [(27, .n eI 27 none), (28, .split), (36, .e Q8), (38, .c Qu), (39, .z [{ slot := 31, own := 3 }] (some (.n Q1 39 (some .a))))]) (kb := [kk 2, kk 3, { slot := 5, own := 3 }]) (kbx := [{ slot := 5, own := 3 }]) ((kN _ (mLen (sh := Qm) x3.fArgs) fun v0 => (kIfD (p := x6 < v0) (kIxR (l := x3.fArgs) (k := x6) QS fun v1 => (kC (sh := Qu) ((fun y hy => Ff y (Q3t v1 y hy))) fun v2 => (kA (q := (x5.length + (List.map Q1 v2).length) * (32 : Nat) ≤ (140737488355328 : Nat) ∧ x5.length + (List.map Q1 v2).length ≤ (9223372036854775807 : Nat)) (sh := Q1) (l := x5) (kO (sh := Q1) (x5 ++ v2) (mAA (sh := Q1) x5 v2) (nAA (sh := Q1) x5 v2) fun v3 => (kM0 (alts := G2 (x0, x3) ()) (Q3u x3 v3 (wr (x6 + (1 : Int)))))))))
 (kX (alts := G2 (x0, x3) ()) x5 (.here _ rfl (.refl _) (.refl _))))) h))
theorem Im (x0 : Qh) (x1 : Q2) (r : List Q6) (h : K3 x0 x1 = some r) : PH 61 [Qs x0, Q8 x1] [] (KR r) (KN r) := (SI x0).1 x1 r h
def Ut (s : (Qh × Qc)) (u : Unit) (o : List Q6) : List Alt := [⟨fun (x : List Q6) => x = o, .exit 0, fun x => [.sl 3 (List.map Q1 x)], fun x => []⟩]
def VS (s : (Qh × Qc)) (u : Unit) (o : Bool) : List Alt := jb o (fun b => [.ptr 0 0 0, .ptr 1 0 0, .bool b]) [.cells 0 (Qs (s.1)).cells, .cells 0 (Qn (s.2)).cells]
def Gp (s : (Qh × Qc)) (u : Unit) (o : List Q6) : List Alt := [⟨fun (x : List Q6) => x = o, .normal, fun x => [.ptr 0 0 0, .ptr 1 0 0, .ow 2 0 3 (List.length x)], fun x => [.cells 0 (Qs (s.1)).cells, .cells 0 (Qn (s.2)).cells, .own 0 3 (List.map Q1 x)]⟩]
def K0 (s : (Qh × Qc)) (u : ((List Q6) × Int)) (o : Bool) : List Alt := jb o (fun b => [.ptr 0 0 0, .ptr 1 0 0, .ow 2 0 3 (List.length (u.1)), ii (u.2), .bool b]) [.cells 0 (Qs (s.1)).cells, .cells 0 (Qn (s.2)).cells, .own 0 3 (List.map Q1 (u.1))]
mutual
def V6 (x0 : Qh) (x1 : Qc) : Option (List Q6) :=
 some () >>= fun v0 =>
 (if x1.fOp == (2 : Int) then
 some true
 else
 if x1.fOp == (3 : Int) then
 some true
 else
 some false) >>= fun v1 => if v1 then
 G7 x0 x1.fIdx >>= fun v3 =>
 K3 x0 x1.fExpr >>= fun v4 =>
 if (v3.length + (List.map Q1 v4).length) * (32 : Nat) ≤ (140737488355328 : Nat) ∧ v3.length + (List.map Q1 v4).length ≤ (9223372036854775807 : Nat) then
 some (v3 ++ v4) >>= fun v5 =>
 some v5
 else none
 else
 some () >>= fun v7 =>
 (if x1.fOp == (4 : Int) then
 K3 x0 x1.fExpr >>= fun v9 =>
 some v9
 else
 some []) >>= fun v10 =>
 some () >>= fun v11 =>
 X6 x0 x1 v10 (0 : Int) >>= fun v13 =>
 some v13
 partial_fixpoint
def X6 (x2 : Qh) (x3 : Qc) (x5 : List Q6) (x6 : Int) : Option (List Q6) :=
 some (x5, x6) >>= fun v0 =>
 (some (List.length x3.fBody : Int) >>= fun v2 =>
 if x6 < v2 then
 if x3.fOp == (1 : Int) then
 some true
 else
 if x3.fOp == (4 : Int) then
 some true
 else
 some false
 else
 some false) >>= fun v1 => if v1 then
 Option.map Q9.f (ix x3.fBody v0.snd) >>= fun v4 =>
 V6 x2 v4 >>= fun v5 =>
 if (v0.fst.length + (List.map Q1 v5).length) * (32 : Nat) ≤ (140737488355328 : Nat) ∧ v0.fst.length + (List.map Q1 v5).length ≤ (9223372036854775807 : Nat) then
 some (v0.fst ++ v5) >>= fun v6 =>
 X6 x2 x3 v6 (wr (v0.snd + (1 : Int)))
 else none
 else
 some v0.fst
 partial_fixpoint
end
theorem Tq (x0 : Qh) : (∀ (x1 : Qc) (r : List Q6), V6 x0 x1 = some r → PU 39 [Qs x0, Qn x1] (Qu r)) ∧ (∀ (x3 : Qc) (x5 : List Q6) (x6 : Int) (o : List Q6), X6 x0 x3 x5 x6 = some o → LO 39 7 58 [2, 3, 5, 6] [.ptr 0 0 0, .ptr 1 0 0, .ow 2 0 3 (List.length x5), ii x6] [.cells 0 (Qs x0).cells, .cells 0 (Qn x3).cells, .own 0 3 (List.map Q1 x5)] [5] (Ut (x0, x3) () o)) :=
 V6.mutual_partial_correctness x0 (fun x1 r => PU 39 [Qs x0, Qn x1] (Qu r)) (fun x3 x5 x6 o => LO 39 7 58 [2, 3, 5, 6] [.ptr 0 0 0, .ptr 1 0 0, .ow 2 0 3 (List.length x5), ii x6] [.cells 0 (Qs x0).cells, .cells 0 (Qn x3).cells, .own 0 3 (List.map Q1 x5)] [5] (Ut (x0, x3) () o))
 (fun X6 Q3i x1 r h  =>
 Pu2 (hs := [(9, .split), (13, .split), (18, .h [] JD Jw), (22, .h [] KR KN), (23, .z [{ slot := 18, own := 3 }, { slot := 22, fz := true }] (some (.n Q1 23 (some .a)))), (26, .split), (30, .h [] KR KN), (3000008, .l [] [2, 3, 5, 6] [kk 2, kk 3, { slot := 5, own := 3 }] [5] [{ slot := 5, fz := true }] (Ut (x0, x1))), (5000001, .l [] [] [] [2, 3, 14] [kk 2, kk 3] (VS (x0, x1))), (6000006, .l [] [] [] [2, 3, 5] [kk 2, kk 3, { slot := 5, own := 3 }] (Gp (x0, x1)))]) ((kJb (id := 5000001) () (fun v0 ev0 v1 => (kIf (c := x1.fOp == (2 : Int)) (kXj (alts := VS (x0, x1)) ev0 true (.here () rfl (.refl _) (.refl _)))
 (kIf (c := x1.fOp == (3 : Int)) (kXj (alts := VS (x0, x1)) ev0 true (.here () rfl (.refl _) (.refl _)))
 (kXj (alts := VS (x0, x1)) ev0 false (.next (.here () rfl (.refl _) (.refl _)))))))
 (fun v0 => (kH (sh := JD) (bt := Jw) (Mg x0 x1.fIdx) fun v3 => (kH (sh := KR) (bt := KN) (Im x0 x1.fExpr) fun v4 => (kT (nM (sh := Q1) v4) (kA (q := (v3.length + (List.map Q1 v4).length) * (32 : Nat) ≤ (140737488355328 : Nat) ∧ v3.length + (List.map Q1 v4).length ≤ (9223372036854775807 : Nat)) (sh := Q1) (l := v3) (kO (sh := Q1) (v3 ++ v4) (mAA (sh := Q1) v3 v4) (nAA (sh := Q1) v3 v4) fun v5 => (kT (nM (sh := Q1) v5) (kEr (enc := Qu) v5))))))))
 (fun v0 => (kJ1 (id := 6000006) () (fun v7 ev7 v8 => (kIf (c := x1.fOp == (4 : Int)) (kH (sh := KR) (bt := KN) (Im x0 x1.fExpr) fun v9 => (kXj (alts := Gp (x0, x1)) ev7 v9 (.here _ rfl (.refl _) (.refl _))))
 (kXj (alts := Gp (x0, x1)) ev7 [] (.here _ rfl (.refl _) (.refl _)))))
 (fun v7 v10 => (kL1 () (Q3i x1 v10 (0 : Int)) fun v11 v13 => (kEr (enc := Qu) v13)))))) h))
 (fun V6 X6 Q3h Q3i x3 x5 x6 o h  =>
 Lp2 (hs := [(34, .n eI 34 none), (35, .split), (39, .split), (43, .split), (53, .e Qn), (55, .c Qu), (56, .z [{ slot := 48, own := 3 }] (some (.n Q1 56 (some .a)))), (5000007, .l [] [] [] [2, 3, 5, 6, 45] [kk 2, kk 3, { slot := 5, own := 3 }] (K0 (x0, x3)))]) (kb := [kk 2, kk 3, { slot := 5, own := 3 }]) (kbx := [{ slot := 5, fz := true }]) ((kJb (id := 5000007) (x5, x6) (fun v0 ev0 v1 => (kN _ (mLen (sh := Qq) x3.fBody) fun v2 => (kIfD (p := x6 < v2) (kIf (c := x3.fOp == (1 : Int)) (kXj (alts := K0 (x0, x3)) ev0 true (.here () rfl (.refl _) (.refl _)))
 (kIf (c := x3.fOp == (4 : Int)) (kXj (alts := K0 (x0, x3)) ev0 true (.here () rfl (.refl _) (.refl _)))
 (kXj (alts := K0 (x0, x3)) ev0 false (.next (.here () rfl (.refl _) (.refl _))))))
 (kXj (alts := K0 (x0, x3)) ev0 false (.next (.here () rfl (.refl _) (.refl _)))))))
 (fun v0 => (kIxR (l := x3.fBody) (k := v0.snd) QW fun v4 => (kC (sh := Qu) (Q3h v4) fun v5 => (kA (q := (v0.fst.length + (List.map Q1 v5).length) * (32 : Nat) ≤ (140737488355328 : Nat) ∧ v0.fst.length + (List.map Q1 v5).length ≤ (9223372036854775807 : Nat)) (sh := Q1) (l := v0.fst) (kO (sh := Q1) (v0.fst ++ v5) (mAA (sh := Q1) v0.fst v5) (nAA (sh := Q1) v0.fst v5) fun v6 => (kM0 (alts := Ut (x0, x3) ()) (Q3i x3 v6 (wr (v0.snd + (1 : Int))))))))))
 (fun v0 => (kT (nM (sh := Q1) v0.fst) (kX (alts := Ut (x0, x3) ()) v0.fst (.here _ rfl (.refl _) (.refl _)))))) h))
theorem A5 (x0 : Qh) (x1 : Qc) (r : List Q6) (h : V6 x0 x1 = some r) : PU 39 [Qs x0, Qn x1] (Qu r) := (Tq x0).1 x1 r h
def G3 (s : Unit) (u : Qc) (o : Qc) : List Alt := [⟨fun (x : Qc) => x = o, .exit 0, fun x => [.ptr 0 0 0, .ptr 1 0 0], fun x => [.cells 0 (Qn x).cells, .cells 0 (Qn u).cells]⟩]
def Ko (s : Qc) (u : (Qc × Int)) (o : Bool) : List Alt := jb o (fun b => [.ptr 0 0 0, .ptr 1 0 0, ii (u.2), .bool b]) [.cells 0 (Qn (u.1)).cells, .cells 0 (Qn s).cells]
def KP (x1 : Qc) (x3 : Int) : Option Qc :=
 some (x1, x3) >>= fun v0 =>
 (if x3 ≤ (40 : Int) then
 if x1.fOp == (4 : Int) then
 some (List.length x1.fBody : Int) >>= fun v2 =>
 if v2 == (1 : Int) then
 some true
 else
 some false
 else
 some false
 else
 some false) >>= fun v1 => if v1 then
 Option.map Q9.f (ix v0.fst.fBody (0 : Int)) >>= fun v4 =>
 KP v4 (wr (v0.snd + (1 : Int)))
 else
 some v0.fst
 partial_fixpoint
theorem Ry (x1 : Qc) (x2 : Qc) (x3 : Int) (o : Qc) (h : KP x1 x3 = some o) : LO 40 2 24 [1, 2, 3] [.ptr 0 0 0, .ptr 1 0 0, ii x3] [.cells 0 (Qn x1).cells, .cells 0 (Qn x2).cells] [1, 2] (G3 () x2 o) :=
 KP.partial_correctness  (fun x1 x3 o => ∀ (x2 : Qc), LO 40 2 24 [1, 2, 3] [.ptr 0 0 0, .ptr 1 0 0, ii x3] [.cells 0 (Qn x1).cells, .cells 0 (Qn x2).cells] [1, 2] (G3 () x2 o))
 (fun KP Q44 x1 x3 o h x2 =>
 Lp2 (hs := [(5, .split), (9, .split), (14, .n eI 14 none), (15, .split), (21, .e Qn), (5000002, .l [] [] [] [1, 2, 3, 16] [kk 1, kk 2] (Ko x2))]) (kb := [kk 1, kk 2]) (kbx := [kk 1, kk 2]) ((kJb (id := 5000002) (x1, x3) (fun v0 ev0 v1 => (kIfD (p := x3 ≤ (40 : Int)) (kIf (c := x1.fOp == (4 : Int)) (kN _ (mLen (sh := Qq) x1.fBody) fun v2 => (kIf (c := v2 == (1 : Int)) (kXj (alts := Ko x2) ev0 true (.here () rfl (.refl _) (.refl _)))
 (kXj (alts := Ko x2) ev0 false (.next (.here () rfl (.refl _) (.refl _))))))
 (kXj (alts := Ko x2) ev0 false (.next (.here () rfl (.refl _) (.refl _)))))
 (kXj (alts := Ko x2) ev0 false (.next (.here () rfl (.refl _) (.refl _))))))
 (fun v0 => (kIxR (l := v0.fst.fBody) (k := (0 : Int)) QW fun v4 => (kM0 (alts := G3 () x2) (fun y hy => Q44 v4 (wr (v0.snd + (1 : Int))) y hy x2))))
 (fun v0 => (kX (alts := G3 () x2) v0.fst (.here _ rfl (.refl _) (.refl _))))) h)) x1 x3 o h x2
def W6 (x0 : Qc) : Option Qc :=
 some (Xc.mk (0 : Int) [] (0 : Int) (0 : Int) (0 : Int) [] (QO.mk (0 : Int) [] (gVal.mk (0 : Int) (0 : Int)) (Qi.mk (0 : Int) (0 : Int) (0 : Int) (0 : Int) (0 : Int)) (gLin.mk (0 : Int) []) [] [] : Q2) [] : Qc) >>= fun v0 =>
 KP x0 (0 : Int) >>= fun v2 =>
 some v2
theorem Fd (x0 : Qc) (r : Qc) (h : W6 x0 = some r) : PU 40 [Qn x0] (Qn r) :=
 Pu2 (hs := [(3000003, .l [] [1, 2, 3] [kk 1, kk 2] [1, 2] [kk 1, kk 2] (G3 ()))]) ((kL1 (Xc.mk (0 : Int) [] (0 : Int) (0 : Int) (0 : Int) [] (QO.mk (0 : Int) [] (gVal.mk (0 : Int) (0 : Int)) (Qi.mk (0 : Int) (0 : Int) (0 : Int) (0 : Int) (0 : Int)) (gLin.mk (0 : Int) []) [] [] : Q2) [] : Qc) (fun y hy => ZC.le (.cons (LeV.refl (AV.ptr (0 : Nat) (0 : Nat) (0 : Nat))) (.cons (LeV.refl (AV.ptr (1 : Nat) (0 : Nat) (0 : Nat))) (.cons (LeV.refl (ii (0 : Int))) .nil))) (.cons (LeB.refl (Box.cells (0 : Nat) [ii x0.fOp, AV.str x0.fName, ii x0.fMany, ii x0.fMark, ii x0.fFold, AV.sl (4 : Nat) (List.map Q4 x0.fIdx), ii x0.fExpr.fOp, AV.str x0.fExpr.fName, ii x0.fExpr.fVal.fN, ii x0.fExpr.fVal.fD, ii x0.fExpr.fType.fKind, ii x0.fExpr.fType.fBits, ii x0.fExpr.fType.fFrac, ii x0.fExpr.fType.fRound, ii x0.fExpr.fType.fOver, ii x0.fExpr.fLin.fK, AV.sl (2 : Nat) (List.map Qf x0.fExpr.fLin.fL), AV.sl (4 : Nat) (List.map Q4 x0.fExpr.fIdx), AV.sl (13 : Nat) (List.map Qm x0.fExpr.fArgs), AV.sl (20 : Nat) (List.map Qq x0.fBody)])) (.cons (LeB.cells (0 : Nat) (.cons (LeV.refl (ii (0 : Int))) (.cons (LeV.refl (AV.str [])) (.cons (LeV.refl (ii (0 : Int))) (.cons (LeV.refl (ii (0 : Int))) (.cons (LeV.refl (ii (0 : Int))) (.cons (LeV.nil 4) (.cons (LeV.refl (ii (0 : Int))) (.cons (LeV.refl (AV.str [])) (.cons (LeV.refl (ii (0 : Int))) (.cons (LeV.refl (ii (0 : Int))) (.cons (LeV.refl (ii (0 : Int))) (.cons (LeV.refl (ii (0 : Int))) (.cons (LeV.refl (ii (0 : Int))) (.cons (LeV.refl (ii (0 : Int))) (.cons (LeV.refl (ii (0 : Int))) (.cons (LeV.refl (ii (0 : Int))) (.cons (LeV.nil 2) (.cons (LeV.nil 4) (.cons (LeV.nil 13) (.cons (LeV.nil 20) .nil))))))))))))))))))))) .nil)) (Ry x0 (Xc.mk (0 : Int) [] (0 : Int) (0 : Int) (0 : Int) [] (QO.mk (0 : Int) [] (gVal.mk (0 : Int) (0 : Int)) (Qi.mk (0 : Int) (0 : Int) (0 : Int) (0 : Int) (0 : Int)) (gLin.mk (0 : Int) []) [] [] : Q2) [] : Qc) (0 : Int) y hy)) fun v0 v2 => (kEr (enc := Qn) v2)) h)
def Np (x0 : Qh) (x1 : Qc) : Option Kb :=
 Kt x0 x1 >>= fun v0 =>
 V6 x0 x1 >>= fun v1 =>
 W6 x1 >>= fun v2 =>
 some ((Kb.mk v0 v1 v2)) >>= fun v3 =>
 some v3
theorem Rz (x0 : Qh) (x1 : Qc) (r : Kb) (h : Np x0 x1 = some r) : PU 19 [Qs x0, Qn x1] (Y5 r) :=
 Pu2 (hs := [(7, .c Qu), (10, .c Qu), (12, .c Qn), (13, .n Y5 13 none)]) ((kC (sh := Qu) (TC x0 x1) fun v0 => (kC (sh := Qu) (A5 x0 x1) fun v1 => (kC (sh := Qn) (Fd x1) fun v2 => (kW (sh := Y5) (Kb.mk v0 v1 v2) lr fun v3 => (kEr (enc := Y5) v3))))) h)
def Kq (s : ((List Q6) × (List Q6))) (u : Int) (o : Unit ⊕ Bool) : List Alt := [⟨fun (x : Unit) => (Sum.inl x : Unit ⊕ Bool) = o, .exit 2, fun x => [.sl 3 (List.map Q1 s.1), .sl 3 (List.map Q1 s.2), .undef, ii u], fun x => []⟩, ⟨fun (x : Bool) => (Sum.inr x : Unit ⊕ Bool) = o, .ret, fun x => [.sl 3 (List.map Q1 s.1), .sl 3 (List.map Q1 s.2), .bool x, ii u], fun x => []⟩]
def KM (s : ((List Q6) × (List Q6) × Int)) (u : Int) (o : Bool) : List Alt := jb o (fun b => [.sl 3 (List.map Q1 (s.1)), .sl 3 (List.map Q1 (s.2.1)), ii (s.2.2), ii u, .bool b]) []
def ZY (x0 : List Q6) (x1 : List Q6) (x5 : Int) (x6 : Int) : Option (Unit ⊕ Bool) :=
 some (List.length x1 : Int) >>= fun v0 =>
 if x6 < v0 then
 some x6 >>= fun v1 =>
 (ix x0 x5 >>= fun v3 =>
 ix x1 x6 >>= fun v4 =>
 if v3.fBuffer == v4.fBuffer then
 ix x0 x5 >>= fun v5 =>
 ix x1 x6 >>= fun v6 =>
 ix x0 x5 >>= fun v7 =>
 ix x1 x6 >>= fun v8 =>
 if (if true = true then max v5.fFrom v6.fFrom else min v5.fFrom v6.fFrom) < if false = true then max v7.fTo v8.fTo else min v7.fTo v8.fTo then
 some true
 else
 some false
 else
 some false) >>= fun v2 => if v2 then
 some (.inr true)
 else
 ZY x0 x1 x5 (wr (v1 + (1 : Int)))
 else
 some (.inl ())
 partial_fixpoint
theorem Iq (x0 : List Q6) (x1 : List Q6) (x5 : Int) (x6 : Int) (o : Unit ⊕ Bool) (h : ZY x0 x1 x5 x6 = some o) : LO 37 5 55 [0, 1, 5, 6] [.sl 3 (List.map Q1 x0), .sl 3 (List.map Q1 x1), ii x5, ii x6] [] [0, 1, 4, 5] (Kq (x0, x1) x5 o) :=
 ZY.partial_correctness x0 x1 x5 (fun x6 o => LO 37 5 55 [0, 1, 5, 6] [.sl 3 (List.map Q1 x0), .sl 3 (List.map Q1 x1), ii x5, ii x6] [] [0, 1, 4, 5] (Kq (x0, x1) x5 o))
 (fun ZY Q46 x6 o h  =>
 Lp2 (hs := [(15, .n eI 15 none), (16, .split), (21, .e Q1), (26, .e Q1), (29, .split), (33, .e Q1), (38, .e Q1), (44, .e Q1), (49, .e Q1), (53, .split), (5000007, .l [] [] [] [0, 1, 5, 6, 54] [] (KM (x0, x1, x5)))]) (kb := []) (kbx := []) ((kN _ (mLen (sh := Q1) x1) fun v0 => (kIfD (p := x6 < v0) (kJb (id := 5000007) x6 (fun v1 ev1 v2 => (kIx (enc := Q1) (l := x0) (k := x5) fun v3 => (kIx (enc := Q1) (l := x1) (k := x6) fun v4 => (kIf (c := v3.fBuffer == v4.fBuffer) (kIx (enc := Q1) (l := x0) (k := x5) fun v5 => (kIx (enc := Q1) (l := x1) (k := x6) fun v6 => (kIx (enc := Q1) (l := x0) (k := x5) fun v7 => (kIx (enc := Q1) (l := x1) (k := x6) fun v8 => (kIfD (p := (if true = true then max v5.fFrom v6.fFrom else min v5.fFrom v6.fFrom) < if false = true then max v7.fTo v8.fTo else min v7.fTo v8.fTo) (kXj (alts := KM (x0, x1, x5)) ev1 true (.here () rfl (.refl _) (.refl _)))
 (kXj (alts := KM (x0, x1, x5)) ev1 false (.next (.here () rfl (.refl _) (.refl _)))))))))
 (kXj (alts := KM (x0, x1, x5)) ev1 false (.next (.here () rfl (.refl _) (.refl _))))))))
 (fun v1 => (kX (alts := Kq (x0, x1) x5) (.inr true) (.next (.here _ rfl (.refl _) (.refl _)))))
 (fun v1 => (kM0 (alts := Kq (x0, x1) x5) (Q46 (wr (v1 + (1 : Int)))))))
 (kX (alts := Kq (x0, x1) x5) (.inl ()) (.here _ rfl (.refl _) (.refl _))))) h)) x6 o h
def Kp (s : ((List Q6) × (List Q6))) (u : Unit) (o : Unit ⊕ Bool) : List Alt := [⟨fun (x : Unit) => (Sum.inl x : Unit ⊕ Bool) = o, .exit 0, fun x => [.undef], fun x => []⟩, ⟨fun (x : Bool) => (Sum.inr x : Unit ⊕ Bool) = o, .ret, fun x => [.bool x], fun x => []⟩]
def ZX (x0 : List Q6) (x1 : List Q6) (x5 : Int) : Option (Unit ⊕ Bool) :=
 some (List.length x0 : Int) >>= fun v0 =>
 if x5 < v0 then
 some x5 >>= fun v1 =>
 ZY x0 x1 x5 (0 : Int) >>= fun v2 => (match v2 with
 | (.inl v3) =>
 ZX x0 x1 (wr (v1 + (1 : Int)))
 | (.inr v4) =>
 some (.inr v4))
 else
 some (.inl ())
 partial_fixpoint
end Go.Proofs.YtokfigmmegifeaaGreat
end
