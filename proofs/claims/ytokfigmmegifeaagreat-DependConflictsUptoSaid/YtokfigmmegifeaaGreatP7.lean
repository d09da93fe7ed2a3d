/- Proved in the last of these texts: for every input of bulk at most 1048576 the law returns true and its arguments read afterwards as they read before. This text: a part of the proof. -/
import Derived.Test.YtokfigmmegifeaaGreatP6
noncomputable section
namespace Go.Proofs.YtokfigmmegifeaaGreat
open Go HY
set_option maxRecDepth 1000000
set_option linter.unusedVariables false
theorem Ip (x0 : List Q6) (x1 : List Q6) (x5 : Int) (o : Unit ⊕ Bool) (h : ZX x0 x1 x5 = some o) : LO 37 2 55 [0, 1, 5] [.sl 3 (List.map Q1 x0), .sl 3 (List.map Q1 x1), ii x5] [] [4] (Kp (x0, x1) () o) :=
 ZX.partial_correctness x0 x1 (fun x5 o => LO 37 2 55 [0, 1, 5] [.sl 3 (List.map Q1 x0), .sl 3 (List.map Q1 x1), ii x5] [] [4] (Kp (x0, x1) () o))
 (fun ZX Q45 x5 o h  =>
 Lp2 (hs := [(9, .n eI 9 none), (10, .split), (3000006, .l [] [0, 1, 5, 6] [] [0, 1, 4, 5] [] (Kq (x0, x1)))]) (kb := []) (kbx := []) ((kN _ (mLen (sh := Q1) x0) fun v0 => (kIfD (p := x5 < v0) (kL2 x5 (hL := (Iq x0 x1 x5 (0 : Int))) (hA := fun v1 v3 => (kM0 (alts := Kp (x0, x1) ()) (Q45 (wr (v1 + (1 : Int))))))
 (hB := fun v1 v4 => (kX (alts := Kp (x0, x1) ()) (.inr v4) (.next (.here _ rfl (.refl _) (.refl _))))))
 (kX (alts := Kp (x0, x1) ()) (.inl ()) (.here _ rfl (.refl _) (.refl _))))) h)) x5 o h
def JB (x0 : List Q6) (x1 : List Q6) : Option Bool :=
 some () >>= fun v0 =>
 ZX x0 x1 (0 : Int) >>= fun v1 => (match v1 with
 | (.inl v2) =>
 some false
 | (.inr v3) =>
 some v3)
theorem Wc (x0 : List Q6) (x1 : List Q6) (r : Bool) (h : JB x0 x1 = some r) : PU 37 [Qu x0, Qu x1] (eB r) :=
 Pu2 (hs := [(3000003, .l [] [0, 1, 5] [] [4] [] (Kp (x0, x1)))]) ((kL2 () (hL := (Ip x0 x1 (0 : Int))) (hA := fun v0 v2 => (kEr (enc := eB) false))
 (hB := fun v0 v3 => (kEr (enc := eB) v3))) h)
def VT (s : Unit) (u : Unit) (o : Bool) : List Alt := jb o (fun b => [.bool b]) []
def Nc (x0 : Kb) (x1 : Kb) : Option Int :=
 JB x0.fWrites x1.fReads >>= fun v0 => if v0 then
 some (1 : Int)
 else
 JB x0.fReads x1.fWrites >>= fun v1 => if v1 then
 some (2 : Int)
 else
 JB x0.fWrites x1.fWrites >>= fun v2 => if v2 then
 some () >>= fun v3 =>
 (if x0.fCore.fOp == (3 : Int) then
 if x1.fCore.fOp == (3 : Int) then
 some true
 else
 some false
 else
 some false) >>= fun v4 => if v4 then
 some (4 : Int)
 else
 some (3 : Int)
 else
 some (0 : Int)
theorem A7 (x0 : Kb) (x1 : Kb) (r : Int) (h : Nc x0 x1 = some r) : PU 18 [Y5 x0, Y5 x1] (eI r) :=
 Pu2 (hs := [(9, .cb), (14, .cb), (19, .cb), (24, .split), (29, .split), (5000007, .l [] [] [] [30] [] (VT ()))]) ((kCb (Wc x0.fWrites x1.fReads) (kEr (enc := eI) (1 : Int))
 (kCb (Wc x0.fReads x1.fWrites) (kEr (enc := eI) (2 : Int))
 (kCb (Wc x0.fWrites x1.fWrites) (kJb (id := 5000007) () (fun v3 ev3 v4 => (kIf (c := x0.fCore.fOp == (3 : Int)) (kIf (c := x1.fCore.fOp == (3 : Int)) (kXj (alts := VT ()) ev3 true (.here () rfl (.refl _) (.refl _)))
 (kXj (alts := VT ()) ev3 false (.next (.here () rfl (.refl _) (.refl _)))))
 (kXj (alts := VT ()) ev3 false (.next (.here () rfl (.refl _) (.refl _))))))
 (fun v3 => (kEr (enc := eI) (4 : Int)))
 (fun v3 => (kEr (enc := eI) (3 : Int))))
 (kEr (enc := eI) (0 : Int))))) h)
def Df (x0 : Qh) (x1 : Qc) (x2 : Qc) : Option Int :=
 Np x0 x1 >>= fun v0 =>
 Np x0 x2 >>= fun v1 =>
 Nc v0 v1 >>= fun v2 =>
 some v2
theorem EL (x0 : Qh) (x1 : Qc) (x2 : Qc) (r : Int) (h : Df x0 x1 x2 = some r) : PU 9 [Qs x0, Qn x1, Qn x2] (eI r) :=
 Pu2 (hs := [(9, .c Y5), (12, .c Y5), (13, .c eI)]) ((kC (sh := Y5) (Rz x0 x1) fun v0 => (kC (sh := Y5) (Rz x0 x2) fun v1 => (kC (sh := eI) (A7 v0 v1) fun v2 => (kEr (enc := eI) v2)))) h)
end Go.Proofs.YtokfigmmegifeaaGreat
end
