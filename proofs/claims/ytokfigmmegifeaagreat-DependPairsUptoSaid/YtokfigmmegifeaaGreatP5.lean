/- Proved in the last of these texts: for every input of bulk at most 1048576 the law returns true and its arguments read afterwards as they read before. This text: a part of the proof. -/
import Derived.Test.YtokfigmmegifeaaGreatP4
noncomputable section
namespace Go.Proofs.YtokfigmmegifeaaGreat
open Go HY
set_option maxRecDepth 1000000
set_option linter.unusedVariables false
def Ge (s : (Int × Q1)) (u : Int) (o : Int) : List Alt := [⟨fun (x : Int) => x = o, .exit 2, fun x => [ii s.1, .ptr 0 0 0, ii x, ii u], fun x => [.cells 0 (Q6 s.2).cells]⟩]
def Jp (s : (Int × Q1 × Int)) (u : (Int × Int)) (o : Bool) : List Alt := jb o (fun b => [ii (s.1), .ptr 0 0 0, ii (u.1), ii (s.2.2), ii (u.2), .bool b]) [.cells 0 (Q6 (s.2.1)).cells]
def Yn (x1 : Int) (x2 : Q1) (x5 : Int) (x6 : Int) (x7 : Int) : Option Int :=
 some (x5, x7) >>= fun v0 =>
 (ix x2.fIdx x6 >>= fun v2 =>
 some (List.length v2.fAt : Int) >>= fun v3 =>
 if x7 < v3 then
 if x5 ≤ x1 then
 some true
 else
 some false
 else
 some false) >>= fun v1 => if v1 then
 ix x2.fIdx x6 >>= fun v5 =>
 ix v5.fAt v0.snd >>= fun v6 =>
 some (List.length v6.fL : Int) >>= fun v7 =>
 some (wr (v0.fst + v7) : Int) >>= fun v8 =>
 Yn x1 x2 v8 x6 (wr (v0.snd + 1))
 else
 some v0.fst
 partial_fixpoint
theorem RX (x1 : Int) (x2 : Q1) (x5 : Int) (x6 : Int) (x7 : Int) (o : Int) (h : Yn x1 x2 x5 x6 x7 = some o) : LO 44 7 101 [1, 2, 5, 6, 7] [ii x1, .ptr 0 0 0, ii x5, ii x6, ii x7] [.cells 0 (Q6 x2).cells] [1, 2, 5, 6] (Ge (x1, x2) x6 o) :=
 Yn.partial_correctness x1 x2 x6 (fun x5 x7 o => LO 44 7 101 [1, 2, 5, 6, 7] [ii x1, .ptr 0 0 0, ii x5, ii x6, ii x7] [.cells 0 (Q6 x2).cells] [1, 2, 5, 6] (Ge (x1, x2) x6 o))
 (fun Yn Q32 x5 x7 o h  =>
 Lp2 (hs := [(5, .n eI 5 none), (5, .n eI 5 none), (52, .e Q3), (55, .n eI 55 none), (56, .split), (60, .split), (68, .e Q3), (72, .e Qi), (75, .n eI 75 none), (5, .n eI 5 none), (5, .n eI 5 none), (5000007, .l [] [] [] [1, 2, 5, 6, 7, 61] [kk 2] (Jp (x1, x2, x6)))]) (kb := [kk 2]) (kbx := [kk 2]) ((kJb (id := 5000007) (x5, x7) (fun v0 ev0 v1 => (kIx (enc := Q3) (l := x2.fIdx) (k := x6) fun v2 => (kN _ (mLen (sh := Qi) v2.fAt) fun v3 => (kIfD (p := x7 < v3) (kIfD (p := x5 ≤ x1) (kXj (alts := Jp (x1, x2, x6)) ev0 true (.here () rfl (.refl _) (.refl _)))
 (kXj (alts := Jp (x1, x2, x6)) ev0 false (.next (.here () rfl (.refl _) (.refl _)))))
 (kXj (alts := Jp (x1, x2, x6)) ev0 false (.next (.here () rfl (.refl _) (.refl _))))))))
 (fun v0 => (kIx (enc := Q3) (l := x2.fIdx) (k := x6) fun v5 => (kIx (enc := Qi) (l := v5.fAt) (k := v0.snd) fun v6 => (kN _ (mLen (sh := Qe) v6.fL) fun v7 => (kN (wr (v0.fst + v7)) rfl fun v8 => (kM0 (alts := Ge (x1, x2) x6) (Q32 v8 (wr (v0.snd + 1)))))))))
 (fun v0 => (kX (alts := Ge (x1, x2) x6) v0.fst (.here _ rfl (.refl _) (.refl _))))) h)) x5 x7 o h
def Gd (s : (Int × Q1)) (u : Unit) (o : Int) : List Alt := [⟨fun (x : Int) => x = o, .exit 0, fun x => [ii s.1, .ptr 0 0 0, ii x], fun x => [.cells 0 (Q6 s.2).cells]⟩]
def Jo (s : (Int × Q1)) (u : (Int × Int)) (o : Bool) : List Alt := jb o (fun b => [ii (s.1), .ptr 0 0 0, ii (u.1), ii (u.2), .bool b]) [.cells 0 (Q6 (s.2)).cells]
def Ym (x1 : Int) (x2 : Q1) (x5 : Int) (x6 : Int) : Option Int :=
 some (x5, x6) >>= fun v0 =>
 (some (List.length x2.fIdx : Int) >>= fun v2 =>
 if x6 < v2 then
 if x5 ≤ x1 then
 some true
 else
 some false
 else
 some false) >>= fun v1 => if v1 then
 ix x2.fIdx v0.snd >>= fun v4 =>
 ix x2.fIdx v0.snd >>= fun v5 =>
 some (List.length v4.fLin.fL : Int) >>= fun v6 =>
 some (List.length v5.fAt : Int) >>= fun v7 =>
 some (wr (wr (v0.fst + (↑(List.map Qe v4.fLin.fL).length : Int)) + v7) : Int) >>= fun v8 =>
 some v0.snd >>= fun v9 =>
 Yn x1 x2 v8 v0.snd 0 >>= fun v11 =>
 Ym x1 x2 v11 (wr (v9 + 1))
 else
 some v0.fst
 partial_fixpoint
theorem RW (x1 : Int) (x2 : Q1) (x5 : Int) (x6 : Int) (o : Int) (h : Ym x1 x2 x5 x6 = some o) : LO 44 3 101 [1, 2, 5, 6] [ii x1, .ptr 0 0 0, ii x5, ii x6] [.cells 0 (Q6 x2).cells] [1, 2, 5] (Gd (x1, x2) () o) :=
 Ym.partial_correctness x1 x2 (fun x5 x6 o => LO 44 3 101 [1, 2, 5, 6] [ii x1, .ptr 0 0 0, ii x5, ii x6] [.cells 0 (Q6 x2).cells] [1, 2, 5] (Gd (x1, x2) () o))
 (fun Ym Q31 x5 x6 o h  =>
 Lp2 (hs := [(5, .n eI 5 none), (21, .n eI 21 none), (22, .split), (26, .split), (34, .e Q3), (38, .n eI 38 none), (43, .e Q3), (46, .n eI 46 none), (5, .n eI 5 none), (5, .n eI 5 none), (5, .n eI 5 none), (3000008, .l [] [1, 2, 5, 6, 7] [kk 2] [1, 2, 5, 6] [kk 2] (Ge (x1, x2))), (5000003, .l [] [] [] [1, 2, 5, 6, 27] [kk 2] (Jo (x1, x2)))]) (kb := [kk 2]) (kbx := [kk 2]) ((kJb (id := 5000003) (x5, x6) (fun v0 ev0 v1 => (kN _ (mLen (sh := Q3) x2.fIdx) fun v2 => (kIfD (p := x6 < v2) (kIfD (p := x5 ≤ x1) (kXj (alts := Jo (x1, x2)) ev0 true (.here () rfl (.refl _) (.refl _)))
 (kXj (alts := Jo (x1, x2)) ev0 false (.next (.here () rfl (.refl _) (.refl _)))))
 (kXj (alts := Jo (x1, x2)) ev0 false (.next (.here () rfl (.refl _) (.refl _)))))))
 (fun v0 => (kIx (enc := Q3) (l := x2.fIdx) (k := v0.snd) fun v4 => (kIx (enc := Q3) (l := x2.fIdx) (k := v0.snd) fun v5 => (kN _ (mLen (sh := Qe) v4.fLin.fL) fun v6 => (kN _ (mLen (sh := Qi) v5.fAt) fun v7 => (kN (wr (wr (v0.fst + (↑(List.map Qe v4.fLin.fL).length : Int)) + v7)) rfl fun v8 => (kL1 v0.snd (RX x1 x2 v8 v0.snd 0) fun v9 v11 => (kM0 (alts := Gd (x1, x2) ()) (Q31 v11 (wr (v9 + 1)))))))))))
 (fun v0 => (kX (alts := Gd (x1, x2) ()) v0.fst (.here _ rfl (.refl _) (.refl _))))) h)) x5 x6 o h
def UA (s : (Int × Q1)) (u : Unit) (o : Int) : List Alt := [⟨fun (x : Int) => x = o, .exit 4, fun x => [ii x], fun x => []⟩]
def Jq (s : (Int × Q1)) (u : (Int × Int)) (o : Bool) : List Alt := jb o (fun b => [ii (s.1), .ptr 0 0 0, ii (u.1), ii (u.2), .bool b]) [.cells 0 (Q6 (s.2)).cells]
mutual
def Kc (x0 : Q1) (x1 : Int) : Option Int :=
 some (List.length x0.fLin.fL : Int) >>= fun v0 =>
 some (List.length x0.fIdx : Int) >>= fun v1 =>
 some (wr (wr ((1 : Int) + v0) + v1) : Int) >>= fun v2 =>
 some () >>= fun v3 =>
 Ym x1 x0 v2 0 >>= fun v5 =>
 some () >>= fun v6 =>
 XV x1 x0 v5 0 >>= fun v8 =>
 some v8
 partial_fixpoint
def XV (x1 : Int) (x2 : Q1) (x5 : Int) (x8 : Int) : Option Int :=
 some (x5, x8) >>= fun v0 =>
 (some (List.length x2.fArgs : Int) >>= fun v2 =>
 if x8 < v2 then
 if x5 ≤ x1 then
 some true
 else
 some false
 else
 some false) >>= fun v1 => if v1 then
 Option.map Q9.f (ix x2.fArgs v0.snd) >>= fun v4 =>
 Kc v4 (wr (x1 - v0.fst)) >>= fun v5 =>
 some (wr (v0.fst + v5) : Int) >>= fun v6 =>
 XV x1 x2 v6 (wr (v0.snd + 1))
 else
 some v0.fst
 partial_fixpoint
end
theorem Af  : (∀ (x0 : Q1) (x1 : Int) (r : Int), Kc x0 x1 = some r → PU 44 [Q6 x0, eI x1] (eI r)) ∧ (∀ (x1 : Int) (x2 : Q1) (x5 : Int) (x8 : Int) (o : Int), XV x1 x2 x5 x8 = some o → LO 44 11 101 [1, 2, 5, 8] [ii x1, .ptr 0 0 0, ii x5, ii x8] [.cells 0 (Q6 x2).cells] [5] (UA (x1, x2) () o)) :=
 Kc.mutual_partial_correctness  (fun x0 x1 r => PU 44 [Q6 x0, eI x1] (eI r)) (fun x1 x2 x5 x8 o => LO 44 11 101 [1, 2, 5, 8] [ii x1, .ptr 0 0 0, ii x5, ii x8] [.cells 0 (Q6 x2).cells] [5] (UA (x1, x2) () o))
 (fun XV Q30 x0 x1 r h  =>
 Pu2 (hs := [(12, .n eI 12 none), (16, .n eI 16 none), (5, .n eI 5 none), (5, .n eI 5 none), (5, .n eI 5 none), (5, .n eI 5 none), (3000012, .l [] [1, 2, 5, 8] [kk 2] [5] [] (UA (x1, x0))), (3000004, .l [] [1, 2, 5, 6] [kk 2] [1, 2, 5] [kk 2] (Gd (x1, x0)))]) ((kN _ (mLen (sh := Qe) x0.fLin.fL) fun v0 => (kN _ (mLen (sh := Q3) x0.fIdx) fun v1 => (kN (wr (wr ((1 : Int) + v0) + v1)) rfl fun v2 => (kL1 () (RW x1 x0 v2 0) fun v3 v5 => (kL1 () (Q30 x1 x0 v5 0) fun v6 v8 => (kEr (enc := eI) v8)))))) h))
 (fun Kc XV Q2x Q30 x1 x2 x5 x8 o h  =>
 Lp2 (hs := [(5, .n eI 5 none), (5, .n eI 5 none), (5, .n eI 5 none), (80, .n eI 80 none), (81, .split), (85, .split), (93, .e Q6), (98, .c eI), (5, .n eI 5 none), (5000011, .l [] [] [] [1, 2, 5, 8, 86] [kk 2] (Jq (x1, x2)))]) (kb := [kk 2]) (kbx := []) ((kJb (id := 5000011) (x5, x8) (fun v0 ev0 v1 => (kN _ (mLen (sh := Ql) x2.fArgs) fun v2 => (kIfD (p := x8 < v2) (kIfD (p := x5 ≤ x1) (kXj (alts := Jq (x1, x2)) ev0 true (.here () rfl (.refl _) (.refl _)))
 (kXj (alts := Jq (x1, x2)) ev0 false (.next (.here () rfl (.refl _) (.refl _)))))
 (kXj (alts := Jq (x1, x2)) ev0 false (.next (.here () rfl (.refl _) (.refl _)))))))
 (fun v0 => (kIxR (l := x2.fArgs) (k := v0.snd) QZ fun v4 => (kC (sh := eI) (Q2x v4 (wr (x1 - v0.fst))) fun v5 => (kN (wr (v0.fst + v5)) rfl fun v6 => (kM0 (alts := UA (x1, x2) ()) (Q30 x1 x2 v6 (wr (v0.snd + 1))))))))
 (fun v0 => (kX (alts := UA (x1, x2) ()) v0.fst (.here _ rfl (.refl _) (.refl _))))) h))
theorem IQ (x0 : Q1) (x1 : Int) (r : Int) (h : Kc x0 x1 = some r) : PU 44 [Q6 x0, eI x1] (eI r) := (Af ).1 x0 x1 r h
def KP (s : ((List Q7) × Int)) (u : Unit) (o : Int) : List Alt := [⟨fun (x : Int) => x = o, .exit 0, fun x => [ii x], fun x => []⟩]
def Kh (s : ((List Q7) × Int)) (u : (Int × Int)) (o : Bool) : List Alt := jb o (fun b => [.sl 20 (List.map Qr (s.1)), ii (s.2), ii (u.1), ii (u.2), .bool b]) []
mutual
def Yg (x0 : List Q7) (x1 : Int) : Option Int :=
 some (List.length x0 : Int) >>= fun v0 =>
 some (v0 : Int) >>= fun v1 =>
 some () >>= fun v2 =>
 Zw x0 x1 v1 0 >>= fun v4 =>
 some v4
 partial_fixpoint
def Zw (x0 : List Q7) (x1 : Int) (x5 : Int) (x6 : Int) : Option Int :=
 some (x5, x6) >>= fun v0 =>
 (some (List.length x0 : Int) >>= fun v2 =>
 if x6 < v2 then
 if x5 ≤ x1 then
 some true
 else
 some false
 else
 some false) >>= fun v1 => if v1 then
 Option.map Q7.f (ix x0 v0.snd) >>= fun v4 =>
 Kc v4.fExpr x1 >>= fun v5 =>
 Option.map Q7.f (ix x0 v0.snd) >>= fun v6 =>
 Kc (QV.mk (0 : Int) [] (gVal.mk (0 : Int) (0 : Int)) (Qg.mk (0 : Int) (0 : Int) (0 : Int) (0 : Int) (0 : Int)) (gLin.mk (0 : Int) []) v6.fIdx [] : Q1) x1 >>= fun v7 =>
 Option.map Q7.f (ix x0 v0.snd) >>= fun v8 =>
 Yg v8.fBody (if true = true then max (0 : Int) (wr (x1 - v0.fst)) else min (0 : Int) (wr (x1 - v0.fst))) >>= fun v9 =>
 some ((QV.mk (0 : Int) [] (gVal.mk (0 : Int) (0 : Int)) (Qg.mk (0 : Int) (0 : Int) (0 : Int) (0 : Int) (0 : Int)) (gLin.mk (0 : Int) []) v6.fIdx [] : Q1)) >>= fun v10 =>
 some (wr (wr (wr (v0.fst + v5) + v7) + v9) : Int) >>= fun v11 =>
 Zw x0 x1 v11 (wr (v0.snd + 1))
 else
 some v0.fst
 partial_fixpoint
end
theorem IN  : (∀ (x0 : List Q7) (x1 : Int) (r : Int), Yg x0 x1 = some r → PU 26 [Zl x0, eI x1] (eI r)) ∧ (∀ (x0 : List Q7) (x1 : Int) (x5 : Int) (x6 : Int) (o : Int), Zw x0 x1 x5 x6 = some o → LO 26 3 50 [0, 1, 5, 6] [.sl 20 (List.map Qr x0), ii x1, ii x5, ii x6] [] [5] (KP (x0, x1) () o)) :=
 Yg.mutual_partial_correctness  (fun x0 x1 r => PU 26 [Zl x0, eI x1] (eI r)) (fun x0 x1 x5 x6 o => LO 26 3 50 [0, 1, 5, 6] [.sl 20 (List.map Qr x0), ii x1, ii x5, ii x6] [] [5] (KP (x0, x1) () o))
 (fun Zw Q2z x0 x1 r h  =>
 Pu2 (hs := [(8, .n eI 8 none), (5, .n eI 5 none), (3000004, .l [] [0, 1, 5, 6] [] [5] [] (KP (x0, x1)))]) ((kN _ (mLen (sh := Qr) x0) fun v0 => (kN v0 rfl fun v1 => (kL1 () (Q2z x0 x1 v1 0) fun v2 v4 => (kEr (enc := eI) v4)))) h))
 (fun Yg Zw Q2y Q2z x0 x1 x5 x6 o h  =>
 Lp2 (hs := [(11, .n eI 11 none), (12, .split), (16, .split), (23, .e Qm), (27, .c eI), (31, .e Qm), (34, .n Q6 34 none), (36, .c eI), (40, .e Qm), (47, .c eI), (5, .n eI 5 none), (5000003, .l [] [] [] [0, 1, 5, 6, 17] [] (Kh (x0, x1)))]) (kb := []) (kbx := []) ((kJb (id := 5000003) (x5, x6) (fun v0 ev0 v1 => (kN _ (mLen (sh := Qr) x0) fun v2 => (kIfD (p := x6 < v2) (kIfD (p := x5 ≤ x1) (kXj (alts := Kh (x0, x1)) ev0 true (.here () rfl (.refl _) (.refl _)))
 (kXj (alts := Kh (x0, x1)) ev0 false (.next (.here () rfl (.refl _) (.refl _)))))
 (kXj (alts := Kh (x0, x1)) ev0 false (.next (.here () rfl (.refl _) (.refl _)))))))
 (fun v0 => (kIxR (l := x0) (k := v0.snd) Z2 fun v4 => (kC (sh := eI) (IQ v4.fExpr x1) fun v5 => (kIxR (l := x0) (k := v0.snd) Z2 fun v6 => (kC (sh := eI) (fun y hy => Pu.le (IQ (QV.mk (0 : Int) [] (gVal.mk (0 : Int) (0 : Int)) (Qg.mk (0 : Int) (0 : Int) (0 : Int) (0 : Int) (0 : Int)) (gLin.mk (0 : Int) []) v6.fIdx [] : Q1) x1 y hy) (.cons (LeT.agg (.cons (LeT.refl (ii (0 : Int))) (.cons (LeT.refl (AV.str [])) (.cons (LeT.refl (ii (0 : Int))) (.cons (LeT.refl (ii (0 : Int))) (.cons (LeT.refl (ii (0 : Int))) (.cons (LeT.refl (ii (0 : Int))) (.cons (LeT.refl (ii (0 : Int))) (.cons (LeT.refl (ii (0 : Int))) (.cons (LeT.refl (ii (0 : Int))) (.cons (LeT.refl (ii (0 : Int))) (.cons (LeT.nil 2) (.cons (LeT.refl (AV.sl (4 : Nat) (List.map Q3 v6.fIdx))) (.cons (LeT.nil 13) .nil)))))))))))))) (.cons (LeT.refl (ii x1)) .nil)) (LeT.refl _)) fun v7 => (kIxR (l := x0) (k := v0.snd) Z2 fun v8 => (kC (sh := eI) (Q2y v8.fBody (if true = true then max (0 : Int) (wr (x1 - v0.fst)) else min (0 : Int) (wr (x1 - v0.fst)))) fun v9 => (kW (sh := Q6) (QV.mk (0 : Int) [] (gVal.mk (0 : Int) (0 : Int)) (Qg.mk (0 : Int) (0 : Int) (0 : Int) (0 : Int) (0 : Int)) (gLin.mk (0 : Int) []) v6.fIdx [] : Q1) (LeV.agg (.cons (LeV.refl (ii (0 : Int))) (.cons (LeV.refl (AV.str [])) (.cons (LeV.refl (ii (0 : Int))) (.cons (LeV.refl (ii (0 : Int))) (.cons (LeV.refl (ii (0 : Int))) (.cons (LeV.refl (ii (0 : Int))) (.cons (LeV.refl (ii (0 : Int))) (.cons (LeV.refl (ii (0 : Int))) (.cons (LeV.refl (ii (0 : Int))) (.cons (LeV.refl (ii (0 : Int))) (.cons (LeV.nil 2) (.cons (LeV.refl (AV.sl (4 : Nat) (List.map Q3 v6.fIdx))) (.cons (LeV.nil 13) .nil)))))))))))))) fun v10 => (kN (wr (wr (wr (v0.fst + v5) + v7) + v9)) rfl fun v11 => (kM0 (alts := KP (x0, x1) ()) (Q2z x0 x1 v11 (wr (v0.snd + 1)))))))))))))
 (fun v0 => (kX (alts := KP (x0, x1) ()) v0.fst (.here _ rfl (.refl _) (.refl _))))) h))
theorem Ec (x0 : List Q7) (x1 : Int) (r : Int) (h : Yg x0 x1 = some r) : PU 26 [Zl x0, eI x1] (eI r) := (IN ).1 x0 x1 r h
def UF (s : ((List Q7) × Int)) (u : Unit) (o : Int) : List Alt := [⟨fun (x : Int) => x = o, .exit 0, fun x => [ii x], fun x => []⟩]
def J2 (s : ((List Q7) × Int)) (u : (Int × Int)) (o : Bool) : List Alt := jb o (fun b => [.sl 20 (List.map Qr (s.1)), ii (s.2), ii (u.1), ii (u.2), .bool b]) []
mutual
def Vg (x0 : List Q7) (x1 : Int) : Option Int :=
 some () >>= fun v0 =>
 Xb x0 x1 0 0 >>= fun v2 =>
 some v2
 partial_fixpoint
def Xb (x0 : List Q7) (x1 : Int) (x5 : Int) (x6 : Int) : Option Int :=
 some (x5, x6) >>= fun v0 =>
 (some (List.length x0 : Int) >>= fun v2 =>
 if x6 < v2 then
 if 0 < x1 then
 some true
 else
 some false
 else
 some false) >>= fun v1 => if v1 then
 Option.map Q7.f (ix x0 v0.snd) >>= fun v4 =>
 Vg v4.fBody (wr (x1 - (1 : Int))) >>= fun v5 =>
 Xb x0 x1 (if true = true then max v0.fst (wr ((1 : Int) + v5)) else min v0.fst (wr ((1 : Int) + v5))) (wr (v0.snd + 1))
 else
 some v0.fst
 partial_fixpoint
end
theorem S1  : (∀ (x0 : List Q7) (x1 : Int) (r : Int), Vg x0 x1 = some r → PU 27 [Zl x0, eI x1] (eI r)) ∧ (∀ (x0 : List Q7) (x1 : Int) (x5 : Int) (x6 : Int) (o : Int), Xb x0 x1 x5 x6 = some o → LO 27 3 29 [0, 1, 5, 6] [.sl 20 (List.map Qr x0), ii x1, ii x5, ii x6] [] [5] (UF (x0, x1) () o)) :=
 Vg.mutual_partial_correctness  (fun x0 x1 r => PU 27 [Zl x0, eI x1] (eI r)) (fun x0 x1 x5 x6 o => LO 27 3 29 [0, 1, 5, 6] [.sl 20 (List.map Qr x0), ii x1, ii x5, ii x6] [] [5] (UF (x0, x1) () o))
 (fun Xb Q4s x0 x1 r h  =>
 Pu2 (hs := [(3000004, .l [] [0, 1, 5, 6] [] [5] [] (UF (x0, x1)))]) ((kL1 () (Q4s x0 x1 0 0) fun v0 v2 => (kEr (enc := eI) v2)) h))
 (fun Vg Xb Q4r Q4s x0 x1 x5 x6 o h  =>
 Lp2 (hs := [(9, .n eI 9 none), (10, .split), (13, .split), (20, .e Qm), (25, .c eI), (5000003, .l [] [] [] [0, 1, 5, 6, 14] [] (J2 (x0, x1)))]) (kb := []) (kbx := []) ((kJb (id := 5000003) (x5, x6) (fun v0 ev0 v1 => (kN _ (mLen (sh := Qr) x0) fun v2 => (kIfD (p := x6 < v2) (kIfD (p := 0 < x1) (kXj (alts := J2 (x0, x1)) ev0 true (.here () rfl (.refl _) (.refl _)))
 (kXj (alts := J2 (x0, x1)) ev0 false (.next (.here () rfl (.refl _) (.refl _)))))
 (kXj (alts := J2 (x0, x1)) ev0 false (.next (.here () rfl (.refl _) (.refl _)))))))
 (fun v0 => (kIxR (l := x0) (k := v0.snd) Z2 fun v4 => (kC (sh := eI) (Q4r v4.fBody (wr (x1 - (1 : Int)))) fun v5 => (kM0 (alts := UF (x0, x1) ()) (Q4s x0 x1 (if true = true then max v0.fst (wr ((1 : Int) + v5)) else min v0.fst (wr ((1 : Int) + v5))) (wr (v0.snd + 1)))))))
 (fun v0 => (kX (alts := UF (x0, x1) ()) v0.fst (.here _ rfl (.refl _) (.refl _))))) h))
theorem AF (x0 : List Q7) (x1 : Int) (r : Int) (h : Vg x0 x1 = some r) : PU 27 [Zl x0, eI x1] (eI r) := (S1 ).1 x0 x1 r h
def Gk (s : ((List Q7) × Int)) (u : Unit) (o : Int) : List Alt := [⟨fun (x : Int) => x = o, .exit 0, fun x => [ii x], fun x => []⟩]
def JE (s : ((List Q7) × Int)) (u : (Int × Int)) (o : Bool) : List Alt := jb o (fun b => [.sl 20 (List.map Qr (s.1)), ii (s.2), ii (u.1), ii (u.2), .bool b]) []
mutual
def Jg (x0 : List Q7) (x1 : Int) : Option Int :=
 some (List.length x0 : Int) >>= fun v0 =>
 some (v0 : Int) >>= fun v1 =>
 some () >>= fun v2 =>
 Yu x0 x1 v1 0 >>= fun v4 =>
 some v4
 partial_fixpoint
def Yu (x0 : List Q7) (x1 : Int) (x5 : Int) (x6 : Int) : Option Int :=
 some (x5, x6) >>= fun v0 =>
 (some (List.length x0 : Int) >>= fun v2 =>
 if x6 < v2 then
 if x5 ≤ x1 then
 some true
 else
 some false
 else
 some false) >>= fun v1 => if v1 then
 Option.map Q7.f (ix x0 v0.snd) >>= fun v4 =>
 Jg v4.fBody (if true = true then max (0 : Int) (wr (x1 - v0.fst)) else min (0 : Int) (wr (x1 - v0.fst))) >>= fun v5 =>
 some (wr (v0.fst + v5) : Int) >>= fun v6 =>
 Yu x0 x1 v6 (wr (v0.snd + 1))
 else
 some v0.fst
 partial_fixpoint
end
theorem Ak  : (∀ (x0 : List Q7) (x1 : Int) (r : Int), Jg x0 x1 = some r → PU 28 [Zl x0, eI x1] (eI r)) ∧ (∀ (x0 : List Q7) (x1 : Int) (x5 : Int) (x6 : Int) (o : Int), Yu x0 x1 x5 x6 = some o → LO 28 3 33 [0, 1, 5, 6] [.sl 20 (List.map Qr x0), ii x1, ii x5, ii x6] [] [5] (Gk (x0, x1) () o)) :=
 Jg.mutual_partial_correctness  (fun x0 x1 r => PU 28 [Zl x0, eI x1] (eI r)) (fun x0 x1 x5 x6 o => LO 28 3 33 [0, 1, 5, 6] [.sl 20 (List.map Qr x0), ii x1, ii x5, ii x6] [] [5] (Gk (x0, x1) () o))
 (fun Yu Q4w x0 x1 r h  =>
 Pu2 (hs := [(8, .n eI 8 none), (5, .n eI 5 none), (3000004, .l [] [0, 1, 5, 6] [] [5] [] (Gk (x0, x1)))]) ((kN _ (mLen (sh := Qr) x0) fun v0 => (kN v0 rfl fun v1 => (kL1 () (Q4w x0 x1 v1 0) fun v2 v4 => (kEr (enc := eI) v4)))) h))
 (fun Jg Yu Q4v Q4w x0 x1 x5 x6 o h  =>
 Lp2 (hs := [(11, .n eI 11 none), (12, .split), (16, .split), (23, .e Qm), (30, .c eI), (5, .n eI 5 none), (5000003, .l [] [] [] [0, 1, 5, 6, 17] [] (JE (x0, x1)))]) (kb := []) (kbx := []) ((kJb (id := 5000003) (x5, x6) (fun v0 ev0 v1 => (kN _ (mLen (sh := Qr) x0) fun v2 => (kIfD (p := x6 < v2) (kIfD (p := x5 ≤ x1) (kXj (alts := JE (x0, x1)) ev0 true (.here () rfl (.refl _) (.refl _)))
 (kXj (alts := JE (x0, x1)) ev0 false (.next (.here () rfl (.refl _) (.refl _)))))
 (kXj (alts := JE (x0, x1)) ev0 false (.next (.here () rfl (.refl _) (.refl _)))))))
 (fun v0 => (kIxR (l := x0) (k := v0.snd) Z2 fun v4 => (kC (sh := eI) (Q4v v4.fBody (if true = true then max (0 : Int) (wr (x1 - v0.fst)) else min (0 : Int) (wr (x1 - v0.fst)))) fun v5 => (kN (wr (v0.fst + v5)) rfl fun v6 => (kM0 (alts := Gk (x0, x1) ()) (Q4w x0 x1 v6 (wr (v0.snd + 1))))))))
 (fun v0 => (kX (alts := Gk (x0, x1) ()) v0.fst (.here _ rfl (.refl _) (.refl _))))) h))
theorem FS (x0 : List Q7) (x1 : Int) (r : Int) (h : Jg x0 x1 = some r) : PU 28 [Zl x0, eI x1] (eI r) := (Ak ).1 x0 x1 r h
def Wr  : Option (List Str) :=
 some [[(115 : UInt8), (105 : UInt8), (122 : UInt8), (101 : UInt8)], [(119 : UInt8), (104 : UInt8), (101 : UInt8), (114 : UInt8), (101 : UInt8)], [(105 : UInt8), (110 : UInt8)], [(100 : UInt8), (101 : UInt8), (102 : UInt8)], [(111 : UInt8), (117 : UInt8), (116 : UInt8)], [(115 : UInt8), (117 : UInt8), (109 : UInt8)], [(112 : UInt8), (114 : UInt8), (111 : UInt8), (100 : UInt8)], [(109 : UInt8), (105 : UInt8), (110 : UInt8)], [(109 : UInt8), (97 : UInt8), (120 : UInt8)], [(115 : UInt8), (99 : UInt8), (97 : UInt8), (110 : UInt8)], [(111 : UInt8), (118 : UInt8), (101 : UInt8), (114 : UInt8)], [(105 : UInt8), (102 : UInt8)], [(99 : UInt8), (97 : UInt8), (115 : UInt8), (116 : UInt8)], [(102 : UInt8), (114 : UInt8), (97 : UInt8), (99 : UInt8)], [(105 : UInt8), (110 : UInt8), (116 : UInt8)], [(102 : UInt8), (105 : UInt8), (120 : UInt8)], [(99 : UInt8), (101 : UInt8), (105 : UInt8), (108 : UInt8)], [(102 : UInt8), (108 : UInt8), (111 : UInt8), (111 : UInt8), (114 : UInt8)], [(122 : UInt8), (101 : UInt8), (114 : UInt8), (111 : UInt8)], [(101 : UInt8), (118 : UInt8), (101 : UInt8), (110 : UInt8)], [(115 : UInt8), (97 : UInt8), (116 : UInt8)], [(119 : UInt8), (114 : UInt8), (97 : UInt8), (112 : UInt8)]]
theorem Fz  (r : List Str) (h : Wr  = some r) : PU 73 [] (eLS r) :=
 Pu2 (hs := [(0, .z [{ slot := 1, own := 1 }, { slot := 1, fz := true }] none)]) ((kT (rfl : (22 : Nat) = (22 : Nat)) (kEr (enc := eLS) [[(115 : UInt8), (105 : UInt8), (122 : UInt8), (101 : UInt8)], [(119 : UInt8), (104 : UInt8), (101 : UInt8), (114 : UInt8), (101 : UInt8)], [(105 : UInt8), (110 : UInt8)], [(100 : UInt8), (101 : UInt8), (102 : UInt8)], [(111 : UInt8), (117 : UInt8), (116 : UInt8)], [(115 : UInt8), (117 : UInt8), (109 : UInt8)], [(112 : UInt8), (114 : UInt8), (111 : UInt8), (100 : UInt8)], [(109 : UInt8), (105 : UInt8), (110 : UInt8)], [(109 : UInt8), (97 : UInt8), (120 : UInt8)], [(115 : UInt8), (99 : UInt8), (97 : UInt8), (110 : UInt8)], [(111 : UInt8), (118 : UInt8), (101 : UInt8), (114 : UInt8)], [(105 : UInt8), (102 : UInt8)], [(99 : UInt8), (97 : UInt8), (115 : UInt8), (116 : UInt8)], [(102 : UInt8), (114 : UInt8), (97 : UInt8), (99 : UInt8)], [(105 : UInt8), (110 : UInt8), (116 : UInt8)], [(102 : UInt8), (105 : UInt8), (120 : UInt8)], [(99 : UInt8), (101 : UInt8), (105 : UInt8), (108 : UInt8)], [(102 : UInt8), (108 : UInt8), (111 : UInt8), (111 : UInt8), (114 : UInt8)], [(122 : UInt8), (101 : UInt8), (114 : UInt8), (111 : UInt8)], [(101 : UInt8), (118 : UInt8), (101 : UInt8), (110 : UInt8)], [(115 : UInt8), (97 : UInt8), (116 : UInt8)], [(119 : UInt8), (114 : UInt8), (97 : UInt8), (112 : UInt8)]])) h)
def G0 (s : ((List Str) × Str)) (u : Unit) (o : Unit ⊕ Bool) : List Alt := [⟨fun (x : Unit) => (Sum.inl x : Unit ⊕ Bool) = o, .exit 0, fun x => [.undef], fun x => []⟩, ⟨fun (x : Bool) => (Sum.inr x : Unit ⊕ Bool) = o, .ret, fun x => [.bool x], fun x => []⟩]
def Kj (x0 : List Str) (x1 : Str) (x5 : Int) : Option (Unit ⊕ Bool) :=
 some (List.length x0 : Int) >>= fun v0 =>
 if x5 < v0 then
 ix x0 x5 >>= fun v1 =>
 if v1 == x1 then
 some (.inr true)
 else
 Kj x0 x1 (wr (x5 + 1))
 else
 some (.inl ())
 partial_fixpoint
theorem An (x0 : List Str) (x1 : Str) (x5 : Int) (o : Unit ⊕ Bool) (h : Kj x0 x1 x5 = some o) : LO 72 2 18 [0, 1, 5] [.sl 1 (List.map eS x0), .str x1, ii x5] [] [4] (G0 (x0, x1) () o) :=
 Kj.partial_correctness x0 x1 (fun x5 o => LO 72 2 18 [0, 1, 5] [.sl 1 (List.map eS x0), .str x1, ii x5] [] [4] (G0 (x0, x1) () o))
 (fun Kj Q2r x5 o h  =>
 Lp2 (hs := [(8, .n eI 8 none), (9, .split), (14, .e eS), (17, .split)]) (kb := []) (kbx := []) ((kN _ (mLen (sh := eS) x0) fun v0 => (kIfD (p := x5 < v0) (kIx (enc := eS) (l := x0) (k := x5) fun v1 => (kIf (c := v1 == x1) (kX (alts := G0 (x0, x1) ()) (.inr true) (.next (.here _ rfl (.refl _) (.refl _))))
 (kM0 (alts := G0 (x0, x1) ()) (Q2r (wr (x5 + 1))))))
 (kX (alts := G0 (x0, x1) ()) (.inl ()) (.here _ rfl (.refl _) (.refl _))))) h)) x5 o h
def DA (x0 : List Str) (x1 : Str) : Option Bool :=
 some () >>= fun v0 =>
 Kj x0 x1 0 >>= fun v1 => (match v1 with
 | (.inl v2) =>
 some false
 | (.inr v3) =>
 some v3)
theorem NX (x0 : List Str) (x1 : Str) (r : Bool) (h : DA x0 x1 = some r) : PU 72 [eLS x0, eS x1] (eB r) :=
 Pu2 (hs := [(3000003, .l [] [0, 1, 5] [] [4] [] (G0 (x0, x1)))]) ((kL2 () (hL := (An x0 x1 0)) (hA := fun v0 v2 => (kEr (enc := eB) false))
 (hB := fun v0 v3 => (kEr (enc := eB) v3))) h)
def Us (s : Str) (u : Unit) (o : Unit ⊕ Bool) : List Alt := [⟨fun (x : Unit) => (Sum.inl x : Unit ⊕ Bool) = o, .exit 0, fun x => [.undef], fun x => []⟩, ⟨fun (x : Bool) => (Sum.inr x : Unit ⊕ Bool) = o, .ret, fun x => [.bool x], fun x => []⟩]
def QU (s : Str) (u : Int) (o : Bool) : List Alt := jb o (fun b => [.str s, ii u, .bool b]) []
def YG (x0 : Str) (x3 : Int) : Option (Unit ⊕ Bool) :=
 if x3 < (↑(List.length x0) : Int) then
 ix x0 x3 >>= fun v0 =>
 some x3 >>= fun v1 =>
 (if 97 ≤ (↑v0.toNat : Int) then
 if (↑v0.toNat : Int) ≤ 122 then
 some false
 else
 if 0 < x3 then
 if 48 ≤ (↑v0.toNat : Int) then
 if (↑v0.toNat : Int) ≤ 57 then
 some false
 else
 if (↑v0.toNat : Int) == 95 then
 some false
 else
 some true
 else
 if (↑v0.toNat : Int) == 95 then
 some false
 else
 some true
 else
 some true
 else
 if 0 < x3 then
 if 48 ≤ (↑v0.toNat : Int) then
 if (↑v0.toNat : Int) ≤ 57 then
 some false
 else
 if (↑v0.toNat : Int) == 95 then
 some false
 else
 some true
 else
 if (↑v0.toNat : Int) == 95 then
 some false
 else
 some true
 else
 some true) >>= fun v2 => if v2 then
 some (.inr false)
 else
 YG x0 (wr (v1 + 1))
 else
 some (.inl ())
 partial_fixpoint
theorem S6 (x0 : Str) (x3 : Int) (o : Unit ⊕ Bool) (h : YG x0 x3 = some o) : LO 45 4 50 [0, 3] [.str x0, ii x3] [] [2] (Us x0 () o) :=
 YG.partial_correctness x0 (fun x3 o => LO 45 4 50 [0, 3] [.str x0, ii x3] [] [2] (Us x0 () o))
 (fun YG Q2w x3 o h  =>
 Lp2 (hs := [(21, .split), (26, .u), (28, .split), (31, .split), (35, .split), (38, .split), (41, .split), (45, .split), (5000007, .l [] [] [] [0, 3, 49] [] (QU x0))]) (kb := []) (kbx := []) ((kIfD (p := x3 < (↑(List.length x0) : Int)) (kU (s := x0) (k := x3) fun v0 => (kJb (id := 5000007) x3 (fun v1 ev1 v2 => (kIfD (p := 97 ≤ (↑v0.toNat : Int)) (kIfD (p := (↑v0.toNat : Int) ≤ 122) (kXj (alts := QU x0) ev1 false (.next (.here () rfl (.refl _) (.refl _))))
 (kIfD (p := 0 < x3) (kIfD (p := 48 ≤ (↑v0.toNat : Int)) (kIfD (p := (↑v0.toNat : Int) ≤ 57) (kXj (alts := QU x0) ev1 false (.next (.here () rfl (.refl _) (.refl _))))
 (kIf (c := (↑v0.toNat : Int) == 95) (kXj (alts := QU x0) ev1 false (.next (.here () rfl (.refl _) (.refl _))))
 (kXj (alts := QU x0) ev1 true (.here () rfl (.refl _) (.refl _)))))
 (kIf (c := (↑v0.toNat : Int) == 95) (kXj (alts := QU x0) ev1 false (.next (.here () rfl (.refl _) (.refl _))))
 (kXj (alts := QU x0) ev1 true (.here () rfl (.refl _) (.refl _)))))
 (kXj (alts := QU x0) ev1 true (.here () rfl (.refl _) (.refl _)))))
 (kIfD (p := 0 < x3) (kIfD (p := 48 ≤ (↑v0.toNat : Int)) (kIfD (p := (↑v0.toNat : Int) ≤ 57) (kXj (alts := QU x0) ev1 false (.next (.here () rfl (.refl _) (.refl _))))
 (kIf (c := (↑v0.toNat : Int) == 95) (kXj (alts := QU x0) ev1 false (.next (.here () rfl (.refl _) (.refl _))))
 (kXj (alts := QU x0) ev1 true (.here () rfl (.refl _) (.refl _)))))
 (kIf (c := (↑v0.toNat : Int) == 95) (kXj (alts := QU x0) ev1 false (.next (.here () rfl (.refl _) (.refl _))))
 (kXj (alts := QU x0) ev1 true (.here () rfl (.refl _) (.refl _)))))
 (kXj (alts := QU x0) ev1 true (.here () rfl (.refl _) (.refl _))))))
 (fun v1 => (kX (alts := Us x0 ()) (.inr false) (.next (.here _ rfl (.refl _) (.refl _)))))
 (fun v1 => (kM0 (alts := Us x0 ()) (Q2w (wr (v1 + 1)))))))
 (kX (alts := Us x0 ()) (.inl ()) (.here _ rfl (.refl _) (.refl _)))) h)) x3 o h
def KO (s : Str) (u : Unit) (o : Bool) : List Alt := jb o (fun b => [.str s, .bool b]) []
def J6 (x0 : Str) : Option Bool :=
 some () >>= fun v0 =>
 (if (↑(List.length x0) : Int) < 1 then
 some true
 else
 if 16 < (↑(List.length x0) : Int) then
 some true
 else
 Wr >>= fun v2 =>
 DA v2 x0 >>= fun v3 => if v3 then
 some true
 else
 some false) >>= fun v1 => if v1 then
 some false
 else
 some () >>= fun v6 =>
 YG x0 0 >>= fun v7 => (match v7 with
 | (.inl v8) =>
 some true
 | (.inr v9) =>
 some v9)
theorem DX (x0 : Str) (r : Bool) (h : J6 x0 = some r) : PU 45 [eS x0] (eB r) :=
 Pu2 (hs := [(7, .split), (11, .split), (14, .c eLS), (16, .cb), (3000005, .l [] [0, 3] [] [2] [] (Us x0)), (5000001, .l [] [] [] [0, 17] [] (KO x0))]) ((kJb (id := 5000001) () (fun v0 ev0 v1 => (kIfD (p := (↑(List.length x0) : Int) < 1) (kXj (alts := KO x0) ev0 true (.here () rfl (.refl _) (.refl _)))
 (kIfD (p := 16 < (↑(List.length x0) : Int)) (kXj (alts := KO x0) ev0 true (.here () rfl (.refl _) (.refl _)))
 (kC (sh := eLS) (Fz) fun v2 => (kCb (NX v2 x0) (kXj (alts := KO x0) ev0 true (.here () rfl (.refl _) (.refl _)))
 (kXj (alts := KO x0) ev0 false (.next (.here () rfl (.refl _) (.refl _)))))))))
 (fun v0 => (kEr (enc := eB) false))
 (fun v0 => (kL2 () (hL := (S6 x0 0)) (hA := fun v6 v8 => (kEr (enc := eB) true))
 (hB := fun v6 v9 => (kEr (enc := eB) v9))))) h)
def Ue (s : Qg) (u : Unit) (o : Bool) : List Alt := jb o (fun b => [.ptr 0 0 0, .bool b]) [.cells 0 (Qy s).cells]
def XC (x0 : Qg) : Option Bool :=
 some () >>= fun v0 =>
 (if x0.fKind == 1 then
 some true
 else
 if x0.fKind == 3 then
 some true
 else
 some false) >>= fun v1 => if v1 then
 if x0.fBits == 0 then
 if x0.fFrac == 0 then
 if x0.fRound == 0 then
 some (x0.fOver == 0)
 else
 some false
 else
 some false
 else
 some false
 else
 if x0.fKind == 2 then
 if 2 ≤ x0.fBits then
 if x0.fBits ≤ 31 then
 if 0 ≤ x0.fFrac then
 if x0.fFrac ≤ 30 then
 if 1 ≤ x0.fRound then
 if x0.fRound ≤ 4 then
 if x0.fOver == 1 then
 some true
 else
 some (x0.fOver == 2)
 else
 some false
 else
 some false
 else
 some false
 else
 some false
 else
 some false
 else
 some false
 else
 some false
theorem Up (x0 : Qg) (r : Bool) (h : XC x0 = some r) : PU 46 [Qy x0] (eB r) :=
 Pu2 (hs := [(5, .split), (9, .split), (13, .split), (17, .split), (22, .split), (31, .split), (35, .split), (40, .split), (45, .split), (50, .split), (55, .split), (60, .split), (65, .split), (5000001, .l [] [] [] [1, 10] [kk 1] (Ue x0))]) ((kJb (id := 5000001) () (fun v0 ev0 v1 => (kIf (c := x0.fKind == 1) (kXj (alts := Ue x0) ev0 true (.here () rfl (.refl _) (.refl _)))
 (kIf (c := x0.fKind == 3) (kXj (alts := Ue x0) ev0 true (.here () rfl (.refl _) (.refl _)))
 (kXj (alts := Ue x0) ev0 false (.next (.here () rfl (.refl _) (.refl _)))))))
 (fun v0 => (kIf (c := x0.fBits == 0) (kIf (c := x0.fFrac == 0) (kIf (c := x0.fRound == 0) (kEr (enc := eB) (x0.fOver == 0))
 (kEr (enc := eB) false))
 (kEr (enc := eB) false))
 (kEr (enc := eB) false)))
 (fun v0 => (kIf (c := x0.fKind == 2) (kIfD (p := 2 ≤ x0.fBits) (kIfD (p := x0.fBits ≤ 31) (kIfD (p := 0 ≤ x0.fFrac) (kIfD (p := x0.fFrac ≤ 30) (kIfD (p := 1 ≤ x0.fRound) (kIfD (p := x0.fRound ≤ 4) (kIf (c := x0.fOver == 1) (kEr (enc := eB) true)
 (kEr (enc := eB) (x0.fOver == 2)))
 (kEr (enc := eB) false))
 (kEr (enc := eB) false))
 (kEr (enc := eB) false))
 (kEr (enc := eB) false))
 (kEr (enc := eB) false))
 (kEr (enc := eB) false))
 (kEr (enc := eB) false)))) h)
def XT (s : List Int) (u : Unit) (o : Unit ⊕ Int) : List Alt := [⟨fun (x : Unit) => (Sum.inl x : Unit ⊕ Int) = o, .exit 2, fun x => [.undef], fun x => []⟩, ⟨fun (x : Int) => (Sum.inr x : Unit ⊕ Int) = o, .ret, fun x => [ii x], fun x => []⟩]
def Zy (x0 : List Int) (x4 : Int) (x5 : Int) : Option (Unit ⊕ Int) :=
 some (List.length x0 : Int) >>= fun v0 =>
 if x5 < v0 then
 ix x0 x5 >>= fun v1 =>
 if 4096 < v1 then
 some (.inr (2 : Int))
 else
 ix x0 x5 >>= fun v2 =>
 some (wr (x4 * v2) : Int) >>= fun v3 =>
 if 4096 < v3 then
 some (.inr (2 : Int))
 else
 Zy x0 v3 (wr (x5 + 1))
 else
 some (.inl ())
 partial_fixpoint
theorem LA (x0 : List Int) (x4 : Int) (x5 : Int) (o : Unit ⊕ Int) (h : Zy x0 x4 x5 = some o) : LO 47 10 39 [0, 4, 5] [.sl 1 (List.map eI x0), ii x4, ii x5] [] [2] (XT x0 () o) :=
 Zy.partial_correctness x0 (fun x4 x5 o => LO 47 10 39 [0, 4, 5] [.sl 1 (List.map eI x0), ii x4, ii x5] [] [2] (XT x0 () o))
 (fun Zy Q3f x4 x5 o h  =>
 Lp2 (hs := [(22, .n eI 22 none), (23, .split), (28, .e eI), (30, .split), (34, .e eI), (4, .n eI 4 none), (38, .split)]) (kb := []) (kbx := []) ((kN _ (mLen (sh := eI) x0) fun v0 => (kIfD (p := x5 < v0) (kIx (enc := eI) (l := x0) (k := x5) fun v1 => (kIfD (p := 4096 < v1) (kX (alts := XT x0 ()) (.inr (2 : Int)) (.next (.here _ rfl (.refl _) (.refl _))))
 (kIx (enc := eI) (l := x0) (k := x5) fun v2 => (kN (wr (x4 * v2)) rfl fun v3 => (kIfD (p := 4096 < v3) (kX (alts := XT x0 ()) (.inr (2 : Int)) (.next (.here _ rfl (.refl _) (.refl _))))
 (kM0 (alts := XT x0 ()) (Q3f v3 (wr (x5 + 1)))))))))
 (kX (alts := XT x0 ()) (.inl ()) (.here _ rfl (.refl _) (.refl _))))) h)) x4 x5 o h
def K0 (s : List Int) (u : Unit) (o : Unit ⊕ Int) : List Alt := [⟨fun (x : Unit) => (Sum.inl x : Unit ⊕ Int) = o, .exit 0, fun x => [.sl 1 (List.map eI s), .undef], fun x => []⟩, ⟨fun (x : Int) => (Sum.inr x : Unit ⊕ Int) = o, .ret, fun x => [.sl 1 (List.map eI s), ii x], fun x => []⟩]
def ZL (x0 : List Int) (x3 : Int) : Option (Unit ⊕ Int) :=
 some (List.length x0 : Int) >>= fun v0 =>
 if x3 < v0 then
 ix x0 x3 >>= fun v1 =>
 if v1 < 1 then
 some (.inr (1 : Int))
 else
 ZL x0 (wr (x3 + 1))
 else
 some (.inl ())
 partial_fixpoint
theorem IA (x0 : List Int) (x3 : Int) (o : Unit ⊕ Int) (h : ZL x0 x3 = some o) : LO 47 4 39 [0, 3] [.sl 1 (List.map eI x0), ii x3] [] [0, 2] (K0 x0 () o) :=
 ZL.partial_correctness x0 (fun x3 o => LO 47 4 39 [0, 3] [.sl 1 (List.map eI x0), ii x3] [] [0, 2] (K0 x0 () o))
 (fun ZL Q3g x3 o h  =>
 Lp2 (hs := [(11, .n eI 11 none), (12, .split), (17, .e eI), (19, .split)]) (kb := []) (kbx := []) ((kN _ (mLen (sh := eI) x0) fun v0 => (kIfD (p := x3 < v0) (kIx (enc := eI) (l := x0) (k := x3) fun v1 => (kIfD (p := v1 < 1) (kX (alts := K0 x0 ()) (.inr (1 : Int)) (.next (.here _ rfl (.refl _) (.refl _))))
 (kM0 (alts := K0 x0 ()) (Q3g (wr (x3 + 1))))))
 (kX (alts := K0 x0 ()) (.inl ()) (.here _ rfl (.refl _) (.refl _))))) h)) x3 o h
def DC (x0 : List Int) : Option Int :=
 some (List.length x0 : Int) >>= fun v0 =>
 if 6 < v0 then
 some (2 : Int)
 else
 some () >>= fun v1 =>
 ZL x0 0 >>= fun v2 => (match v2 with
 | (.inl v3) =>
 some ((1 : Int) : Int) >>= fun v4 =>
 some () >>= fun v5 =>
 Zy x0 v4 0 >>= fun v6 => (match v6 with
 | (.inl v7) =>
 some (0 : Int)
 | (.inr v8) =>
 some v8)
 | (.inr v9) =>
 some v9)
theorem R6 (x0 : List Int) (r : Int) (h : DC x0 = some r) : PU 47 [eLI x0] (eI r) :=
 Pu2 (hs := [(7, .n eI 7 none), (8, .split), (4, .n eI 4 none), (3000011, .l [] [0, 4, 5] [] [2] [] (XT x0)), (3000005, .l [] [0, 3] [] [0, 2] [] (K0 x0))]) ((kN _ (mLen (sh := eI) x0) fun v0 => (kIfD (p := 6 < v0) (kEr (enc := eI) (2 : Int))
 (kL2 () (hL := (IA x0 0)) (hA := fun v1 v3 => (kN (1 : Int) rfl fun v4 => (kL2 () (hL := (LA x0 v4 0)) (hA := fun v5 v7 => (kEr (enc := eI) (0 : Int)))
 (hB := fun v5 v8 => (kEr (enc := eI) v8)))))
 (hB := fun v1 v9 => (kEr (enc := eI) v9))))) h)
def JC (s : Qb) (u : (Int × Qw)) (o : Unit ⊕ Int) : List Alt := [⟨fun (x : Unit) => (Sum.inl x : Unit ⊕ Int) = o, .exit 2, fun x => [.ptr 0 0 0, .undef, ii u.1, .ptr 1 0 0], fun x => [.cells 0 (Qp s).cells, .cells 0 (Qx u.2).cells]⟩, ⟨fun (x : Int) => (Sum.inr x : Unit ⊕ Int) = o, .ret, fun x => [.ptr 0 0 0, ii x, ii u.1, .ptr 1 0 0], fun x => [.cells 0 (Qp s).cells, .cells 0 (Qx u.2).cells]⟩]
def Ys (x1 : Qb) (x3 : Int) (x4 : Qw) (x5 : Int) : Option (Unit ⊕ Int) :=
 if x5 < x3 then
 ix x1.fBufs x5 >>= fun v0 =>
 if v0.fName == x4.fName then
 some (.inr (8 : Int))
 else
 Ys x1 x3 x4 (wr (x5 + 1))
 else
 some (.inl ())
 partial_fixpoint
theorem Ta (x1 : Qb) (x3 : Int) (x4 : Qw) (x5 : Int) (o : Unit ⊕ Int) (h : Ys x1 x3 x4 x5 = some o) : LO 29 8 55 [1, 3, 4, 5] [.ptr 0 0 0, ii x3, .ptr 1 0 0, ii x5] [.cells 0 (Qp x1).cells, .cells 0 (Qx x4).cells] [1, 2, 3, 4] (JC x1 (x3, x4) o) :=
 Ys.partial_correctness x1 x3 x4 (fun x5 o => LO 29 8 55 [1, 3, 4, 5] [.ptr 0 0 0, ii x3, .ptr 1 0 0, ii x5] [.cells 0 (Qp x1).cells, .cells 0 (Qx x4).cells] [1, 2, 3, 4] (JC x1 (x3, x4) o))
 (fun Ys Q4q x5 o h  =>
 Lp2 (hs := [(25, .split), (31, .e Qx), (36, .split)]) (kb := [kk 1, kk 4]) (kbx := [kk 1, kk 4]) ((kIfD (p := x5 < x3) (kIx (enc := Qx) (l := x1.fBufs) (k := x5) fun v0 => (kIf (c := v0.fName == x4.fName) (kX (alts := JC x1 (x3, x4)) (.inr (8 : Int)) (.next (.here _ rfl (.refl _) (.refl _))))
 (kM0 (alts := JC x1 (x3, x4)) (Q4q (wr (x5 + 1))))))
 (kX (alts := JC x1 (x3, x4)) (.inl ()) (.here _ rfl (.refl _) (.refl _)))) h)) x5 o h
def XB (s : Qb) (u : Unit) (o : Unit ⊕ Int) : List Alt := [⟨fun (x : Unit) => (Sum.inl x : Unit ⊕ Int) = o, .exit 0, fun x => [.undef], fun x => []⟩, ⟨fun (x : Int) => (Sum.inr x : Unit ⊕ Int) = o, .ret, fun x => [ii x], fun x => []⟩]
def JB (s : Qb) (u : Int) (o : Bool) : List Alt := jb o (fun b => [.ptr 0 0 0, ii u, .bool b]) [.cells 0 (Qp s).cells]
def Yr (x1 : Qb) (x3 : Int) : Option (Unit ⊕ Int) :=
 some (List.length x1.fBufs : Int) >>= fun v0 =>
 if x3 < v0 then
 ix x1.fBufs x3 >>= fun v1 =>
 J6 v1.fName >>= fun v2 => if v2 then
 some (x3, v1) >>= fun v3 =>
 Ys x1 x3 v1 0 >>= fun v4 => (match v4 with
 | (.inl v5) =>
 XC v3.snd.fType >>= fun v6 => if v6 then
 DC v3.snd.fDims >>= fun v7 =>
 if v7 != 0 then
 some (.inr v7)
 else
 some v3.fst >>= fun v8 =>
 (if v3.snd.fUse < 1 then
 some true
 else
 if 3 < v3.snd.fUse then
 some true
 else
 some false) >>= fun v9 => if v9 then
 some (.inr (1 : Int))
 else
 Yr x1 (wr (v8 + 1))
 else
 some (.inr (10 : Int))
 | (.inr v12) =>
 some (.inr v12))
 else
 some (.inr (7 : Int))
 else
 some (.inl ())
 partial_fixpoint
theorem T9 (x1 : Qb) (x3 : Int) (o : Unit ⊕ Int) (h : Yr x1 x3 = some o) : LO 29 2 55 [1, 3] [.ptr 0 0 0, ii x3] [.cells 0 (Qp x1).cells] [2] (XB x1 () o) :=
 Yr.partial_correctness x1 (fun x3 o => LO 29 2 55 [1, 3] [.ptr 0 0 0, ii x3] [.cells 0 (Qp x1).cells] [2] (XB x1 () o))
 (fun Yr Q4p x3 o h  =>
 Lp2 (hs := [(10, .n eI 10 none), (11, .split), (17, .e Qx), (21, .cb), (39, .cb), (43, .c eI), (45, .split), (49, .split), (53, .split), (3000009, .l [] [1, 3, 4, 5] [kk 1, kk 4] [1, 2, 3, 4] [kk 1, kk 4] (JC x1)), (5000017, .l [] [] [] [1, 3, 54] [kk 1] (JB x1))]) (kb := [kk 1]) (kbx := []) ((kN _ (mLen (sh := Qx) x1.fBufs) fun v0 => (kIfD (p := x3 < v0) (kIx (enc := Qx) (l := x1.fBufs) (k := x3) fun v1 => (kCb (DX v1.fName) (kL2 (x3, v1) (hL := (Ta x1 x3 v1 0)) (hA := fun v3 v5 => (kCb (Up v3.snd.fType) (kC (sh := eI) (R6 v3.snd.fDims) fun v7 => (kIf (c := v7 != 0) (kX (alts := XB x1 ()) (.inr v7) (.next (.here _ rfl (.refl _) (.refl _))))
 (kJb (id := 5000017) v3.fst (fun v8 ev8 v9 => (kIfD (p := v3.snd.fUse < 1) (kXj (alts := JB x1) ev8 true (.here () rfl (.refl _) (.refl _)))
 (kIfD (p := 3 < v3.snd.fUse) (kXj (alts := JB x1) ev8 true (.here () rfl (.refl _) (.refl _)))
 (kXj (alts := JB x1) ev8 false (.next (.here () rfl (.refl _) (.refl _)))))))
 (fun v8 => (kX (alts := XB x1 ()) (.inr (1 : Int)) (.next (.here _ rfl (.refl _) (.refl _)))))
 (fun v8 => (kM0 (alts := XB x1 ()) (Q4p (wr (v8 + 1))))))))
 (kX (alts := XB x1 ()) (.inr (10 : Int)) (.next (.here _ rfl (.refl _) (.refl _))))))
 (hB := fun v3 v12 => (kX (alts := XB x1 ()) (.inr v12) (.next (.here _ rfl (.refl _) (.refl _))))))
 (kX (alts := XB x1 ()) (.inr (7 : Int)) (.next (.here _ rfl (.refl _) (.refl _))))))
 (kX (alts := XB x1 ()) (.inl ()) (.here _ rfl (.refl _) (.refl _))))) h)) x3 o h
def Cf (x0 : Qb) : Option Int :=
 some () >>= fun v0 =>
 Yr x0 0 >>= fun v1 => (match v1 with
 | (.inl v2) =>
 some (0 : Int)
 | (.inr v3) =>
 some v3)
theorem FP (x0 : Qb) (r : Int) (h : Cf x0 = some r) : PU 29 [Qp x0] (eI r) :=
 Pu2 (hs := [(3000003, .l [] [1, 3] [kk 1] [2] [] (XB x0))]) ((kL2 () (hL := (T9 x0 0)) (hA := fun v0 v2 => (kEr (enc := eI) (0 : Int)))
 (hB := fun v0 v3 => (kEr (enc := eI) v3))) h)
def G1 (s : (gLin × gLin)) (u : Unit) (o : Unit ⊕ Bool) : List Alt := [⟨fun (x : Unit) => (Sum.inl x : Unit ⊕ Bool) = o, .exit 0, fun x => [.undef], fun x => []⟩, ⟨fun (x : Bool) => (Sum.inr x : Unit ⊕ Bool) = o, .ret, fun x => [.bool x], fun x => []⟩]
def Kk (x2 : gLin) (x3 : gLin) (x5 : Int) : Option (Unit ⊕ Bool) :=
 some (List.length x2.fL : Int) >>= fun v0 =>
 if x5 < v0 then
 ix x2.fL x5 >>= fun v1 =>
 ix x3.fL x5 >>= fun v2 =>
 if !(v1.fName == v2.fName && (v1.fBy == v2.fBy && true)) then
 some (.inr false)
 else
 Kk x2 x3 (wr (x5 + 1))
 else
 some (.inl ())
 partial_fixpoint
theorem Ao (x2 : gLin) (x3 : gLin) (x5 : Int) (o : Unit ⊕ Bool) (h : Kk x2 x3 x5 = some o) : LO 108 4 38 [2, 3, 5] [.ptr 0 0 0, .ptr 1 0 0, ii x5] [.cells 0 (Qi x2).cells, .cells 0 (Qi x3).cells] [4] (G1 (x2, x3) () o) :=
 Kk.partial_correctness x2 x3 (fun x5 o => LO 108 4 38 [2, 3, 5] [.ptr 0 0 0, .ptr 1 0 0, ii x5] [.cells 0 (Qi x2).cells, .cells 0 (Qi x3).cells] [4] (G1 (x2, x3) () o))
 (fun Kk Q2u x5 o h  =>
 Lp2 (hs := [(23, .n eI 23 none), (24, .split), (30, .e Qe), (35, .e Qe), (37, .split)]) (kb := [kk 2, kk 3]) (kbx := []) ((kN _ (mLen (sh := Qe) x2.fL) fun v0 => (kIfD (p := x5 < v0) (kIx (enc := Qe) (l := x2.fL) (k := x5) fun v1 => (kIx (enc := Qe) (l := x3.fL) (k := x5) fun v2 => (kIf (c := !(v1.fName == v2.fName && (v1.fBy == v2.fBy && true))) (kX (alts := G1 (x2, x3) ()) (.inr false) (.next (.here _ rfl (.refl _) (.refl _))))
 (kM0 (alts := G1 (x2, x3) ()) (Q2u (wr (x5 + 1)))))))
 (kX (alts := G1 (x2, x3) ()) (.inl ()) (.here _ rfl (.refl _) (.refl _))))) h)) x5 o h
def UV (s : (gLin × gLin)) (u : Unit) (o : Bool) : List Alt := jb o (fun b => [.ptr 0 0 0, .ptr 1 0 0, .bool b]) [.cells 0 (Qi (s.1)).cells, .cells 0 (Qi (s.2)).cells]
def Cs (x0 : gLin) (x1 : gLin) : Option Bool :=
 some () >>= fun v0 =>
 (if x0.fK != x1.fK then
 some true
 else
 some (List.length x0.fL : Int) >>= fun v2 =>
 some (List.length x1.fL : Int) >>= fun v3 =>
 if v2 != v3 then
 some true
 else
 some false) >>= fun v1 => if v1 then
 some false
 else
 some () >>= fun v6 =>
 Kk x0 x1 0 >>= fun v7 => (match v7 with
 | (.inl v8) =>
 some true
 | (.inr v9) =>
 some v9)
theorem Ly (x0 : gLin) (x1 : gLin) (r : Bool) (h : Cs x0 x1 = some r) : PU 108 [Qi x0, Qi x1] (eB r) :=
 Pu2 (hs := [(10, .split), (14, .n eI 14 none), (17, .n eI 17 none), (18, .split), (3000005, .l [] [2, 3, 5] [kk 2, kk 3] [4] [] (G1 (x0, x1))), (5000001, .l [] [] [] [2, 3, 19] [kk 2, kk 3] (UV (x0, x1)))]) ((kJb (id := 5000001) () (fun v0 ev0 v1 => (kIf (c := x0.fK != x1.fK) (kXj (alts := UV (x0, x1)) ev0 true (.here () rfl (.refl _) (.refl _)))
 (kN _ (mLen (sh := Qe) x0.fL) fun v2 => (kN _ (mLen (sh := Qe) x1.fL) fun v3 => (kIf (c := v2 != v3) (kXj (alts := UV (x0, x1)) ev0 true (.here () rfl (.refl _) (.refl _)))
 (kXj (alts := UV (x0, x1)) ev0 false (.next (.here () rfl (.refl _) (.refl _)))))))))
 (fun v0 => (kEr (enc := eB) false))
 (fun v0 => (kL2 () (hL := (Ao x0 x1 0)) (hA := fun v6 v8 => (kEr (enc := eB) true))
 (hB := fun v6 v9 => (kEr (enc := eB) v9))))) h)
def Ur (s : ((List gLin) × (List gLin))) (u : Unit) (o : Unit ⊕ Bool) : List Alt := [⟨fun (x : Unit) => (Sum.inl x : Unit ⊕ Bool) = o, .exit 0, fun x => [.undef], fun x => []⟩, ⟨fun (x : Bool) => (Sum.inr x : Unit ⊕ Bool) = o, .ret, fun x => [.bool x], fun x => []⟩]
def YF (x0 : List gLin) (x1 : List gLin) (x5 : Int) : Option (Unit ⊕ Bool) :=
 some (List.length x0 : Int) >>= fun v0 =>
 if x5 < v0 then
 ix x0 x5 >>= fun v1 =>
 ix x1 x5 >>= fun v2 =>
 Cs v1 v2 >>= fun v3 => if v3 then
 YF x0 x1 (wr (x5 + 1))
 else
 some (.inr false)
 else
 some (.inl ())
 partial_fixpoint
theorem S5 (x0 : List gLin) (x1 : List gLin) (x5 : Int) (o : Unit ⊕ Bool) (h : YF x0 x1 x5 = some o) : LO 152 4 27 [0, 1, 5] [.sl 2 (List.map Qi x0), .sl 2 (List.map Qi x1), ii x5] [] [4] (Ur (x0, x1) () o) :=
 YF.partial_correctness x0 x1 (fun x5 o => LO 152 4 27 [0, 1, 5] [.sl 2 (List.map Qi x0), .sl 2 (List.map Qi x1), ii x5] [] [4] (Ur (x0, x1) () o))
 (fun YF Q2v x5 o h  =>
 Lp2 (hs := [(13, .n eI 13 none), (14, .split), (19, .e Qi), (23, .e Qi), (25, .cb)]) (kb := []) (kbx := []) ((kN _ (mLen (sh := Qi) x0) fun v0 => (kIfD (p := x5 < v0) (kIx (enc := Qi) (l := x0) (k := x5) fun v1 => (kIx (enc := Qi) (l := x1) (k := x5) fun v2 => (kCb (Ly v1 v2) (kM0 (alts := Ur (x0, x1) ()) (Q2v (wr (x5 + 1))))
 (kX (alts := Ur (x0, x1) ()) (.inr false) (.next (.here _ rfl (.refl _) (.refl _)))))))
 (kX (alts := Ur (x0, x1) ()) (.inl ()) (.here _ rfl (.refl _) (.refl _))))) h)) x5 o h
def Ng (x0 : List gLin) (x1 : List gLin) : Option Bool :=
 some (List.length x0 : Int) >>= fun v0 =>
 some (List.length x1 : Int) >>= fun v1 =>
 if v0 != v1 then
 some false
 else
 some () >>= fun v2 =>
 YF x0 x1 0 >>= fun v3 => (match v3 with
 | (.inl v4) =>
 some true
 | (.inr v5) =>
 some v5)
theorem Ox (x0 : List gLin) (x1 : List gLin) (r : Bool) (h : Ng x0 x1 = some r) : PU 152 [Mq x0, Mq x1] (eB r) :=
 Pu2 (hs := [(7, .n eI 7 none), (9, .n eI 9 none), (10, .split), (3000005, .l [] [0, 1, 5] [] [4] [] (Ur (x0, x1)))]) ((kN _ (mLen (sh := Qi) x0) fun v0 => (kN _ (mLen (sh := Qi) x1) fun v1 => (kIf (c := v0 != v1) (kEr (enc := eB) false)
 (kL2 () (hL := (S5 x0 x1 0)) (hA := fun v2 v4 => (kEr (enc := eB) true))
 (hB := fun v2 v5 => (kEr (enc := eB) v5)))))) h)
def Wq (x0 : Q8) (x1 : Q8) : Option Bool :=
 if x0.fFrom == x1.fFrom then
 Cs x0.fLin x1.fLin >>= fun v0 => if v0 then
 Ng x0.fAt x1.fAt >>= fun v1 =>
 some v1
 else
 some false
 else
 some false
theorem Fy (x0 : Q8) (x1 : Q8) (r : Bool) (h : Wq x0 x1 = some r) : PU 128 [Q3 x0, Q3 x1] (eB r) :=
 Pu2 (hs := [(9, .split), (15, .cb), (22, .c eB)]) ((kIf (c := x0.fFrom == x1.fFrom) (kCb (Ly x0.fLin x1.fLin) (kC (sh := eB) (Ox x0.fAt x1.fAt) fun v1 => (kEr (enc := eB) v1))
 (kEr (enc := eB) false))
 (kEr (enc := eB) false)) h)
def V3 (s : ((List Q8) × (List Q8))) (u : Unit) (o : Unit ⊕ Bool) : List Alt := [⟨fun (x : Unit) => (Sum.inl x : Unit ⊕ Bool) = o, .exit 0, fun x => [.undef], fun x => []⟩, ⟨fun (x : Bool) => (Sum.inr x : Unit ⊕ Bool) = o, .ret, fun x => [.bool x], fun x => []⟩]
def Xi (x0 : List Q8) (x1 : List Q8) (x5 : Int) : Option (Unit ⊕ Bool) :=
 some (List.length x0 : Int) >>= fun v0 =>
 if x5 < v0 then
 ix x0 x5 >>= fun v1 =>
 ix x1 x5 >>= fun v2 =>
 Wq v1 v2 >>= fun v3 => if v3 then
 Xi x0 x1 (wr (x5 + 1))
 else
 some (.inr false)
 else
 some (.inl ())
 partial_fixpoint
theorem Eb (x0 : List Q8) (x1 : List Q8) (x5 : Int) (o : Unit ⊕ Bool) (h : Xi x0 x1 x5 = some o) : LO 109 4 27 [0, 1, 5] [.sl 4 (List.map Q3 x0), .sl 4 (List.map Q3 x1), ii x5] [] [4] (V3 (x0, x1) () o) :=
 Xi.partial_correctness x0 x1 (fun x5 o => LO 109 4 27 [0, 1, 5] [.sl 4 (List.map Q3 x0), .sl 4 (List.map Q3 x1), ii x5] [] [4] (V3 (x0, x1) () o))
 (fun Xi Q2s x5 o h  =>
 Lp2 (hs := [(13, .n eI 13 none), (14, .split), (19, .e Q3), (23, .e Q3), (25, .cb)]) (kb := []) (kbx := []) ((kN _ (mLen (sh := Q3) x0) fun v0 => (kIfD (p := x5 < v0) (kIx (enc := Q3) (l := x0) (k := x5) fun v1 => (kIx (enc := Q3) (l := x1) (k := x5) fun v2 => (kCb (Fy v1 v2) (kM0 (alts := V3 (x0, x1) ()) (Q2s (wr (x5 + 1))))
 (kX (alts := V3 (x0, x1) ()) (.inr false) (.next (.here _ rfl (.refl _) (.refl _)))))))
 (kX (alts := V3 (x0, x1) ()) (.inl ()) (.here _ rfl (.refl _) (.refl _))))) h)) x5 o h
def Cr (x0 : List Q8) (x1 : List Q8) : Option Bool :=
 some (List.length x0 : Int) >>= fun v0 =>
 some (List.length x1 : Int) >>= fun v1 =>
 if v0 != v1 then
 some false
 else
 some () >>= fun v2 =>
 Xi x0 x1 0 >>= fun v3 => (match v3 with
 | (.inl v4) =>
 some true
 | (.inr v5) =>
 some v5)
theorem S4 (x0 : List Q8) (x1 : List Q8) (r : Bool) (h : Cr x0 x1 = some r) : PU 109 [GM x0, GM x1] (eB r) :=
 Pu2 (hs := [(7, .n eI 7 none), (9, .n eI 9 none), (10, .split), (3000005, .l [] [0, 1, 5] [] [4] [] (V3 (x0, x1)))]) ((kN _ (mLen (sh := Q3) x0) fun v0 => (kN _ (mLen (sh := Q3) x1) fun v1 => (kIf (c := v0 != v1) (kEr (enc := eB) false)
 (kL2 () (hL := (Eb x0 x1 0)) (hA := fun v2 v4 => (kEr (enc := eB) true))
 (hB := fun v2 v5 => (kEr (enc := eB) v5)))))) h)
def Jm (s : ((List Q9) × (List Q9))) (u : Unit) (o : Unit ⊕ Bool) : List Alt := [⟨fun (x : Unit) => (Sum.inl x : Unit ⊕ Bool) = o, .exit 0, fun x => [.undef], fun x => []⟩, ⟨fun (x : Bool) => (Sum.inr x : Unit ⊕ Bool) = o, .ret, fun x => [.bool x], fun x => []⟩]
mutual
def J5 (x0 : Q1) (x1 : Q1) : Option Bool :=
 if x0.fOp == x1.fOp then
 if x0.fName == x1.fName then
 if x0.fVal.fN == x1.fVal.fN && (x0.fVal.fD == x1.fVal.fD && true) then
 if x0.fType.fKind == x1.fType.fKind && (x0.fType.fBits == x1.fType.fBits && (x0.fType.fFrac == x1.fType.fFrac && (x0.fType.fRound == x1.fType.fRound && (x0.fType.fOver == x1.fType.fOver && true)))) then
 Cs x0.fLin x1.fLin >>= fun v0 => if v0 then
 Cr x0.fIdx x1.fIdx >>= fun v1 => if v1 then
 Cb x0.fArgs x1.fArgs >>= fun v2 =>
 some v2
 else
 some false
 else
 some false
 else
 some false
 else
 some false
 else
 some false
 else
 some false
 partial_fixpoint
def Cb (x0 : List Q9) (x1 : List Q9) : Option Bool :=
 some (List.length x0 : Int) >>= fun v0 =>
 some (List.length x1 : Int) >>= fun v1 =>
 if v0 != v1 then
 some false
 else
 some () >>= fun v2 =>
 Yl x0 x1 0 >>= fun v3 => (match v3 with
 | (.inl v4) =>
 some true
 | (.inr v5) =>
 some v5)
 partial_fixpoint
def Yl (x0 : List Q9) (x1 : List Q9) (x5 : Int) : Option (Unit ⊕ Bool) :=
 some (List.length x0 : Int) >>= fun v0 =>
 if x5 < v0 then
 Option.map Q9.f (ix x0 x5) >>= fun v1 =>
 Option.map Q9.f (ix x1 x5) >>= fun v2 =>
 J5 v1 v2 >>= fun v3 => if v3 then
 Yl x0 x1 (wr (x5 + 1))
 else
 some (.inr false)
 else
 some (.inl ())
 partial_fixpoint
end
theorem Fw  : (∀ (x0 : Q1) (x1 : Q1) (r : Bool), J5 x0 x1 = some r → PU 95 [Q6 x0, Q6 x1] (eB r)) ∧ (∀ (x0 : List Q9) (x1 : List Q9) (r : Bool), Cb x0 x1 = some r → PU 110 [YJ x0, YJ x1] (eB r)) ∧ (∀ (x0 : List Q9) (x1 : List Q9) (x5 : Int) (o : Unit ⊕ Bool), Yl x0 x1 x5 = some o → LO 110 4 27 [0, 1, 5] [.sl 13 (List.map Ql x0), .sl 13 (List.map Ql x1), ii x5] [] [4] (Jm (x0, x1) () o)) :=
 J5.mutual_partial_correctness  (fun x0 x1 r => PU 95 [Q6 x0, Q6 x1] (eB r)) (fun x0 x1 r => PU 110 [YJ x0, YJ x1] (eB r)) (fun x0 x1 x5 o => LO 110 4 27 [0, 1, 5] [.sl 13 (List.map Ql x0), .sl 13 (List.map Ql x1), ii x5] [] [4] (Jm (x0, x1) () o))
 (fun Cb Q2p x0 x1 r h  =>
 Pu2 (hs := [(9, .split), (15, .split), (22, .split), (29, .split), (36, .cb), (43, .cb), (50, .c eB)]) ((kIf (c := x0.fOp == x1.fOp) (kIf (c := x0.fName == x1.fName) (kIf (c := x0.fVal.fN == x1.fVal.fN && (x0.fVal.fD == x1.fVal.fD && true)) (kIf (c := x0.fType.fKind == x1.fType.fKind && (x0.fType.fBits == x1.fType.fBits && (x0.fType.fFrac == x1.fType.fFrac && (x0.fType.fRound == x1.fType.fRound && (x0.fType.fOver == x1.fType.fOver && true))))) (kCb (Ly x0.fLin x1.fLin) (kCb (S4 x0.fIdx x1.fIdx) (kC (sh := eB) (Q2p x0.fArgs x1.fArgs) fun v2 => (kEr (enc := eB) v2))
 (kEr (enc := eB) false))
 (kEr (enc := eB) false))
 (kEr (enc := eB) false))
 (kEr (enc := eB) false))
 (kEr (enc := eB) false))
 (kEr (enc := eB) false)) h))
 (fun Yl Q2q x0 x1 r h  =>
 Pu2 (hs := [(7, .n eI 7 none), (9, .n eI 9 none), (10, .split), (3000005, .l [] [0, 1, 5] [] [4] [] (Jm (x0, x1)))]) ((kN _ (mLen (sh := Ql) x0) fun v0 => (kN _ (mLen (sh := Ql) x1) fun v1 => (kIf (c := v0 != v1) (kEr (enc := eB) false)
 (kL2 () (hL := (Q2q x0 x1 0)) (hA := fun v2 v4 => (kEr (enc := eB) true))
 (hB := fun v2 v5 => (kEr (enc := eB) v5)))))) h))
 (fun J5 Yl Q2o Q2q x0 x1 x5 o h  =>
 Lp2 (hs := [(13, .n eI 13 none), (14, .split), (19, .e Q6), (23, .e Q6), (25, .cb)]) (kb := []) (kbx := []) ((kN _ (mLen (sh := Ql) x0) fun v0 => (kIfD (p := x5 < v0) (kIxR (l := x0) (k := x5) QZ fun v1 => (kIxR (l := x1) (k := x5) QZ fun v2 => (kCb (Q2o v1 v2) (kM0 (alts := Jm (x0, x1) ()) (Q2q x0 x1 (wr (x5 + 1))))
 (kX (alts := Jm (x0, x1) ()) (.inr false) (.next (.here _ rfl (.refl _) (.refl _)))))))
 (kX (alts := Jm (x0, x1) ()) (.inl ()) (.here _ rfl (.refl _) (.refl _))))) h))
theorem Ow (x0 : Q1) (x1 : Q1) (r : Bool) (h : J5 x0 x1 = some r) : PU 95 [Q6 x0, Q6 x1] (eB r) := (Fw ).1 x0 x1 r h
def GI (s : Qa) (u : (Bool × Bool)) (o : Bool) : List Alt := [⟨fun (x : Bool) => x = o, .normal, fun x => [.ptr 0 0 0, .bool (u.1), .bool (u.2), .bool x], fun x => [.cells 0 (Qm s).cells]⟩]
def K9 (s : Qa) (u : (Bool × Bool × Bool)) (o : Bool) : List Alt := jb o (fun b => [.ptr 0 0 0, .bool (u.1), .bool (u.2.1), .bool (u.2.2), .bool b]) [.cells 0 (Qm s).cells]
def QJ (s : Qa) (u : (Bool × Bool)) (o : Bool) : List Alt := jb o (fun b => [.ptr 0 0 0, .bool (u.1), .bool (u.2), .bool b]) [.cells 0 (Qm s).cells]
def ZA (s : Qa) (u : Bool) (o : Bool) : List Alt := jb o (fun b => [.ptr 0 0 0, .bool u, .bool b]) [.cells 0 (Qm s).cells]
def W8 (x0 : Qa) : Option Bool :=
 some ((x0.fOp == 1), (x0.fOp == 4)) >>= fun v0 =>
 (if x0.fOp == 2 then
 some true
 else
 some (x0.fOp == 3)) >>= fun v2 =>
 some (v0.fst, v0.snd, v2) >>= fun v3 =>
 (if v0.fst then
 some false
 else
 if v0.snd then
 some false
 else
 if v2 then
 some false
 else
 some true) >>= fun v4 => if v4 then
 some false
 else
 some (v3.fst, v3.snd.snd) >>= fun v7 =>
 (if v3.fst then
 if x0.fOp != 3 then
 if x0.fFold != 0 then
 some true
 else
 if v3.snd.fst then
 if !x0.fName == [] then
 some true
 else
 some false
 else
 some false
 else
 if v3.snd.fst then
 if !x0.fName == [] then
 some true
 else
 some false
 else
 some false
 else
 if x0.fMany != 0 then
 some true
 else
 if x0.fMark != 0 then
 some true
 else
 if x0.fOp != 3 then
 if x0.fFold != 0 then
 some true
 else
 if v3.snd.fst then
 if !x0.fName == [] then
 some true
 else
 some false
 else
 some false
 else
 if v3.snd.fst then
 if !x0.fName == [] then
 some true
 else
 some false
 else
 some false) >>= fun v8 => if v8 then
 some false
 else
 some v7.fst >>= fun v11 =>
 (if v7.snd then
 if v7.snd then
 some (List.length x0.fBody : Int) >>= fun v13 =>
 if 0 < v13 then
 some true
 else
 some false
 else
 some false
 else
 some (List.length x0.fIdx : Int) >>= fun v14 =>
 if 0 < v14 then
 some true
 else
 if v7.snd then
 some (List.length x0.fBody : Int) >>= fun v15 =>
 if 0 < v15 then
 some true
 else
 some false
 else
 some false) >>= fun v12 => if v12 then
 some false
 else
 if v11 then
 some ((QV.mk (0 : Int) [] (gVal.mk (0 : Int) (0 : Int)) (Qg.mk (0 : Int) (0 : Int) (0 : Int) (0 : Int) (0 : Int)) (gLin.mk (0 : Int) []) [] [] : Q1)) >>= fun v18 =>
 J5 x0.fExpr v18 >>= fun v19 =>
 some v19
 else
 some true
theorem AG (x0 : Qa) (r : Bool) (h : W8 x0 = some r) : PU 74 [Qm x0] (eB r) :=
 Pu2 (hs := [(14, .split), (20, .split), (23, .split), (27, .split), (30, .split), (35, .split), (39, .split), (45, .split), (49, .split), (53, .split), (57, .split), (60, .split), (65, .n eI 65 none), (66, .split), (69, .split), (73, .n eI 73 none), (74, .split), (77, .split), (82, .n Q6 82 none), (83, .c eB), (5000002, .l [] [] [] [1, 3, 4, 5] [kk 1] (GI x0)), (5000003, .l [] [] [] [1, 3, 4, 5, 29] [kk 1] (K9 x0)), (5000005, .l [] [] [] [1, 3, 5, 59] [kk 1] (QJ x0)), (5000007, .l [] [] [] [1, 3, 76] [kk 1] (ZA x0))]) ((kJ1 (id := 5000002) ((x0.fOp == 1), (x0.fOp == 4)) (fun v0 ev0 v1 => (kIf (c := x0.fOp == 2) (kXj (alts := GI x0) ev0 true (.here _ rfl (.refl _) (.refl _)))
 (kXj (alts := GI x0) ev0 (x0.fOp == 3) (.here _ rfl (.refl _) (.refl _)))))
 (fun v0 v2 => (kJb (id := 5000003) (v0.fst, v0.snd, v2) (fun v3 ev3 v4 => (kIf (c := v0.fst) (kXj (alts := K9 x0) ev3 false (.next (.here () rfl (.refl _) (.refl _))))
 (kIf (c := v0.snd) (kXj (alts := K9 x0) ev3 false (.next (.here () rfl (.refl _) (.refl _))))
 (kIf (c := v2) (kXj (alts := K9 x0) ev3 false (.next (.here () rfl (.refl _) (.refl _))))
 (kXj (alts := K9 x0) ev3 true (.here () rfl (.refl _) (.refl _)))))))
 (fun v3 => (kEr (enc := eB) false))
 (fun v3 => (kJb (id := 5000005) (v3.fst, v3.snd.snd) (fun v7 ev7 v8 => (kIf (c := v3.fst) (kIf (c := x0.fOp != 3) (kIf (c := x0.fFold != 0) (kXj (alts := QJ x0) ev7 true (.here () rfl (.refl _) (.refl _)))
 (kIf (c := v3.snd.fst) (kIf (c := !x0.fName == []) (kXj (alts := QJ x0) ev7 true (.here () rfl (.refl _) (.refl _)))
 (kXj (alts := QJ x0) ev7 false (.next (.here () rfl (.refl _) (.refl _)))))
 (kXj (alts := QJ x0) ev7 false (.next (.here () rfl (.refl _) (.refl _))))))
 (kIf (c := v3.snd.fst) (kIf (c := !x0.fName == []) (kXj (alts := QJ x0) ev7 true (.here () rfl (.refl _) (.refl _)))
 (kXj (alts := QJ x0) ev7 false (.next (.here () rfl (.refl _) (.refl _)))))
 (kXj (alts := QJ x0) ev7 false (.next (.here () rfl (.refl _) (.refl _))))))
 (kIf (c := x0.fMany != 0) (kXj (alts := QJ x0) ev7 true (.here () rfl (.refl _) (.refl _)))
 (kIf (c := x0.fMark != 0) (kXj (alts := QJ x0) ev7 true (.here () rfl (.refl _) (.refl _)))
 (kIf (c := x0.fOp != 3) (kIf (c := x0.fFold != 0) (kXj (alts := QJ x0) ev7 true (.here () rfl (.refl _) (.refl _)))
 (kIf (c := v3.snd.fst) (kIf (c := !x0.fName == []) (kXj (alts := QJ x0) ev7 true (.here () rfl (.refl _) (.refl _)))
 (kXj (alts := QJ x0) ev7 false (.next (.here () rfl (.refl _) (.refl _)))))
 (kXj (alts := QJ x0) ev7 false (.next (.here () rfl (.refl _) (.refl _))))))
 (kIf (c := v3.snd.fst) (kIf (c := !x0.fName == []) (kXj (alts := QJ x0) ev7 true (.here () rfl (.refl _) (.refl _)))
 (kXj (alts := QJ x0) ev7 false (.next (.here () rfl (.refl _) (.refl _)))))
 (kXj (alts := QJ x0) ev7 false (.next (.here () rfl (.refl _) (.refl _))))))))))
 (fun v7 => (kEr (enc := eB) false))
 (fun v7 => (kJb (id := 5000007) v7.fst (fun v11 ev11 v12 => (kIf (c := v7.snd) (kIf (c := v7.snd) (kN _ (mLen (sh := Qr) x0.fBody) fun v13 => (kIfD (p := 0 < v13) (kXj (alts := ZA x0) ev11 true (.here () rfl (.refl _) (.refl _)))
 (kXj (alts := ZA x0) ev11 false (.next (.here () rfl (.refl _) (.refl _))))))
 (kXj (alts := ZA x0) ev11 false (.next (.here () rfl (.refl _) (.refl _)))))
 (kN _ (mLen (sh := Q3) x0.fIdx) fun v14 => (kIfD (p := 0 < v14) (kXj (alts := ZA x0) ev11 true (.here () rfl (.refl _) (.refl _)))
 (kIf (c := v7.snd) (kN _ (mLen (sh := Qr) x0.fBody) fun v15 => (kIfD (p := 0 < v15) (kXj (alts := ZA x0) ev11 true (.here () rfl (.refl _) (.refl _)))
 (kXj (alts := ZA x0) ev11 false (.next (.here () rfl (.refl _) (.refl _))))))
 (kXj (alts := ZA x0) ev11 false (.next (.here () rfl (.refl _) (.refl _)))))))))
 (fun v11 => (kEr (enc := eB) false))
 (fun v11 => (kIf (c := v11) (kW (sh := Q6) (QV.mk (0 : Int) [] (gVal.mk (0 : Int) (0 : Int)) (Qg.mk (0 : Int) (0 : Int) (0 : Int) (0 : Int) (0 : Int)) (gLin.mk (0 : Int) []) [] [] : Q1) (LeV.agg (.cons (LeV.refl (ii (0 : Int))) (.cons (LeV.refl (AV.str [])) (.cons (LeV.refl (ii (0 : Int))) (.cons (LeV.refl (ii (0 : Int))) (.cons (LeV.refl (ii (0 : Int))) (.cons (LeV.refl (ii (0 : Int))) (.cons (LeV.refl (ii (0 : Int))) (.cons (LeV.refl (ii (0 : Int))) (.cons (LeV.refl (ii (0 : Int))) (.cons (LeV.refl (ii (0 : Int))) (.cons (LeV.nil 2) (.cons (LeV.nil 4) (.cons (LeV.nil 13) .nil)))))))))))))) fun v18 => (kC (sh := eB) (Ow x0.fExpr v18) fun v19 => (kEr (enc := eB) v19)))
 (kEr (enc := eB) true)))))))))) h)
def V9 (s : (Str × Qb)) (u : Unit) (o : Qw ⊕ (Qw × Bool)) : List Alt := [⟨fun (x : Qw) => (Sum.inl x : Qw ⊕ (Qw × Bool)) = o, .exit 0, fun x => [.ptr 0 0 0, .undef], fun x => [.cells 0 (Qx x).cells]⟩, ⟨fun (x : (Qw × Bool)) => (Sum.inr x : Qw ⊕ (Qw × Bool)) = o, .ret, fun x => [.ptr 0 0 0, .bool x.2], fun x => [.cells 0 (Qx x.1).cells]⟩]
def Zc (x1 : Str) (x2 : Qb) (x4 : Qw) (x6 : Int) : Option (Qw ⊕ (Qw × Bool)) :=
 some (List.length x2.fBufs : Int) >>= fun v0 =>
 if x6 < v0 then
 ix x2.fBufs x6 >>= fun v1 =>
 if v1.fName == x1 then
 ix x2.fBufs x6 >>= fun v2 =>
 some (.inr (v2, true))
 else
 Zc x1 x2 x4 (wr (x6 + 1))
 else
 some (.inl x4)
 partial_fixpoint
theorem Eo (x1 : Str) (x2 : Qb) (x4 : Qw) (x6 : Int) (o : Qw ⊕ (Qw × Bool)) (h : Zc x1 x2 x4 x6 = some o) : LO 75 2 28 [1, 2, 4, 6] [.str x1, .ptr 0 0 0, .ptr 1 0 0, ii x6] [.cells 0 (Qp x2).cells, .cells 0 (Qx x4).cells] [4, 5] (V9 (x1, x2) () o) :=
 Zc.partial_correctness x1 x2 x4 (fun x6 o => LO 75 2 28 [1, 2, 4, 6] [.str x1, .ptr 0 0 0, .ptr 1 0 0, ii x6] [.cells 0 (Qp x2).cells, .cells 0 (Qx x4).cells] [4, 5] (V9 (x1, x2) () o))
 (fun Zc Q4e x6 o h  =>
 Lp2 (hs := [(10, .n eI 10 none), (11, .split), (17, .e Qx), (21, .split), (25, .e Qx)]) (kb := [kk 2, kk 4]) (kbx := [kk 4]) ((kN _ (mLen (sh := Qx) x2.fBufs) fun v0 => (kIfD (p := x6 < v0) (kIx (enc := Qx) (l := x2.fBufs) (k := x6) fun v1 => (kIf (c := v1.fName == x1) (kIx (enc := Qx) (l := x2.fBufs) (k := x6) fun v2 => (kX (alts := V9 (x1, x2) ()) (.inr (v2, true)) (.next (.here _ rfl (.refl _) (.refl _)))))
 (kM0 (alts := V9 (x1, x2) ()) (Q4e (wr (x6 + 1))))))
 (kX (alts := V9 (x1, x2) ()) (.inl x4) (.here _ rfl (.refl _) (.refl _))))) h)) x6 o h
def Xz (x0 : Qb) (x1 : Str) : Option (Qw × Bool) :=
 some () >>= fun v0 =>
 Zc x1 x0 (Qw.mk [] (Qg.mk (0 : Int) (0 : Int) (0 : Int) (0 : Int) (0 : Int)) [] (0 : Int)) (0 : Int) >>= fun v1 => (match v1 with
 | (.inl v2) =>
 some ((Qw.mk [] (Qg.mk (0 : Int) (0 : Int) (0 : Int) (0 : Int) (0 : Int)) [] (0 : Int))) >>= fun v3 =>
 some (v3, false)
 | (.inr v4) =>
 some (v4.fst, v4.snd))
theorem Uw (x0 : Qb) (x1 : Str) (r : (Qw × Bool)) (h : Xz x0 x1 = some r) : PU 75 [Qp x0, eS x1] (Z3 r) :=
 Pu2 (hs := [(27, .n Qx 27 none), (3000003, .l [] [1, 2, 4, 6] [kk 2, kk 4] [4, 5] [kk 4] (V9 (x1, x0)))]) ((kL2 () (hL := (fun y hy => ZI.le (.cons (LeV.refl (AV.str x1)) (.cons (LeV.refl (AV.ptr (0 : Nat) (0 : Nat) (0 : Nat))) (.cons (LeV.refl (AV.ptr (1 : Nat) (0 : Nat) (0 : Nat))) (.cons (LeV.refl (ii (0 : Int))) .nil)))) (.cons (LeB.refl (Box.cells (0 : Nat) [AV.sl (8 : Nat) (List.map Qx x0.fBufs), AV.sl (20 : Nat) (List.map Qr x0.fBody)])) (.cons (LeB.cells (0 : Nat) (.cons (LeV.refl (AV.str [])) (.cons (LeV.refl (ii (0 : Int))) (.cons (LeV.refl (ii (0 : Int))) (.cons (LeV.refl (ii (0 : Int))) (.cons (LeV.refl (ii (0 : Int))) (.cons (LeV.refl (ii (0 : Int))) (.cons (LeV.nil 1) (.cons (LeV.refl (ii (0 : Int))) .nil))))))))) .nil)) (Eo x1 x0 (Qw.mk [] (Qg.mk (0 : Int) (0 : Int) (0 : Int) (0 : Int) (0 : Int)) [] (0 : Int)) (0 : Int) y hy))) (hA := fun v0 v2 => (kW (sh := Qx) (Qw.mk [] (Qg.mk (0 : Int) (0 : Int) (0 : Int) (0 : Int) (0 : Int)) [] (0 : Int)) (LeV.agg (.cons (LeV.refl (AV.str [])) (.cons (LeV.refl (ii (0 : Int))) (.cons (LeV.refl (ii (0 : Int))) (.cons (LeV.refl (ii (0 : Int))) (.cons (LeV.refl (ii (0 : Int))) (.cons (LeV.refl (ii (0 : Int))) (.cons (LeV.nil 1) (.cons (LeV.refl (ii (0 : Int))) .nil))))))))) fun v3 => (kEr (enc := Z3) (v3, false))))
 (hB := fun v0 v4 => (kEr (enc := Z3) (v4.fst, v4.snd)))) h)
def UE (s : (Int × Q1)) (u : Unit) (o : Int) : List Alt := [⟨fun (x : Int) => x = o, .exit 0, fun x => [ii x], fun x => []⟩]
def VV (s : (Int × Q1)) (u : (Int × Int)) (o : Bool) : List Alt := jb o (fun b => [ii (s.1), .ptr 0 0 0, ii (u.1), ii (u.2), .bool b]) [.cells 0 (Q6 (s.2)).cells]
mutual
def Vf (x0 : Q1) (x1 : Int) : Option Int :=
 some () >>= fun v0 =>
 XX x1 x0 1 0 >>= fun v2 =>
 some v2
 partial_fixpoint
def XX (x1 : Int) (x2 : Q1) (x5 : Int) (x6 : Int) : Option Int :=
 some (x5, x6) >>= fun v0 =>
 (some (List.length x2.fArgs : Int) >>= fun v2 =>
 if x6 < v2 then
 if 1 < x1 then
 some true
 else
 some false
 else
 some false) >>= fun v1 => if v1 then
 Option.map Q9.f (ix x2.fArgs v0.snd) >>= fun v4 =>
 Vf v4 (wr (x1 - (1 : Int))) >>= fun v5 =>
 XX x1 x2 (if true = true then max v0.fst (wr ((1 : Int) + v5)) else min v0.fst (wr ((1 : Int) + v5))) (wr (v0.snd + 1))
 else
 some v0.fst
 partial_fixpoint
end
theorem TZ  : (∀ (x0 : Q1) (x1 : Int) (r : Int), Vf x0 x1 = some r → PU 113 [Q6 x0, eI x1] (eI r)) ∧ (∀ (x1 : Int) (x2 : Q1) (x5 : Int) (x6 : Int) (o : Int), XX x1 x2 x5 x6 = some o → LO 113 3 30 [1, 2, 5, 6] [ii x1, .ptr 0 0 0, ii x5, ii x6] [.cells 0 (Q6 x2).cells] [5] (UE (x1, x2) () o)) :=
 Vf.mutual_partial_correctness  (fun x0 x1 r => PU 113 [Q6 x0, eI x1] (eI r)) (fun x1 x2 x5 x6 o => LO 113 3 30 [1, 2, 5, 6] [ii x1, .ptr 0 0 0, ii x5, ii x6] [.cells 0 (Q6 x2).cells] [5] (UE (x1, x2) () o))
 (fun XX Q3v x0 x1 r h  =>
 Pu2 (hs := [(3000004, .l [] [1, 2, 5, 6] [kk 2] [5] [] (UE (x1, x0)))]) ((kL1 () (Q3v x1 x0 1 0) fun v0 v2 => (kEr (enc := eI) v2)) h))
 (fun Vf XX Q3u Q3v x1 x2 x5 x6 o h  =>
 Lp2 (hs := [(10, .n eI 10 none), (11, .split), (14, .split), (22, .e Q6), (26, .c eI), (5000003, .l [] [] [] [1, 2, 5, 6, 15] [kk 2] (VV (x1, x2)))]) (kb := [kk 2]) (kbx := []) ((kJb (id := 5000003) (x5, x6) (fun v0 ev0 v1 => (kN _ (mLen (sh := Ql) x2.fArgs) fun v2 => (kIfD (p := x6 < v2) (kIfD (p := 1 < x1) (kXj (alts := VV (x1, x2)) ev0 true (.here () rfl (.refl _) (.refl _)))
 (kXj (alts := VV (x1, x2)) ev0 false (.next (.here () rfl (.refl _) (.refl _)))))
 (kXj (alts := VV (x1, x2)) ev0 false (.next (.here () rfl (.refl _) (.refl _)))))))
 (fun v0 => (kIxR (l := x2.fArgs) (k := v0.snd) QZ fun v4 => (kC (sh := eI) (Q3u v4 (wr (x1 - (1 : Int)))) fun v5 => (kM0 (alts := UE (x1, x2) ()) (Q3v x1 x2 (if true = true then max v0.fst (wr ((1 : Int) + v5)) else min v0.fst (wr ((1 : Int) + v5))) (wr (v0.snd + 1)))))))
 (fun v0 => (kX (alts := UE (x1, x2) ()) v0.fst (.here _ rfl (.refl _) (.refl _))))) h))
theorem Ax (x0 : Q1) (x1 : Int) (r : Int) (h : Vf x0 x1 = some r) : PU 113 [Q6 x0, eI x1] (eI r) := (TZ ).1 x0 x1 r h
def W0 (x0 : Q1) : Option Int :=
 Vf x0 41 >>= fun v0 =>
 some v0
theorem Av (x0 : Q1) (r : Int) (h : W0 x0 = some r) : PU 98 [Q6 x0] (eI r) :=
 Pu2 (hs := [(4, .c eI)]) ((kC (sh := eI) (Ax x0 41) fun v0 => (kEr (enc := eI) v0)) h)
def Gi (s : (Int × Q1)) (u : Unit) (o : Int) : List Alt := [⟨fun (x : Int) => x = o, .exit 0, fun x => [ii x], fun x => []⟩]
def Jw (s : (Int × Q1)) (u : (Int × Int)) (o : Bool) : List Alt := jb o (fun b => [ii (s.1), .ptr 0 0 0, ii (u.1), ii (u.2), .bool b]) [.cells 0 (Q6 (s.2)).cells]
mutual
def Je (x0 : Q1) (x1 : Int) : Option Int :=
 some ((1 : Int) : Int) >>= fun v0 =>
 some () >>= fun v1 =>
 Yq x1 x0 v0 0 >>= fun v3 =>
 some v3
 partial_fixpoint
def Yq (x1 : Int) (x2 : Q1) (x5 : Int) (x6 : Int) : Option Int :=
 some (x5, x6) >>= fun v0 =>
 (some (List.length x2.fArgs : Int) >>= fun v2 =>
 if x6 < v2 then
 if x5 ≤ x1 then
 some true
 else
 some false
 else
 some false) >>= fun v1 => if v1 then
 Option.map Q9.f (ix x2.fArgs v0.snd) >>= fun v4 =>
 Je v4 (wr (x1 - v0.fst)) >>= fun v5 =>
 some (wr (v0.fst + v5) : Int) >>= fun v6 =>
 Yq x1 x2 v6 (wr (v0.snd + 1))
 else
 some v0.fst
 partial_fixpoint
end
theorem Ah  : (∀ (x0 : Q1) (x1 : Int) (r : Int), Je x0 x1 = some r → PU 114 [Q6 x0, eI x1] (eI r)) ∧ (∀ (x1 : Int) (x2 : Q1) (x5 : Int) (x6 : Int) (o : Int), Yq x1 x2 x5 x6 = some o → LO 114 3 31 [1, 2, 5, 6] [ii x1, .ptr 0 0 0, ii x5, ii x6] [.cells 0 (Q6 x2).cells] [5] (Gi (x1, x2) () o)) :=
 Je.mutual_partial_correctness  (fun x0 x1 r => PU 114 [Q6 x0, eI x1] (eI r)) (fun x1 x2 x5 x6 o => LO 114 3 31 [1, 2, 5, 6] [ii x1, .ptr 0 0 0, ii x5, ii x6] [.cells 0 (Q6 x2).cells] [5] (Gi (x1, x2) () o))
 (fun Yq Q46 x0 x1 r h  =>
 Pu2 (hs := [(5, .n eI 5 none), (3000004, .l [] [1, 2, 5, 6] [kk 2] [5] [] (Gi (x1, x0)))]) ((kN (1 : Int) rfl fun v0 => (kL1 () (Q46 x1 x0 v0 0) fun v1 v3 => (kEr (enc := eI) v3))) h))
 (fun Je Yq Q45 Q46 x1 x2 x5 x6 o h  =>
 Lp2 (hs := [(10, .n eI 10 none), (11, .split), (15, .split), (23, .e Q6), (28, .c eI), (5, .n eI 5 none), (5000003, .l [] [] [] [1, 2, 5, 6, 16] [kk 2] (Jw (x1, x2)))]) (kb := [kk 2]) (kbx := []) ((kJb (id := 5000003) (x5, x6) (fun v0 ev0 v1 => (kN _ (mLen (sh := Ql) x2.fArgs) fun v2 => (kIfD (p := x6 < v2) (kIfD (p := x5 ≤ x1) (kXj (alts := Jw (x1, x2)) ev0 true (.here () rfl (.refl _) (.refl _)))
 (kXj (alts := Jw (x1, x2)) ev0 false (.next (.here () rfl (.refl _) (.refl _)))))
 (kXj (alts := Jw (x1, x2)) ev0 false (.next (.here () rfl (.refl _) (.refl _)))))))
 (fun v0 => (kIxR (l := x2.fArgs) (k := v0.snd) QZ fun v4 => (kC (sh := eI) (Q45 v4 (wr (x1 - v0.fst))) fun v5 => (kN (wr (v0.fst + v5)) rfl fun v6 => (kM0 (alts := Gi (x1, x2) ()) (Q46 x1 x2 v6 (wr (v0.snd + 1))))))))
 (fun v0 => (kX (alts := Gi (x1, x2) ()) v0.fst (.here _ rfl (.refl _) (.refl _))))) h))
theorem FJ (x0 : Q1) (x1 : Int) (r : Int) (h : Je x0 x1 = some r) : PU 114 [Q6 x0, eI x1] (eI r) := (Ah ).1 x0 x1 r h
def Wx (x0 : Q1) : Option Int :=
 Je x0 2000 >>= fun v0 =>
 some (if false = true then max v0 (2001 : Int) else min v0 (2001 : Int))
theorem FG (x0 : Q1) (r : Int) (h : Wx x0 = some r) : PU 99 [Q6 x0] (eI r) :=
 Pu2 (hs := [(4, .c eI)]) ((kC (sh := eI) (FJ x0 2000) fun v0 => (kEr (enc := eI) (if false = true then max v0 (2001 : Int) else min v0 (2001 : Int)))) h)
def VA (s : Q1) (u : Unit) (o : Unit ⊕ Bool) : List Alt := [⟨fun (x : Unit) => (Sum.inl x : Unit ⊕ Bool) = o, .exit 0, fun x => [.undef], fun x => []⟩, ⟨fun (x : Bool) => (Sum.inr x : Unit ⊕ Bool) = o, .ret, fun x => [.bool x], fun x => []⟩]
def Z9 (s : Q1) (u : Int) (o : Bool) : List Alt := jb o (fun b => [.ptr 0 0 0, ii u, .bool b]) [.cells 0 (Q6 s).cells]
def Y0 (x1 : Q1) (x3 : Int) : Option (Unit ⊕ Bool) :=
 some (List.length x1.fIdx : Int) >>= fun v0 =>
 if x3 < v0 then
 ix x1.fIdx x3 >>= fun v1 =>
 some x3 >>= fun v2 =>
 (if v1.fFrom == [] then
 some (List.length v1.fAt : Int) >>= fun v4 =>
 if 0 < v4 then
 some true
 else
 if !v1.fFrom == [] then
 if v1.fLin.fK != 0 then
 some true
 else
 some (List.length v1.fLin.fL : Int) >>= fun v5 =>
 if 0 < v5 then
 some true
 else
 some false
 else
 some false
 else
 if !v1.fFrom == [] then
 if v1.fLin.fK != 0 then
 some true
 else
 some (List.length v1.fLin.fL : Int) >>= fun v6 =>
 if 0 < v6 then
 some true
 else
 some false
 else
 some false) >>= fun v3 => if v3 then
 some (.inr false)
 else
 Y0 x1 (wr (v2 + 1))
 else
 some (.inl ())
 partial_fixpoint
theorem Rc (x1 : Q1) (x3 : Int) (o : Unit ⊕ Bool) (h : Y0 x1 x3 = some o) : LO 115 8 109 [1, 3] [.ptr 0 0 0, ii x3] [.cells 0 (Q6 x1).cells] [2] (VA x1 () o) :=
 Y0.partial_correctness x1 (fun x3 o => LO 115 8 109 [1, 3] [.ptr 0 0 0, ii x3] [.cells 0 (Q6 x1).cells] [2] (VA x1 () o))
 (fun Y0 Q42 x3 o h  =>
 Lp2 (hs := [(73, .n eI 73 none), (74, .split), (80, .e Q3), (84, .split), (88, .n eI 88 none), (89, .split), (94, .split), (99, .split), (104, .n eI 104 none), (105, .split), (5000011, .l [] [] [] [1, 3, 108] [kk 1] (Z9 x1))]) (kb := [kk 1]) (kbx := []) ((kN _ (mLen (sh := Q3) x1.fIdx) fun v0 => (kIfD (p := x3 < v0) (kIx (enc := Q3) (l := x1.fIdx) (k := x3) fun v1 => (kJb (id := 5000011) x3 (fun v2 ev2 v3 => (kIf (c := v1.fFrom == []) (kN _ (mLen (sh := Qi) v1.fAt) fun v4 => (kIfD (p := 0 < v4) (kXj (alts := Z9 x1) ev2 true (.here () rfl (.refl _) (.refl _)))
 (kIf (c := !v1.fFrom == []) (kIf (c := v1.fLin.fK != 0) (kXj (alts := Z9 x1) ev2 true (.here () rfl (.refl _) (.refl _)))
 (kN _ (mLen (sh := Qe) v1.fLin.fL) fun v5 => (kIfD (p := 0 < v5) (kXj (alts := Z9 x1) ev2 true (.here () rfl (.refl _) (.refl _)))
 (kXj (alts := Z9 x1) ev2 false (.next (.here () rfl (.refl _) (.refl _)))))))
 (kXj (alts := Z9 x1) ev2 false (.next (.here () rfl (.refl _) (.refl _)))))))
 (kIf (c := !v1.fFrom == []) (kIf (c := v1.fLin.fK != 0) (kXj (alts := Z9 x1) ev2 true (.here () rfl (.refl _) (.refl _)))
 (kN _ (mLen (sh := Qe) v1.fLin.fL) fun v6 => (kIfD (p := 0 < v6) (kXj (alts := Z9 x1) ev2 true (.here () rfl (.refl _) (.refl _)))
 (kXj (alts := Z9 x1) ev2 false (.next (.here () rfl (.refl _) (.refl _)))))))
 (kXj (alts := Z9 x1) ev2 false (.next (.here () rfl (.refl _) (.refl _)))))))
 (fun v2 => (kX (alts := VA x1 ()) (.inr false) (.next (.here _ rfl (.refl _) (.refl _)))))
 (fun v2 => (kM0 (alts := VA x1 ()) (Q42 (wr (v2 + 1)))))))
 (kX (alts := VA x1 ()) (.inl ()) (.here _ rfl (.refl _) (.refl _))))) h)) x3 o h
def VY (s : Q1) (u : Unit) (o : Bool) : List Alt := jb o (fun b => [.ptr 0 0 0, .bool b]) [.cells 0 (Q6 s).cells]
def Z8 (s : Q1) (u : Unit) (o : Bool) : List Alt := jb o (fun b => [.ptr 0 0 0, .bool b]) [.cells 0 (Q6 s).cells]
def QY (s : Q1) (u : Unit) (o : Bool) : List Alt := jb o (fun b => [.ptr 0 0 0, .bool b]) [.cells 0 (Q6 s).cells]
def W6 (x0 : Q1) : Option Bool :=
 some () >>= fun v0 =>
 (if x0.fOp < 1 then
 some true
 else
 if 18 < x0.fOp then
 some true
 else
 some false) >>= fun v1 => if v1 then
 some false
 else
 some () >>= fun v4 =>
 (if x0.fOp != 1 then
 some ((gVal.mk (0 : Int) (0 : Int))) >>= fun v6 =>
 if !(x0.fVal.fN == v6.fN && (x0.fVal.fD == v6.fD && true)) then
 some true
 else
 if x0.fOp != 1 then
 if x0.fOp != 12 then
 some ((Qg.mk (0 : Int) (0 : Int) (0 : Int) (0 : Int) (0 : Int))) >>= fun v7 =>
 if !(x0.fType.fKind == v7.fKind && (x0.fType.fBits == v7.fBits && (x0.fType.fFrac == v7.fFrac && (x0.fType.fRound == v7.fRound && (x0.fType.fOver == v7.fOver && true))))) then
 some true
 else
 some false
 else
 some false
 else
 some false
 else
 if x0.fOp != 1 then
 if x0.fOp != 12 then
 some ((Qg.mk (0 : Int) (0 : Int) (0 : Int) (0 : Int) (0 : Int))) >>= fun v8 =>
 if !(x0.fType.fKind == v8.fKind && (x0.fType.fBits == v8.fBits && (x0.fType.fFrac == v8.fFrac && (x0.fType.fRound == v8.fRound && (x0.fType.fOver == v8.fOver && true))))) then
 some true
 else
 some false
 else
 some false
 else
 some false) >>= fun v5 => if v5 then
 some false
 else
 some () >>= fun v11 =>
 (if x0.fOp != 2 then
 if x0.fLin.fK != 0 then
 some true
 else
 some (List.length x0.fLin.fL : Int) >>= fun v13 =>
 if 0 < v13 then
 some true
 else
 if x0.fOp != 3 then
 if !x0.fName == [] then
 some true
 else
 some (List.length x0.fIdx : Int) >>= fun v14 =>
 if 0 < v14 then
 some true
 else
 some false
 else
 some false
 else
 if x0.fOp != 3 then
 if !x0.fName == [] then
 some true
 else
 some (List.length x0.fIdx : Int) >>= fun v15 =>
 if 0 < v15 then
 some true
 else
 some false
 else
 some false) >>= fun v12 => if v12 then
 some false
 else
 some () >>= fun v18 =>
 Y0 x0 0 >>= fun v19 => (match v19 with
 | (.inl v20) =>
 some true
 | (.inr v21) =>
 some v21)
theorem Az (x0 : Q1) (r : Bool) (h : W6 x0 = some r) : PU 115 [Q6 x0] (eB r) :=
 Pu2 (hs := [(7, .split), (11, .split), (15, .split), (19, .n Qk 19 none), (20, .split), (25, .split), (29, .split), (34, .n Qy 34 none), (35, .split), (40, .split), (45, .split), (50, .n eI 50 none), (51, .split), (57, .split), (61, .split), (65, .n eI 65 none), (66, .split), (3000009, .l [] [1, 3] [kk 1] [2] [] (VA x0)), (5000001, .l [] [] [] [1, 12] [kk 1] (VY x0)), (5000003, .l [] [] [] [1, 37] [kk 1] (Z8 x0)), (5000005, .l [] [] [] [1, 69] [kk 1] (QY x0))]) ((kJb (id := 5000001) () (fun v0 ev0 v1 => (kIfD (p := x0.fOp < 1) (kXj (alts := VY x0) ev0 true (.here () rfl (.refl _) (.refl _)))
 (kIfD (p := 18 < x0.fOp) (kXj (alts := VY x0) ev0 true (.here () rfl (.refl _) (.refl _)))
 (kXj (alts := VY x0) ev0 false (.next (.here () rfl (.refl _) (.refl _)))))))
 (fun v0 => (kEr (enc := eB) false))
 (fun v0 => (kJb (id := 5000003) () (fun v4 ev4 v5 => (kIf (c := x0.fOp != 1) (kW (sh := Qk) (gVal.mk (0 : Int) (0 : Int)) lr fun v6 => (kIf (c := !(x0.fVal.fN == v6.fN && (x0.fVal.fD == v6.fD && true))) (kXj (alts := Z8 x0) ev4 true (.here () rfl (.refl _) (.refl _)))
 (kIf (c := x0.fOp != 1) (kIf (c := x0.fOp != 12) (kW (sh := Qy) (Qg.mk (0 : Int) (0 : Int) (0 : Int) (0 : Int) (0 : Int)) lr fun v7 => (kIf (c := !(x0.fType.fKind == v7.fKind && (x0.fType.fBits == v7.fBits && (x0.fType.fFrac == v7.fFrac && (x0.fType.fRound == v7.fRound && (x0.fType.fOver == v7.fOver && true)))))) (kXj (alts := Z8 x0) ev4 true (.here () rfl (.refl _) (.refl _)))
 (kXj (alts := Z8 x0) ev4 false (.next (.here () rfl (.refl _) (.refl _))))))
 (kXj (alts := Z8 x0) ev4 false (.next (.here () rfl (.refl _) (.refl _)))))
 (kXj (alts := Z8 x0) ev4 false (.next (.here () rfl (.refl _) (.refl _)))))))
 (kIf (c := x0.fOp != 1) (kIf (c := x0.fOp != 12) (kW (sh := Qy) (Qg.mk (0 : Int) (0 : Int) (0 : Int) (0 : Int) (0 : Int)) lr fun v8 => (kIf (c := !(x0.fType.fKind == v8.fKind && (x0.fType.fBits == v8.fBits && (x0.fType.fFrac == v8.fFrac && (x0.fType.fRound == v8.fRound && (x0.fType.fOver == v8.fOver && true)))))) (kXj (alts := Z8 x0) ev4 true (.here () rfl (.refl _) (.refl _)))
 (kXj (alts := Z8 x0) ev4 false (.next (.here () rfl (.refl _) (.refl _))))))
 (kXj (alts := Z8 x0) ev4 false (.next (.here () rfl (.refl _) (.refl _)))))
 (kXj (alts := Z8 x0) ev4 false (.next (.here () rfl (.refl _) (.refl _)))))))
 (fun v4 => (kEr (enc := eB) false))
 (fun v4 => (kJb (id := 5000005) () (fun v11 ev11 v12 => (kIf (c := x0.fOp != 2) (kIf (c := x0.fLin.fK != 0) (kXj (alts := QY x0) ev11 true (.here () rfl (.refl _) (.refl _)))
 (kN _ (mLen (sh := Qe) x0.fLin.fL) fun v13 => (kIfD (p := 0 < v13) (kXj (alts := QY x0) ev11 true (.here () rfl (.refl _) (.refl _)))
 (kIf (c := x0.fOp != 3) (kIf (c := !x0.fName == []) (kXj (alts := QY x0) ev11 true (.here () rfl (.refl _) (.refl _)))
 (kN _ (mLen (sh := Q3) x0.fIdx) fun v14 => (kIfD (p := 0 < v14) (kXj (alts := QY x0) ev11 true (.here () rfl (.refl _) (.refl _)))
 (kXj (alts := QY x0) ev11 false (.next (.here () rfl (.refl _) (.refl _)))))))
 (kXj (alts := QY x0) ev11 false (.next (.here () rfl (.refl _) (.refl _))))))))
 (kIf (c := x0.fOp != 3) (kIf (c := !x0.fName == []) (kXj (alts := QY x0) ev11 true (.here () rfl (.refl _) (.refl _)))
 (kN _ (mLen (sh := Q3) x0.fIdx) fun v15 => (kIfD (p := 0 < v15) (kXj (alts := QY x0) ev11 true (.here () rfl (.refl _) (.refl _)))
 (kXj (alts := QY x0) ev11 false (.next (.here () rfl (.refl _) (.refl _)))))))
 (kXj (alts := QY x0) ev11 false (.next (.here () rfl (.refl _) (.refl _)))))))
 (fun v11 => (kEr (enc := eB) false))
 (fun v11 => (kL2 () (hL := (Rc x0 0)) (hA := fun v18 v20 => (kEr (enc := eB) true))
 (hB := fun v18 v21 => (kEr (enc := eB) v21))))))))) h)
def Vy (s : Q1) (u : Unit) (o : Unit ⊕ Bool) : List Alt := [⟨fun (x : Unit) => (Sum.inl x : Unit ⊕ Bool) = o, .exit 0, fun x => [.undef], fun x => []⟩, ⟨fun (x : Bool) => (Sum.inr x : Unit ⊕ Bool) = o, .ret, fun x => [.bool x], fun x => []⟩]
def VX (s : Q1) (u : Int) (o : Bool) : List Alt := jb o (fun b => [.ptr 0 0 0, ii u, .bool b]) [.cells 0 (Q6 s).cells]
def XY (x1 : Q1) (x3 : Int) : Option (Unit ⊕ Bool) :=
 some (List.length x1.fIdx : Int) >>= fun v0 =>
 if x3 < v0 then
 some x3 >>= fun v1 =>
 (ix x1.fIdx x3 >>= fun v3 =>
 if !v3.fFrom == [] then
 ix x1.fIdx x3 >>= fun v4 =>
 J6 v4.fFrom >>= fun v5 => if v5 then
 some false
 else
 some true
 else
 some false) >>= fun v2 => if v2 then
 some (.inr false)
 else
 XY x1 (wr (v1 + 1))
 else
 some (.inl ())
 partial_fixpoint
theorem Rb (x1 : Q1) (x3 : Int) (o : Unit ⊕ Bool) (h : XY x1 x3 = some o) : LO 116 4 37 [1, 3] [.ptr 0 0 0, ii x3] [.cells 0 (Q6 x1).cells] [2] (Vy x1 () o) :=
 XY.partial_correctness x1 (fun x3 o => LO 116 4 37 [1, 3] [.ptr 0 0 0, ii x3] [.cells 0 (Q6 x1).cells] [2] (Vy x1 () o))
 (fun XY Q3z x3 o h  =>
 Lp2 (hs := [(16, .n eI 16 none), (17, .split), (23, .e Q3), (26, .split), (31, .e Q3), (34, .cb), (5000006, .l [] [] [] [1, 3, 36] [kk 1] (VX x1))]) (kb := [kk 1]) (kbx := []) ((kN _ (mLen (sh := Q3) x1.fIdx) fun v0 => (kIfD (p := x3 < v0) (kJb (id := 5000006) x3 (fun v1 ev1 v2 => (kIx (enc := Q3) (l := x1.fIdx) (k := x3) fun v3 => (kIf (c := !v3.fFrom == []) (kIx (enc := Q3) (l := x1.fIdx) (k := x3) fun v4 => (kCb (DX v4.fFrom) (kXj (alts := VX x1) ev1 false (.next (.here () rfl (.refl _) (.refl _))))
 (kXj (alts := VX x1) ev1 true (.here () rfl (.refl _) (.refl _)))))
 (kXj (alts := VX x1) ev1 false (.next (.here () rfl (.refl _) (.refl _)))))))
 (fun v1 => (kX (alts := Vy x1 ()) (.inr false) (.next (.here _ rfl (.refl _) (.refl _)))))
 (fun v1 => (kM0 (alts := Vy x1 ()) (Q3z (wr (v1 + 1))))))
 (kX (alts := Vy x1 ()) (.inl ()) (.here _ rfl (.refl _) (.refl _))))) h)) x3 o h
def VW (s : Q1) (u : Unit) (o : Bool) : List Alt := jb o (fun b => [.ptr 0 0 0, .bool b]) [.cells 0 (Q6 s).cells]
def W5 (x0 : Q1) : Option Bool :=
 some () >>= fun v0 =>
 (if x0.fOp == 3 then
 J6 x0.fName >>= fun v2 => if v2 then
 some false
 else
 some true
 else
 some false) >>= fun v1 => if v1 then
 some false
 else
 some () >>= fun v5 =>
 XY x0 0 >>= fun v6 => (match v6 with
 | (.inl v7) =>
 some true
 | (.inr v8) =>
 some v8)
theorem Ay (x0 : Q1) (r : Bool) (h : W5 x0 = some r) : PU 116 [Q6 x0] (eB r) :=
 Pu2 (hs := [(6, .split), (10, .cb), (3000005, .l [] [1, 3] [kk 1] [2] [] (Vy x0)), (5000001, .l [] [] [] [1, 12] [kk 1] (VW x0))]) ((kJb (id := 5000001) () (fun v0 ev0 v1 => (kIf (c := x0.fOp == 3) (kCb (DX x0.fName) (kXj (alts := VW x0) ev0 false (.next (.here () rfl (.refl _) (.refl _))))
 (kXj (alts := VW x0) ev0 true (.here () rfl (.refl _) (.refl _))))
 (kXj (alts := VW x0) ev0 false (.next (.here () rfl (.refl _) (.refl _))))))
 (fun v0 => (kEr (enc := eB) false))
 (fun v0 => (kL2 () (hL := (Rb x0 0)) (hA := fun v5 v7 => (kEr (enc := eB) true))
 (hB := fun v5 v8 => (kEr (enc := eB) v8))))) h)
def Kr (s : Unit) (u : Int) (o : Bool) : List Alt := jb o (fun b => [ii u, .bool b]) []
def Ks (s : Unit) (u : Int) (o : Bool) : List Alt := jb o (fun b => [ii u, .bool b]) []
def Ce (x0 : Int) : Option Int :=
 some x0 >>= fun v0 =>
 (if x0 == 1 then
 some true
 else
 if x0 == 2 then
 some true
 else
 if x0 == 3 then
 some true
 else
 some false) >>= fun v1 => if v1 then
 some (0 : Int)
 else
 some v0 >>= fun v4 =>
 (if v0 == 8 then
 some true
 else
 if v0 == 12 then
 some true
 else
 if v0 == 18 then
 some true
 else
 some false) >>= fun v5 => if v5 then
 some (1 : Int)
 else
 if v4 == 11 then
 some (3 : Int)
 else
 some (2 : Int)
theorem FH (x0 : Int) (r : Int) (h : Ce x0 = some r) : PU 129 [eI x0] (eI r) :=
 Pu2 (hs := [(4, .split), (4, .split), (4, .split), (8, .split), (8, .split), (8, .split), (13, .split), (6000004, .l [] [] [] [3, 4] [] (Kr ())), (6000008, .l [] [] [] [3, 8] [] (Ks ()))]) ((kJb (id := 6000004) x0 (fun v0 ev0 v1 => (kIf (c := x0 == 1) (kXj (alts := Kr ()) ev0 true (.here () rfl (.refl _) (.refl _)))
 (kIf (c := x0 == 2) (kXj (alts := Kr ()) ev0 true (.here () rfl (.refl _) (.refl _)))
 (kIf (c := x0 == 3) (kXj (alts := Kr ()) ev0 true (.here () rfl (.refl _) (.refl _)))
 (kXj (alts := Kr ()) ev0 false (.next (.here () rfl (.refl _) (.refl _))))))))
 (fun v0 => (kEr (enc := eI) (0 : Int)))
 (fun v0 => (kJb (id := 6000008) v0 (fun v4 ev4 v5 => (kIf (c := v0 == 8) (kXj (alts := Ks ()) ev4 true (.here () rfl (.refl _) (.refl _)))
 (kIf (c := v0 == 12) (kXj (alts := Ks ()) ev4 true (.here () rfl (.refl _) (.refl _)))
 (kIf (c := v0 == 18) (kXj (alts := Ks ()) ev4 true (.here () rfl (.refl _) (.refl _)))
 (kXj (alts := Ks ()) ev4 false (.next (.here () rfl (.refl _) (.refl _))))))))
 (fun v4 => (kEr (enc := eI) (1 : Int)))
 (fun v4 => (kIf (c := v4 == 11) (kEr (enc := eI) (3 : Int))
 (kEr (enc := eI) (2 : Int))))))) h)
def V7 (s : Q1) (u : Unit) (o : Unit ⊕ Bool) : List Alt := [⟨fun (x : Unit) => (Sum.inl x : Unit ⊕ Bool) = o, .exit 0, fun x => [.undef], fun x => []⟩, ⟨fun (x : Bool) => (Sum.inr x : Unit ⊕ Bool) = o, .ret, fun x => [.bool x], fun x => []⟩]
def Xn (x1 : Q1) (x3 : Int) : Option (Unit ⊕ Bool) :=
 some (List.length x1.fIdx : Int) >>= fun v0 =>
 if x3 < v0 then
 ix x1.fIdx x3 >>= fun v1 =>
 some (List.length v1.fAt : Int) >>= fun v2 =>
 if 6 < v2 then
 some (.inr false)
 else
 Xn x1 (wr (x3 + 1))
 else
 some (.inl ())
 partial_fixpoint
theorem Ek (x1 : Q1) (x3 : Int) (o : Unit ⊕ Bool) (h : Xn x1 x3 = some o) : LO 117 4 32 [1, 3] [.ptr 0 0 0, ii x3] [.cells 0 (Q6 x1).cells] [2] (V7 x1 () o) :=
 Xn.partial_correctness x1 (fun x3 o => LO 117 4 32 [1, 3] [.ptr 0 0 0, ii x3] [.cells 0 (Q6 x1).cells] [2] (V7 x1 () o))
 (fun Xn Q43 x3 o h  =>
 Lp2 (hs := [(20, .n eI 20 none), (21, .split), (27, .e Q3), (30, .n eI 30 none), (31, .split)]) (kb := [kk 1]) (kbx := []) ((kN _ (mLen (sh := Q3) x1.fIdx) fun v0 => (kIfD (p := x3 < v0) (kIx (enc := Q3) (l := x1.fIdx) (k := x3) fun v1 => (kN _ (mLen (sh := Qi) v1.fAt) fun v2 => (kIfD (p := 6 < v2) (kX (alts := V7 x1 ()) (.inr false) (.next (.here _ rfl (.refl _) (.refl _))))
 (kM0 (alts := V7 x1 ()) (Q43 (wr (x3 + 1)))))))
 (kX (alts := V7 x1 ()) (.inl ()) (.here _ rfl (.refl _) (.refl _))))) h)) x3 o h
def Vk (s : Q1) (u : Unit) (o : Bool) : List Alt := jb o (fun b => [.ptr 0 0 0, .bool b]) [.cells 0 (Q6 s).cells]
def Cu (x0 : Q1) : Option Bool :=
 some () >>= fun v0 =>
 (Ce x0.fOp >>= fun v2 =>
 some (List.length x0.fArgs : Int) >>= fun v3 =>
 if v3 != v2 then
 some true
 else
 some (List.length x0.fIdx : Int) >>= fun v4 =>
 if 6 < v4 then
 some true
 else
 some false) >>= fun v1 => if v1 then
 some false
 else
 some () >>= fun v7 =>
 Xn x0 0 >>= fun v8 => (match v8 with
 | (.inl v9) =>
 some true
 | (.inr v10) =>
 some v10)
theorem Sa (x0 : Q1) (r : Bool) (h : Cu x0 = some r) : PU 117 [Q6 x0] (eB r) :=
 Pu2 (hs := [(6, .n eI 6 none), (9, .c eI), (10, .split), (14, .n eI 14 none), (15, .split), (3000005, .l [] [1, 3] [kk 1] [2] [] (V7 x0)), (5000001, .l [] [] [] [1, 16] [kk 1] (Vk x0))]) ((kJb (id := 5000001) () (fun v0 ev0 v1 => (kC (sh := eI) (FH x0.fOp) fun v2 => (kN _ (mLen (sh := Ql) x0.fArgs) fun v3 => (kIf (c := v3 != v2) (kXj (alts := Vk x0) ev0 true (.here () rfl (.refl _) (.refl _)))
 (kN _ (mLen (sh := Q3) x0.fIdx) fun v4 => (kIfD (p := 6 < v4) (kXj (alts := Vk x0) ev0 true (.here () rfl (.refl _) (.refl _)))
 (kXj (alts := Vk x0) ev0 false (.next (.here () rfl (.refl _) (.refl _))))))))))
 (fun v0 => (kEr (enc := eB) false))
 (fun v0 => (kL2 () (hL := (Ek x0 0)) (hA := fun v7 v9 => (kEr (enc := eB) true))
 (hB := fun v7 v10 => (kEr (enc := eB) v10))))) h)
def Zu (x0 : Q1) : Option Bool :=
 if 13 ≤ x0.fOp then
 some (decide (x0.fOp ≤ 18))
 else
 some false
theorem K4 (x0 : Q1) (r : Bool) (h : Zu x0 = some r) : PU 77 [Q6 x0] (eB r) :=
 Pu2 (hs := [(5, .split)]) ((kIfD (p := 13 ≤ x0.fOp) (kEr (enc := eB) (decide (x0.fOp ≤ 18)))
 (kEr (enc := eB) false)) h)
def DR (x0 : Int) (x1 : Int) : Option Bool :=
 if x0 == 11 then
 if x1 == 0 then
 some true
 else
 if x0 == 16 then
 some true
 else
 if x0 == 17 then
 some true
 else
 some (x0 == 18)
 else
 if x0 == 16 then
 some true
 else
 if x0 == 17 then
 some true
 else
 some (x0 == 18)
theorem AB (x0 : Int) (x1 : Int) (r : Bool) (h : DR x0 x1 = some r) : PU 130 [eI x0, eI x1] (eB r) :=
 Pu2 (hs := [(6, .split), (9, .split), (13, .split), (17, .split)]) ((kIf (c := x0 == 11) (kIf (c := x1 == 0) (kEr (enc := eB) true)
 (kIf (c := x0 == 16) (kEr (enc := eB) true)
 (kIf (c := x0 == 17) (kEr (enc := eB) true)
 (kEr (enc := eB) (x0 == 18)))))
 (kIf (c := x0 == 16) (kEr (enc := eB) true)
 (kIf (c := x0 == 17) (kEr (enc := eB) true)
 (kEr (enc := eB) (x0 == 18))))) h)
def VB (s : Q1) (u : Unit) (o : Unit ⊕ Bool) : List Alt := [⟨fun (x : Unit) => (Sum.inl x : Unit ⊕ Bool) = o, .exit 0, fun x => [.undef], fun x => []⟩, ⟨fun (x : Bool) => (Sum.inr x : Unit ⊕ Bool) = o, .ret, fun x => [.bool x], fun x => []⟩]
def Y1 (x1 : Q1) (x3 : Int) : Option (Unit ⊕ Bool) :=
 some (List.length x1.fArgs : Int) >>= fun v0 =>
 if x3 < v0 then
 Option.map Q9.f (ix x1.fArgs x3) >>= fun v1 =>
 Zu v1 >>= fun v2 =>
 DR x1.fOp x3 >>= fun v3 =>
 if !v2 == v3 then
 some (.inr false)
 else
 Y1 x1 (wr (x3 + 1))
 else
 some (.inl ())
 partial_fixpoint
theorem Rd (x1 : Q1) (x3 : Int) (o : Unit ⊕ Bool) (h : Y1 x1 x3 = some o) : LO 118 4 36 [1, 3] [.ptr 0 0 0, ii x3] [.cells 0 (Q6 x1).cells] [2] (VB x1 () o) :=
 Y1.partial_correctness x1 (fun x3 o => LO 118 4 36 [1, 3] [.ptr 0 0 0, ii x3] [.cells 0 (Q6 x1).cells] [2] (VB x1 () o))
 (fun Y1 Q48 x3 o h  =>
 Lp2 (hs := [(21, .n eI 21 none), (22, .split), (28, .e Q6), (30, .c eB), (34, .c eB), (35, .split)]) (kb := [kk 1]) (kbx := []) ((kN _ (mLen (sh := Ql) x1.fArgs) fun v0 => (kIfD (p := x3 < v0) (kIxR (l := x1.fArgs) (k := x3) QZ fun v1 => (kC (sh := eB) (K4 v1) fun v2 => (kC (sh := eB) (AB x1.fOp x3) fun v3 => (kIf (c := !v2 == v3) (kX (alts := VB x1 ()) (.inr false) (.next (.here _ rfl (.refl _) (.refl _))))
 (kM0 (alts := VB x1 ()) (Q48 (wr (x3 + 1))))))))
 (kX (alts := VB x1 ()) (.inl ()) (.here _ rfl (.refl _) (.refl _))))) h)) x3 o h
def Yc (s : Q1) (u : Unit) (o : Bool) : List Alt := jb o (fun b => [.ptr 0 0 0, .bool b]) [.cells 0 (Q6 s).cells]
def W7 (x0 : Q1) : Option Bool :=
 some () >>= fun v0 =>
 (if x0.fOp == 1 then
 XC x0.fType >>= fun v2 => if v2 then
 some false
 else
 some true
 else
 if x0.fOp == 12 then
 XC x0.fType >>= fun v3 => if v3 then
 some false
 else
 some true
 else
 some false) >>= fun v1 => if v1 then
 some false
 else
 some () >>= fun v6 =>
 Y1 x0 0 >>= fun v7 => (match v7 with
 | (.inl v8) =>
 some true
 | (.inr v9) =>
 some v9)
theorem AA (x0 : Q1) (r : Bool) (h : W7 x0 = some r) : PU 118 [Q6 x0] (eB r) :=
 Pu2 (hs := [(6, .split), (10, .split), (15, .cb), (3000005, .l [] [1, 3] [kk 1] [2] [] (VB x0)), (5000001, .l [] [] [] [1, 17] [kk 1] (Yc x0))]) ((kJb (id := 5000001) () (fun v0 ev0 v1 => (kIf (c := x0.fOp == 1) (kCb (Up x0.fType) (kXj (alts := Yc x0) ev0 false (.next (.here () rfl (.refl _) (.refl _))))
 (kXj (alts := Yc x0) ev0 true (.here () rfl (.refl _) (.refl _))))
 (kIf (c := x0.fOp == 12) (kCb (Up x0.fType) (kXj (alts := Yc x0) ev0 false (.next (.here () rfl (.refl _) (.refl _))))
 (kXj (alts := Yc x0) ev0 true (.here () rfl (.refl _) (.refl _))))
 (kXj (alts := Yc x0) ev0 false (.next (.here () rfl (.refl _) (.refl _)))))))
 (fun v0 => (kEr (enc := eB) false))
 (fun v0 => (kL2 () (hL := (Rd x0 0)) (hA := fun v6 v8 => (kEr (enc := eB) true))
 (hB := fun v6 v9 => (kEr (enc := eB) v9))))) h)
def DP (s : Unit) (u : Unit) (o : Int) : List Alt := [⟨fun (x : Int) => x = o, .exit 0, fun x => [ii x], fun x => []⟩]
def U0 (x0 : Int) (x1 : Int) : Option Int :=
 if x1 != 0 then
 if x1 ≠ 0 then
 some (x0.tmod x1 : Int) >>= fun v0 =>
 U0 x1 v0
 else none
 else
 some x0
 partial_fixpoint
theorem Ap (x0 : Int) (x1 : Int) (o : Int) (h : U0 x0 x1 = some o) : LO 153 1 12 [0, 1] [ii x0, ii x1] [] [0] (DP () () o) :=
 U0.partial_correctness  (fun x0 x1 o => LO 153 1 12 [0, 1] [ii x0, ii x1] [] [0] (DP () () o))
 (fun U0 Q33 x0 x1 o h  =>
 Lp2 (hs := [(6, .split), (10, .s), (1, .n eI 1 none)]) (kb := []) (kbx := []) ((kIf (c := x1 != 0) (kG (p := x1 ≠ 0) (kN (x0.tmod x1) rfl fun v0 => (kM0 (alts := DP () ()) (Q33 x1 v0))))
 (kX (alts := DP () ()) x0 (.here _ rfl (.refl _) (.refl _)))) h)) x0 x1 o h
def NW (x0 : Int) (x1 : Int) : Option Int :=
 some () >>= fun v0 =>
 U0 x0 x1 >>= fun v2 =>
 some v2
theorem BR (x0 : Int) (x1 : Int) (r : Int) (h : NW x0 x1 = some r) : PU 153 [eI x0, eI x1] (eI r) :=
 Pu2 (hs := [(3000002, .l [] [0, 1] [] [0] [] (DP ()))]) ((kL1 () (Ap x0 x1) fun v0 v2 => (kEr (enc := eI) v2)) h)
def YX (s : (Qg × gVal)) (u : Unit) (o : Bool) : List Alt := jb o (fun b => [.ptr 0 0 0, .ptr 1 0 0, .bool b]) [.cells 0 (Qy (s.1)).cells, .cells 0 (Qk (s.2)).cells]
def Kl (x0 : Qg) (x1 : gVal) : Option Bool :=
 if x0.fKind == 2 then
 if 0 ≤ wr (x0.fBits - (1 : Int)) then
 some (wr ((1 : Int) * (2 : Int) ^ min (wr (x0.fBits - (1 : Int))).toNat (64 : Nat)) : Int) >>= fun v0 =>
 if x1.fD == 1 then
 if wr ((0 : Int) - v0) ≤ x1.fN then
 some (decide (x1.fN < v0))
 else
 some false
 else
 some false
 else none
 else
 some () >>= fun v1 =>
 (if 2147483647 < x1.fN then
 some true
 else
 if x1.fN < (-2147483647 : Int) then
 some true
 else
 if x1.fD < 1 then
 some true
 else
 if 2147483647 < x1.fD then
 some true
 else
 some false) >>= fun v2 => if v2 then
 some false
 else
 if x0.fKind == 3 then
 some (x1.fD == 1)
 else
 NW (if true = true then max x1.fN (wr ((0 : Int) - x1.fN)) else min x1.fN (wr ((0 : Int) - x1.fN))) x1.fD >>= fun v5 =>
 some (v5 == 1)
theorem DG (x0 : Qg) (x1 : gVal) (r : Bool) (h : Kl x0 x1 = some r) : PU 131 [Qy x0, Qk x1] (eB r) :=
 Pu2 (hs := [(8, .split), (12, .s), (5, .n eI 5 none), (15, .split), (21, .split), (31, .split), (35, .split), (40, .split), (45, .split), (49, .split), (61, .c eI), (5000004, .l [] [] [] [2, 3, 46] [kk 2, kk 3] (YX (x0, x1)))]) ((kIf (c := x0.fKind == 2) (kG (p := 0 ≤ wr (x0.fBits - (1 : Int))) (kN (wr ((1 : Int) * (2 : Int) ^ min (wr (x0.fBits - (1 : Int))).toNat (64 : Nat))) rfl fun v0 => (kIf (c := x1.fD == 1) (kIfD (p := wr ((0 : Int) - v0) ≤ x1.fN) (kEr (enc := eB) (decide (x1.fN < v0)))
 (kEr (enc := eB) false))
 (kEr (enc := eB) false))))
 (kJb (id := 5000004) () (fun v1 ev1 v2 => (kIfD (p := 2147483647 < x1.fN) (kXj (alts := YX (x0, x1)) ev1 true (.here () rfl (.refl _) (.refl _)))
 (kIfD (p := x1.fN < (-2147483647 : Int)) (kXj (alts := YX (x0, x1)) ev1 true (.here () rfl (.refl _) (.refl _)))
 (kIfD (p := x1.fD < 1) (kXj (alts := YX (x0, x1)) ev1 true (.here () rfl (.refl _) (.refl _)))
 (kIfD (p := 2147483647 < x1.fD) (kXj (alts := YX (x0, x1)) ev1 true (.here () rfl (.refl _) (.refl _)))
 (kXj (alts := YX (x0, x1)) ev1 false (.next (.here () rfl (.refl _) (.refl _)))))))))
 (fun v1 => (kEr (enc := eB) false))
 (fun v1 => (kIf (c := x0.fKind == 3) (kEr (enc := eB) (x1.fD == 1))
 (kC (sh := eI) (BR (if true = true then max x1.fN (wr ((0 : Int) - x1.fN)) else min x1.fN (wr ((0 : Int) - x1.fN))) x1.fD) fun v5 => (kEr (enc := eB) (v5 == 1))))))) h)
def Kq (s : gLin) (u : Unit) (o : Unit ⊕ Bool) : List Alt := [⟨fun (x : Unit) => (Sum.inl x : Unit ⊕ Bool) = o, .exit 0, fun x => [.undef], fun x => []⟩, ⟨fun (x : Bool) => (Sum.inr x : Unit ⊕ Bool) = o, .ret, fun x => [.bool x], fun x => []⟩]
def Xv (s : gLin) (u : Int) (o : Bool) : List Alt := jb o (fun b => [.ptr 0 0 0, ii u, .bool b]) [.cells 0 (Qi s).cells]
def QX (x1 : gLin) (x3 : Int) : Option (Unit ⊕ Bool) :=
 some (List.length x1.fL : Int) >>= fun v0 =>
 if x3 < v0 then
 some x3 >>= fun v1 =>
 (ix x1.fL x3 >>= fun v3 =>
 J6 v3.fName >>= fun v4 => if v4 then
 ix x1.fL x3 >>= fun v5 =>
 if v5.fBy == 0 then
 some true
 else
 if 0 < x3 then
 ix x1.fL (wr (x3 - (1 : Int))) >>= fun v6 =>
 ix x1.fL x3 >>= fun v7 =>
 if !Op.bytesLess v6.fName v7.fName then
 some true
 else
 some false
 else
 some false
 else
 some true) >>= fun v2 => if v2 then
 some (.inr false)
 else
 QX x1 (wr (v1 + 1))
 else
 some (.inl ())
 partial_fixpoint
theorem IP (x1 : gLin) (x3 : Int) (o : Unit ⊕ Bool) (h : QX x1 x3 = some o) : LO 132 2 48 [1, 3] [.ptr 0 0 0, ii x3] [.cells 0 (Qi x1).cells] [2] (Kq x1 () o) :=
 QX.partial_correctness x1 (fun x3 o => LO 132 2 48 [1, 3] [.ptr 0 0 0, ii x3] [.cells 0 (Qi x1).cells] [2] (Kq x1 () o))
 (fun QX Q2t x3 o h  =>
 Lp2 (hs := [(7, .n eI 7 none), (8, .split), (14, .e Qe), (17, .cb), (23, .e Qe), (26, .split), (30, .split), (36, .e Qe), (42, .e Qe), (45, .split), (5000004, .l [] [] [] [1, 3, 47] [kk 1] (Xv x1))]) (kb := [kk 1]) (kbx := []) ((kN _ (mLen (sh := Qe) x1.fL) fun v0 => (kIfD (p := x3 < v0) (kJb (id := 5000004) x3 (fun v1 ev1 v2 => (kIx (enc := Qe) (l := x1.fL) (k := x3) fun v3 => (kCb (DX v3.fName) (kIx (enc := Qe) (l := x1.fL) (k := x3) fun v5 => (kIf (c := v5.fBy == 0) (kXj (alts := Xv x1) ev1 true (.here () rfl (.refl _) (.refl _)))
 (kIfD (p := 0 < x3) (kIx (enc := Qe) (l := x1.fL) (k := wr (x3 - (1 : Int))) fun v6 => (kIx (enc := Qe) (l := x1.fL) (k := x3) fun v7 => (kIf (c := !Op.bytesLess v6.fName v7.fName) (kXj (alts := Xv x1) ev1 true (.here () rfl (.refl _) (.refl _)))
 (kXj (alts := Xv x1) ev1 false (.next (.here () rfl (.refl _) (.refl _)))))))
 (kXj (alts := Xv x1) ev1 false (.next (.here () rfl (.refl _) (.refl _)))))))
 (kXj (alts := Xv x1) ev1 true (.here () rfl (.refl _) (.refl _))))))
 (fun v1 => (kX (alts := Kq x1 ()) (.inr false) (.next (.here _ rfl (.refl _) (.refl _)))))
 (fun v1 => (kM0 (alts := Kq x1 ()) (Q2t (wr (v1 + 1))))))
 (kX (alts := Kq x1 ()) (.inl ()) (.here _ rfl (.refl _) (.refl _))))) h)) x3 o h
def ZG (x0 : gLin) : Option Bool :=
 some () >>= fun v0 =>
 QX x0 0 >>= fun v1 => (match v1 with
 | (.inl v2) =>
 some true
 | (.inr v3) =>
 some v3)
theorem V1 (x0 : gLin) (r : Bool) (h : ZG x0 = some r) : PU 132 [Qi x0] (eB r) :=
 Pu2 (hs := [(3000003, .l [] [1, 3] [kk 1] [2] [] (Kq x0))]) ((kL2 () (hL := (IP x0 0)) (hA := fun v0 v2 => (kEr (enc := eB) true))
 (hB := fun v0 v3 => (kEr (enc := eB) v3))) h)
def V6 (s : Q1) (u : Int) (o : Unit ⊕ Bool) : List Alt := [⟨fun (x : Unit) => (Sum.inl x : Unit ⊕ Bool) = o, .exit 2, fun x => [.ptr 0 0 0, .undef, ii u], fun x => [.cells 0 (Q6 s).cells]⟩, ⟨fun (x : Bool) => (Sum.inr x : Unit ⊕ Bool) = o, .ret, fun x => [.ptr 0 0 0, .bool x, ii u], fun x => [.cells 0 (Q6 s).cells]⟩]
def Xm (x1 : Q1) (x3 : Int) (x4 : Int) : Option (Unit ⊕ Bool) :=
 ix x1.fIdx x3 >>= fun v0 =>
 some (List.length v0.fAt : Int) >>= fun v1 =>
 if x4 < v1 then
 ix x1.fIdx x3 >>= fun v2 =>
 ix v2.fAt x4 >>= fun v3 =>
 ZG v3 >>= fun v4 => if v4 then
 Xm x1 x3 (wr (x4 + 1))
 else
 some (.inr false)
 else
 some (.inl ())
 partial_fixpoint
theorem Ej (x1 : Q1) (x3 : Int) (x4 : Int) (o : Unit ⊕ Bool) (h : Xm x1 x3 x4 = some o) : LO 119 9 59 [1, 3, 4] [.ptr 0 0 0, ii x3, ii x4] [.cells 0 (Q6 x1).cells] [1, 2, 3] (V6 x1 x3 o) :=
 Xm.partial_correctness x1 x3 (fun x4 o => LO 119 9 59 [1, 3, 4] [.ptr 0 0 0, ii x3, ii x4] [.cells 0 (Q6 x1).cells] [1, 2, 3] (V6 x1 x3 o))
 (fun Xm Q3x x4 o h  =>
 Lp2 (hs := [(41, .e Q3), (44, .n eI 44 none), (45, .split), (51, .e Q3), (55, .e Qi), (57, .cb)]) (kb := [kk 1]) (kbx := [kk 1]) ((kIx (enc := Q3) (l := x1.fIdx) (k := x3) fun v0 => (kN _ (mLen (sh := Qi) v0.fAt) fun v1 => (kIfD (p := x4 < v1) (kIx (enc := Q3) (l := x1.fIdx) (k := x3) fun v2 => (kIx (enc := Qi) (l := v2.fAt) (k := x4) fun v3 => (kCb (V1 v3) (kM0 (alts := V6 x1 x3) (Q3x (wr (x4 + 1))))
 (kX (alts := V6 x1 x3) (.inr false) (.next (.here _ rfl (.refl _) (.refl _)))))))
 (kX (alts := V6 x1 x3) (.inl ()) (.here _ rfl (.refl _) (.refl _)))))) h)) x4 o h
def YN (s : Q1) (u : Unit) (o : Unit ⊕ Bool) : List Alt := [⟨fun (x : Unit) => (Sum.inl x : Unit ⊕ Bool) = o, .exit 0, fun x => [.undef], fun x => []⟩, ⟨fun (x : Bool) => (Sum.inr x : Unit ⊕ Bool) = o, .ret, fun x => [.bool x], fun x => []⟩]
def Xl (x1 : Q1) (x3 : Int) : Option (Unit ⊕ Bool) :=
 some (List.length x1.fIdx : Int) >>= fun v0 =>
 if x3 < v0 then
 ix x1.fIdx x3 >>= fun v1 =>
 ZG v1.fLin >>= fun v2 => if v2 then
 some x3 >>= fun v3 =>
 Xm x1 x3 0 >>= fun v4 => (match v4 with
 | (.inl v5) =>
 Xl x1 (wr (v3 + 1))
 | (.inr v6) =>
 some (.inr v6))
 else
 some (.inr false)
 else
 some (.inl ())
 partial_fixpoint
theorem Ei (x1 : Q1) (x3 : Int) (o : Unit ⊕ Bool) (h : Xl x1 x3 = some o) : LO 119 4 59 [1, 3] [.ptr 0 0 0, ii x3] [.cells 0 (Q6 x1).cells] [2] (YN x1 () o) :=
 Xl.partial_correctness x1 (fun x3 o => LO 119 4 59 [1, 3] [.ptr 0 0 0, ii x3] [.cells 0 (Q6 x1).cells] [2] (YN x1 () o))
 (fun Xl Q3w x3 o h  =>
 Lp2 (hs := [(25, .n eI 25 none), (26, .split), (32, .e Q3), (35, .cb), (3000010, .l [] [1, 3, 4] [kk 1] [1, 2, 3] [kk 1] (V6 x1))]) (kb := [kk 1]) (kbx := []) ((kN _ (mLen (sh := Q3) x1.fIdx) fun v0 => (kIfD (p := x3 < v0) (kIx (enc := Q3) (l := x1.fIdx) (k := x3) fun v1 => (kCb (V1 v1.fLin) (kL2 x3 (hL := (Ej x1 x3 0)) (hA := fun v3 v5 => (kM0 (alts := YN x1 ()) (Q3w (wr (v3 + 1)))))
 (hB := fun v3 v6 => (kX (alts := YN x1 ()) (.inr v6) (.next (.here _ rfl (.refl _) (.refl _))))))
 (kX (alts := YN x1 ()) (.inr false) (.next (.here _ rfl (.refl _) (.refl _))))))
 (kX (alts := YN x1 ()) (.inl ()) (.here _ rfl (.refl _) (.refl _))))) h)) x3 o h
def XP (s : Q1) (u : Unit) (o : Bool) : List Alt := jb o (fun b => [.ptr 0 0 0, .bool b]) [.cells 0 (Q6 s).cells]
def Ct (x0 : Q1) : Option Bool :=
 some () >>= fun v0 =>
 (if x0.fOp == 1 then
 Kl x0.fType x0.fVal >>= fun v2 => if v2 then
 ZG x0.fLin >>= fun v3 => if v3 then
 some false
 else
 some true
 else
 some true
 else
 ZG x0.fLin >>= fun v4 => if v4 then
 some false
 else
 some true) >>= fun v1 => if v1 then
 some false
 else
 some () >>= fun v7 =>
 Xl x0 0 >>= fun v8 => (match v8 with
 | (.inl v9) =>
 some true
 | (.inr v10) =>
 some v10)
theorem S9 (x0 : Q1) (r : Bool) (h : Ct x0 = some r) : PU 119 [Q6 x0] (eB r) :=
 Pu2 (hs := [(7, .split), (13, .cb), (19, .cb), (3000005, .l [] [1, 3] [kk 1] [2] [] (YN x0)), (5000001, .l [] [] [] [1, 21] [kk 1] (XP x0))]) ((kJb (id := 5000001) () (fun v0 ev0 v1 => (kIf (c := x0.fOp == 1) (kCb (DG x0.fType x0.fVal) (kCb (V1 x0.fLin) (kXj (alts := XP x0) ev0 false (.next (.here () rfl (.refl _) (.refl _))))
 (kXj (alts := XP x0) ev0 true (.here () rfl (.refl _) (.refl _))))
 (kXj (alts := XP x0) ev0 true (.here () rfl (.refl _) (.refl _))))
 (kCb (V1 x0.fLin) (kXj (alts := XP x0) ev0 false (.next (.here () rfl (.refl _) (.refl _))))
 (kXj (alts := XP x0) ev0 true (.here () rfl (.refl _) (.refl _))))))
 (fun v0 => (kEr (enc := eB) false))
 (fun v0 => (kL2 () (hL := (Ei x0 0)) (hA := fun v7 v9 => (kEr (enc := eB) true))
 (hB := fun v7 v10 => (kEr (enc := eB) v10))))) h)
def Vz (s : Q1) (u : Unit) (o : Unit ⊕ Int) : List Alt := [⟨fun (x : Unit) => (Sum.inl x : Unit ⊕ Int) = o, .exit 1, fun x => [.undef], fun x => []⟩, ⟨fun (x : Int) => (Sum.inr x : Unit ⊕ Int) = o, .ret, fun x => [ii x], fun x => []⟩]
mutual
def Jd (x0 : Q1) : Option Int :=
 W6 x0 >>= fun v0 => if v0 then
 W5 x0 >>= fun v1 => if v1 then
 Cu x0 >>= fun v2 => if v2 then
 W7 x0 >>= fun v3 => if v3 then
 Ct x0 >>= fun v4 => if v4 then
 some () >>= fun v5 =>
 XZ x0 0 >>= fun v6 => (match v6 with
 | (.inl v7) =>
 some (0 : Int)
 | (.inr v8) =>
 some v8)
 else
 some (1 : Int)
 else
 some (10 : Int)
 else
 some (11 : Int)
 else
 some (7 : Int)
 else
 some (5 : Int)
 partial_fixpoint
def XZ (x1 : Q1) (x3 : Int) : Option (Unit ⊕ Int) :=
 some (List.length x1.fArgs : Int) >>= fun v0 =>
 if x3 < v0 then
 Option.map Q9.f (ix x1.fArgs x3) >>= fun v1 =>
 Jd v1 >>= fun v2 =>
 if v2 != 0 then
 some (.inr v2)
 else
 XZ x1 (wr (x3 + 1))
 else
 some (.inl ())
 partial_fixpoint
end
theorem Ag  : (∀ (x0 : Q1) (r : Int), Jd x0 = some r → PU 100 [Q6 x0] (eI r)) ∧ (∀ (x1 : Q1) (x3 : Int) (o : Unit ⊕ Int), XZ x1 x3 = some o → LO 100 12 41 [1, 3] [.ptr 0 0 0, ii x3] [.cells 0 (Q6 x1).cells] [2] (Vz x1 () o)) :=
 Jd.mutual_partial_correctness  (fun x0 r => PU 100 [Q6 x0] (eI r)) (fun x1 x3 o => LO 100 12 41 [1, 3] [.ptr 0 0 0, ii x3] [.cells 0 (Q6 x1).cells] [2] (Vz x1 () o))
 (fun XZ Q41 x0 r h  =>
 Pu2 (hs := [(7, .cb), (11, .cb), (15, .cb), (19, .cb), (23, .cb), (3000013, .l [] [1, 3] [kk 1] [2] [] (Vz x0))]) ((kCb (Az x0) (kCb (Ay x0) (kCb (Sa x0) (kCb (AA x0) (kCb (S9 x0) (kL2 () (hL := (Q41 x0 0)) (hA := fun v5 v7 => (kEr (enc := eI) (0 : Int)))
 (hB := fun v5 v8 => (kEr (enc := eI) v8)))
 (kEr (enc := eI) (1 : Int)))
 (kEr (enc := eI) (10 : Int)))
 (kEr (enc := eI) (11 : Int)))
 (kEr (enc := eI) (7 : Int)))
 (kEr (enc := eI) (5 : Int))) h))
 (fun Jd XZ Q40 Q41 x1 x3 o h  =>
 Lp2 (hs := [(28, .n eI 28 none), (29, .split), (35, .e Q6), (37, .c eI), (39, .split)]) (kb := [kk 1]) (kbx := []) ((kN _ (mLen (sh := Ql) x1.fArgs) fun v0 => (kIfD (p := x3 < v0) (kIxR (l := x1.fArgs) (k := x3) QZ fun v1 => (kC (sh := eI) (Q40 v1) fun v2 => (kIf (c := v2 != 0) (kX (alts := Vz x1 ()) (.inr v2) (.next (.here _ rfl (.refl _) (.refl _))))
 (kM0 (alts := Vz x1 ()) (Q41 x1 (wr (x3 + 1)))))))
 (kX (alts := Vz x1 ()) (.inl ()) (.here _ rfl (.refl _) (.refl _))))) h))
theorem FI (x0 : Q1) (r : Int) (h : Jd x0 = some r) : PU 100 [Q6 x0] (eI r) := (Ag ).1 x0 r h
def UN (x0 : Q1) : Option Int :=
 W0 x0 >>= fun v0 =>
 if 40 < v0 then
 some (13 : Int)
 else
 Wx x0 >>= fun v1 =>
 if 2000 < v1 then
 some (2 : Int)
 else
 Jd x0 >>= fun v2 =>
 some v2
theorem Mm (x0 : Q1) (r : Int) (h : UN x0 = some r) : PU 81 [Q6 x0] (eI r) :=
 Pu2 (hs := [(4, .c eI), (5, .split), (7, .c eI), (8, .split), (10, .c eI)]) ((kC (sh := eI) (Av x0) fun v0 => (kIfD (p := 40 < v0) (kEr (enc := eI) (13 : Int))
 (kC (sh := eI) (FG x0) fun v1 => (kIfD (p := 2000 < v1) (kEr (enc := eI) (2 : Int))
 (kC (sh := eI) (FI x0) fun v2 => (kEr (enc := eI) v2)))))) h)
def D0 (s : Q1) (u : Unit) (o : List Q9) : List Alt := [⟨fun (x : List Q9) => x = o, .exit 0, fun x => [.sl 13 (List.map Ql x)], fun x => []⟩]
mutual
def KM (x0 : Q1) : Option (List Q9) :=
 some () >>= fun v0 =>
 YH x0 [(Q9.mk x0)] (0 : Int) >>= fun v2 =>
 some v2
 partial_fixpoint
def YH (x1 : Q1) (x3 : List Q9) (x4 : Int) : Option (List Q9) :=
 some (List.length x1.fArgs : Int) >>= fun v0 =>
 if x4 < v0 then
 Option.map Q9.f (ix x1.fArgs x4) >>= fun v1 =>
 KM v1 >>= fun v2 =>
 if (x3.length + (List.map Ql v2).length) * (160 : Nat) ≤ (140737488355328 : Nat) ∧ x3.length + (List.map Ql v2).length ≤ (9223372036854775807 : Nat) then
 some (x3 ++ v2) >>= fun v3 =>
 YH x1 v3 (wr (x4 + 1))
 else none
 else
 some x3
 partial_fixpoint
end
theorem Fx  : (∀ (x0 : Q1) (r : List Q9), KM x0 = some r → PU 79 [Q6 x0] (YJ r)) ∧ (∀ (x1 : Q1) (x3 : List Q9) (x4 : Int) (o : List Q9), YH x1 x3 x4 = some o → LO 79 3 23 [1, 3, 4] [.ptr 0 0 0, .ow 1 0 13 (List.length x3), ii x4] [.cells 0 (Q6 x1).cells, .own 0 13 (List.map Ql x3)] [3] (D0 x1 () o)) :=
 KM.mutual_partial_correctness  (fun x0 r => PU 79 [Q6 x0] (YJ r)) (fun x1 x3 x4 o => LO 79 3 23 [1, 3, 4] [.ptr 0 0 0, .ow 1 0 13 (List.length x3), ii x4] [.cells 0 (Q6 x1).cells, .own 0 13 (List.map Ql x3)] [3] (D0 x1 () o))
 (fun YH Q3m x0 r h  =>
 Pu2 (hs := [(3000004, .l [] [1, 3, 4] [kk 1, { slot := 3, own := 13 }] [3] [{ slot := 3, fz := true }] (D0 x0))]) ((kL1 () (fun y hy => ZI.le (.cons (LeV.refl (AV.ptr (0 : Nat) (0 : Nat) (0 : Nat))) (.cons (LeV.refl (AV.ow (1 : Nat) (0 : Nat) (13 : Nat) (1 : Nat))) (.cons (LeV.refl (ii (0 : Int))) .nil))) (.cons (LeB.refl (Box.cells (0 : Nat) [ii x0.fOp, AV.str x0.fName, ii x0.fVal.fN, ii x0.fVal.fD, ii x0.fType.fKind, ii x0.fType.fBits, ii x0.fType.fFrac, ii x0.fType.fRound, ii x0.fType.fOver, ii x0.fLin.fK, AV.sl (2 : Nat) (List.map Qe x0.fLin.fL), AV.sl (4 : Nat) (List.map Q3 x0.fIdx), AV.sl (13 : Nat) (List.map Ql x0.fArgs)])) (.cons (LeB.own (0 : Nat) (13 : Nat) (.cons (legExpr x0) .nil)) .nil)) (Q3m x0 [(Q9.mk x0)] (0 : Int) y hy)) fun v0 v2 => (kEr (enc := YJ) v2)) h))
 (fun KM YH Q3l Q3m x1 x3 x4 o h  =>
 Lp2 (hs := [(10, .n eI 10 none), (11, .split), (18, .e Q6), (20, .c YJ), (21, .z [{ slot := 14, own := 13 }] (some (.n Ql 21 (some .a))))]) (kb := [kk 1, { slot := 3, own := 13 }]) (kbx := [{ slot := 3, fz := true }]) ((kN _ (mLen (sh := Ql) x1.fArgs) fun v0 => (kIfD (p := x4 < v0) (kIxR (l := x1.fArgs) (k := x4) QZ fun v1 => (kC (sh := YJ) (Q3l v1) fun v2 => (kA (q := (x3.length + (List.map Ql v2).length) * (160 : Nat) ≤ (140737488355328 : Nat) ∧ x3.length + (List.map Ql v2).length ≤ (9223372036854775807 : Nat)) (sh := Ql) (l := x3) (kO (sh := Ql) (x3 ++ v2) (mAA (sh := Ql) x3 v2) (nAA (sh := Ql) x3 v2) fun v3 => (kM0 (alts := D0 x1 ()) (Q3m x1 v3 (wr (x4 + 1))))))))
 (kT (nM (sh := Ql) x3) (kX (alts := D0 x1 ()) x3 (.here _ rfl (.refl _) (.refl _)))))) h))
theorem EG (x0 : Q1) (r : List Q9) (h : KM x0 = some r) : PU 79 [Q6 x0] (YJ r) := (Fx ).1 x0 r h
def VE (s : ((List gLin) × (List Qc) × Int)) (u : Int) (o : Bool) : List Alt := [⟨fun (x : Bool) => x = o, .exit 4, fun x => [.sl 2 (List.map Qi s.1), .sl 2 (List.map Qd s.2.1), ii s.2.2, ii u, .bool x], fun x => []⟩]
def Xa (x0 : List gLin) (x1 : List Qc) (x5 : Int) (x6 : Int) (x7 : Bool) (x8 : Int) : Option Bool :=
 some (List.length x1 : Int) >>= fun v0 =>
 if x8 < v0 then
 if x7 then
 Xa x0 x1 x5 x6 true (wr (x8 + 1))
 else
 ix x1 x8 >>= fun v1 =>
 ix x0 x5 >>= fun v2 =>
 ix v2.fL x6 >>= fun v3 =>
 Xa x0 x1 x5 x6 (v1.fName == v3.fName) (wr (x8 + 1))
 else
 some x7
 partial_fixpoint
theorem Ri (x0 : List gLin) (x1 : List Qc) (x5 : Int) (x6 : Int) (x7 : Bool) (x8 : Int) (o : Bool) (h : Xa x0 x1 x5 x6 x7 x8 = some o) : LO 111 9 51 [0, 1, 5, 6, 7, 8] [.sl 2 (List.map Qi x0), .sl 2 (List.map Qd x1), ii x5, ii x6, .bool x7, ii x8] [] [0, 1, 5, 6, 7] (VE (x0, x1, x5) x6 o) :=
 Xa.partial_correctness x0 x1 x5 x6 (fun x7 x8 o => LO 111 9 51 [0, 1, 5, 6, 7, 8] [.sl 2 (List.map Qi x0), .sl 2 (List.map Qd x1), ii x5, ii x6, .bool x7, ii x8] [] [0, 1, 5, 6, 7] (VE (x0, x1, x5) x6 o))
 (fun Xa Q4o x7 x8 o h  =>
 Lp2 (hs := [(27, .n eI 27 none), (28, .split), (31, .split), (35, .e Qd), (40, .e Qi), (44, .e Qe)]) (kb := []) (kbx := []) ((kN _ (mLen (sh := Qd) x1) fun v0 => (kIfD (p := x8 < v0) (kIf (c := x7) (kM0 (alts := VE (x0, x1, x5) x6) (Q4o true (wr (x8 + 1))))
 (kIx (enc := Qd) (l := x1) (k := x8) fun v1 => (kIx (enc := Qi) (l := x0) (k := x5) fun v2 => (kIx (enc := Qe) (l := v2.fL) (k := x6) fun v3 => (kM0 (alts := VE (x0, x1, x5) x6) (Q4o (v1.fName == v3.fName) (wr (x8 + 1))))))))
 (kX (alts := VE (x0, x1, x5) x6) x7 (.here _ rfl (.refl _) (.refl _))))) h)) x7 x8 o h
def VD (s : ((List gLin) × (List Qc))) (u : Int) (o : Unit ⊕ Bool) : List Alt := [⟨fun (x : Unit) => (Sum.inl x : Unit ⊕ Bool) = o, .exit 2, fun x => [.sl 2 (List.map Qi s.1), .sl 2 (List.map Qd s.2), .undef, ii u], fun x => []⟩, ⟨fun (x : Bool) => (Sum.inr x : Unit ⊕ Bool) = o, .ret, fun x => [.sl 2 (List.map Qi s.1), .sl 2 (List.map Qd s.2), .bool x, ii u], fun x => []⟩]
def Y3 (x0 : List gLin) (x1 : List Qc) (x5 : Int) (x6 : Int) : Option (Unit ⊕ Bool) :=
 ix x0 x5 >>= fun v0 =>
 some (List.length v0.fL : Int) >>= fun v1 =>
 if x6 < v1 then
 some x6 >>= fun v2 =>
 Xa x0 x1 x5 x6 false 0 >>= fun v4 =>
 if v4 then
 Y3 x0 x1 x5 (wr (v2 + 1))
 else
 some (.inr false)
 else
 some (.inl ())
 partial_fixpoint
theorem Rh (x0 : List gLin) (x1 : List Qc) (x5 : Int) (x6 : Int) (o : Unit ⊕ Bool) (h : Y3 x0 x1 x5 x6 = some o) : LO 111 5 51 [0, 1, 5, 6] [.sl 2 (List.map Qi x0), .sl 2 (List.map Qd x1), ii x5, ii x6] [] [0, 1, 4, 5] (VD (x0, x1) x5 o) :=
 Y3.partial_correctness x0 x1 x5 (fun x6 o => LO 111 5 51 [0, 1, 5, 6] [.sl 2 (List.map Qi x0), .sl 2 (List.map Qd x1), ii x5, ii x6] [] [0, 1, 4, 5] (VD (x0, x1) x5 o))
 (fun Y3 Q4n x6 o h  =>
 Lp2 (hs := [(18, .e Qi), (21, .n eI 21 none), (22, .split), (49, .split), (3000010, .l [] [0, 1, 5, 6, 7, 8] [] [0, 1, 5, 6, 7] [] (VE (x0, x1, x5)))]) (kb := []) (kbx := []) ((kIx (enc := Qi) (l := x0) (k := x5) fun v0 => (kN _ (mLen (sh := Qe) v0.fL) fun v1 => (kIfD (p := x6 < v1) (kL1 x6 (Ri x0 x1 x5 x6 false 0) fun v2 v4 => (kIf (c := v4) (kM0 (alts := VD (x0, x1) x5) (Q4n (wr (v2 + 1))))
 (kX (alts := VD (x0, x1) x5) (.inr false) (.next (.here _ rfl (.refl _) (.refl _))))))
 (kX (alts := VD (x0, x1) x5) (.inl ()) (.here _ rfl (.refl _) (.refl _)))))) h)) x6 o h
def VC (s : ((List gLin) × (List Qc))) (u : Unit) (o : Unit ⊕ Bool) : List Alt := [⟨fun (x : Unit) => (Sum.inl x : Unit ⊕ Bool) = o, .exit 0, fun x => [.undef], fun x => []⟩, ⟨fun (x : Bool) => (Sum.inr x : Unit ⊕ Bool) = o, .ret, fun x => [.bool x], fun x => []⟩]
def Y2 (x0 : List gLin) (x1 : List Qc) (x5 : Int) : Option (Unit ⊕ Bool) :=
 some (List.length x0 : Int) >>= fun v0 =>
 if x5 < v0 then
 some x5 >>= fun v1 =>
 Y3 x0 x1 x5 0 >>= fun v2 => (match v2 with
 | (.inl v3) =>
 Y2 x0 x1 (wr (v1 + 1))
 | (.inr v4) =>
 some (.inr v4))
 else
 some (.inl ())
 partial_fixpoint
theorem Rg (x0 : List gLin) (x1 : List Qc) (x5 : Int) (o : Unit ⊕ Bool) (h : Y2 x0 x1 x5 = some o) : LO 111 2 51 [0, 1, 5] [.sl 2 (List.map Qi x0), .sl 2 (List.map Qd x1), ii x5] [] [4] (VC (x0, x1) () o) :=
 Y2.partial_correctness x0 x1 (fun x5 o => LO 111 2 51 [0, 1, 5] [.sl 2 (List.map Qi x0), .sl 2 (List.map Qd x1), ii x5] [] [4] (VC (x0, x1) () o))
 (fun Y2 Q4m x5 o h  =>
 Lp2 (hs := [(11, .n eI 11 none), (12, .split), (3000006, .l [] [0, 1, 5, 6] [] [0, 1, 4, 5] [] (VD (x0, x1)))]) (kb := []) (kbx := []) ((kN _ (mLen (sh := Qi) x0) fun v0 => (kIfD (p := x5 < v0) (kL2 x5 (hL := (Rh x0 x1 x5 0)) (hA := fun v1 v3 => (kM0 (alts := VC (x0, x1) ()) (Q4m (wr (v1 + 1)))))
 (hB := fun v1 v4 => (kX (alts := VC (x0, x1) ()) (.inr v4) (.next (.here _ rfl (.refl _) (.refl _))))))
 (kX (alts := VC (x0, x1) ()) (.inl ()) (.here _ rfl (.refl _) (.refl _))))) h)) x5 o h
def DS (x0 : List gLin) (x1 : List Qc) : Option Bool :=
 some () >>= fun v0 =>
 Y2 x0 x1 0 >>= fun v1 => (match v1 with
 | (.inl v2) =>
 some true
 | (.inr v3) =>
 some v3)
theorem If (x0 : List gLin) (x1 : List Qc) (r : Bool) (h : DS x0 x1 = some r) : PU 111 [Mq x0, QW x1] (eB r) :=
 Pu2 (hs := [(3000003, .l [] [0, 1, 5] [] [4] [] (VC (x0, x1)))]) ((kL2 () (hL := (Rg x0 x1 0)) (hA := fun v0 v2 => (kEr (enc := eB) true))
 (hB := fun v0 v3 => (kEr (enc := eB) v3))) h)
def Gj (s : List Q8) (u : Unit) (o : List gLin) : List Alt := [⟨fun (x : List gLin) => x = o, .exit 0, fun x => [.sl 2 (List.map Qi x)], fun x => []⟩]
def Yt (x0 : List Q8) (x3 : List gLin) (x4 : Int) : Option (List gLin) :=
 some (List.length x0 : Int) >>= fun v0 =>
 if x4 < v0 then
 ix x0 x4 >>= fun v1 =>
 if (x3.length + (1 : Nat)) * (32 : Nat) ≤ (140737488355328 : Nat) ∧ x3.length + (1 : Nat) ≤ (9223372036854775807 : Nat) then
 some (x3 ++ [v1.fLin]) >>= fun v2 =>
 ix x0 x4 >>= fun v3 =>
 if (v2.length + (List.map Qi v3.fAt).length) * (32 : Nat) ≤ (140737488355328 : Nat) ∧ v2.length + (List.map Qi v3.fAt).length ≤ (9223372036854775807 : Nat) then
 some (v2 ++ v3.fAt) >>= fun v4 =>
 Yt x0 v4 (wr (x4 + 1))
 else none
 else none
 else
 some x3
 partial_fixpoint
theorem Tb (x0 : List Q8) (x3 : List gLin) (x4 : Int) (o : List gLin) (h : Yt x0 x3 x4 = some o) : LO 112 3 27 [0, 3, 4] [.sl 4 (List.map Q3 x0), .ow 0 0 2 (List.length x3), ii x4] [.own 0 2 (List.map Qi x3)] [3] (Gj x0 () o) :=
 Yt.partial_correctness x0 (fun x3 x4 o => LO 112 3 27 [0, 3, 4] [.sl 4 (List.map Q3 x0), .ow 0 0 2 (List.length x3), ii x4] [.own 0 2 (List.map Qi x3)] [3] (Gj x0 () o))
 (fun Yt Q4t x3 x4 o h  =>
 Lp2 (hs := [(7, .n eI 7 none), (8, .split), (14, .e Q3), (18, .z [{ slot := 11, own := 2 }] (some (.n Qi 18 (some .a)))), (22, .e Q3), (25, .z [{ slot := 19, own := 2 }] (some (.n Qi 25 (some .a))))]) (kb := [{ slot := 3, own := 2 }]) (kbx := [{ slot := 3, fz := true }]) ((kN _ (mLen (sh := Q3) x0) fun v0 => (kIfD (p := x4 < v0) (kIx (enc := Q3) (l := x0) (k := x4) fun v1 => (kA (q := (x3.length + (1 : Nat)) * (32 : Nat) ≤ (140737488355328 : Nat) ∧ x3.length + (1 : Nat) ≤ (9223372036854775807 : Nat)) (sh := Qi) (l := x3) (kO (sh := Qi) (x3 ++ [v1.fLin]) (mA (sh := Qi) x3 v1.fLin) (nA x3 v1.fLin) fun v2 => (kIx (enc := Q3) (l := x0) (k := x4) fun v3 => (kA (q := (v2.length + (List.map Qi v3.fAt).length) * (32 : Nat) ≤ (140737488355328 : Nat) ∧ v2.length + (List.map Qi v3.fAt).length ≤ (9223372036854775807 : Nat)) (sh := Qi) (l := v2) (kO (sh := Qi) (v2 ++ v3.fAt) (mAA (sh := Qi) v2 v3.fAt) (nAA (sh := Qi) v2 v3.fAt) fun v4 => (kM0 (alts := Gj x0 ()) (Q4t v4 (wr (x4 + 1))))))))))
 (kT (nM (sh := Qi) x3) (kX (alts := Gj x0 ()) x3 (.here _ rfl (.refl _) (.refl _)))))) h)) x3 x4 o h
def WA (x0 : List Q8) : Option (List gLin) :=
 some () >>= fun v0 =>
 Yt x0 [] 0 >>= fun v2 =>
 some v2
theorem FQ (x0 : List Q8) (r : List gLin) (h : WA x0 = some r) : PU 112 [GM x0] (Mq r) :=
 Pu2 (hs := [(3000004, .l [] [0, 3, 4] [{ slot := 3, own := 2 }] [3] [{ slot := 3, fz := true }] (Gj x0))]) ((kL1 () (Tb x0 [] 0) fun v0 v2 => (kEr (enc := Mq) v2)) h)
def XU (s : (Qb × Q1)) (u : Unit) (o : Unit ⊕ Int) : List Alt := [⟨fun (x : Unit) => (Sum.inl x : Unit ⊕ Int) = o, .exit 0, fun x => [.undef], fun x => []⟩, ⟨fun (x : Int) => (Sum.inr x : Unit ⊕ Int) = o, .ret, fun x => [ii x], fun x => []⟩]
def Xc (x3 : Qb) (x5 : Q1) (x9 : Int) : Option (Unit ⊕ Int) :=
 some (List.length x5.fIdx : Int) >>= fun v0 =>
 if x9 < v0 then
 ix x5.fIdx x9 >>= fun v1 =>
 if v1.fFrom == [] then
 Xc x3 x5 (wr (x9 + 1))
 else
 ix x5.fIdx x9 >>= fun v2 =>
 Xz x3 v2.fFrom >>= fun v3 =>
 if v3.snd then
 if v3.fst.fType.fKind != 3 then
 some (.inr (10 : Int))
 else
 ix x5.fIdx x9 >>= fun v4 =>
 some (List.length v3.fst.fDims : Int) >>= fun v5 =>
 some (List.length v4.fAt : Int) >>= fun v6 =>
 if v5 != v6 then
 some (.inr (11 : Int))
 else
 Xc x3 x5 (wr (x9 + 1))
 else
 some (.inr (9 : Int))
 else
 some (.inl ())
 partial_fixpoint
theorem Rj (x3 : Qb) (x5 : Q1) (x9 : Int) (o : Unit ⊕ Int) (h : Xc x3 x5 x9 = some o) : LO 96 11 90 [3, 5, 9] [.ptr 0 0 0, .ptr 1 0 0, ii x9] [.cells 0 (Qp x3).cells, .cells 0 (Q6 x5).cells] [6] (XU (x3, x5) () o) :=
 Xc.partial_correctness x3 x5 (fun x9 o => LO 96 11 90 [3, 5, 9] [.ptr 0 0 0, .ptr 1 0 0, ii x9] [.cells 0 (Qp x3).cells, .cells 0 (Q6 x5).cells] [6] (XU (x3, x5) () o))
 (fun Xc Q4u x9 o h  =>
 Lp2 (hs := [(48, .n eI 48 none), (49, .split), (55, .e Q3), (58, .split), (64, .e Q3), (67, .c Z3), (71, .split), (77, .split), (81, .n eI 81 none), (85, .e Q3), (88, .n eI 88 none), (89, .split)]) (kb := [kk 3, kk 5]) (kbx := []) ((kN _ (mLen (sh := Q3) x5.fIdx) fun v0 => (kIfD (p := x9 < v0) (kIx (enc := Q3) (l := x5.fIdx) (k := x9) fun v1 => (kIf (c := v1.fFrom == []) (kM0 (alts := XU (x3, x5) ()) (Q4u (wr (x9 + 1))))
 (kIx (enc := Q3) (l := x5.fIdx) (k := x9) fun v2 => (kC (sh := Z3) (Uw x3 v2.fFrom) fun v3 => (kIf (c := v3.snd) (kIf (c := v3.fst.fType.fKind != 3) (kX (alts := XU (x3, x5) ()) (.inr (10 : Int)) (.next (.here _ rfl (.refl _) (.refl _))))
 (kIx (enc := Q3) (l := x5.fIdx) (k := x9) fun v4 => (kN _ (mLen (sh := eI) v3.fst.fDims) fun v5 => (kN _ (mLen (sh := Qi) v4.fAt) fun v6 => (kIf (c := v5 != v6) (kX (alts := XU (x3, x5) ()) (.inr (11 : Int)) (.next (.here _ rfl (.refl _) (.refl _))))
 (kM0 (alts := XU (x3, x5) ()) (Q4u (wr (x9 + 1)))))))))
 (kX (alts := XU (x3, x5) ()) (.inr (9 : Int)) (.next (.here _ rfl (.refl _) (.refl _)))))))))
 (kX (alts := XU (x3, x5) ()) (.inl ()) (.here _ rfl (.refl _) (.refl _))))) h)) x9 o h
def JD (s : (Qb × Q1)) (u : Unit) (o : Bool) : List Alt := jb o (fun b => [.ptr 0 0 0, .ptr 1 0 0, .bool b]) [.cells 0 (Qp (s.1)).cells, .cells 0 (Q6 (s.2)).cells]
def WB (x0 : Qb) (x1 : List Qc) (x2 : Q1) : Option Int :=
 some () >>= fun v0 =>
 (DS [x2.fLin] x1 >>= fun v2 => if v2 then
 WA x2.fIdx >>= fun v3 =>
 DS v3 x1 >>= fun v4 => if v4 then
 some false
 else
 some true
 else
 some true) >>= fun v1 => if v1 then
 some (9 : Int)
 else
 if x2.fOp != 3 then
 some (0 : Int)
 else
 Xz x0 x2.fName >>= fun v7 =>
 if v7.snd then
 some (List.length v7.fst.fDims : Int) >>= fun v8 =>
 some (List.length x2.fIdx : Int) >>= fun v9 =>
 if v8 != v9 then
 some (11 : Int)
 else
 some () >>= fun v10 =>
 Xc x0 x2 0 >>= fun v11 => (match v11 with
 | (.inl v12) =>
 some (0 : Int)
 | (.inr v13) =>
 some v13)
 else
 some (9 : Int)
theorem FR (x0 : Qb) (x1 : List Qc) (x2 : Q1) (r : Int) (h : WB x0 x1 x2 = some r) : PU 96 [Qp x0, QW x1, Q6 x2] (eI r) :=
 Pu2 (hs := [(16, .cb), (21, .c Mq), (23, .cb), (28, .split), (33, .c Z3), (36, .split), (40, .n eI 40 none), (43, .n eI 43 none), (44, .split), (3000012, .l [] [3, 5, 9] [kk 3, kk 5] [6] [] (XU (x0, x2))), (5000001, .l [] [] [] [3, 5, 25] [kk 3, kk 5] (JD (x0, x2)))]) ((kJb (id := 5000001) () (fun v0 ev0 v1 => (kCb (If [x2.fLin] x1) (kC (sh := Mq) (FQ x2.fIdx) fun v3 => (kCb (If v3 x1) (kXj (alts := JD (x0, x2)) ev0 false (.next (.here () rfl (.refl _) (.refl _))))
 (kXj (alts := JD (x0, x2)) ev0 true (.here () rfl (.refl _) (.refl _)))))
 (kXj (alts := JD (x0, x2)) ev0 true (.here () rfl (.refl _) (.refl _)))))
 (fun v0 => (kEr (enc := eI) (9 : Int)))
 (fun v0 => (kIf (c := x2.fOp != 3) (kEr (enc := eI) (0 : Int))
 (kC (sh := Z3) (Uw x0 x2.fName) fun v7 => (kIf (c := v7.snd) (kN _ (mLen (sh := eI) v7.fst.fDims) fun v8 => (kN _ (mLen (sh := Q3) x2.fIdx) fun v9 => (kIf (c := v8 != v9) (kEr (enc := eI) (11 : Int))
 (kL2 () (hL := (Rj x0 x2 0)) (hA := fun v10 v12 => (kEr (enc := eI) (0 : Int)))
 (hB := fun v10 v13 => (kEr (enc := eI) v13))))))
 (kEr (enc := eI) (9 : Int))))))) h)
def KV (s : (Qb × Q1)) (u : Unit) (o : (Qg × (List Qg)) ⊕ (Qg × Int)) : List Alt := [⟨fun (x : (Qg × (List Qg))) => (Sum.inl x : (Qg × (List Qg)) ⊕ (Qg × Int)) = o, .exit 0, fun x => [.ptr 0 0 0, .ptr 1 0 0, .ptr 2 0 0, .undef, .sl 5 (List.map Qy x.2)], fun x => [.cells 0 (Qp s.1).cells, .cells 0 (Q6 s.2).cells, .cells 0 (Qy x.1).cells]⟩, ⟨fun (x : (Qg × Int)) => (Sum.inr x : (Qg × (List Qg)) ⊕ (Qg × Int)) = o, .ret, fun x => [.ptr 0 0 0, .ptr 1 0 0, .ptr 2 0 0, ii x.2, .undef], fun x => [.cells 0 (Qp s.1).cells, .cells 0 (Q6 s.2).cells, .cells 0 (Qy x.1).cells]⟩]
def Jz (s : (Qb × Q1)) (u : (Qg × (List Qg))) (o : Bool) : List Alt := jb o (fun b => [.ptr 0 0 0, .ptr 1 0 0, .ptr 2 0 0, .sl 5 (List.map Qy (u.2)), .bool b]) [.cells 0 (Qp (s.1)).cells, .cells 0 (Q6 (s.2)).cells, .cells 0 (Qy (u.1)).cells]
def JA (s : (Qb × Q1)) (u : (Qg × (List Qg) × Int)) (o : Bool) : List Alt := jb o (fun b => [.ptr 0 0 0, .ptr 1 0 0, .ptr 2 0 0, .sl 5 (List.map Qy (u.2.1)), ii (u.2.2), .bool b]) [.cells 0 (Qp (s.1)).cells, .cells 0 (Q6 (s.2)).cells, .cells 0 (Qy (u.1)).cells]
mutual
def Jf (x0 : Qb) (x1 : Q1) : Option (Qg × Int) :=
 some () >>= fun v0 =>
 XE x0 x1 (Qg.mk (0 : Int) (0 : Int) (0 : Int) (0 : Int) (0 : Int)) [] (0 : Int) >>= fun v1 => (match v1 with
 | (.inl v2) =>
 some (v2.fst, v2.snd) >>= fun v3 =>
 (if (↑(List.map Qy v2.snd).length : Int) == 2 then
 ix v2.snd (0 : Int) >>= fun v5 =>
 ix v2.snd (1 : Int) >>= fun v6 =>
 some (List.length v2.snd : Int) >>= fun v7 =>
 if !(v5.fKind == v6.fKind && (v5.fBits == v6.fBits && (v5.fFrac == v6.fFrac && (v5.fRound == v6.fRound && (v5.fOver == v6.fOver && true))))) then
 some true
 else
 some false
 else
 some (List.length v2.snd : Int) >>= fun v8 =>
 some false) >>= fun v4 => if v4 then
 some ((Qg.mk (0 : Int) (0 : Int) (0 : Int) (0 : Int) (0 : Int))) >>= fun v10 =>
 some (v10, (10 : Int))
 else
 some (v3.fst, v3.snd, x1.fOp) >>= fun v12 =>
 (if x1.fOp == 1 then
 some true
 else
 if x1.fOp == 12 then
 some true
 else
 some false) >>= fun v13 => if v13 then
 some (x1.fType, (0 : Int))
 else
 if v12.snd.snd == 2 then
 some ((Qg.mk (3 : Int) (0 : Int) (0 : Int) (0 : Int) (0 : Int))) >>= fun v16 =>
 some (v16, (0 : Int))
 else
 if v12.snd.snd == 3 then
 Xz x0 x1.fName >>= fun v17 =>
 some (v17.fst.fType, (0 : Int))
 else
 Zu x1 >>= fun v18 => if v18 then
 some ((Qg.mk (0 : Int) (0 : Int) (0 : Int) (0 : Int) (0 : Int))) >>= fun v19 =>
 some (v19, (0 : Int))
 else
 ix v12.snd.fst (0 : Int) >>= fun v20 =>
 some (v20, (0 : Int))
 | (.inr v21) =>
 some (v21.fst, v21.snd))
 partial_fixpoint
def XE (x2 : Qb) (x3 : Q1) (x4 : Qg) (x6 : List Qg) (x7 : Int) : Option ((Qg × (List Qg)) ⊕ (Qg × Int)) :=
 some (List.length x3.fArgs : Int) >>= fun v0 =>
 if x7 < v0 then
 Option.map Q9.f (ix x3.fArgs x7) >>= fun v1 =>
 Jf x2 v1 >>= fun v2 =>
 if v2.snd != 0 then
 some ((Qg.mk (0 : Int) (0 : Int) (0 : Int) (0 : Int) (0 : Int))) >>= fun v3 =>
 some (.inr (v3, v2.snd))
 else
 Option.map Q9.f (ix x3.fArgs x7) >>= fun v4 =>
 Zu v4 >>= fun v5 => if v5 then
 XE x2 x3 x4 x6 (wr (x7 + 1))
 else
 if (x6.length + (1 : Nat)) * (40 : Nat) ≤ (140737488355328 : Nat) ∧ x6.length + (1 : Nat) ≤ (9223372036854775807 : Nat) then
 some (x6 ++ [v2.fst]) >>= fun v6 =>
 XE x2 x3 x4 v6 (wr (x7 + 1))
 else none
 else
 some (.inl (x4, x6))
 partial_fixpoint
end
theorem Ai (x0 : Qb) : (∀ (x1 : Q1) (r : (Qg × Int)), Jf x0 x1 = some r → PU 97 [Qp x0, Q6 x1] (Z5 r)) ∧ (∀ (x3 : Q1) (x4 : Qg) (x6 : List Qg) (x7 : Int) (o : (Qg × (List Qg)) ⊕ (Qg × Int)), XE x0 x3 x4 x6 x7 = some o → LO 97 3 84 [2, 3, 4, 6, 7] [.ptr 0 0 0, .ptr 1 0 0, .ptr 2 0 0, .ow 3 0 5 (List.length x6), ii x7] [.cells 0 (Qp x0).cells, .cells 0 (Q6 x3).cells, .cells 0 (Qy x4).cells, .own 0 5 (List.map Qy x6)] [2, 3, 4, 5, 6] (KV (x0, x3) () o)) :=
 Jf.mutual_partial_correctness x0 (fun x1 r => PU 97 [Qp x0, Q6 x1] (Z5 r)) (fun x3 x4 x6 x7 o => LO 97 3 84 [2, 3, 4, 6, 7] [.ptr 0 0 0, .ptr 1 0 0, .ptr 2 0 0, .ow 3 0 5 (List.length x6), ii x7] [.cells 0 (Qp x0).cells, .cells 0 (Q6 x3).cells, .cells 0 (Qy x4).cells, .own 0 5 (List.map Qy x6)] [2, 3, 4, 5, 6] (KV (x0, x3) () o))
 (fun XE Q4h x1 r h  =>
 Pu2 (hs := [(45, .n eI 45 none), (46, .split), (49, .e Qy), (52, .e Qy), (54, .split), (56, .n Qy 56 none), (59, .split), (59, .split), (65, .split), (66, .n Qy 66 none), (68, .split), (73, .c Z3), (79, .cb), (80, .n Qy 80 none), (82, .e Qy), (3000004, .l [] [2, 3, 4, 6, 7] [kk 2, kk 3, kk 4, { slot := 6, own := 5 }] [2, 3, 4, 5, 6] [kk 2, kk 3, kk 4, { slot := 6, fz := true }] (KV (x0, x1))), (5000010, .l [] [] [] [2, 3, 4, 6, 55] [kk 2, kk 3, kk 4, { slot := 6, fz := true }] (Jz (x0, x1))), (6000015, .l [] [] [] [2, 3, 4, 6, 58, 59] [kk 2, kk 3, kk 4, { slot := 6, fz := true }] (JA (x0, x1)))]) ((kL2 () (hL := (Q4h x1 (Qg.mk (0 : Int) (0 : Int) (0 : Int) (0 : Int) (0 : Int)) [] (0 : Int))) (hA := fun v0 v2 => (kJb (id := 5000010) (v2.fst, v2.snd) (fun v3 ev3 v4 => (kIf (c := (↑(List.map Qy v2.snd).length : Int) == 2) (kIx (enc := Qy) (l := v2.snd) (k := (0 : Int)) fun v5 => (kIx (enc := Qy) (l := v2.snd) (k := (1 : Int)) fun v6 => (kN _ (mLen (sh := Qy) v2.snd) fun v7 => (kIf (c := !(v5.fKind == v6.fKind && (v5.fBits == v6.fBits && (v5.fFrac == v6.fFrac && (v5.fRound == v6.fRound && (v5.fOver == v6.fOver && true)))))) (kXj (alts := Jz (x0, x1)) ev3 true (.here () rfl (.refl _) (.refl _)))
 (kXj (alts := Jz (x0, x1)) ev3 false (.next (.here () rfl (.refl _) (.refl _))))))))
 (kN _ (mLen (sh := Qy) v2.snd) fun v8 => (kXj (alts := Jz (x0, x1)) ev3 false (.next (.here () rfl (.refl _) (.refl _)))))))
 (fun v3 => (kW (sh := Qy) (Qg.mk (0 : Int) (0 : Int) (0 : Int) (0 : Int) (0 : Int)) lr fun v10 => (kEr (enc := Z5) (v10, (10 : Int)))))
 (fun v3 => (kJb (id := 6000015) (v3.fst, v3.snd, x1.fOp) (fun v12 ev12 v13 => (kIf (c := x1.fOp == 1) (kXj (alts := JA (x0, x1)) ev12 true (.here () rfl (.refl _) (.refl _)))
 (kIf (c := x1.fOp == 12) (kXj (alts := JA (x0, x1)) ev12 true (.here () rfl (.refl _) (.refl _)))
 (kXj (alts := JA (x0, x1)) ev12 false (.next (.here () rfl (.refl _) (.refl _)))))))
 (fun v12 => (kEr (enc := Z5) (x1.fType, (0 : Int))))
 (fun v12 => (kIf (c := v12.snd.snd == 2) (kW (sh := Qy) (Qg.mk (3 : Int) (0 : Int) (0 : Int) (0 : Int) (0 : Int)) lr fun v16 => (kEr (enc := Z5) (v16, (0 : Int))))
 (kIf (c := v12.snd.snd == 3) (kC (sh := Z3) (Uw x0 x1.fName) fun v17 => (kEr (enc := Z5) (v17.fst.fType, (0 : Int))))
 (kCb (K4 x1) (kW (sh := Qy) (Qg.mk (0 : Int) (0 : Int) (0 : Int) (0 : Int) (0 : Int)) lr fun v19 => (kEr (enc := Z5) (v19, (0 : Int))))
 (kIx (enc := Qy) (l := v12.snd.fst) (k := (0 : Int)) fun v20 => (kEr (enc := Z5) (v20, (0 : Int))))))))))))
 (hB := fun v0 v21 => (kEr (enc := Z5) (v21.fst, v21.snd)))) h))
 (fun Jf XE Q4g Q4h x3 x4 x6 x7 o h  =>
 Lp2 (hs := [(15, .n eI 15 none), (16, .split), (24, .e Q6), (26, .c Z5), (30, .split), (31, .n Qy 31 none), (36, .e Q6), (38, .cb), (43, .z [{ slot := 40, own := 5 }] (some (.n Qy 43 (some .a))))]) (kb := [kk 2, kk 3, kk 4, { slot := 6, own := 5 }]) (kbx := [kk 2, kk 3, kk 4, { slot := 6, fz := true }]) ((kN _ (mLen (sh := Ql) x3.fArgs) fun v0 => (kIfD (p := x7 < v0) (kIxR (l := x3.fArgs) (k := x7) QZ fun v1 => (kC (sh := Z5) (Q4g v1) fun v2 => (kIf (c := v2.snd != 0) (kW (sh := Qy) (Qg.mk (0 : Int) (0 : Int) (0 : Int) (0 : Int) (0 : Int)) lr fun v3 => (kT (nM (sh := Qy) x6) (kX (alts := KV (x0, x3) ()) (.inr (v3, v2.snd)) (.next (.here _ rfl (.cons (LeV.refl (AV.ptr (0 : Nat) (0 : Nat) (0 : Nat))) (.cons (LeV.refl (AV.ptr (1 : Nat) (0 : Nat) (0 : Nat))) (.cons (LeV.refl (AV.ptr (2 : Nat) (0 : Nat) (0 : Nat))) (.cons (LeV.refl (ii v2.snd)) (.cons (LeV.undef (AV.sl (5 : Nat) (List.map Qy x6))) .nil))))) (.refl _))))))
 (kIxR (l := x3.fArgs) (k := x7) QZ fun v4 => (kCb (K4 v4) (kM0 (alts := KV (x0, x3) ()) (Q4h x3 x4 x6 (wr (x7 + 1))))
 (kA (q := (x6.length + (1 : Nat)) * (40 : Nat) ≤ (140737488355328 : Nat) ∧ x6.length + (1 : Nat) ≤ (9223372036854775807 : Nat)) (sh := Qy) (l := x6) (kO (sh := Qy) (x6 ++ [v2.fst]) (mA (sh := Qy) x6 v2.fst) (nA x6 v2.fst) fun v6 => (kM0 (alts := KV (x0, x3) ()) (Q4h x3 x4 v6 (wr (x7 + 1)))))))))))
 (kT (nM (sh := Qy) x6) (kX (alts := KV (x0, x3) ()) (.inl (x4, x6)) (.here _ rfl (.refl _) (.refl _)))))) h))
theorem FN (x0 : Qb) (x1 : Q1) (r : (Qg × Int)) (h : Jf x0 x1 = some r) : PU 97 [Qp x0, Q6 x1] (Z5 r) := (Ai x0).1 x1 r h
def Ku (s : ((List Qc) × Qb × Q1)) (u : List Q9) (o : Qg ⊕ (Qg × Int)) : List Alt := [⟨fun (x : Qg) => (Sum.inl x : Qg ⊕ (Qg × Int)) = o, .exit 0, fun x => [.ptr 0 0 0, .ptr 1 0 0, .ptr 2 0 0, .undef], fun x => [.cells 0 (Qp s.2.1).cells, .cells 0 (Q6 s.2.2).cells, .cells 0 (Qy x).cells]⟩, ⟨fun (x : (Qg × Int)) => (Sum.inr x : Qg ⊕ (Qg × Int)) = o, .ret, fun x => [.ptr 0 0 0, .ptr 1 0 0, .ptr 2 0 0, ii x.2], fun x => [.cells 0 (Qp s.2.1).cells, .cells 0 (Q6 s.2.2).cells, .cells 0 (Qy x.1).cells]⟩]
def X0 (x1 : List Qc) (x3 : Qb) (x6 : Qg) (x9 : List Q9) (x10 : Int) : Option (Qg ⊕ (Qg × Int)) :=
 some (List.length x9 : Int) >>= fun v0 =>
 if x10 < v0 then
 Option.map Q9.f (ix x9 x10) >>= fun v1 =>
 WB x3 x1 v1 >>= fun v2 =>
 if v2 != 0 then
 some ((Qg.mk (0 : Int) (0 : Int) (0 : Int) (0 : Int) (0 : Int))) >>= fun v3 =>
 some (.inr (v3, v2))
 else
 X0 x1 x3 x6 x9 (wr (x10 + 1))
 else
 some (.inl x6)
 partial_fixpoint
theorem IT (x1 : List Qc) (x3 : Qb) (x5 : Q1) (x6 : Qg) (x9 : List Q9) (x10 : Int) (o : Qg ⊕ (Qg × Int)) (h : X0 x1 x3 x6 x9 x10 = some o) : LO 76 6 42 [1, 3, 5, 6, 9, 10] [.sl 2 (List.map Qd x1), .ptr 0 0 0, .ptr 1 0 0, .ptr 2 0 0, .sl 13 (List.map Ql x9), ii x10] [.cells 0 (Qp x3).cells, .cells 0 (Q6 x5).cells, .cells 0 (Qy x6).cells] [3, 5, 6, 7] (Ku (x1, x3, x5) x9 o) :=
 X0.partial_correctness x1 x3 x6 x9 (fun x10 o => ∀ (x5 : Q1), LO 76 6 42 [1, 3, 5, 6, 9, 10] [.sl 2 (List.map Qd x1), .ptr 0 0 0, .ptr 1 0 0, .ptr 2 0 0, .sl 13 (List.map Ql x9), ii x10] [.cells 0 (Qp x3).cells, .cells 0 (Q6 x5).cells, .cells 0 (Qy x6).cells] [3, 5, 6, 7] (Ku (x1, x3, x5) x9 o))
 (fun X0 Q4f x10 o h x5 =>
 Lp2 (hs := [(22, .n eI 22 none), (23, .split), (30, .e Q6), (32, .c eI), (34, .split), (35, .n Qy 35 none)]) (kb := [kk 3, kk 5, kk 6]) (kbx := [kk 3, kk 5, kk 6]) ((kN _ (mLen (sh := Ql) x9) fun v0 => (kIfD (p := x10 < v0) (kIxR (l := x9) (k := x10) QZ fun v1 => (kC (sh := eI) (FR x3 x1 v1) fun v2 => (kIf (c := v2 != 0) (kW (sh := Qy) (Qg.mk (0 : Int) (0 : Int) (0 : Int) (0 : Int) (0 : Int)) lr fun v3 => (kX (alts := Ku (x1, x3, x5) x9) (.inr (v3, v2)) (.next (.here _ rfl (.refl _) (.refl _)))))
 (kM0 (alts := Ku (x1, x3, x5) x9) (fun y hy => Q4f (wr (x10 + 1)) y hy x5)))))
 (kX (alts := Ku (x1, x3, x5) x9) (.inl x6) (.here _ rfl (.refl _) (.refl _))))) h)) x10 o h x5
def JS (x0 : Qb) (x1 : List Qc) (x2 : Q1) : Option (Qg × Int) :=
 UN x2 >>= fun v0 =>
 if v0 != 0 then
 some ((Qg.mk (0 : Int) (0 : Int) (0 : Int) (0 : Int) (0 : Int))) >>= fun v1 =>
 some (v1, v0)
 else
 KM x2 >>= fun v2 =>
 some v2 >>= fun v3 =>
 X0 x1 x0 (Qg.mk (0 : Int) (0 : Int) (0 : Int) (0 : Int) (0 : Int)) v2 (0 : Int) >>= fun v4 => (match v4 with
 | (.inl v5) =>
 Jf x0 x2 >>= fun v6 =>
 some (v6.fst, v6.snd)
 | (.inr v7) =>
 some (v7.fst, v7.snd))
theorem WL (x0 : Qb) (x1 : List Qc) (x2 : Q1) (r : (Qg × Int)) (h : JS x0 x1 x2 = some r) : PU 76 [Qp x0, QW x1, Q6 x2] (Z5 r) :=
 Pu2 (hs := [(13, .c eI), (15, .split), (16, .n Qy 16 none), (19, .c YJ), (39, .c Z5), (3000007, .l [] [1, 3, 5, 6, 9, 10] [kk 3, kk 5, kk 6] [3, 5, 6, 7] [kk 3, kk 5, kk 6] (Ku (x1, x0, x2)))]) ((kC (sh := eI) (Mm x2) fun v0 => (kIf (c := v0 != 0) (kW (sh := Qy) (Qg.mk (0 : Int) (0 : Int) (0 : Int) (0 : Int) (0 : Int)) lr fun v1 => (kEr (enc := Z5) (v1, v0)))
 (kC (sh := YJ) (EG x2) fun v2 => (kL2 v2 (hL := (IT x1 x0 x2 (Qg.mk (0 : Int) (0 : Int) (0 : Int) (0 : Int) (0 : Int)) v2 (0 : Int))) (hA := fun v3 v5 => (kC (sh := Z5) (FN x0 x2) fun v6 => (kEr (enc := Z5) (v6.fst, v6.snd))))
 (hB := fun v3 v7 => (kEr (enc := Z5) (v7.fst, v7.snd))))))) h)
def Yd (s : ((List Qc) × Qb × Qa)) (u : Qw) (o : Bool) : List Alt := jb o (fun b => [.sl 2 (List.map Qd (s.1)), .ptr 0 0 0, .ptr 1 0 0, .ptr 2 0 0, .bool b]) [.cells 0 (Qp (s.2.1)).cells, .cells 0 (Qm (s.2.2)).cells, .cells 0 (Qx u).cells]
def Ka (s : Unit) (u : Int) (o : Bool) : List Alt := jb o (fun b => [ii u, .bool b]) []
def W9 (x0 : Qb) (x1 : List Qc) (x2 : Qa) : Option Int :=
 some ((QV.mk (3 : Int) x2.fName (gVal.mk (0 : Int) (0 : Int)) (Qg.mk (0 : Int) (0 : Int) (0 : Int) (0 : Int) (0 : Int)) (gLin.mk (0 : Int) []) x2.fIdx [] : Q1)) >>= fun v0 =>
 JS x0 x1 v0 >>= fun v1 =>
 if v1.snd != 0 then
 some v1.snd
 else
 Xz x0 x2.fName >>= fun v2 =>
 some v2.fst >>= fun v3 =>
 (if v2.fst.fUse == 1 then
 some true
 else
 if x2.fOp == 3 then
 if x2.fFold < 1 then
 some true
 else
 if 4 < x2.fFold then
 some true
 else
 some false
 else
 some false) >>= fun v4 => if v4 then
 some (1 : Int)
 else
 JS x0 x1 x2.fExpr >>= fun v7 =>
 some v7.snd >>= fun v8 =>
 (if v7.snd == 0 then
 Zu x2.fExpr >>= fun v10 => if v10 then
 some true
 else
 if !(v7.fst.fKind == v3.fType.fKind && (v7.fst.fBits == v3.fType.fBits && (v7.fst.fFrac == v3.fType.fFrac && (v7.fst.fRound == v3.fType.fRound && (v7.fst.fOver == v3.fType.fOver && true))))) then
 some true
 else
 some false
 else
 some false) >>= fun v9 => if v9 then
 some (10 : Int)
 else
 some v8
theorem AH (x0 : Qb) (x1 : List Qc) (x2 : Qa) (r : Int) (h : W9 x0 x1 x2 = some r) : PU 78 [Qp x0, QW x1, Qm x2] (eI r) :=
 Pu2 (hs := [(20, .n Q6 20 none), (21, .c Z5), (25, .split), (31, .c Z3), (36, .split), (40, .split), (44, .split), (48, .split), (57, .c Z5), (61, .split), (65, .cb), (70, .split), (5000005, .l [] [] [] [1, 3, 5, 9, 51] [kk 3, kk 5, kk 9] (Yd (x1, x0, x2))), (5000008, .l [] [] [] [12, 72] [] (Ka ()))]) ((kW (sh := Q6) (QV.mk (3 : Int) x2.fName (gVal.mk (0 : Int) (0 : Int)) (Qg.mk (0 : Int) (0 : Int) (0 : Int) (0 : Int) (0 : Int)) (gLin.mk (0 : Int) []) x2.fIdx [] : Q1) (LeV.agg (.cons (LeV.refl (ii (3 : Int))) (.cons (LeV.refl (AV.str x2.fName)) (.cons (LeV.refl (ii (0 : Int))) (.cons (LeV.refl (ii (0 : Int))) (.cons (LeV.refl (ii (0 : Int))) (.cons (LeV.refl (ii (0 : Int))) (.cons (LeV.refl (ii (0 : Int))) (.cons (LeV.refl (ii (0 : Int))) (.cons (LeV.refl (ii (0 : Int))) (.cons (LeV.refl (ii (0 : Int))) (.cons (LeV.nil 2) (.cons (LeV.refl (AV.sl (4 : Nat) (List.map Q3 x2.fIdx))) (.cons (LeV.nil 13) .nil)))))))))))))) fun v0 => (kC (sh := Z5) (WL x0 x1 v0) fun v1 => (kIf (c := v1.snd != 0) (kEr (enc := eI) v1.snd)
 (kC (sh := Z3) (Uw x0 x2.fName) fun v2 => (kJb (id := 5000005) v2.fst (fun v3 ev3 v4 => (kIf (c := v2.fst.fUse == 1) (kXj (alts := Yd (x1, x0, x2)) ev3 true (.here () rfl (.refl _) (.refl _)))
 (kIf (c := x2.fOp == 3) (kIfD (p := x2.fFold < 1) (kXj (alts := Yd (x1, x0, x2)) ev3 true (.here () rfl (.refl _) (.refl _)))
 (kIfD (p := 4 < x2.fFold) (kXj (alts := Yd (x1, x0, x2)) ev3 true (.here () rfl (.refl _) (.refl _)))
 (kXj (alts := Yd (x1, x0, x2)) ev3 false (.next (.here () rfl (.refl _) (.refl _))))))
 (kXj (alts := Yd (x1, x0, x2)) ev3 false (.next (.here () rfl (.refl _) (.refl _)))))))
 (fun v3 => (kEr (enc := eI) (1 : Int)))
 (fun v3 => (kC (sh := Z5) (WL x0 x1 x2.fExpr) fun v7 => (kJb (id := 5000008) v7.snd (fun v8 ev8 v9 => (kIf (c := v7.snd == 0) (kCb (K4 x2.fExpr) (kXj (alts := Ka ()) ev8 true (.here () rfl (.refl _) (.refl _)))
 (kIf (c := !(v7.fst.fKind == v3.fType.fKind && (v7.fst.fBits == v3.fType.fBits && (v7.fst.fFrac == v3.fType.fFrac && (v7.fst.fRound == v3.fType.fRound && (v7.fst.fOver == v3.fType.fOver && true)))))) (kXj (alts := Ka ()) ev8 true (.here () rfl (.refl _) (.refl _)))
 (kXj (alts := Ka ()) ev8 false (.next (.here () rfl (.refl _) (.refl _))))))
 (kXj (alts := Ka ()) ev8 false (.next (.here () rfl (.refl _) (.refl _))))))
 (fun v8 => (kEr (enc := eI) (10 : Int)))
 (fun v8 => (kEr (enc := eI) v8)))))))))) h)
def Ul (s : Qa) (u : Unit) (o : Bool) : List Alt := jb o (fun b => [.ptr 0 0 0, .bool b]) [.cells 0 (Qm s).cells]
def YC (s : Unit) (u : Unit) (o : Bool) : List Alt := jb o (fun b => [.bool b]) []
def Um (s : Unit) (u : Int) (o : Bool) : List Alt := jb o (fun b => [ii u, .bool b]) []
def No (x0 : Qb) (x1 : List Qc) (x2 : List Str) (x3 : Qa) : Option Int :=
 W8 x3 >>= fun v0 => if v0 then
 if x3.fOp == 1 then
 Xz x0 x3.fName >>= fun v1 =>
 J6 x3.fName >>= fun v2 => if v2 then
 some () >>= fun v3 =>
 (if v1.snd then
 some true
 else
 DA x2 x3.fName >>= fun v5 => if v5 then
 some true
 else
 some false) >>= fun v4 => if v4 then
 some (8 : Int)
 else
 some () >>= fun v8 =>
 (if x3.fMany < 1 then
 some true
 else
 if 65536 < x3.fMany then
 some true
 else
 if x3.fMark < 0 then
 some true
 else
 if 3 < x3.fMark then
 some true
 else
 some false) >>= fun v9 => if v9 then
 some (1 : Int)
 else
 some (0 : Int)
 else
 some (7 : Int)
 else
 if x3.fOp == 4 then
 JS x0 x1 x3.fExpr >>= fun v12 =>
 some v12.snd >>= fun v13 =>
 (if v12.snd == 0 then
 Zu x3.fExpr >>= fun v15 => if v15 then
 some false
 else
 some true
 else
 some false) >>= fun v14 => if v14 then
 some (10 : Int)
 else
 some v13
 else
 W9 x0 x1 x3 >>= fun v18 =>
 some v18
 else
 some (5 : Int)
theorem OI (x0 : Qb) (x1 : List Qc) (x2 : List Str) (x3 : Qa) (r : Int) (h : No x0 x1 x2 x3 = some r) : PU 48 [Qp x0, QW x1, eLS x2, Qm x3] (eI r) :=
 Pu2 (hs := [(14, .cb), (19, .split), (24, .c Z3), (30, .cb), (33, .split), (38, .cb), (43, .split), (47, .split), (52, .split), (57, .split), (60, .split), (66, .c Z5), (70, .split), (74, .cb), (81, .c eI), (5000008, .l [] [] [] [7, 32] [kk 7] (Ul x3)), (5000010, .l [] [] [] [40] [] (YC ())), (5000015, .l [] [] [] [12, 76] [] (Um ()))]) ((kCb (AG x3) (kIf (c := x3.fOp == 1) (kC (sh := Z3) (Uw x0 x3.fName) fun v1 => (kCb (DX x3.fName) (kJb (id := 5000008) () (fun v3 ev3 v4 => (kIf (c := v1.snd) (kXj (alts := Ul x3) ev3 true (.here () rfl (.refl _) (.refl _)))
 (kCb (NX x2 x3.fName) (kXj (alts := Ul x3) ev3 true (.here () rfl (.refl _) (.refl _)))
 (kXj (alts := Ul x3) ev3 false (.next (.here () rfl (.refl _) (.refl _)))))))
 (fun v3 => (kEr (enc := eI) (8 : Int)))
 (fun v3 => (kJb (id := 5000010) () (fun v8 ev8 v9 => (kIfD (p := x3.fMany < 1) (kXj (alts := YC ()) ev8 true (.here () rfl (.refl _) (.refl _)))
 (kIfD (p := 65536 < x3.fMany) (kXj (alts := YC ()) ev8 true (.here () rfl (.refl _) (.refl _)))
 (kIfD (p := x3.fMark < 0) (kXj (alts := YC ()) ev8 true (.here () rfl (.refl _) (.refl _)))
 (kIfD (p := 3 < x3.fMark) (kXj (alts := YC ()) ev8 true (.here () rfl (.refl _) (.refl _)))
 (kXj (alts := YC ()) ev8 false (.next (.here () rfl (.refl _) (.refl _)))))))))
 (fun v8 => (kEr (enc := eI) (1 : Int)))
 (fun v8 => (kEr (enc := eI) (0 : Int))))))
 (kEr (enc := eI) (7 : Int))))
 (kIf (c := x3.fOp == 4) (kC (sh := Z5) (WL x0 x1 x3.fExpr) fun v12 => (kJb (id := 5000015) v12.snd (fun v13 ev13 v14 => (kIf (c := v12.snd == 0) (kCb (K4 x3.fExpr) (kXj (alts := Um ()) ev13 false (.next (.here () rfl (.refl _) (.refl _))))
 (kXj (alts := Um ()) ev13 true (.here () rfl (.refl _) (.refl _))))
 (kXj (alts := Um ()) ev13 false (.next (.here () rfl (.refl _) (.refl _))))))
 (fun v13 => (kEr (enc := eI) (10 : Int)))
 (fun v13 => (kEr (enc := eI) v13))))
 (kC (sh := eI) (AH x0 x1 x3) fun v18 => (kEr (enc := eI) v18))))
 (kEr (enc := eI) (5 : Int))) h)
def KW (s : ((List Qc) × (List Q7) × (List Int) × Qb)) (u : Unit) (o : ((List Str) × QK) ⊕ QK) : List Alt := [⟨fun (x : ((List Str) × QK)) => (Sum.inl x : ((List Str) × QK) ⊕ QK) = o, .exit 0, fun x => [.sl 1 (List.map eS x.1), .ptr 0 0 0], fun x => [.cells 0 (Z7 x.2).cells]⟩, ⟨fun (x : QK) => (Sum.inr x : ((List Str) × QK) ⊕ QK) = o, .ret, fun x => [.undef, .ptr 0 0 0], fun x => [.cells 0 (Z7 x).cells]⟩]
def D9 (s : ((List Qc) × (List Q7) × (List Int) × Qb)) (u : (QK × Int × (List Int))) (o : ((List Str) × (List Qc))) : List Alt := [⟨fun (x : ((List Str) × (List Qc))) => x = o, .normal, fun x => [.sl 2 (List.map Qd (s.1)), .sl 1 (List.map eS (x.1)), .sl 20 (List.map Qr (s.2.1)), .sl 1 (List.map eI (s.2.2.1)), .ptr 0 0 0, .ptr 1 0 0, ii (u.2.1), .sl 1 (List.map eI (u.2.2)), .sl 2 (List.map Qd (x.2))], fun x => [.cells 0 (Qp (s.2.2.2)).cells, .cells 0 (Z7 (u.1)).cells]⟩]
mutual
def Kd (x0 : Qb) (x1 : List Qc) (x2 : List Str) (x3 : List Q7) (x4 : List Int) : Option QK :=
 some () >>= fun v0 =>
 XF x1 x2 x3 x4 x0 (QK.mk [] [] (0 : Int)) (0 : Int) >>= fun v1 => (match v1 with
 | (.inl v2) =>
 some ((QK.mk v2.fst [] (0 : Int))) >>= fun v3 =>
 some v3
 | (.inr v4) =>
 some v4)
 partial_fixpoint
def XF (x1 : List Qc) (x2 : List Str) (x3 : List Q7) (x4 : List Int) (x5 : Qb) (x10 : QK) (x11 : Int) : Option (((List Str) × QK) ⊕ QK) :=
 some (List.length x3 : Int) >>= fun v0 =>
 if x11 < v0 then
 if (0 : Nat) = (0 : Nat) ∧ ((0 : Nat) + (List.map eI x4).length) * (8 : Nat) ≤ (140737488355328 : Nat) ∧ (0 : Nat) + (List.map eI x4).length ≤ (9223372036854775807 : Nat) then
 some ([] ++ x4) >>= fun v1 =>
 if (v1.length + (1 : Nat)) * (8 : Nat) ≤ (140737488355328 : Nat) ∧ v1.length + (1 : Nat) ≤ (9223372036854775807 : Nat) then
 some (v1 ++ [x11]) >>= fun v2 =>
 Option.map Q7.f (ix x3 x11) >>= fun v3 =>
 No x5 x1 x2 v3 >>= fun v4 =>
 if v4 != 0 then
 some ((QK.mk [] v2 v4)) >>= fun v5 =>
 some (.inr v5)
 else
 some (x10, x11, v2) >>= fun v6 =>
 (Option.map Q7.f (ix x3 x11) >>= fun v8 =>
 if v8.fOp == 1 then
 if (0 : Nat) = (0 : Nat) ∧ ((0 : Nat) + (List.map eS x2).length) * (16 : Nat) ≤ (140737488355328 : Nat) ∧ (0 : Nat) + (List.map eS x2).length ≤ (9223372036854775807 : Nat) then
 Option.map Q7.f (ix x3 x11) >>= fun v9 =>
 if (0 : Nat) + (List.map eS x2).length = ([] ++ List.map eS x2).length ∧ ((0 : Nat) + (List.map eS x2).length + (1 : Nat)) * (16 : Nat) ≤ (140737488355328 : Nat) ∧ (0 : Nat) + (List.map eS x2).length + (1 : Nat) ≤ (9223372036854775807 : Nat) then
 some (([] ++ x2) ++ [v9.fName]) >>= fun v10 =>
 if (0 : Nat) = (0 : Nat) ∧ ((0 : Nat) + (List.map Qd x1).length) * (24 : Nat) ≤ (140737488355328 : Nat) ∧ (0 : Nat) + (List.map Qd x1).length ≤ (9223372036854775807 : Nat) then
 Option.map Q7.f (ix x3 x11) >>= fun v11 =>
 Option.map Q7.f (ix x3 x11) >>= fun v12 =>
 some ((Qc.mk v11.fName v12.fMany)) >>= fun v13 =>
 if (0 : Nat) + (List.map Qd x1).length = ([] ++ List.map Qd x1).length ∧ ((0 : Nat) + (List.map Qd x1).length + (1 : Nat)) * (24 : Nat) ≤ (140737488355328 : Nat) ∧ (0 : Nat) + (List.map Qd x1).length + (1 : Nat) ≤ (9223372036854775807 : Nat) then
 some (([] ++ x1) ++ [(Qc.mk v11.fName v12.fMany)]) >>= fun v14 =>
 some (v10, v14)
 else none
 else none
 else none
 else none
 else
 some (x2, x1)) >>= fun v15 =>
 Option.map Q7.f (ix x3 v6.snd.fst) >>= fun v16 =>
 Kd x5 v15.snd v15.fst v16.fBody v6.snd.snd >>= fun v17 =>
 if v17.fE != 0 then
 some (.inr v17)
 else
 XF x1 v17.fUsed x3 x4 x5 v6.fst (wr (v6.snd.fst + 1))
 else none
 else none
 else
 some (.inl (x2, x10))
 partial_fixpoint
end
theorem Aj (x0 : Qb) : (∀ (x1 : List Qc) (x2 : List Str) (x3 : List Q7) (x4 : List Int) (r : QK), Kd x0 x1 x2 x3 x4 = some r → PU 30 [Qp x0, QW x1, eLS x2, Zl x3, eLI x4] (Z7 r)) ∧ (∀ (x1 : List Qc) (x2 : List Str) (x3 : List Q7) (x4 : List Int) (x10 : QK) (x11 : Int) (o : ((List Str) × QK) ⊕ QK), XF x1 x2 x3 x4 x0 x10 x11 = some o → LO 30 2 92 [1, 2, 3, 4, 5, 10, 11] [.sl 2 (List.map Qd x1), .sl 1 (List.map eS x2), .sl 20 (List.map Qr x3), .sl 1 (List.map eI x4), .ptr 0 0 0, .ptr 1 0 0, ii x11] [.cells 0 (Qp x0).cells, .cells 0 (Z7 x10).cells] [2, 10] (KW (x1, x3, x4, x0) () o)) :=
 Kd.mutual_partial_correctness x0 (fun x1 x2 x3 x4 r => PU 30 [Qp x0, QW x1, eLS x2, Zl x3, eLI x4] (Z7 r)) (fun x1 x2 x3 x4 x10 x11 o => LO 30 2 92 [1, 2, 3, 4, 5, 10, 11] [.sl 2 (List.map Qd x1), .sl 1 (List.map eS x2), .sl 20 (List.map Qr x3), .sl 1 (List.map eI x4), .ptr 0 0 0, .ptr 1 0 0, ii x11] [.cells 0 (Qp x0).cells, .cells 0 (Z7 x10).cells] [2, 10] (KW (x1, x3, x4, x0) () o))
 (fun XF Q4l x1 x2 x3 x4 r h  =>
 Pu2 (hs := [(91, .n Z7 91 none), (3000003, .l [] [1, 2, 3, 4, 5, 10, 11] [{ slot := 2, fz := true }, kk 5, kk 10] [2, 10] [{ slot := 2, fz := true }, kk 10] (KW (x1, x3, x4, x0)))]) ((kL2 () (hL := (fun y hy => ZI.le (.cons (LeV.refl (AV.sl (2 : Nat) (List.map Qd x1))) (.cons (LeV.refl (AV.sl (1 : Nat) (List.map eS x2))) (.cons (LeV.refl (AV.sl (20 : Nat) (List.map Qr x3))) (.cons (LeV.refl (AV.sl (1 : Nat) (List.map eI x4))) (.cons (LeV.refl (AV.ptr (0 : Nat) (0 : Nat) (0 : Nat))) (.cons (LeV.refl (AV.ptr (1 : Nat) (0 : Nat) (0 : Nat))) (.cons (LeV.refl (ii (0 : Int))) .nil))))))) (.cons (LeB.refl (Box.cells (0 : Nat) [AV.sl (8 : Nat) (List.map Qx x0.fBufs), AV.sl (20 : Nat) (List.map Qr x0.fBody)])) (.cons (LeB.cells (0 : Nat) (.cons (LeV.nil 1) (.cons (LeV.nil 1) (.cons (LeV.refl (ii (0 : Int))) .nil)))) .nil)) (Q4l x1 x2 x3 x4 (QK.mk [] [] (0 : Int)) (0 : Int) y hy))) (hA := fun v0 v2 => (kW (sh := Z7) (QK.mk v2.fst [] (0 : Int)) (LeV.agg (.cons (LeV.refl (AV.sl (1 : Nat) (List.map eS v2.fst))) (.cons (LeV.nil 1) (.cons (LeV.refl (ii (0 : Int))) .nil)))) fun v3 => (kEr (enc := Z7) v3)))
 (hB := fun v0 v4 => (kEr (enc := Z7) v4))) h))
 (fun Kd XF Q4k Q4l x1 x2 x3 x4 x10 x11 o h  =>
 Lp2 (hs := [(18, .n eI 18 none), (19, .split), (24, .z [{ slot := 22, own := 1 }] (some (.n eI 24 (some .a)))), (27, .z [{ slot := 24, own := 1 }] (some (.n eI 27 (some .a)))), (12, .z [{ slot := 27, fz := true }] none), (33, .e Qm), (35, .c eI), (37, .split), (40, .n Z7 40 none), (44, .e Qm), (47, .split), (50, .a), (53, .e Qm), (57, .z [{ slot := 50, own := 1 }] (some (.n eS 57 (some .a)))), (2, .z [{ slot := 57, fz := true }] none), (60, .a), (63, .e Qm), (68, .e Qm), (71, .n Qd 71 none), (73, .z [{ slot := 60, own := 2 }] (some (.n Qd 73 (some .a)))), (14, .z [{ slot := 73, fz := true }] none), (79, .e Qm), (83, .c Z7), (86, .split), (6000011, .l [] [] [] [1, 2, 3, 4, 5, 10, 11, 12, 14] [{ slot := 2, fz := true }, kk 5, kk 10, { slot := 12, fz := true }, { slot := 14, fz := true }] (D9 (x1, x3, x4, x0)))]) (kb := [{ slot := 2, fz := true }, kk 5, kk 10]) (kbx := [{ slot := 2, fz := true }, kk 10]) ((kN _ (mLen (sh := Qr) x3) fun v0 => (kIfD (p := x11 < v0) (kG (p := (0 : Nat) = (0 : Nat) ∧ ((0 : Nat) + (List.map eI x4).length) * (8 : Nat) ≤ (140737488355328 : Nat) ∧ (0 : Nat) + (List.map eI x4).length ≤ (9223372036854775807 : Nat)) (kO (sh := eI) ([] ++ x4) (mAA (sh := eI) [] x4) (nAA (sh := eI) [] x4) fun v1 => (kA (q := (v1.length + (1 : Nat)) * (8 : Nat) ≤ (140737488355328 : Nat) ∧ v1.length + (1 : Nat) ≤ (9223372036854775807 : Nat)) (sh := eI) (l := v1) (kO (sh := eI) (v1 ++ [x11]) (mA (sh := eI) v1 x11) (nA v1 x11) fun v2 => (kT (nM (sh := eI) v2) (kIxR (l := x3) (k := x11) Z2 fun v3 => (kC (sh := eI) (OI x0 x1 x2 v3) fun v4 => (kIf (c := v4 != 0) (kW (sh := Z7) (QK.mk [] v2 v4) (LeV.agg (.cons (LeV.nil 1) (.cons (LeV.refl (AV.sl (1 : Nat) (List.map eI v2))) (.cons (LeV.refl (ii v4)) .nil)))) fun v5 => (kX (alts := KW (x1, x3, x4, x0) ()) (.inr v5) (.next (.here _ rfl (.cons (LeV.undef (AV.sl (1 : Nat) (List.map eS x2))) (.cons (LeV.refl (AV.ptr (0 : Nat) (0 : Nat) (0 : Nat))) .nil)) (.refl _)))))
 (kJ1 (id := 6000011) (x10, x11, v2) (fun v6 ev6 v7 => (kIxR (l := x3) (k := x11) Z2 fun v8 => (kIf (c := v8.fOp == 1) (kG (p := (0 : Nat) = (0 : Nat) ∧ ((0 : Nat) + (List.map eS x2).length) * (16 : Nat) ≤ (140737488355328 : Nat) ∧ (0 : Nat) + (List.map eS x2).length ≤ (9223372036854775807 : Nat)) (kIxR (l := x3) (k := x11) Z2 fun v9 => (kG (p := (0 : Nat) + (List.map eS x2).length = ([] ++ List.map eS x2).length ∧ ((0 : Nat) + (List.map eS x2).length + (1 : Nat)) * (16 : Nat) ≤ (140737488355328 : Nat) ∧ (0 : Nat) + (List.map eS x2).length + (1 : Nat) ≤ (9223372036854775807 : Nat)) (kO (sh := eS) (([] ++ x2) ++ [v9.fName]) (mAp (sh := eS) (mAA (sh := eS) [] x2) (rfl : List.map eS [v9.fName] = List.map eS [v9.fName])) (by simp : List.length (([] ++ x2) ++ [v9.fName]) = (0 : Nat) + (List.map eS x2).length + (1 : Nat)) fun v10 => (kT (nM (sh := eS) v10) (kG (p := (0 : Nat) = (0 : Nat) ∧ ((0 : Nat) + (List.map Qd x1).length) * (24 : Nat) ≤ (140737488355328 : Nat) ∧ (0 : Nat) + (List.map Qd x1).length ≤ (9223372036854775807 : Nat)) (kIxR (l := x3) (k := x11) Z2 fun v11 => (kIxR (l := x3) (k := x11) Z2 fun v12 => (kW (sh := Qd) (Qc.mk v11.fName v12.fMany) lr fun v13 => (kG (p := (0 : Nat) + (List.map Qd x1).length = ([] ++ List.map Qd x1).length ∧ ((0 : Nat) + (List.map Qd x1).length + (1 : Nat)) * (24 : Nat) ≤ (140737488355328 : Nat) ∧ (0 : Nat) + (List.map Qd x1).length + (1 : Nat) ≤ (9223372036854775807 : Nat)) (kO (sh := Qd) (([] ++ x1) ++ [(Qc.mk v11.fName v12.fMany)]) (mAp (sh := Qd) (mAA (sh := Qd) [] x1) (rfl : List.map Qd [(Qc.mk v11.fName v12.fMany)] = List.map Qd [(Qc.mk v11.fName v12.fMany)])) (by simp : List.length (([] ++ x1) ++ [(Qc.mk v11.fName v12.fMany)]) = (0 : Nat) + (List.map Qd x1).length + (1 : Nat)) fun v14 => (kT (nM (sh := Qd) v14) (kXj (alts := D9 (x1, x3, x4, x0)) ev6 (v10, v14) (.here _ rfl (.refl _) (.refl _)))))))))))))))
 (kXj (alts := D9 (x1, x3, x4, x0)) ev6 (x2, x1) (.here _ rfl (.refl _) (.refl _))))))
 (fun v6 v15 => (kIxR (l := x3) (k := v6.snd.fst) Z2 fun v16 => (kC (sh := Z7) (Q4k v15.snd v15.fst v16.fBody v6.snd.snd) fun v17 => (kIf (c := v17.fE != 0) (kX (alts := KW (x1, x3, x4, x0) ()) (.inr v17) (.next (.here _ rfl (.cons (LeV.undef (AV.sl (1 : Nat) (List.map eS v15.fst))) (.cons (LeV.refl (AV.ptr (0 : Nat) (0 : Nat) (0 : Nat))) .nil)) (.refl _))))
 (kM0 (alts := KW (x1, x3, x4, x0) ()) (Q4l x1 v17.fUsed x3 x4 v6.fst (wr (v6.snd.fst + 1)))))))))))))))))
 (kX (alts := KW (x1, x3, x4, x0) ()) (.inl (x2, x10)) (.here _ rfl (.refl _) (.refl _))))) h))
theorem FO (x0 : Qb) (x1 : List Qc) (x2 : List Str) (x3 : List Q7) (x4 : List Int) (r : QK) (h : Kd x0 x1 x2 x3 x4 = some r) : PU 30 [Qp x0, QW x1, eLS x2, Zl x3, eLI x4] (Z7 r) := (Aj x0).1 x1 x2 x3 x4 r h
def KJ (s : Qb) (u : Unit) (o : Bool) : List Alt := jb o (fun b => [.ptr 0 0 0, .bool b]) [.cells 0 (Qp s).cells]
def DD (x0 : Qb) : Option (List Int × Int) :=
 Vg x0.fBody 41 >>= fun v0 =>
 if 40 < v0 then
 some ([], (13 : Int))
 else
 some () >>= fun v1 =>
 (Jg x0.fBody 2000 >>= fun v3 =>
 if 2000 < v3 then
 some true
 else
 some (List.length x0.fBufs : Int) >>= fun v4 =>
 if 128 < v4 then
 some true
 else
 some false) >>= fun v2 => if v2 then
 some ([], (2 : Int))
 else
 Cf x0 >>= fun v7 =>
 if v7 != 0 then
 some ([], v7)
 else
 Kd x0 [] [] x0.fBody [] >>= fun v8 =>
 some (v8.fWay, v8.fE)
theorem Rf (x0 : Qb) (r : (List Int × Int)) (h : DD x0 = some r) : PU 14 [Qp x0] (N6 r) :=
 Pu2 (hs := [(8, .c eI), (9, .split), (12, .c eI), (13, .split), (17, .n eI 17 none), (18, .split), (21, .c eI), (23, .split), (28, .c Z7), (5000003, .l [] [] [] [1, 19] [kk 1] (KJ x0))]) ((kC (sh := eI) (AF x0.fBody 41) fun v0 => (kIfD (p := 40 < v0) (kE (enc := N6) ([], (13 : Int)) (LeT.tup (.cons (LeT.nil 1) (.cons (LeT.refl (ii (13 : Int))) .nil))))
 (kJb (id := 5000003) () (fun v1 ev1 v2 => (kC (sh := eI) (FS x0.fBody 2000) fun v3 => (kIfD (p := 2000 < v3) (kXj (alts := KJ x0) ev1 true (.here () rfl (.refl _) (.refl _)))
 (kN _ (mLen (sh := Qx) x0.fBufs) fun v4 => (kIfD (p := 128 < v4) (kXj (alts := KJ x0) ev1 true (.here () rfl (.refl _) (.refl _)))
 (kXj (alts := KJ x0) ev1 false (.next (.here () rfl (.refl _) (.refl _)))))))))
 (fun v1 => (kE (enc := N6) ([], (2 : Int)) (LeT.tup (.cons (LeT.nil 1) (.cons (LeT.refl (ii (2 : Int))) .nil)))))
 (fun v1 => (kC (sh := eI) (FP x0) fun v7 => (kIf (c := v7 != 0) (kE (enc := N6) ([], v7) (LeT.tup (.cons (LeT.nil 1) (.cons (LeT.refl (ii v7)) .nil))))
 (kC (sh := Z7) (fun y hy => Pu.le (FO x0 [] [] x0.fBody [] y hy) (.cons (LeT.refl (AV.agg [AV.sl (8 : Nat) (List.map Qx x0.fBufs), AV.sl (20 : Nat) (List.map Qr x0.fBody)])) (.cons (LeT.nil 2) (.cons (LeT.nil 1) (.cons (LeT.refl (AV.sl (20 : Nat) (List.map Qr x0.fBody))) (.cons (LeT.nil 1) .nil))))) (LeT.refl _)) fun v8 => (kEr (enc := N6) (v8.fWay, v8.fE))))))))) h)
def Va (s : Q1) (u : Unit) (o : Unit ⊕ Bool) : List Alt := [⟨fun (x : Unit) => (Sum.inl x : Unit ⊕ Bool) = o, .exit 0, fun x => [.ptr 0 0 0, .undef], fun x => [.cells 0 (Q6 s).cells]⟩, ⟨fun (x : Bool) => (Sum.inr x : Unit ⊕ Bool) = o, .ret, fun x => [.ptr 0 0 0, .bool x], fun x => [.cells 0 (Q6 s).cells]⟩]
mutual
def KD (x0 : Q1) : Option Bool :=
 some () >>= fun v0 =>
 Xp x0 0 >>= fun v1 => (match v1 with
 | (.inl v2) =>
 some (x0.fOp != 3)
 | (.inr v3) =>
 some v3)
 partial_fixpoint
def Xp (x1 : Q1) (x3 : Int) : Option (Unit ⊕ Bool) :=
 some (List.length x1.fArgs : Int) >>= fun v0 =>
 if x3 < v0 then
 Option.map Q9.f (ix x1.fArgs x3) >>= fun v1 =>
 KD v1 >>= fun v2 => if v2 then
 Xp x1 (wr (x3 + 1))
 else
 some (.inr false)
 else
 some (.inl ())
 partial_fixpoint
end
theorem RS  : (∀ (x0 : Q1) (r : Bool), KD x0 = some r → PU 49 [Q6 x0] (eB r)) ∧ (∀ (x1 : Q1) (x3 : Int) (o : Unit ⊕ Bool), Xp x1 x3 = some o → LO 49 2 21 [1, 3] [.ptr 0 0 0, ii x3] [.cells 0 (Q6 x1).cells] [1, 2] (Va x1 () o)) :=
 KD.mutual_partial_correctness  (fun x0 r => PU 49 [Q6 x0] (eB r)) (fun x1 x3 o => LO 49 2 21 [1, 3] [.ptr 0 0 0, ii x3] [.cells 0 (Q6 x1).cells] [1, 2] (Va x1 () o))
 (fun Xp Q51 x0 r h  =>
 Pu2 (hs := [(3000003, .l [] [1, 3] [kk 1] [1, 2] [kk 1] (Va x0))]) ((kL2 () (hL := (Q51 x0 0)) (hA := fun v0 v2 => (kEr (enc := eB) (x0.fOp != 3)))
 (hB := fun v0 v3 => (kEr (enc := eB) v3))) h))
 (fun KD Xp Q50 Q51 x1 x3 o h  =>
 Lp2 (hs := [(7, .n eI 7 none), (8, .split), (14, .e Q6), (16, .cb)]) (kb := [kk 1]) (kbx := [kk 1]) ((kN _ (mLen (sh := Ql) x1.fArgs) fun v0 => (kIfD (p := x3 < v0) (kIxR (l := x1.fArgs) (k := x3) QZ fun v1 => (kCb (Q50 v1) (kM0 (alts := Va x1 ()) (Q51 x1 (wr (x3 + 1))))
 (kX (alts := Va x1 ()) (.inr false) (.next (.here _ rfl (.refl _) (.refl _))))))
 (kX (alts := Va x1 ()) (.inl ()) (.here _ rfl (.refl _) (.refl _))))) h))
theorem Sd (x0 : Q1) (r : Bool) (h : KD x0 = some r) : PU 49 [Q6 x0] (eB r) := (RS ).1 x0 r h
def Gh (s : ((List Str) × Str)) (u : Unit) (o : Int) : List Alt := [⟨fun (x : Int) => x = o, .exit 0, fun x => [.sl 1 (List.map eS s.1), .str s.2, ii x], fun x => []⟩]
def Ju (s : ((List Str) × Str)) (u : Int) (o : Bool) : List Alt := jb o (fun b => [.sl 1 (List.map eS (s.1)), .str (s.2), ii u, .bool b]) []
def Yp (x0 : List Str) (x1 : Str) (x5 : Int) : Option Int :=
 some x5 >>= fun v0 =>
 (some (List.length x0 : Int) >>= fun v2 =>
 if x5 < v2 then
 ix x0 x5 >>= fun v3 =>
 if Op.bytesLess v3 x1 then
 some true
 else
 some false
 else
 some false) >>= fun v1 => if v1 then
 Yp x0 x1 (wr (v0 + 1))
 else
 some v0
 partial_fixpoint
theorem T7 (x0 : List Str) (x1 : Str) (x5 : Int) (o : Int) (h : Yp x0 x1 x5 = some o) : LO 80 2 48 [0, 1, 5] [.sl 1 (List.map eS x0), .str x1, ii x5] [] [0, 1, 5] (Gh (x0, x1) () o) :=
 Yp.partial_correctness x0 x1 (fun x5 o => LO 80 2 48 [0, 1, 5] [.sl 1 (List.map eS x0), .str x1, ii x5] [] [0, 1, 5] (Gh (x0, x1) () o))
 (fun Yp Q3t x5 o h  =>
 Lp2 (hs := [(9, .n eI 9 none), (10, .split), (14, .e eS), (17, .split), (5000002, .l [] [] [] [0, 1, 5, 18] [] (Ju (x0, x1)))]) (kb := []) (kbx := []) ((kJb (id := 5000002) x5 (fun v0 ev0 v1 => (kN _ (mLen (sh := eS) x0) fun v2 => (kIfD (p := x5 < v2) (kIx (enc := eS) (l := x0) (k := x5) fun v3 => (kIf (c := Op.bytesLess v3 x1) (kXj (alts := Ju (x0, x1)) ev0 true (.here () rfl (.refl _) (.refl _)))
 (kXj (alts := Ju (x0, x1)) ev0 false (.next (.here () rfl (.refl _) (.refl _))))))
 (kXj (alts := Ju (x0, x1)) ev0 false (.next (.here () rfl (.refl _) (.refl _)))))))
 (fun v0 => (kM0 (alts := Gh (x0, x1) ()) (Q3t (wr (v0 + 1)))))
 (fun v0 => (kX (alts := Gh (x0, x1) ()) v0 (.here _ rfl (.refl _) (.refl _))))) h)) x5 o h
def Jv (s : ((List Str) × Str)) (u : Int) (o : Bool) : List Alt := jb o (fun b => [.sl 1 (List.map eS (s.1)), .str (s.2), ii u, .bool b]) []
def Cd (x0 : List Str) (x1 : Str) : Option (List Str) :=
 some () >>= fun v0 =>
 Yp x0 x1 0 >>= fun v2 =>
 some v2 >>= fun v3 =>
 (some (List.length x0 : Int) >>= fun v5 =>
 if v2 < v5 then
 ix x0 v2 >>= fun v6 =>
 if v6 == x1 then
 some true
 else
 some false
 else
 some false) >>= fun v4 => if v4 then
 some x0
 else
 if (0 : Int) ≤ 0 ∧ 0 ≤ v3 ∧ v3 ≤ (↑(List.map eS x0).length : Int) then
 some ((List.drop (0 : Nat) (List.take v3.toNat x0)) : List Str) >>= fun v9 =>
 if (0 : Nat) = (0 : Nat) ∧ ((0 : Nat) + (List.map eS v9).length) * (16 : Nat) ≤ (140737488355328 : Nat) ∧ (0 : Nat) + (List.map eS v9).length ≤ (9223372036854775807 : Nat) then
 some ([] ++ v9) >>= fun v10 =>
 if (v10.length + (1 : Nat)) * (16 : Nat) ≤ (140737488355328 : Nat) ∧ v10.length + (1 : Nat) ≤ (9223372036854775807 : Nat) then
 some (v10 ++ [x1]) >>= fun v11 =>
 if 0 ≤ v3 ∧ v3 ≤ (↑(List.map eS x0).length : Int) then
 some ((List.drop v3.toNat x0) : List Str) >>= fun v12 =>
 if (v11.length + (List.map eS v12).length) * (16 : Nat) ≤ (140737488355328 : Nat) ∧ v11.length + (List.map eS v12).length ≤ (9223372036854775807 : Nat) then
 some (v11 ++ v12) >>= fun v13 =>
 some v13
 else none
 else none
 else none
 else none
 else none
theorem IS (x0 : List Str) (x1 : Str) (r : List Str) (h : Cd x0 x1 = some r) : PU 80 [eLS x0, eS x1] (eLS r) :=
 Pu2 (hs := [(23, .n eI 23 none), (24, .split), (28, .e eS), (31, .split), (37, .n eLS 37 (some .s)), (38, .z [{ slot := 34, own := 1 }] (some (.n eS 38 (some .a)))), (42, .z [{ slot := 39, own := 1 }] (some (.n eS 42 (some .a)))), (46, .n eLS 46 (some .s)), (47, .z [{ slot := 43, own := 1 }] (some (.n eS 47 (some .a)))), (3000003, .l [] [0, 1, 5] [] [0, 1, 5] [] (Gh (x0, x1))), (5000004, .l [] [] [] [0, 1, 5, 32] [] (Jv (x0, x1)))]) ((kL1 () (T7 x0 x1 0) fun v0 v2 => (kJb (id := 5000004) v2 (fun v3 ev3 v4 => (kN _ (mLen (sh := eS) x0) fun v5 => (kIfD (p := v2 < v5) (kIx (enc := eS) (l := x0) (k := v2) fun v6 => (kIf (c := v6 == x1) (kXj (alts := Jv (x0, x1)) ev3 true (.here () rfl (.refl _) (.refl _)))
 (kXj (alts := Jv (x0, x1)) ev3 false (.next (.here () rfl (.refl _) (.refl _))))))
 (kXj (alts := Jv (x0, x1)) ev3 false (.next (.here () rfl (.refl _) (.refl _)))))))
 (fun v3 => (kEr (enc := eLS) x0))
 (fun v3 => (kG (p := (0 : Int) ≤ 0 ∧ 0 ≤ v3 ∧ v3 ≤ (↑(List.map eS x0).length : Int)) (kW (sh := eLS) (List.drop (0 : Nat) (List.take v3.toNat x0)) (leSl (mTD (sh := eS) x0 v3.toNat (0 : Nat))) fun v9 => (kG (p := (0 : Nat) = (0 : Nat) ∧ ((0 : Nat) + (List.map eS v9).length) * (16 : Nat) ≤ (140737488355328 : Nat) ∧ (0 : Nat) + (List.map eS v9).length ≤ (9223372036854775807 : Nat)) (kO (sh := eS) ([] ++ v9) (mAA (sh := eS) [] v9) (nAA (sh := eS) [] v9) fun v10 => (kA (q := (v10.length + (1 : Nat)) * (16 : Nat) ≤ (140737488355328 : Nat) ∧ v10.length + (1 : Nat) ≤ (9223372036854775807 : Nat)) (sh := eS) (l := v10) (kO (sh := eS) (v10 ++ [x1]) (mA (sh := eS) v10 x1) (nA v10 x1) fun v11 => (kG (p := 0 ≤ v3 ∧ v3 ≤ (↑(List.map eS x0).length : Int)) (kW (sh := eLS) (List.drop v3.toNat x0) (leSl (mD (sh := eS) x0 v3.toNat)) fun v12 => (kA (q := (v11.length + (List.map eS v12).length) * (16 : Nat) ≤ (140737488355328 : Nat) ∧ v11.length + (List.map eS v12).length ≤ (9223372036854775807 : Nat)) (sh := eS) (l := v11) (kO (sh := eS) (v11 ++ v12) (mAA (sh := eS) v11 v12) (nAA (sh := eS) v11 v12) fun v13 => (kT (nM (sh := eS) v13) (kEr (enc := eLS) v13))))))))))))))) h)
def UD (s : List Q9) (u : Int) (o : List Str) : List Alt := [⟨fun (x : List Str) => x = o, .exit 2, fun x => [.sl 1 (List.map eS x), .sl 13 (List.map Ql s), ii u], fun x => []⟩]
def GG (s : ((List Q9) × Int)) (u : Int) (o : List Str) : List Alt := [⟨fun (x : List Str) => x = o, .normal, fun x => [.sl 1 (List.map eS x), .sl 13 (List.map Ql (s.1)), ii (s.2), ii u], fun x => []⟩]
def X9 (x3 : List Str) (x4 : List Q9) (x5 : Int) (x6 : Int) : Option (List Str) :=
 Option.map Q9.f (ix x4 x5) >>= fun v0 =>
 some (List.length v0.fIdx : Int) >>= fun v1 =>
 if x6 < v1 then
 some x6 >>= fun v2 =>
 (Option.map Q9.f (ix x4 x5) >>= fun v4 =>
 ix v4.fIdx x6 >>= fun v5 =>
 if !v5.fFrom == [] then
 Option.map Q9.f (ix x4 x5) >>= fun v6 =>
 ix v6.fIdx x6 >>= fun v7 =>
 Cd x3 v7.fFrom >>= fun v8 =>
 some v8
 else
 some x3) >>= fun v9 =>
 X9 v9 x4 x5 (wr (v2 + 1))
 else
 some x3
 partial_fixpoint
theorem Ra (x3 : List Str) (x4 : List Q9) (x5 : Int) (x6 : Int) (o : List Str) (h : X9 x3 x4 x5 x6 = some o) : LO 51 9 60 [3, 4, 5, 6] [.sl 1 (List.map eS x3), .sl 13 (List.map Ql x4), ii x5, ii x6] [] [3, 4, 5] (UD x4 x5 o) :=
 X9.partial_correctness x4 x5 (fun x3 x6 o => LO 51 9 60 [3, 4, 5, 6] [.sl 1 (List.map eS x3), .sl 13 (List.map Ql x4), ii x5, ii x6] [] [3, 4, 5] (UD x4 x5 o))
 (fun X9 Q3p x3 x6 o h  =>
 Lp2 (hs := [(31, .e Q6), (34, .n eI 34 none), (35, .split), (40, .e Q6), (44, .e Q3), (47, .split), (51, .e Q6), (55, .e Q3), (58, .c eLS), (7000003, .l [] [] [] [3, 4, 5, 6] [] (GG (x4, x5)))]) (kb := []) (kbx := []) ((kIxR (l := x4) (k := x5) QZ fun v0 => (kN _ (mLen (sh := Q3) v0.fIdx) fun v1 => (kIfD (p := x6 < v1) (kJ1 (id := 7000003) x6 (fun v2 ev2 v3 => (kIxR (l := x4) (k := x5) QZ fun v4 => (kIx (enc := Q3) (l := v4.fIdx) (k := x6) fun v5 => (kIf (c := !v5.fFrom == []) (kIxR (l := x4) (k := x5) QZ fun v6 => (kIx (enc := Q3) (l := v6.fIdx) (k := x6) fun v7 => (kC (sh := eLS) (IS x3 v7.fFrom) fun v8 => (kXj (alts := GG (x4, x5)) ev2 v8 (.here _ rfl (.refl _) (.refl _))))))
 (kXj (alts := GG (x4, x5)) ev2 x3 (.here _ rfl (.refl _) (.refl _)))))))
 (fun v2 v9 => (kM0 (alts := UD x4 x5) (Q3p v9 (wr (v2 + 1))))))
 (kX (alts := UD x4 x5) x3 (.here _ rfl (.refl _) (.refl _)))))) h)) x3 x6 o h
def UC (s : Unit) (u : List Q9) (o : List Str) : List Alt := [⟨fun (x : List Str) => x = o, .exit 0, fun x => [.sl 1 (List.map eS x)], fun x => []⟩]
def GF (s : List Q9) (u : Int) (o : List Str) : List Alt := [⟨fun (x : List Str) => x = o, .normal, fun x => [.sl 1 (List.map eS x), .sl 13 (List.map Ql s), ii u], fun x => []⟩]
def X8 (x3 : List Str) (x4 : List Q9) (x5 : Int) : Option (List Str) :=
 some (List.length x4 : Int) >>= fun v0 =>
 if x5 < v0 then
 some x5 >>= fun v1 =>
 (Option.map Q9.f (ix x4 x5) >>= fun v3 =>
 if v3.fOp == 3 then
 Option.map Q9.f (ix x4 x5) >>= fun v4 =>
 Cd x3 v4.fName >>= fun v5 =>
 some v5
 else
 some x3) >>= fun v6 =>
 some v1 >>= fun v7 =>
 X9 v6 x4 v1 0 >>= fun v9 =>
 X8 v9 x4 (wr (v7 + 1))
 else
 some x3
 partial_fixpoint
theorem R9 (x3 : List Str) (x4 : List Q9) (x5 : Int) (o : List Str) (h : X8 x3 x4 x5 = some o) : LO 51 4 60 [3, 4, 5] [.sl 1 (List.map eS x3), .sl 13 (List.map Ql x4), ii x5] [] [3] (UC () x4 o) :=
 X8.partial_correctness x4 (fun x3 x5 o => LO 51 4 60 [3, 4, 5] [.sl 1 (List.map eS x3), .sl 13 (List.map Ql x4), ii x5] [] [3] (UC () x4 o))
 (fun X8 Q3o x3 x5 o h  =>
 Lp2 (hs := [(11, .n eI 11 none), (12, .split), (17, .e Q6), (20, .split), (24, .e Q6), (27, .c eLS), (3000010, .l [] [3, 4, 5, 6] [] [3, 4, 5] [] (UD x4)), (6000008, .l [] [] [] [3, 4, 5] [] (GF x4))]) (kb := []) (kbx := []) ((kN _ (mLen (sh := Ql) x4) fun v0 => (kIfD (p := x5 < v0) (kJ1 (id := 6000008) x5 (fun v1 ev1 v2 => (kIxR (l := x4) (k := x5) QZ fun v3 => (kIf (c := v3.fOp == 3) (kIxR (l := x4) (k := x5) QZ fun v4 => (kC (sh := eLS) (IS x3 v4.fName) fun v5 => (kXj (alts := GF x4) ev1 v5 (.here _ rfl (.refl _) (.refl _)))))
 (kXj (alts := GF x4) ev1 x3 (.here _ rfl (.refl _) (.refl _))))))
 (fun v1 v6 => (kL1 v1 (Ra v6 x4 v1 0) fun v7 v9 => (kM0 (alts := UC () x4) (Q3o v9 (wr (v7 + 1)))))))
 (kX (alts := UC () x4) x3 (.here _ rfl (.refl _) (.refl _))))) h)) x3 x5 o h
def W4 (x0 : Q1) : Option (List Str) :=
 KM x0 >>= fun v0 =>
 some v0 >>= fun v1 =>
 X8 [] v0 0 >>= fun v3 =>
 some v3
theorem Aw (x0 : Q1) (r : List Str) (h : W4 x0 = some r) : PU 51 [Q6 x0] (eLS r) :=
 Pu2 (hs := [(8, .c YJ), (3000005, .l [] [3, 4, 5] [] [3] [] (UC ()))]) ((kC (sh := YJ) (EG x0) fun v0 => (kL1 v0 (fun y hy => ZI.le (.cons (LeV.nil 1) (.cons (LeV.refl (AV.sl (13 : Nat) (List.map Ql v0))) (.cons (LeV.refl (ii (0 : Int))) .nil))) (.refl _) (R9 [] v0 0 y hy)) fun v1 v3 => (kEr (enc := eLS) v3))) h)
def Kv (s : ((List Q7) × (List Str))) (u : Unit) (o : Unit ⊕ Bool) : List Alt := [⟨fun (x : Unit) => (Sum.inl x : Unit ⊕ Bool) = o, .exit 0, fun x => [.undef], fun x => []⟩, ⟨fun (x : Bool) => (Sum.inr x : Unit ⊕ Bool) = o, .ret, fun x => [.bool x], fun x => []⟩]
def Za (s : ((List Q7) × (List Str))) (u : Int) (o : Bool) : List Alt := jb o (fun b => [.sl 20 (List.map Qr (s.1)), .sl 1 (List.map eS (s.2)), ii u, .bool b]) []
mutual
def XG (x0 : List Q7) (x1 : List Str) : Option Bool :=
 some () >>= fun v0 =>
 X1 x0 x1 0 >>= fun v1 => (match v1 with
 | (.inl v2) =>
 some false
 | (.inr v3) =>
 some v3)
 partial_fixpoint
def X1 (x0 : List Q7) (x1 : List Str) (x5 : Int) : Option (Unit ⊕ Bool) :=
 some (List.length x0 : Int) >>= fun v0 =>
 if x5 < v0 then
 some x5 >>= fun v1 =>
 (Option.map Q7.f (ix x0 x5) >>= fun v3 =>
 if v3.fOp == 2 then
 Option.map Q7.f (ix x0 x5) >>= fun v4 =>
 DA x1 v4.fName >>= fun v5 => if v5 then
 some true
 else
 Option.map Q7.f (ix x0 x5) >>= fun v6 =>
 XG v6.fBody x1 >>= fun v7 => if v7 then
 some true
 else
 some false
 else
 Option.map Q7.f (ix x0 x5) >>= fun v8 =>
 if v8.fOp == 3 then
 Option.map Q7.f (ix x0 x5) >>= fun v9 =>
 DA x1 v9.fName >>= fun v10 => if v10 then
 some true
 else
 Option.map Q7.f (ix x0 x5) >>= fun v11 =>
 XG v11.fBody x1 >>= fun v12 => if v12 then
 some true
 else
 some false
 else
 Option.map Q7.f (ix x0 x5) >>= fun v13 =>
 XG v13.fBody x1 >>= fun v14 => if v14 then
 some true
 else
 some false) >>= fun v2 => if v2 then
 some (.inr true)
 else
 X1 x0 x1 (wr (v1 + 1))
 else
 some (.inl ())
 partial_fixpoint
end
theorem R3 (x1 : List Str) : (∀ (x0 : List Q7) (r : Bool), XG x0 x1 = some r → PU 50 [Zl x0, eLS x1] (eB r)) ∧ (∀ (x0 : List Q7) (x5 : Int) (o : Unit ⊕ Bool), X1 x0 x1 x5 = some o → LO 50 2 44 [0, 1, 5] [.sl 20 (List.map Qr x0), .sl 1 (List.map eS x1), ii x5] [] [4] (Kv (x0, x1) () o)) :=
 XG.mutual_partial_correctness x1 (fun x0 r => PU 50 [Zl x0, eLS x1] (eB r)) (fun x0 x5 o => LO 50 2 44 [0, 1, 5] [.sl 20 (List.map Qr x0), .sl 1 (List.map eS x1), ii x5] [] [4] (Kv (x0, x1) () o))
 (fun X1 Q56 x0 r h  =>
 Pu2 (hs := [(3000003, .l [] [0, 1, 5] [] [4] [] (Kv (x0, x1)))]) ((kL2 () (hL := (Q56 x0 0)) (hA := fun v0 v2 => (kEr (enc := eB) false))
 (hB := fun v0 v3 => (kEr (enc := eB) v3))) h))
 (fun XG X1 Q55 Q56 x0 x5 o h  =>
 Lp2 (hs := [(8, .n eI 8 none), (9, .split), (14, .e Qm), (17, .split), (21, .e Qm), (24, .split), (30, .e Qm), (33, .cb), (38, .e Qm), (42, .cb), (5000004, .l [] [] [] [0, 1, 5, 43] [] (Za (x0, x1)))]) (kb := []) (kbx := []) ((kN _ (mLen (sh := Qr) x0) fun v0 => (kIfD (p := x5 < v0) (kJb (id := 5000004) x5 (fun v1 ev1 v2 => (kIxR (l := x0) (k := x5) Z2 fun v3 => (kIf (c := v3.fOp == 2) (kIxR (l := x0) (k := x5) Z2 fun v4 => (kCb (NX x1 v4.fName) (kXj (alts := Za (x0, x1)) ev1 true (.here () rfl (.refl _) (.refl _)))
 (kIxR (l := x0) (k := x5) Z2 fun v6 => (kCb (Q55 v6.fBody) (kXj (alts := Za (x0, x1)) ev1 true (.here () rfl (.refl _) (.refl _)))
 (kXj (alts := Za (x0, x1)) ev1 false (.next (.here () rfl (.refl _) (.refl _))))))))
 (kIxR (l := x0) (k := x5) Z2 fun v8 => (kIf (c := v8.fOp == 3) (kIxR (l := x0) (k := x5) Z2 fun v9 => (kCb (NX x1 v9.fName) (kXj (alts := Za (x0, x1)) ev1 true (.here () rfl (.refl _) (.refl _)))
 (kIxR (l := x0) (k := x5) Z2 fun v11 => (kCb (Q55 v11.fBody) (kXj (alts := Za (x0, x1)) ev1 true (.here () rfl (.refl _) (.refl _)))
 (kXj (alts := Za (x0, x1)) ev1 false (.next (.here () rfl (.refl _) (.refl _))))))))
 (kIxR (l := x0) (k := x5) Z2 fun v13 => (kCb (Q55 v13.fBody) (kXj (alts := Za (x0, x1)) ev1 true (.here () rfl (.refl _) (.refl _)))
 (kXj (alts := Za (x0, x1)) ev1 false (.next (.here () rfl (.refl _) (.refl _)))))))))))
 (fun v1 => (kX (alts := Kv (x0, x1) ()) (.inr true) (.next (.here _ rfl (.refl _) (.refl _)))))
 (fun v1 => (kM0 (alts := Kv (x0, x1) ()) (Q56 x0 (wr (v1 + 1))))))
 (kX (alts := Kv (x0, x1) ()) (.inl ()) (.here _ rfl (.refl _) (.refl _))))) h))
theorem Tc (x0 : List Q7) (x1 : List Str) (r : Bool) (h : XG x0 x1 = some r) : PU 50 [Zl x0, eLS x1] (eB r) := (R3 x1).1 x0 r h
def DB (x0 : gLin) : Option Int :=
 ZG x0 >>= fun v0 => if v0 then
 some (0 : Int)
 else
 some (1 : Int)
theorem R5 (x0 : gLin) (r : Int) (h : DB x0 = some r) : PU 154 [Qi x0] (eI r) :=
 Pu2 (hs := [(4, .cb)]) ((kCb (V1 x0) (kEr (enc := eI) (0 : Int))
 (kEr (enc := eI) (1 : Int))) h)
def KZ (x0 : Int) : Option Int :=
 if x0 < 0 then
 some (w6 (w6 (wr ((0 : Int) - wr (x0 + 1))) + 1))
 else
 some (w6 x0)
theorem Di (x0 : Int) (r : Int) (h : KZ x0 = some r) : PU 156 [eI x0] (eU64 r) :=
 Pu2 (hs := [(4, .split)]) ((kIfD (p := x0 < 0) (kEr (enc := eU64) (w6 (w6 (wr ((0 : Int) - wr (x0 + 1))) + 1)))
 (kEr (enc := eU64) (w6 x0))) h)
def C5 (x0 : Qh) (x2 : Int) : Option Qh :=
 if (4294967296 : Int) ≠ 0 then
 some (w6 (w6 (x0.f_0 + x2.tmod (4294967296 : Int)) + 0) : Int) >>= fun v0 =>
 if (4294967296 : Int) ≠ 0 then
 if (4294967296 : Int) ≠ 0 then
 if (4294967296 : Int) ≠ 0 then
 some (w6 (x2.tdiv (4294967296 : Int)) : Int) >>= fun v1 =>
 if (4294967296 : Int) ≠ 0 then
 some (w6 (w6 (x0.f_1 + v1.tmod (4294967296 : Int)) + w6 (v0.tdiv (4294967296 : Int))) : Int) >>= fun v2 =>
 if (4294967296 : Int) ≠ 0 then
 if (4294967296 : Int) ≠ 0 then
 if (4294967296 : Int) ≠ 0 then
 some (w6 (v1.tdiv (4294967296 : Int)) : Int) >>= fun v3 =>
 if (4294967296 : Int) ≠ 0 then
 some (w6 (w6 (x0.f_2 + v3.tmod (4294967296 : Int)) + w6 (v2.tdiv (4294967296 : Int))) : Int) >>= fun v4 =>
 if (4294967296 : Int) ≠ 0 then
 if (4294967296 : Int) ≠ 0 then
 if (4294967296 : Int) ≠ 0 then
 some (w6 (v3.tdiv (4294967296 : Int)) : Int) >>= fun v5 =>
 if (4294967296 : Int) ≠ 0 then
 some (w6 (w6 (x0.f_3 + v5.tmod (4294967296 : Int)) + w6 (v4.tdiv (4294967296 : Int))) : Int) >>= fun v6 =>
 if (4294967296 : Int) ≠ 0 then
 if (4294967296 : Int) ≠ 0 then
 if (4294967296 : Int) ≠ 0 then
 some (w6 (v5.tdiv (4294967296 : Int)) : Int) >>= fun v7 =>
 if (4294967296 : Int) ≠ 0 then
 some (w6 (w6 (x0.f_4 + v7.tmod (4294967296 : Int)) + w6 (v6.tdiv (4294967296 : Int))) : Int) >>= fun v8 =>
 if (4294967296 : Int) ≠ 0 then
 if (4294967296 : Int) ≠ 0 then
 if (4294967296 : Int) ≠ 0 then
 some (w6 (v7.tdiv (4294967296 : Int)) : Int) >>= fun v9 =>
 if (4294967296 : Int) ≠ 0 then
 some (w6 (w6 (x0.f_5 + v9.tmod (4294967296 : Int)) + w6 (v8.tdiv (4294967296 : Int))) : Int) >>= fun v10 =>
 if (4294967296 : Int) ≠ 0 then
 if (4294967296 : Int) ≠ 0 then
 if (4294967296 : Int) ≠ 0 then
 some (w6 (v9.tdiv (4294967296 : Int)) : Int) >>= fun v11 =>
 some (Qh.mk (v0.tmod (4294967296 : Int)) (v2.tmod (4294967296 : Int)) (v4.tmod (4294967296 : Int)) (v6.tmod (4294967296 : Int)) (v8.tmod (4294967296 : Int)) (v10.tmod (4294967296 : Int)))
 else none
 else none
 else none
 else none
 else none
 else none
 else none
 else none
 else none
 else none
 else none
 else none
 else none
 else none
 else none
 else none
 else none
 else none
 else none
 else none
 else none
 else none
 else none
 else none
theorem T2 (x0 : Qh) (x2 : Int) (r : Qh) (h : C5 x0 x2 = some r) : PU 165 [Qu x0, eI (0 : Int), eU64 x2] (Qu r) :=
 Pu2 (hs := [(19, .s), (9, .n eU64 9 none), (25, .s), (28, .s), (30, .s), (2, .n eU64 2 none)]) ((kG (p := (4294967296 : Int) ≠ 0) (kN (w6 (w6 (x0.f_0 + x2.tmod (4294967296 : Int)) + 0)) rfl fun v0 => (kG (p := (4294967296 : Int) ≠ 0) (kG (p := (4294967296 : Int) ≠ 0) (kG (p := (4294967296 : Int) ≠ 0) (kN (w6 (x2.tdiv (4294967296 : Int))) rfl fun v1 => (kG (p := (4294967296 : Int) ≠ 0) (kN (w6 (w6 (x0.f_1 + v1.tmod (4294967296 : Int)) + w6 (v0.tdiv (4294967296 : Int)))) rfl fun v2 => (kG (p := (4294967296 : Int) ≠ 0) (kG (p := (4294967296 : Int) ≠ 0) (kG (p := (4294967296 : Int) ≠ 0) (kN (w6 (v1.tdiv (4294967296 : Int))) rfl fun v3 => (kG (p := (4294967296 : Int) ≠ 0) (kN (w6 (w6 (x0.f_2 + v3.tmod (4294967296 : Int)) + w6 (v2.tdiv (4294967296 : Int)))) rfl fun v4 => (kG (p := (4294967296 : Int) ≠ 0) (kG (p := (4294967296 : Int) ≠ 0) (kG (p := (4294967296 : Int) ≠ 0) (kN (w6 (v3.tdiv (4294967296 : Int))) rfl fun v5 => (kG (p := (4294967296 : Int) ≠ 0) (kN (w6 (w6 (x0.f_3 + v5.tmod (4294967296 : Int)) + w6 (v4.tdiv (4294967296 : Int)))) rfl fun v6 => (kG (p := (4294967296 : Int) ≠ 0) (kG (p := (4294967296 : Int) ≠ 0) (kG (p := (4294967296 : Int) ≠ 0) (kN (w6 (v5.tdiv (4294967296 : Int))) rfl fun v7 => (kG (p := (4294967296 : Int) ≠ 0) (kN (w6 (w6 (x0.f_4 + v7.tmod (4294967296 : Int)) + w6 (v6.tdiv (4294967296 : Int)))) rfl fun v8 => (kG (p := (4294967296 : Int) ≠ 0) (kG (p := (4294967296 : Int) ≠ 0) (kG (p := (4294967296 : Int) ≠ 0) (kN (w6 (v7.tdiv (4294967296 : Int))) rfl fun v9 => (kG (p := (4294967296 : Int) ≠ 0) (kN (w6 (w6 (x0.f_5 + v9.tmod (4294967296 : Int)) + w6 (v8.tdiv (4294967296 : Int)))) rfl fun v10 => (kG (p := (4294967296 : Int) ≠ 0) (kG (p := (4294967296 : Int) ≠ 0) (kG (p := (4294967296 : Int) ≠ 0) (kN (w6 (v9.tdiv (4294967296 : Int))) rfl fun v11 => (kEr (enc := Qu) (Qh.mk (v0.tmod (4294967296 : Int)) (v2.tmod (4294967296 : Int)) (v4.tmod (4294967296 : Int)) (v6.tmod (4294967296 : Int)) (v8.tmod (4294967296 : Int)) (v10.tmod (4294967296 : Int)))))))))))))))))))))))))))))))))))))))) h)
def C6 (x0 : Qh) (x2 : Int) : Option Qh :=
 if (4294967296 : Int) ≠ 0 then
 some (w6 (w6 (x0.f_1 + x2.tmod (4294967296 : Int)) + 0) : Int) >>= fun v0 =>
 if (4294967296 : Int) ≠ 0 then
 if (4294967296 : Int) ≠ 0 then
 if (4294967296 : Int) ≠ 0 then
 some (w6 (x2.tdiv (4294967296 : Int)) : Int) >>= fun v1 =>
 if (4294967296 : Int) ≠ 0 then
 some (w6 (w6 (x0.f_2 + v1.tmod (4294967296 : Int)) + w6 (v0.tdiv (4294967296 : Int))) : Int) >>= fun v2 =>
 if (4294967296 : Int) ≠ 0 then
 if (4294967296 : Int) ≠ 0 then
 if (4294967296 : Int) ≠ 0 then
 some (w6 (v1.tdiv (4294967296 : Int)) : Int) >>= fun v3 =>
 if (4294967296 : Int) ≠ 0 then
 some (w6 (w6 (x0.f_3 + v3.tmod (4294967296 : Int)) + w6 (v2.tdiv (4294967296 : Int))) : Int) >>= fun v4 =>
 if (4294967296 : Int) ≠ 0 then
 if (4294967296 : Int) ≠ 0 then
 if (4294967296 : Int) ≠ 0 then
 some (w6 (v3.tdiv (4294967296 : Int)) : Int) >>= fun v5 =>
 if (4294967296 : Int) ≠ 0 then
 some (w6 (w6 (x0.f_4 + v5.tmod (4294967296 : Int)) + w6 (v4.tdiv (4294967296 : Int))) : Int) >>= fun v6 =>
 if (4294967296 : Int) ≠ 0 then
 if (4294967296 : Int) ≠ 0 then
 if (4294967296 : Int) ≠ 0 then
 some (w6 (v5.tdiv (4294967296 : Int)) : Int) >>= fun v7 =>
 if (4294967296 : Int) ≠ 0 then
 some (w6 (w6 (x0.f_5 + v7.tmod (4294967296 : Int)) + w6 (v6.tdiv (4294967296 : Int))) : Int) >>= fun v8 =>
 if (4294967296 : Int) ≠ 0 then
 if (4294967296 : Int) ≠ 0 then
 if (4294967296 : Int) ≠ 0 then
 some (w6 (v7.tdiv (4294967296 : Int)) : Int) >>= fun v9 =>
 some (Qh.mk x0.f_0 (v0.tmod (4294967296 : Int)) (v2.tmod (4294967296 : Int)) (v4.tmod (4294967296 : Int)) (v6.tmod (4294967296 : Int)) (v8.tmod (4294967296 : Int)))
 else none
 else none
 else none
 else none
 else none
 else none
 else none
 else none
 else none
 else none
 else none
 else none
 else none
 else none
 else none
 else none
 else none
 else none
 else none
 else none
theorem T3 (x0 : Qh) (x2 : Int) (r : Qh) (h : C6 x0 x2 = some r) : PU 165 [Qu x0, eI (1 : Int), eU64 x2] (Qu r) :=
 Pu2 (hs := [(19, .s), (9, .n eU64 9 none), (25, .s), (28, .s), (30, .s), (2, .n eU64 2 none)]) ((kG (p := (4294967296 : Int) ≠ 0) (kN (w6 (w6 (x0.f_1 + x2.tmod (4294967296 : Int)) + 0)) rfl fun v0 => (kG (p := (4294967296 : Int) ≠ 0) (kG (p := (4294967296 : Int) ≠ 0) (kG (p := (4294967296 : Int) ≠ 0) (kN (w6 (x2.tdiv (4294967296 : Int))) rfl fun v1 => (kG (p := (4294967296 : Int) ≠ 0) (kN (w6 (w6 (x0.f_2 + v1.tmod (4294967296 : Int)) + w6 (v0.tdiv (4294967296 : Int)))) rfl fun v2 => (kG (p := (4294967296 : Int) ≠ 0) (kG (p := (4294967296 : Int) ≠ 0) (kG (p := (4294967296 : Int) ≠ 0) (kN (w6 (v1.tdiv (4294967296 : Int))) rfl fun v3 => (kG (p := (4294967296 : Int) ≠ 0) (kN (w6 (w6 (x0.f_3 + v3.tmod (4294967296 : Int)) + w6 (v2.tdiv (4294967296 : Int)))) rfl fun v4 => (kG (p := (4294967296 : Int) ≠ 0) (kG (p := (4294967296 : Int) ≠ 0) (kG (p := (4294967296 : Int) ≠ 0) (kN (w6 (v3.tdiv (4294967296 : Int))) rfl fun v5 => (kG (p := (4294967296 : Int) ≠ 0) (kN (w6 (w6 (x0.f_4 + v5.tmod (4294967296 : Int)) + w6 (v4.tdiv (4294967296 : Int)))) rfl fun v6 => (kG (p := (4294967296 : Int) ≠ 0) (kG (p := (4294967296 : Int) ≠ 0) (kG (p := (4294967296 : Int) ≠ 0) (kN (w6 (v5.tdiv (4294967296 : Int))) rfl fun v7 => (kG (p := (4294967296 : Int) ≠ 0) (kN (w6 (w6 (x0.f_5 + v7.tmod (4294967296 : Int)) + w6 (v6.tdiv (4294967296 : Int)))) rfl fun v8 => (kG (p := (4294967296 : Int) ≠ 0) (kG (p := (4294967296 : Int) ≠ 0) (kG (p := (4294967296 : Int) ≠ 0) (kN (w6 (v7.tdiv (4294967296 : Int))) rfl fun v9 => (kEr (enc := Qu) (Qh.mk x0.f_0 (v0.tmod (4294967296 : Int)) (v2.tmod (4294967296 : Int)) (v4.tmod (4294967296 : Int)) (v6.tmod (4294967296 : Int)) (v8.tmod (4294967296 : Int)))))))))))))))))))))))))))))))))) h)
def C7 (x0 : Qh) (x2 : Int) : Option Qh :=
 if (4294967296 : Int) ≠ 0 then
 some (w6 (w6 (x0.f_2 + x2.tmod (4294967296 : Int)) + 0) : Int) >>= fun v0 =>
 if (4294967296 : Int) ≠ 0 then
 if (4294967296 : Int) ≠ 0 then
 if (4294967296 : Int) ≠ 0 then
 some (w6 (x2.tdiv (4294967296 : Int)) : Int) >>= fun v1 =>
 if (4294967296 : Int) ≠ 0 then
 some (w6 (w6 (x0.f_3 + v1.tmod (4294967296 : Int)) + w6 (v0.tdiv (4294967296 : Int))) : Int) >>= fun v2 =>
 if (4294967296 : Int) ≠ 0 then
 if (4294967296 : Int) ≠ 0 then
 if (4294967296 : Int) ≠ 0 then
 some (w6 (v1.tdiv (4294967296 : Int)) : Int) >>= fun v3 =>
 if (4294967296 : Int) ≠ 0 then
 some (w6 (w6 (x0.f_4 + v3.tmod (4294967296 : Int)) + w6 (v2.tdiv (4294967296 : Int))) : Int) >>= fun v4 =>
 if (4294967296 : Int) ≠ 0 then
 if (4294967296 : Int) ≠ 0 then
 if (4294967296 : Int) ≠ 0 then
 some (w6 (v3.tdiv (4294967296 : Int)) : Int) >>= fun v5 =>
 if (4294967296 : Int) ≠ 0 then
 some (w6 (w6 (x0.f_5 + v5.tmod (4294967296 : Int)) + w6 (v4.tdiv (4294967296 : Int))) : Int) >>= fun v6 =>
 if (4294967296 : Int) ≠ 0 then
 if (4294967296 : Int) ≠ 0 then
 if (4294967296 : Int) ≠ 0 then
 some (w6 (v5.tdiv (4294967296 : Int)) : Int) >>= fun v7 =>
 some (Qh.mk x0.f_0 x0.f_1 (v0.tmod (4294967296 : Int)) (v2.tmod (4294967296 : Int)) (v4.tmod (4294967296 : Int)) (v6.tmod (4294967296 : Int)))
 else none
 else none
 else none
 else none
 else none
 else none
 else none
 else none
 else none
 else none
 else none
 else none
 else none
 else none
 else none
 else none
theorem T4 (x0 : Qh) (x2 : Int) (r : Qh) (h : C7 x0 x2 = some r) : PU 165 [Qu x0, eI (2 : Int), eU64 x2] (Qu r) :=
 Pu2 (hs := [(19, .s), (9, .n eU64 9 none), (25, .s), (28, .s), (30, .s), (2, .n eU64 2 none)]) ((kG (p := (4294967296 : Int) ≠ 0) (kN (w6 (w6 (x0.f_2 + x2.tmod (4294967296 : Int)) + 0)) rfl fun v0 => (kG (p := (4294967296 : Int) ≠ 0) (kG (p := (4294967296 : Int) ≠ 0) (kG (p := (4294967296 : Int) ≠ 0) (kN (w6 (x2.tdiv (4294967296 : Int))) rfl fun v1 => (kG (p := (4294967296 : Int) ≠ 0) (kN (w6 (w6 (x0.f_3 + v1.tmod (4294967296 : Int)) + w6 (v0.tdiv (4294967296 : Int)))) rfl fun v2 => (kG (p := (4294967296 : Int) ≠ 0) (kG (p := (4294967296 : Int) ≠ 0) (kG (p := (4294967296 : Int) ≠ 0) (kN (w6 (v1.tdiv (4294967296 : Int))) rfl fun v3 => (kG (p := (4294967296 : Int) ≠ 0) (kN (w6 (w6 (x0.f_4 + v3.tmod (4294967296 : Int)) + w6 (v2.tdiv (4294967296 : Int)))) rfl fun v4 => (kG (p := (4294967296 : Int) ≠ 0) (kG (p := (4294967296 : Int) ≠ 0) (kG (p := (4294967296 : Int) ≠ 0) (kN (w6 (v3.tdiv (4294967296 : Int))) rfl fun v5 => (kG (p := (4294967296 : Int) ≠ 0) (kN (w6 (w6 (x0.f_5 + v5.tmod (4294967296 : Int)) + w6 (v4.tdiv (4294967296 : Int)))) rfl fun v6 => (kG (p := (4294967296 : Int) ≠ 0) (kG (p := (4294967296 : Int) ≠ 0) (kG (p := (4294967296 : Int) ≠ 0) (kN (w6 (v5.tdiv (4294967296 : Int))) rfl fun v7 => (kEr (enc := Qu) (Qh.mk x0.f_0 x0.f_1 (v0.tmod (4294967296 : Int)) (v2.tmod (4294967296 : Int)) (v4.tmod (4294967296 : Int)) (v6.tmod (4294967296 : Int)))))))))))))))))))))))))))) h)
def Ve (x0 : Qh) (x1 : Int) (x2 : Int) : Option Qh :=
 if x1 = 0 then C5 x0 x2 else
 if x1 = 1 then C6 x0 x2 else
 if x1 = 2 then C7 x0 x2 else none
theorem Wd (x0 : Qh) (x1 : Int) (x2 : Int) (r : Qh) (h : Ve x0 x1 x2 = some r) : PU 165 [Qu x0, eI x1, eU64 x2] (Qu r) := by
 unfold Ve at h
 by_cases h0 : x1 = 0
 ·subst h0; rw [if_pos rfl] at h; exact T2 x0 x2 r h
 rw [if_neg h0] at h
 by_cases h1 : x1 = 1
 ·subst h1; rw [if_pos rfl] at h; exact T3 x0 x2 r h
 rw [if_neg h1] at h
 by_cases h2 : x1 = 2
 ·subst h2; rw [if_pos rfl] at h; exact T4 x0 x2 r h
 rw [if_neg h2] at h
 cases h
def UL (x0 : Qh) (x1 : Int) (x2 : Int) : Option Qh :=
 if (4294967296 : Int) ≠ 0 then
 if (4294967296 : Int) ≠ 0 then
 if (4294967296 : Int) ≠ 0 then
 if (4294967296 : Int) ≠ 0 then
 some (x1.tmod (4294967296 : Int) : Int) >>= fun v0 =>
 some (w6 (x1.tdiv (4294967296 : Int)) : Int) >>= fun v1 =>
 some (x2.tmod (4294967296 : Int) : Int) >>= fun v2 =>
 some (w6 (x2.tdiv (4294967296 : Int)) : Int) >>= fun v3 =>
 Ve x0 0 (w6 (v0 * v2)) >>= fun v4 =>
 Ve v4 1 (w6 (v0 * v3)) >>= fun v5 =>
 Ve v5 1 (w6 (v1 * v2)) >>= fun v6 =>
 Ve v6 2 (w6 (v1 * v3)) >>= fun v7 =>
 some v7
 else none
 else none
 else none
 else none
theorem WI (x0 : Qh) (x1 : Int) (x2 : Int) (r : Qh) (h : UL x0 x1 x2 = some r) : PU 155 [Qu x0, eU64 x1, eU64 x2] (Qu r) :=
 Pu2 (hs := [(12, .s), (14, .s), (16, .s), (18, .s), (7, .n eU64 7 none), (8, .n eU64 8 none), (9, .n eU64 9 none), (10, .n eU64 10 none), (23, .c Qu), (28, .c Qu), (33, .c Qu), (38, .c Qu)]) ((kG (p := (4294967296 : Int) ≠ 0) (kG (p := (4294967296 : Int) ≠ 0) (kG (p := (4294967296 : Int) ≠ 0) (kG (p := (4294967296 : Int) ≠ 0) (kN (x1.tmod (4294967296 : Int)) rfl fun v0 => (kN (w6 (x1.tdiv (4294967296 : Int))) rfl fun v1 => (kN (x2.tmod (4294967296 : Int)) rfl fun v2 => (kN (w6 (x2.tdiv (4294967296 : Int))) rfl fun v3 => (kC (sh := Qu) (Wd x0 0 (w6 (v0 * v2))) fun v4 => (kC (sh := Qu) (Wd v4 1 (w6 (v0 * v3))) fun v5 => (kC (sh := Qu) (Wd v5 1 (w6 (v1 * v2))) fun v6 => (kC (sh := Qu) (Wd v6 2 (w6 (v1 * v3))) fun v7 => (kEr (enc := Qu) v7))))))))))))) h)
def Jt (s : ((List Qc) × Str)) (u : Unit) (o : Unit ⊕ (Int × Bool)) : List Alt := [⟨fun (x : Unit) => (Sum.inl x : Unit ⊕ (Int × Bool)) = o, .exit 0, fun x => [.undef, .undef], fun x => []⟩, ⟨fun (x : (Int × Bool)) => (Sum.inr x : Unit ⊕ (Int × Bool)) = o, .ret, fun x => [ii x.1, .bool x.2], fun x => []⟩]
def Yo (x0 : List Qc) (x1 : Str) (x6 : Int) : Option (Unit ⊕ (Int × Bool)) :=
 some (List.length x0 : Int) >>= fun v0 =>
 if x6 < v0 then
 ix x0 x6 >>= fun v1 =>
 if v1.fName == x1 then
 ix x0 x6 >>= fun v2 =>
 some (.inr (v2.fVal, true))
 else
 Yo x0 x1 (wr (x6 + 1))
 else
 some (.inl ())
 partial_fixpoint
theorem T5 (x0 : List Qc) (x1 : Str) (x6 : Int) (o : Unit ⊕ (Int × Bool)) (h : Yo x0 x1 x6 = some o) : LO 157 2 25 [0, 1, 6] [.sl 2 (List.map Qd x0), .str x1, ii x6] [] [4, 5] (Jt (x0, x1) () o) :=
 Yo.partial_correctness x0 x1 (fun x6 o => LO 157 2 25 [0, 1, 6] [.sl 2 (List.map Qd x0), .str x1, ii x6] [] [4, 5] (Jt (x0, x1) () o))
 (fun Yo Q3e x6 o h  =>
 Lp2 (hs := [(9, .n eI 9 none), (10, .split), (15, .e Qd), (19, .split), (22, .e Qd)]) (kb := []) (kbx := []) ((kN _ (mLen (sh := Qd) x0) fun v0 => (kIfD (p := x6 < v0) (kIx (enc := Qd) (l := x0) (k := x6) fun v1 => (kIf (c := v1.fName == x1) (kIx (enc := Qd) (l := x0) (k := x6) fun v2 => (kX (alts := Jt (x0, x1) ()) (.inr (v2.fVal, true)) (.next (.here _ rfl (.refl _) (.refl _)))))
 (kM0 (alts := Jt (x0, x1) ()) (Q3e (wr (x6 + 1))))))
 (kX (alts := Jt (x0, x1) ()) (.inl ()) (.here _ rfl (.refl _) (.refl _))))) h)) x6 o h
def Wv (x0 : List Qc) (x1 : Str) : Option (Int × Bool) :=
 some () >>= fun v0 =>
 Yo x0 x1 0 >>= fun v1 => (match v1 with
 | (.inl v2) =>
 some ((0 : Int), false)
 | (.inr v3) =>
 some (v3.fst, v3.snd))
theorem FD (x0 : List Qc) (x1 : Str) (r : (Int × Bool)) (h : Wv x0 x1 = some r) : PU 157 [QW x0, eS x1] (ZU r) :=
 Pu2 (hs := [(3000003, .l [] [0, 1, 6] [] [4, 5] [] (Jt (x0, x1)))]) ((kL2 () (hL := (T5 x0 x1 0)) (hA := fun v0 v2 => (kEr (enc := ZU) ((0 : Int), false)))
 (hB := fun v0 v3 => (kEr (enc := ZU) (v3.fst, v3.snd)))) h)
def Ww (x0 : Qh) (x1 : Qh) : Option Bool :=
 if x0.f_5 != x1.f_5 then
 some (decide (x0.f_5 < x1.f_5))
 else
 if x0.f_4 != x1.f_4 then
 some (decide (x0.f_4 < x1.f_4))
 else
 if x0.f_3 != x1.f_3 then
 some (decide (x0.f_3 < x1.f_3))
 else
 if x0.f_2 != x1.f_2 then
 some (decide (x0.f_2 < x1.f_2))
 else
 if x0.f_1 != x1.f_1 then
 some (decide (x0.f_1 < x1.f_1))
 else
 if x0.f_0 != x1.f_0 then
 some (decide (x0.f_0 < x1.f_0))
 else
 some false
theorem FE (x0 : Qh) (x1 : Qh) (r : Bool) (h : Ww x0 x1 = some r) : PU 158 [Qu x0, Qu x1] (eB r) :=
 Pu2 (hs := [(16, .split)]) ((kIf (c := x0.f_5 != x1.f_5) (kEr (enc := eB) (decide (x0.f_5 < x1.f_5)))
 (kIf (c := x0.f_4 != x1.f_4) (kEr (enc := eB) (decide (x0.f_4 < x1.f_4)))
 (kIf (c := x0.f_3 != x1.f_3) (kEr (enc := eB) (decide (x0.f_3 < x1.f_3)))
 (kIf (c := x0.f_2 != x1.f_2) (kEr (enc := eB) (decide (x0.f_2 < x1.f_2)))
 (kIf (c := x0.f_1 != x1.f_1) (kEr (enc := eB) (decide (x0.f_1 < x1.f_1)))
 (kIf (c := x0.f_0 != x1.f_0) (kEr (enc := eB) (decide (x0.f_0 < x1.f_0)))
 (kEr (enc := eB) false))))))) h)
def mS {ρ : Type} (a b c : Int) (k : Int → Int → Option ρ) : Option ρ := some (w6 (b + c)) >>= fun v => if a < v then k (w6 (w6 (a + 4294967296) - v)) 1 else k (w6 (a - v)) 0
theorem kMS {ρ : Type} {r : ρ} {a b c : Int} {k : Int → Int → Option ρ} {A : Int → Int → Prop} (hA : ∀ z c, k z c = some r → A z c) (h : mS a b c k = some r) : ∃ n, n = w6 (b + c) ∧ (decide (a < n) = true → A (w6 (w6 (a + 4294967296) - n)) 1) ∧ (decide (a < n) = false → A (w6 (a - n)) 0) :=
 kN _ rfl (fun n => kIfD (hA _ _) (hA _ _)) h
def CZ (x0 : Qh) (x1 : Qh) : Option Qh :=
 mS x0.f_0 x1.f_0 0 fun z0 c0 =>
 mS x0.f_1 x1.f_1 c0 fun z1 c1 =>
 mS x0.f_2 x1.f_2 c1 fun z2 c2 =>
 mS x0.f_3 x1.f_3 c2 fun z3 c3 =>
 mS x0.f_4 x1.f_4 c3 fun z4 c4 =>
 mS x0.f_5 x1.f_5 c4 fun z5 c5 =>
 some (Qh.mk z0 z1 z2 z3 z4 z5)
theorem Ie (x0 : Qh) (x1 : Qh) (r : Qh) (h : CZ x0 x1 = some r) : PU 159 [Qu x0, Qu x1] (Qu r) :=
 Pu2 (hs := [(7, .n eU64 7 none), (21, .split)]) ((kMS fun z0 c0 => kMS fun z1 c1 => kMS fun z2 c2 => kMS fun z3 c3 => kMS fun z4 c4 => kMS fun z5 c5 => kEr (enc := Qu) (Qh.mk z0 z1 z2 z3 z4 z5)) h)
def KS (s : ((List Qc) × gLin)) (u : Unit) (o : (Qh × Qh) ⊕ (Int × Int × Qh × Qh)) : List Alt := [⟨fun (x : (Qh × Qh)) => (Sum.inl x : (Qh × Qh) ⊕ (Int × Int × Qh × Qh)) = o, .exit 0, fun x => [.undef, .undef, .ptr 0 0 0, .ptr 1 0 0], fun x => [.cells 0 (Qu x.1).cells, .cells 0 (Qu x.2).cells]⟩, ⟨fun (x : (Int × Int × Qh × Qh)) => (Sum.inr x : (Qh × Qh) ⊕ (Int × Int × Qh × Qh)) = o, .ret, fun x => [ii x.1, ii x.2.1, .ptr 0 0 0, .ptr 1 0 0], fun x => [.cells 0 (Qu x.2.2.1).cells, .cells 0 (Qu x.2.2.2).cells]⟩]
def XD (x1 : List Qc) (x2 : gLin) (x6 : Qh) (x7 : Qh) (x8 : Int) : Option ((Qh × Qh) ⊕ (Int × Int × Qh × Qh)) :=
 some (List.length x2.fL : Int) >>= fun v0 =>
 if x8 < v0 then
 ix x2.fL x8 >>= fun v1 =>
 Wv x1 v1.fName >>= fun v2 =>
 if v2.snd then
 ix x2.fL x8 >>= fun v3 =>
 if !decide (v2.fst < 0) == decide (v3.fBy < 0) then
 KZ v2.fst >>= fun v4 =>
 ix x2.fL x8 >>= fun v5 =>
 KZ v5.fBy >>= fun v6 =>
 UL x7 v4 v6 >>= fun v7 =>
 XD x1 x2 x6 v7 (wr (x8 + 1))
 else
 KZ v2.fst >>= fun v8 =>
 ix x2.fL x8 >>= fun v9 =>
 KZ v9.fBy >>= fun v10 =>
 UL x6 v8 v10 >>= fun v11 =>
 XD x1 x2 v11 x7 (wr (x8 + 1))
 else
 some (.inr ((0 : Int), (9 : Int), x6, x7))
 else
 some (.inl (x6, x7))
 partial_fixpoint
theorem T1 (x1 : List Qc) (x2 : gLin) (x6 : Qh) (x7 : Qh) (x8 : Int) (o : (Qh × Qh) ⊕ (Int × Int × Qh × Qh)) (h : XD x1 x2 x6 x7 x8 = some o) : LO 133 8 155 [1, 2, 6, 7, 8] [.sl 2 (List.map Qd x1), .ptr 0 0 0, .ptr 1 0 0, .ptr 2 0 0, ii x8] [.cells 0 (Qi x2).cells, .cells 0 (Qu x6).cells, .cells 0 (Qu x7).cells] [4, 5, 6, 7] (KS (x1, x2) () o) :=
 XD.partial_correctness x1 x2 (fun x6 x7 x8 o => LO 133 8 155 [1, 2, 6, 7, 8] [.sl 2 (List.map Qd x1), .ptr 0 0 0, .ptr 1 0 0, .ptr 2 0 0, ii x8] [.cells 0 (Qi x2).cells, .cells 0 (Qu x6).cells, .cells 0 (Qu x7).cells] [4, 5, 6, 7] (KS (x1, x2) () o))
 (fun XD Q3d x6 x7 x8 o h  =>
 Lp2 (hs := [(34, .n eI 34 none), (35, .split), (43, .e Qe), (46, .c ZU), (49, .split), (56, .e Qe), (60, .split), (63, .c eU64), (67, .e Qe), (70, .c eU64), (71, .c Qu), (74, .c eU64), (78, .e Qe), (81, .c eU64), (82, .c Qu)]) (kb := [kk 2, kk 6, kk 7]) (kbx := [kk 6, kk 7]) ((kN _ (mLen (sh := Qe) x2.fL) fun v0 => (kIfD (p := x8 < v0) (kIx (enc := Qe) (l := x2.fL) (k := x8) fun v1 => (kC (sh := ZU) (FD x1 v1.fName) fun v2 => (kIf (c := v2.snd) (kIx (enc := Qe) (l := x2.fL) (k := x8) fun v3 => (kIf (c := !decide (v2.fst < 0) == decide (v3.fBy < 0)) (kC (sh := eU64) (Di v2.fst) fun v4 => (kIx (enc := Qe) (l := x2.fL) (k := x8) fun v5 => (kC (sh := eU64) (Di v5.fBy) fun v6 => (kC (sh := Qu) (WI x7 v4 v6) fun v7 => (kM0 (alts := KS (x1, x2) ()) (Q3d x6 v7 (wr (x8 + 1))))))))
 (kC (sh := eU64) (Di v2.fst) fun v8 => (kIx (enc := Qe) (l := x2.fL) (k := x8) fun v9 => (kC (sh := eU64) (Di v9.fBy) fun v10 => (kC (sh := Qu) (WI x6 v8 v10) fun v11 => (kM0 (alts := KS (x1, x2) ()) (Q3d v11 x7 (wr (x8 + 1))))))))))
 (kX (alts := KS (x1, x2) ()) (.inr ((0 : Int), (9 : Int), x6, x7)) (.next (.here _ rfl (.refl _) (.refl _)))))))
 (kX (alts := KS (x1, x2) ()) (.inl (x6, x7)) (.here _ rfl (.refl _) (.refl _))))) h)) x6 x7 x8 o h
def GZ (s : ((List Qc) × gLin)) (u : Unit) (o : (Qh × Qh)) : List Alt := [⟨fun (x : (Qh × Qh)) => x = o, .normal, fun x => [.sl 2 (List.map Qd (s.1)), .ptr 0 0 0, .ptr 1 0 0, .ptr 2 0 0], fun x => [.cells 0 (Qi (s.2)).cells, .cells 0 (Qu (x.1)).cells, .cells 0 (Qu (x.2)).cells]⟩]
def Xw (s : Unit) (u : Int) (o : Bool) : List Alt := jb o (fun b => [.int .u64 u, .bool b]) []
def Xx (s : Unit) (u : Int) (o : Bool) : List Alt := jb o (fun b => [.int .u64 u, .bool b]) []
def De (x0 : gLin) (x1 : List Qc) : Option (Int × Int) :=
 DB x0 >>= fun v0 =>
 if v0 != 0 then
 some ((0 : Int), (1 : Int))
 else
 some () >>= fun v1 =>
 (if x0.fK < 0 then
 KZ x0.fK >>= fun v3 =>
 UL (Qh.mk (0 : Int) (0 : Int) (0 : Int) (0 : Int) (0 : Int) (0 : Int)) v3 (1 : Int) >>= fun v4 =>
 some ((Qh.mk (0 : Int) (0 : Int) (0 : Int) (0 : Int) (0 : Int) (0 : Int)), v4)
 else
 KZ x0.fK >>= fun v5 =>
 UL (Qh.mk (0 : Int) (0 : Int) (0 : Int) (0 : Int) (0 : Int) (0 : Int)) v5 (1 : Int) >>= fun v6 =>
 some (v6, (Qh.mk (0 : Int) (0 : Int) (0 : Int) (0 : Int) (0 : Int) (0 : Int)))) >>= fun v7 =>
 some () >>= fun v8 =>
 XD x1 x0 v7.fst v7.snd 0 >>= fun v9 => (match v9 with
 | (.inl v10) =>
 Ww v10.fst v10.snd >>= fun v11 => if v11 then
 CZ v10.snd v10.fst >>= fun v12 =>
 some (w6 (v12.f_0 + w6 (v12.f_1 * (4294967296 : Int))) : Int) >>= fun v13 =>
 some v13 >>= fun v14 =>
 (if v12.f_2 != 0 then
 some true
 else
 if v12.f_3 != 0 then
 some true
 else
 if v12.f_4 != 0 then
 some true
 else
 if v12.f_5 != 0 then
 some true
 else
 if 9223372036854775808 < v13 then
 some true
 else
 some false) >>= fun v15 => if v15 then
 some ((0 : Int), (3 : Int))
 else
 some ((wr (wr ((0 : Int) - wr (w6 (v14 - (1 : Int)))) - (1 : Int))), (0 : Int))
 else
 CZ v10.fst v10.snd >>= fun v18 =>
 some (w6 (v18.f_0 + w6 (v18.f_1 * (4294967296 : Int))) : Int) >>= fun v19 =>
 some v19 >>= fun v20 =>
 (if v18.f_2 != 0 then
 some true
 else
 if v18.f_3 != 0 then
 some true
 else
 if v18.f_4 != 0 then
 some true
 else
 if v18.f_5 != 0 then
 some true
 else
 if 9223372036854775807 < v19 then
 some true
 else
 some false) >>= fun v21 => if v21 then
 some ((0 : Int), (3 : Int))
 else
 some ((wr v20), (0 : Int))
 | (.inr v24) =>
 some (v24.fst, v24.snd.fst))
theorem Mk (x0 : gLin) (x1 : List Qc) (r : (Int × Int)) (h : De x0 x1 = some r) : PU 133 [Qi x0, QW x1] (Xg r) :=
 Pu2 (hs := [(16, .c eI), (17, .split), (20, .split), (24, .c eU64), (25, .c Qu), (29, .c eU64), (30, .c Qu), (85, .cb), (88, .c Qu), (12, .n eU64 12 none), (97, .split), (101, .split), (106, .split), (111, .split), (115, .split), (124, .c Qu), (14, .n eU64 14 none), (133, .split), (137, .split), (142, .split), (147, .split), (151, .split), (3000009, .l [] [1, 2, 6, 7, 8] [kk 2, kk 6, kk 7] [4, 5, 6, 7] [kk 6, kk 7] (KS (x1, x0))), (6000006, .l [] [] [] [1, 2, 6, 7] [kk 2, kk 6, kk 7] (GZ (x1, x0))), (5000019, .l [] [] [] [12, 116] [] (Xw ())), (5000024, .l [] [] [] [14, 152] [] (Xx ()))]) ((kC (sh := eI) (R5 x0) fun v0 => (kIf (c := v0 != 0) (kEr (enc := Xg) ((0 : Int), (1 : Int)))
 (kJ1 (id := 6000006) () (fun v1 ev1 v2 => (kIfD (p := x0.fK < 0) (kC (sh := eU64) (Di x0.fK) fun v3 => (kC (sh := Qu) (WI (Qh.mk (0 : Int) (0 : Int) (0 : Int) (0 : Int) (0 : Int) (0 : Int)) v3 (1 : Int)) fun v4 => (kXj (alts := GZ (x1, x0)) ev1 ((Qh.mk (0 : Int) (0 : Int) (0 : Int) (0 : Int) (0 : Int) (0 : Int)), v4) (.here _ rfl (.refl _) (.refl _)))))
 (kC (sh := eU64) (Di x0.fK) fun v5 => (kC (sh := Qu) (WI (Qh.mk (0 : Int) (0 : Int) (0 : Int) (0 : Int) (0 : Int) (0 : Int)) v5 (1 : Int)) fun v6 => (kXj (alts := GZ (x1, x0)) ev1 (v6, (Qh.mk (0 : Int) (0 : Int) (0 : Int) (0 : Int) (0 : Int) (0 : Int))) (.here _ rfl (.refl _) (.refl _)))))))
 (fun v1 v7 => (kL2 () (hL := (T1 x1 x0 v7.fst v7.snd 0)) (hA := fun v8 v10 => (kCb (FE v10.fst v10.snd) (kC (sh := Qu) (Ie v10.snd v10.fst) fun v12 => (kN (w6 (v12.f_0 + w6 (v12.f_1 * (4294967296 : Int)))) rfl fun v13 => (kJb (id := 5000019) v13 (fun v14 ev14 v15 => (kIf (c := v12.f_2 != 0) (kXj (alts := Xw ()) ev14 true (.here () rfl (.refl _) (.refl _)))
 (kIf (c := v12.f_3 != 0) (kXj (alts := Xw ()) ev14 true (.here () rfl (.refl _) (.refl _)))
 (kIf (c := v12.f_4 != 0) (kXj (alts := Xw ()) ev14 true (.here () rfl (.refl _) (.refl _)))
 (kIf (c := v12.f_5 != 0) (kXj (alts := Xw ()) ev14 true (.here () rfl (.refl _) (.refl _)))
 (kIfD (p := 9223372036854775808 < v13) (kXj (alts := Xw ()) ev14 true (.here () rfl (.refl _) (.refl _)))
 (kXj (alts := Xw ()) ev14 false (.next (.here () rfl (.refl _) (.refl _))))))))))
 (fun v14 => (kEr (enc := Xg) ((0 : Int), (3 : Int))))
 (fun v14 => (kEr (enc := Xg) ((wr (wr ((0 : Int) - wr (w6 (v14 - (1 : Int)))) - (1 : Int))), (0 : Int)))))))
 (kC (sh := Qu) (Ie v10.fst v10.snd) fun v18 => (kN (w6 (v18.f_0 + w6 (v18.f_1 * (4294967296 : Int)))) rfl fun v19 => (kJb (id := 5000024) v19 (fun v20 ev20 v21 => (kIf (c := v18.f_2 != 0) (kXj (alts := Xx ()) ev20 true (.here () rfl (.refl _) (.refl _)))
 (kIf (c := v18.f_3 != 0) (kXj (alts := Xx ()) ev20 true (.here () rfl (.refl _) (.refl _)))
 (kIf (c := v18.f_4 != 0) (kXj (alts := Xx ()) ev20 true (.here () rfl (.refl _) (.refl _)))
 (kIf (c := v18.f_5 != 0) (kXj (alts := Xx ()) ev20 true (.here () rfl (.refl _) (.refl _)))
 (kIfD (p := 9223372036854775807 < v19) (kXj (alts := Xx ()) ev20 true (.here () rfl (.refl _) (.refl _)))
 (kXj (alts := Xx ()) ev20 false (.next (.here () rfl (.refl _) (.refl _))))))))))
 (fun v20 => (kEr (enc := Xg) ((0 : Int), (3 : Int))))
 (fun v20 => (kEr (enc := Xg) ((wr v20), (0 : Int)))))))))
 (hB := fun v8 v24 => (kEr (enc := Xg) (v24.fst, v24.snd.fst)))))))) h)
def Jy (s : ((List XN) × Str)) (u : Unit) (o : QR ⊕ (QR × Bool)) : List Alt := [⟨fun (x : QR) => (Sum.inl x : QR ⊕ (QR × Bool)) = o, .exit 0, fun x => [.ptr 0 0 0, .undef], fun x => [.cells 0 (Zm x).cells]⟩, ⟨fun (x : (QR × Bool)) => (Sum.inr x : QR ⊕ (QR × Bool)) = o, .ret, fun x => [.ptr 0 0 0, .bool x.2], fun x => [.cells 0 (Zm x.1).cells]⟩]
def JR (x0 : List XN) (x1 : Str) (x4 : QR) (x6 : Int) : Option (QR ⊕ (QR × Bool)) :=
 some (List.length x0 : Int) >>= fun v0 =>
 if x6 < v0 then
 ix x0 x6 >>= fun v1 =>
 if v1.fName == x1 then
 ix x0 x6 >>= fun v2 =>
 some (.inr (v2.fTensor, true))
 else
 JR x0 x1 x4 (wr (x6 + 1))
 else
 some (.inl x4)
 partial_fixpoint
theorem T8 (x0 : List XN) (x1 : Str) (x4 : QR) (x6 : Int) (o : QR ⊕ (QR × Bool)) (h : JR x0 x1 x4 x6 = some o) : LO 160 2 26 [0, 1, 4, 6] [.sl 8 (List.map VO x0), .str x1, .ptr 0 0 0, ii x6] [.cells 0 (Zm x4).cells] [4, 5] (Jy (x0, x1) () o) :=
 JR.partial_correctness x0 x1 x4 (fun x6 o => LO 160 2 26 [0, 1, 4, 6] [.sl 8 (List.map VO x0), .str x1, .ptr 0 0 0, ii x6] [.cells 0 (Zm x4).cells] [4, 5] (Jy (x0, x1) () o))
 (fun JR Q49 x6 o h  =>
 Lp2 (hs := [(9, .n eI 9 none), (10, .split), (15, .e VO), (19, .split), (22, .e VO)]) (kb := [kk 4]) (kbx := [kk 4]) ((kN _ (mLen (sh := VO) x0) fun v0 => (kIfD (p := x6 < v0) (kIx (enc := VO) (l := x0) (k := x6) fun v1 => (kIf (c := v1.fName == x1) (kIx (enc := VO) (l := x0) (k := x6) fun v2 => (kX (alts := Jy (x0, x1) ()) (.inr (v2.fTensor, true)) (.next (.here _ rfl (.refl _) (.refl _)))))
 (kM0 (alts := Jy (x0, x1) ()) (Q49 (wr (x6 + 1))))))
 (kX (alts := Jy (x0, x1) ()) (.inl x4) (.here _ rfl (.refl _) (.refl _))))) h)) x6 o h
def Mj (x0 : List XN) (x1 : Str) : Option (QR × Bool) :=
 some () >>= fun v0 =>
 JR x0 x1 (QR.mk (Qg.mk (0 : Int) (0 : Int) (0 : Int) (0 : Int) (0 : Int)) [] []) (0 : Int) >>= fun v1 => (match v1 with
 | (.inl v2) =>
 some ((QR.mk (Qg.mk (0 : Int) (0 : Int) (0 : Int) (0 : Int) (0 : Int)) [] [])) >>= fun v3 =>
 some (v3, false)
 | (.inr v4) =>
 some (v4.fst, v4.snd))
theorem FL (x0 : List XN) (x1 : Str) (r : (QR × Bool)) (h : Mj x0 x1 = some r) : PU 160 [US x0, eS x1] (Ci r) :=
 Pu2 (hs := [(25, .n Zm 25 none), (3000003, .l [] [0, 1, 4, 6] [kk 4] [4, 5] [kk 4] (Jy (x0, x1)))]) ((kL2 () (hL := (fun y hy => ZI.le (.cons (LeV.refl (AV.sl (8 : Nat) (List.map VO x0))) (.cons (LeV.refl (AV.str x1)) (.cons (LeV.refl (AV.ptr (0 : Nat) (0 : Nat) (0 : Nat))) (.cons (LeV.refl (ii (0 : Int))) .nil)))) (.cons (LeB.cells (0 : Nat) (.cons (LeV.refl (ii (0 : Int))) (.cons (LeV.refl (ii (0 : Int))) (.cons (LeV.refl (ii (0 : Int))) (.cons (LeV.refl (ii (0 : Int))) (.cons (LeV.refl (ii (0 : Int))) (.cons (LeV.nil 1) (.cons (LeV.nil 2) .nil)))))))) .nil) (T8 x0 x1 (QR.mk (Qg.mk (0 : Int) (0 : Int) (0 : Int) (0 : Int) (0 : Int)) [] []) (0 : Int) y hy))) (hA := fun v0 v2 => (kW (sh := Zm) (QR.mk (Qg.mk (0 : Int) (0 : Int) (0 : Int) (0 : Int) (0 : Int)) [] []) (LeV.agg (.cons (LeV.refl (ii (0 : Int))) (.cons (LeV.refl (ii (0 : Int))) (.cons (LeV.refl (ii (0 : Int))) (.cons (LeV.refl (ii (0 : Int))) (.cons (LeV.refl (ii (0 : Int))) (.cons (LeV.nil 1) (.cons (LeV.nil 2) .nil)))))))) fun v3 => (kEr (enc := Ci) (v3, false))))
 (hB := fun v0 v4 => (kEr (enc := Ci) (v4.fst, v4.snd)))) h)
def V5 (s : List Int) (u : Unit) (o : Unit ⊕ Int) : List Alt := [⟨fun (x : Unit) => (Sum.inl x : Unit ⊕ Int) = o, .exit 2, fun x => [.undef], fun x => []⟩, ⟨fun (x : Int) => (Sum.inr x : Unit ⊕ Int) = o, .ret, fun x => [ii x], fun x => []⟩]
def Ua (x0 : List Int) (x4 : Int) (x5 : Int) : Option (Unit ⊕ Int) :=
 some (List.length x0 : Int) >>= fun v0 =>
 if x5 < v0 then
 ix x0 x5 >>= fun v1 =>
 if x4 ≠ 0 then
 if wr (Int.tdiv (4096 : Int) x4) < v1 then
 some (.inr (2 : Int))
 else
 ix x0 x5 >>= fun v2 =>
 some (wr (x4 * v2) : Int) >>= fun v3 =>
 Ua x0 v3 (wr (x5 + 1))
 else none
 else
 some (.inl ())
 partial_fixpoint
theorem Eh (x0 : List Int) (x4 : Int) (x5 : Int) (o : Unit ⊕ Int) (h : Ua x0 x4 x5 = some o) : LO 166 10 39 [0, 4, 5] [.sl 1 (List.map eI x0), ii x4, ii x5] [] [2] (V5 x0 () o) :=
 Ua.partial_correctness x0 (fun x4 x5 o => LO 166 10 39 [0, 4, 5] [.sl 1 (List.map eI x0), ii x4, ii x5] [] [2] (V5 x0 () o))
 (fun Ua Q3h x4 x5 o h  =>
 Lp2 (hs := [(22, .n eI 22 none), (23, .split), (28, .e eI), (31, .s), (32, .split), (36, .e eI), (4, .n eI 4 none)]) (kb := []) (kbx := []) ((kN _ (mLen (sh := eI) x0) fun v0 => (kIfD (p := x5 < v0) (kIx (enc := eI) (l := x0) (k := x5) fun v1 => (kG (p := x4 ≠ 0) (kIfD (p := wr (Int.tdiv (4096 : Int) x4) < v1) (kX (alts := V5 x0 ()) (.inr (2 : Int)) (.next (.here _ rfl (.refl _) (.refl _))))
 (kIx (enc := eI) (l := x0) (k := x5) fun v2 => (kN (wr (x4 * v2)) rfl fun v3 => (kM0 (alts := V5 x0 ()) (Q3h v3 (wr (x5 + 1)))))))))
 (kX (alts := V5 x0 ()) (.inl ()) (.here _ rfl (.refl _) (.refl _))))) h)) x4 x5 o h
def Vx (s : List Int) (u : Unit) (o : Unit ⊕ Int) : List Alt := [⟨fun (x : Unit) => (Sum.inl x : Unit ⊕ Int) = o, .exit 0, fun x => [.sl 1 (List.map eI s), .undef], fun x => []⟩, ⟨fun (x : Int) => (Sum.inr x : Unit ⊕ Int) = o, .ret, fun x => [.sl 1 (List.map eI s), ii x], fun x => []⟩]
def UM (x0 : List Int) (x3 : Int) : Option (Unit ⊕ Int) :=
 some (List.length x0 : Int) >>= fun v0 =>
 if x3 < v0 then
 ix x0 x3 >>= fun v1 =>
 if v1 < 1 then
 some (.inr (1 : Int))
 else
 UM x0 (wr (x3 + 1))
 else
 some (.inl ())
 partial_fixpoint
theorem R7 (x0 : List Int) (x3 : Int) (o : Unit ⊕ Int) (h : UM x0 x3 = some o) : LO 166 4 39 [0, 3] [.sl 1 (List.map eI x0), ii x3] [] [0, 2] (Vx x0 () o) :=
 UM.partial_correctness x0 (fun x3 o => LO 166 4 39 [0, 3] [.sl 1 (List.map eI x0), ii x3] [] [0, 2] (Vx x0 () o))
 (fun UM Q3i x3 o h  =>
 Lp2 (hs := [(11, .n eI 11 none), (12, .split), (17, .e eI), (19, .split)]) (kb := []) (kbx := []) ((kN _ (mLen (sh := eI) x0) fun v0 => (kIfD (p := x3 < v0) (kIx (enc := eI) (l := x0) (k := x3) fun v1 => (kIfD (p := v1 < 1) (kX (alts := Vx x0 ()) (.inr (1 : Int)) (.next (.here _ rfl (.refl _) (.refl _))))
 (kM0 (alts := Vx x0 ()) (Q3i (wr (x3 + 1))))))
 (kX (alts := Vx x0 ()) (.inl ()) (.here _ rfl (.refl _) (.refl _))))) h)) x3 o h
def Ia (x0 : List Int) : Option Int :=
 some (List.length x0 : Int) >>= fun v0 =>
 if 6 < v0 then
 some (2 : Int)
 else
 some () >>= fun v1 =>
 UM x0 0 >>= fun v2 => (match v2 with
 | (.inl v3) =>
 some ((1 : Int) : Int) >>= fun v4 =>
 some () >>= fun v5 =>
 Ua x0 v4 0 >>= fun v6 => (match v6 with
 | (.inl v7) =>
 some (0 : Int)
 | (.inr v8) =>
 some v8)
 | (.inr v9) =>
 some v9)
theorem Au (x0 : List Int) (r : Int) (h : Ia x0 = some r) : PU 166 [eLI x0] (eI r) :=
 Pu2 (hs := [(7, .n eI 7 none), (8, .split), (4, .n eI 4 none), (3000011, .l [] [0, 4, 5] [] [2] [] (V5 x0)), (3000005, .l [] [0, 3] [] [0, 2] [] (Vx x0))]) ((kN _ (mLen (sh := eI) x0) fun v0 => (kIfD (p := 6 < v0) (kEr (enc := eI) (2 : Int))
 (kL2 () (hL := (R7 x0 0)) (hA := fun v1 v3 => (kN (1 : Int) rfl fun v4 => (kL2 () (hL := (Eh x0 v4 0)) (hA := fun v5 v7 => (kEr (enc := eI) (0 : Int)))
 (hB := fun v5 v8 => (kEr (enc := eI) v8)))))
 (hB := fun v1 v9 => (kEr (enc := eI) v9))))) h)
def Gg (s : List Int) (u : Unit) (o : Int) : List Alt := [⟨fun (x : Int) => x = o, .exit 0, fun x => [ii x], fun x => []⟩]
def Gq (x0 : List Int) (x3 : Int) (x4 : Int) : Option Int :=
 some (List.length x0 : Int) >>= fun v0 =>
 if x4 < v0 then
 ix x0 x4 >>= fun v1 =>
 some (wr (x3 * v1) : Int) >>= fun v2 =>
 Gq x0 v2 (wr (x4 + 1))
 else
 some x3
 partial_fixpoint
theorem T6 (x0 : List Int) (x3 : Int) (x4 : Int) (o : Int) (h : Gq x0 x3 x4 = some o) : LO 167 3 18 [0, 3, 4] [.sl 1 (List.map eI x0), ii x3, ii x4] [] [3] (Gg x0 () o) :=
 Gq.partial_correctness x0 (fun x3 x4 o => LO 167 3 18 [0, 3, 4] [.sl 1 (List.map eI x0), ii x3, ii x4] [] [3] (Gg x0 () o))
 (fun Gq Q3j x3 x4 o h  =>
 Lp2 (hs := [(7, .n eI 7 none), (8, .split), (14, .e eI), (3, .n eI 3 none)]) (kb := []) (kbx := []) ((kN _ (mLen (sh := eI) x0) fun v0 => (kIfD (p := x4 < v0) (kIx (enc := eI) (l := x0) (k := x4) fun v1 => (kN (wr (x3 * v1)) rfl fun v2 => (kM0 (alts := Gg x0 ()) (Q3j v2 (wr (x4 + 1))))))
 (kX (alts := Gg x0 ()) x3 (.here _ rfl (.refl _) (.refl _))))) h)) x3 x4 o h
def IM (x0 : List Int) : Option Int :=
 some ((1 : Int) : Int) >>= fun v0 =>
 some () >>= fun v1 =>
 Gq x0 v0 0 >>= fun v3 =>
 some v3
theorem FF (x0 : List Int) (r : Int) (h : IM x0 = some r) : PU 167 [eLI x0] (eI r) :=
 Pu2 (hs := [(3, .n eI 3 none), (3000004, .l [] [0, 3, 4] [] [3] [] (Gg x0))]) ((kN (1 : Int) rfl fun v0 => (kL1 () (T6 x0 v0 0) fun v1 v3 => (kEr (enc := eI) v3))) h)
def K1 (s : QR) (u : Unit) (o : Unit ⊕ Int) : List Alt := [⟨fun (x : Unit) => (Sum.inl x : Unit ⊕ Int) = o, .exit 0, fun x => [.undef], fun x => []⟩, ⟨fun (x : Int) => (Sum.inr x : Unit ⊕ Int) = o, .ret, fun x => [ii x], fun x => []⟩]
def Vu (x1 : QR) (x4 : Int) : Option (Unit ⊕ Int) :=
 some (List.length x1.fVals : Int) >>= fun v0 =>
 if x4 < v0 then
 ix x1.fVals x4 >>= fun v1 =>
 Kl x1.fType v1 >>= fun v2 => if v2 then
 Vu x1 (wr (x4 + 1))
 else
 some (.inr (1 : Int))
 else
 some (.inl ())
 partial_fixpoint
theorem IB (x1 : QR) (x4 : Int) (o : Unit ⊕ Int) (h : Vu x1 x4 = some o) : LO 161 9 38 [1, 4] [.ptr 0 0 0, ii x4] [.cells 0 (Zm x1).cells] [2] (K1 x1 () o) :=
 Vu.partial_correctness x1 (fun x4 o => LO 161 9 38 [1, 4] [.ptr 0 0 0, ii x4] [.cells 0 (Zm x1).cells] [2] (K1 x1 () o))
 (fun Vu Q3k x4 o h  =>
 Lp2 (hs := [(25, .n eI 25 none), (26, .split), (34, .e Qk), (36, .cb)]) (kb := [kk 1]) (kbx := []) ((kN _ (mLen (sh := Qk) x1.fVals) fun v0 => (kIfD (p := x4 < v0) (kIx (enc := Qk) (l := x1.fVals) (k := x4) fun v1 => (kCb (DG x1.fType v1) (kM0 (alts := K1 x1 ()) (Q3k (wr (x4 + 1))))
 (kX (alts := K1 x1 ()) (.inr (1 : Int)) (.next (.here _ rfl (.refl _) (.refl _))))))
 (kX (alts := K1 x1 ()) (.inl ()) (.here _ rfl (.refl _) (.refl _))))) h)) x4 o h
def Mi (x0 : QR) : Option Int :=
 XC x0.fType >>= fun v0 => if v0 then
 Ia x0.fDims >>= fun v1 =>
 if v1 != 0 then
 some v1
 else
 IM x0.fDims >>= fun v2 =>
 some (List.length x0.fVals : Int) >>= fun v3 =>
 if v3 != v2 then
 some (1 : Int)
 else
 some () >>= fun v4 =>
 Vu x0 0 >>= fun v5 => (match v5 with
 | (.inl v6) =>
 some (0 : Int)
 | (.inr v7) =>
 some v7)
 else
 some (10 : Int)
theorem R8 (x0 : QR) (r : Int) (h : Mi x0 = some r) : PU 161 [Zm x0] (eI r) :=
 Pu2 (hs := [(7, .cb), (11, .c eI), (13, .split), (17, .n eI 17 none), (20, .c eI), (21, .split), (3000010, .l [] [1, 4] [kk 1] [2] [] (K1 x0))]) ((kCb (Up x0.fType) (kC (sh := eI) (Au x0.fDims) fun v1 => (kIf (c := v1 != 0) (kEr (enc := eI) v1)
 (kC (sh := eI) (FF x0.fDims) fun v2 => (kN _ (mLen (sh := Qk) x0.fVals) fun v3 => (kIf (c := v3 != v2) (kEr (enc := eI) (1 : Int))
 (kL2 () (hL := (IB x0 0)) (hA := fun v4 v6 => (kEr (enc := eI) (0 : Int)))
 (hB := fun v4 v7 => (kEr (enc := eI) v7))))))))
 (kEr (enc := eI) (10 : Int))) h)
def Dg (x0 : List XN) (x1 : Str) : Option (QR × Int) :=
 Mj x0 x1 >>= fun v0 =>
 if v0.snd then
 Mi v0.fst >>= fun v1 =>
 if v1 != 0 then
 some ((QR.mk (Qg.mk (0 : Int) (0 : Int) (0 : Int) (0 : Int) (0 : Int)) [] [])) >>= fun v2 =>
 some (v2, (1 : Int))
 else
 some (v0.fst, (0 : Int))
 else
 some ((QR.mk (Qg.mk (0 : Int) (0 : Int) (0 : Int) (0 : Int) (0 : Int)) [] [])) >>= fun v3 =>
 some (v3, (9 : Int))
theorem Ll (x0 : List XN) (x1 : Str) (r : (QR × Int)) (h : Dg x0 x1 = some r) : PU 134 [US x0, eS x1] (Jh r) :=
 Pu2 (hs := [(11, .c Ci), (14, .split), (16, .n Zm 16 none), (18, .c eI), (19, .split), (20, .n Zm 20 none)]) ((kC (sh := Ci) (FL x0 x1) fun v0 => (kIf (c := v0.snd) (kC (sh := eI) (R8 v0.fst) fun v1 => (kIf (c := v1 != 0) (kW (sh := Zm) (QR.mk (Qg.mk (0 : Int) (0 : Int) (0 : Int) (0 : Int) (0 : Int)) [] []) (LeV.agg (.cons (LeV.refl (ii (0 : Int))) (.cons (LeV.refl (ii (0 : Int))) (.cons (LeV.refl (ii (0 : Int))) (.cons (LeV.refl (ii (0 : Int))) (.cons (LeV.refl (ii (0 : Int))) (.cons (LeV.nil 1) (.cons (LeV.nil 2) .nil)))))))) fun v2 => (kEr (enc := Jh) (v2, (1 : Int))))
 (kEr (enc := Jh) (v0.fst, (0 : Int)))))
 (kW (sh := Zm) (QR.mk (Qg.mk (0 : Int) (0 : Int) (0 : Int) (0 : Int) (0 : Int)) [] []) (LeV.agg (.cons (LeV.refl (ii (0 : Int))) (.cons (LeV.refl (ii (0 : Int))) (.cons (LeV.refl (ii (0 : Int))) (.cons (LeV.refl (ii (0 : Int))) (.cons (LeV.refl (ii (0 : Int))) (.cons (LeV.nil 1) (.cons (LeV.nil 2) .nil)))))))) fun v3 => (kEr (enc := Jh) (v3, (9 : Int)))))) h)
def YO (s : ((List Qc) × Int × Q8)) (u : QR) (o : Int ⊕ (Int × Int)) : List Alt := [⟨fun (x : Int) => (Sum.inl x : Int ⊕ (Int × Int)) = o, .exit 0, fun x => [ii s.2.1, .undef, .undef, .ptr 0 0 0, ii x], fun x => [.cells 0 (Zm u).cells]⟩, ⟨fun (x : (Int × Int)) => (Sum.inr x : Int ⊕ (Int × Int)) = o, .ret, fun x => [ii s.2.1, ii x.1, ii x.2, .ptr 0 0 0, .undef], fun x => [.cells 0 (Zm u).cells]⟩]
def J1 (s : ((List Qc) × Int × Q8 × QR)) (u : (Int × Int × Int)) (o : Bool) : List Alt := jb o (fun b => [.sl 2 (List.map Qd (s.1)), ii (s.2.1), .ptr 0 0 0, .ptr 1 0 0, ii (u.1), ii (u.2.1), ii (u.2.2), .bool b]) [.cells 0 (Q3 (s.2.2.1)).cells, .cells 0 (Zm (s.2.2.2)).cells]
def Ub (x1 : List Qc) (x6 : Q8) (x10 : QR) (x12 : Int) (x13 : Int) : Option (Int ⊕ (Int × Int)) :=
 some (List.length x6.fAt : Int) >>= fun v0 =>
 if x13 < v0 then
 ix x6.fAt x13 >>= fun v1 =>
 De v1 x1 >>= fun v2 =>
 if v2.snd != 0 then
 some (.inr ((0 : Int), v2.snd))
 else
 some (x12, x13, v2.fst) >>= fun v3 =>
 (if v2.fst < 0 then
 some true
 else
 ix x10.fDims x13 >>= fun v5 =>
 if v5 ≤ v2.fst then
 some true
 else
 some false) >>= fun v4 => if v4 then
 some (.inr ((0 : Int), (12 : Int)))
 else
 ix x10.fDims v3.snd.fst >>= fun v8 =>
 some (wr (wr (v3.fst * v8) + v3.snd.snd) : Int) >>= fun v9 =>
 Ub x1 x6 x10 v9 (wr (v3.snd.fst + 1))
 else
 some (.inl x12)
 partial_fixpoint
theorem En (x1 : List Qc) (x3 : Int) (x6 : Q8) (x10 : QR) (x12 : Int) (x13 : Int) (o : Int ⊕ (Int × Int)) (h : Ub x1 x6 x10 x12 x13 = some o) : LO 162 12 96 [1, 3, 6, 10, 12, 13] [.sl 2 (List.map Qd x1), ii x3, .ptr 0 0 0, .ptr 1 0 0, ii x12, ii x13] [.cells 0 (Q3 x6).cells, .cells 0 (Zm x10).cells] [3, 8, 9, 10, 12] (YO (x1, x3, x6) x10 o) :=
 Ub.partial_correctness x1 x6 x10 (fun x12 x13 o => ∀ (x3 : Int), LO 162 12 96 [1, 3, 6, 10, 12, 13] [.sl 2 (List.map Qd x1), ii x3, .ptr 0 0 0, .ptr 1 0 0, ii x12, ii x13] [.cells 0 (Q3 x6).cells, .cells 0 (Zm x10).cells] [3, 8, 9, 10, 12] (YO (x1, x3, x6) x10 o))
 (fun Ub Q4d x12 x13 o h x3 =>
 Lp2 (hs := [(49, .n eI 49 none), (50, .split), (57, .e Qi), (60, .c Xg), (64, .split), (67, .split), (73, .e eI), (75, .split), (81, .e eI), (12, .n eI 12 none), (5000017, .l [] [] [] [1, 3, 6, 10, 12, 13, 14, 76] [kk 6, kk 10] (J1 (x1, x3, x6, x10)))]) (kb := [kk 6, kk 10]) (kbx := [kk 10]) ((kN _ (mLen (sh := Qi) x6.fAt) fun v0 => (kIfD (p := x13 < v0) (kIx (enc := Qi) (l := x6.fAt) (k := x13) fun v1 => (kC (sh := Xg) (Mk v1 x1) fun v2 => (kIf (c := v2.snd != 0) (kX (alts := YO (x1, x3, x6) x10) (.inr ((0 : Int), v2.snd)) (.next (.here _ rfl (.cons (LeV.refl (ii x3)) (.cons (LeV.refl (ii (0 : Int))) (.cons (LeV.refl (ii v2.snd)) (.cons (LeV.refl (AV.ptr (0 : Nat) (0 : Nat) (0 : Nat))) (.cons (LeV.undef (ii x12)) .nil))))) (.refl _))))
 (kJb (id := 5000017) (x12, x13, v2.fst) (fun v3 ev3 v4 => (kIfD (p := v2.fst < 0) (kXj (alts := J1 (x1, x3, x6, x10)) ev3 true (.here () rfl (.refl _) (.refl _)))
 (kIx (enc := eI) (l := x10.fDims) (k := x13) fun v5 => (kIfD (p := v5 ≤ v2.fst) (kXj (alts := J1 (x1, x3, x6, x10)) ev3 true (.here () rfl (.refl _) (.refl _)))
 (kXj (alts := J1 (x1, x3, x6, x10)) ev3 false (.next (.here () rfl (.refl _) (.refl _))))))))
 (fun v3 => (kX (alts := YO (x1, x3, x6) x10) (.inr ((0 : Int), (12 : Int))) (.next (.here _ rfl (.cons (LeV.refl (ii x3)) (.cons (LeV.refl (ii (0 : Int))) (.cons (LeV.refl (ii (12 : Int))) (.cons (LeV.refl (AV.ptr (0 : Nat) (0 : Nat) (0 : Nat))) (.cons (LeV.undef (ii v3.fst)) .nil))))) (.refl _)))))
 (fun v3 => (kIx (enc := eI) (l := x10.fDims) (k := v3.snd.fst) fun v8 => (kN (wr (wr (v3.fst * v8) + v3.snd.snd)) rfl fun v9 => (kM0 (alts := YO (x1, x3, x6) x10) (fun y hy => Q4d v9 (wr (v3.snd.fst + 1)) y hy x3)))))))))
 (kX (alts := YO (x1, x3, x6) x10) (.inl x12) (.here _ rfl (.refl _) (.refl _))))) h)) x12 x13 o h x3
def Ic (x0 : List XN) (x1 : List Qc) (x2 : Q8) (x3 : Int) : Option (Int × Int) :=
 if x2.fFrom == [] then
 De x2.fLin x1 >>= fun v0 =>
 some (v0.fst, v0.snd)
 else
 Dg x0 x2.fFrom >>= fun v1 =>
 if v1.snd != 0 then
 some ((0 : Int), v1.snd)
 else
 if v1.fst.fType.fKind != 3 then
 some ((0 : Int), (10 : Int))
 else
 some (List.length x2.fAt : Int) >>= fun v2 =>
 some (List.length v1.fst.fDims : Int) >>= fun v3 =>
 if v2 != v3 then
 some ((0 : Int), (11 : Int))
 else
 some ((0 : Int) : Int) >>= fun v4 =>
 some v1.fst >>= fun v5 =>
 Ub x1 x2 v1.fst v4 0 >>= fun v6 => (match v6 with
 | (.inl v7) =>
 ix v5.fVals v7 >>= fun v8 =>
 some ((if true = true then max (0 : Int) (if false = true then max (wr (x3 - (1 : Int))) v8.fN else min (wr (x3 - (1 : Int))) v8.fN) else min (0 : Int) (if false = true then max (wr (x3 - (1 : Int))) v8.fN else min (wr (x3 - (1 : Int))) v8.fN)), (0 : Int))
 | (.inr v9) =>
 some (v9.fst, v9.snd))
theorem AE (x0 : List XN) (x1 : List Qc) (x2 : Q8) (x3 : Int) (r : (Int × Int)) (h : Ic x0 x1 x2 x3 = some r) : PU 162 [US x0, QW x1, Q3 x2, eI x3] (Xg r) :=
 Pu2 (hs := [(18, .split), (22, .c Xg), (29, .c Jh), (33, .split), (38, .split), (41, .n eI 41 none), (44, .n eI 44 none), (45, .split), (12, .n eI 12 none), (91, .e Qk), (3000013, .l [] [1, 3, 6, 10, 12, 13] [kk 6, kk 10] [3, 8, 9, 10, 12] [kk 10] (YO (x1, x3, x2)))]) ((kIf (c := x2.fFrom == []) (kC (sh := Xg) (Mk x2.fLin x1) fun v0 => (kEr (enc := Xg) (v0.fst, v0.snd)))
 (kC (sh := Jh) (Ll x0 x2.fFrom) fun v1 => (kIf (c := v1.snd != 0) (kEr (enc := Xg) ((0 : Int), v1.snd))
 (kIf (c := v1.fst.fType.fKind != 3) (kEr (enc := Xg) ((0 : Int), (10 : Int)))
 (kN _ (mLen (sh := Qi) x2.fAt) fun v2 => (kN _ (mLen (sh := eI) v1.fst.fDims) fun v3 => (kIf (c := v2 != v3) (kEr (enc := Xg) ((0 : Int), (11 : Int)))
 (kN (0 : Int) rfl fun v4 => (kL2 v1.fst (hL := (En x1 x3 x2 v1.fst v4 0)) (hA := fun v5 v7 => (kIx (enc := Qk) (l := v5.fVals) (k := v7) fun v8 => (kEr (enc := Xg) ((if true = true then max (0 : Int) (if false = true then max (wr (x3 - (1 : Int))) v8.fN else min (wr (x3 - (1 : Int))) v8.fN) else min (0 : Int) (if false = true then max (wr (x3 - (1 : Int))) v8.fN else min (wr (x3 - (1 : Int))) v8.fN)), (0 : Int)))))
 (hB := fun v5 v9 => (kEr (enc := Xg) (v9.fst, v9.snd)))))))))))) h)
def Kn (s : ((List XN) × (List Qc) × (List Q8) × QR)) (u : Unit) (o : Int ⊕ (Int × Int)) : List Alt := [⟨fun (x : Int) => (Sum.inl x : Int ⊕ (Int × Int)) = o, .exit 0, fun x => [.undef, .undef, ii x], fun x => []⟩, ⟨fun (x : (Int × Int)) => (Sum.inr x : Int ⊕ (Int × Int)) = o, .ret, fun x => [ii x.1, ii x.2, .undef], fun x => []⟩]
def J0 (s : ((List XN) × (List Qc) × (List Q8) × QR)) (u : (Int × Int × Int)) (o : Bool) : List Alt := jb o (fun b => [.sl 8 (List.map VO (s.1)), .sl 2 (List.map Qd (s.2.1)), .sl 4 (List.map Q3 (s.2.2.1)), .ptr 0 0 0, ii (u.1), ii (u.2.1), ii (u.2.2), .bool b]) [.cells 0 (Zm (s.2.2.2)).cells]
def UP (x0 : List XN) (x1 : List Qc) (x3 : List Q8) (x6 : QR) (x10 : Int) (x11 : Int) : Option (Int ⊕ (Int × Int)) :=
 some (List.length x3 : Int) >>= fun v0 =>
 if x11 < v0 then
 ix x3 x11 >>= fun v1 =>
 ix x6.fDims x11 >>= fun v2 =>
 Ic x0 x1 v1 v2 >>= fun v3 =>
 if v3.snd != 0 then
 some (.inr ((0 : Int), v3.snd))
 else
 some (x10, x11, v3.fst) >>= fun v4 =>
 (if v3.fst < 0 then
 some true
 else
 ix x6.fDims x11 >>= fun v6 =>
 if v6 ≤ v3.fst then
 some true
 else
 some false) >>= fun v5 => if v5 then
 some (.inr ((0 : Int), (12 : Int)))
 else
 ix x6.fDims v4.snd.fst >>= fun v9 =>
 some (wr (wr (v4.fst * v9) + v4.snd.snd) : Int) >>= fun v10 =>
 UP x0 x1 x3 x6 v10 (wr (v4.snd.fst + 1))
 else
 some (.inl x10)
 partial_fixpoint
theorem Re (x0 : List XN) (x1 : List Qc) (x3 : List Q8) (x6 : QR) (x10 : Int) (x11 : Int) (o : Int ⊕ (Int × Int)) (h : UP x0 x1 x3 x6 x10 x11 = some o) : LO 135 5 65 [0, 1, 3, 6, 10, 11] [.sl 8 (List.map VO x0), .sl 2 (List.map Qd x1), .sl 4 (List.map Q3 x3), .ptr 0 0 0, ii x10, ii x11] [.cells 0 (Zm x6).cells] [8, 9, 10] (Kn (x0, x1, x3, x6) () o) :=
 UP.partial_correctness x0 x1 x3 x6 (fun x10 x11 o => LO 135 5 65 [0, 1, 3, 6, 10, 11] [.sl 8 (List.map VO x0), .sl 2 (List.map Qd x1), .sl 4 (List.map Q3 x3), .ptr 0 0 0, ii x10, ii x11] [.cells 0 (Zm x6).cells] [8, 9, 10] (Kn (x0, x1, x3, x6) () o))
 (fun UP Q4b x10 x11 o h  =>
 Lp2 (hs := [(22, .n eI 22 none), (23, .split), (31, .e Q3), (36, .e eI), (38, .c Xg), (42, .split), (45, .split), (51, .e eI), (53, .split), (59, .e eI), (10, .n eI 10 none), (5000010, .l [] [] [] [0, 1, 3, 6, 10, 11, 12, 54] [kk 6] (J0 (x0, x1, x3, x6)))]) (kb := [kk 6]) (kbx := []) ((kN _ (mLen (sh := Q3) x3) fun v0 => (kIfD (p := x11 < v0) (kIx (enc := Q3) (l := x3) (k := x11) fun v1 => (kIx (enc := eI) (l := x6.fDims) (k := x11) fun v2 => (kC (sh := Xg) (AE x0 x1 v1 v2) fun v3 => (kIf (c := v3.snd != 0) (kX (alts := Kn (x0, x1, x3, x6) ()) (.inr ((0 : Int), v3.snd)) (.next (.here _ rfl (.cons (LeV.refl (ii (0 : Int))) (.cons (LeV.refl (ii v3.snd)) (.cons (LeV.undef (ii x10)) .nil))) (.refl _))))
 (kJb (id := 5000010) (x10, x11, v3.fst) (fun v4 ev4 v5 => (kIfD (p := v3.fst < 0) (kXj (alts := J0 (x0, x1, x3, x6)) ev4 true (.here () rfl (.refl _) (.refl _)))
 (kIx (enc := eI) (l := x6.fDims) (k := x11) fun v6 => (kIfD (p := v6 ≤ v3.fst) (kXj (alts := J0 (x0, x1, x3, x6)) ev4 true (.here () rfl (.refl _) (.refl _)))
 (kXj (alts := J0 (x0, x1, x3, x6)) ev4 false (.next (.here () rfl (.refl _) (.refl _))))))))
 (fun v4 => (kX (alts := Kn (x0, x1, x3, x6) ()) (.inr ((0 : Int), (12 : Int))) (.next (.here _ rfl (.cons (LeV.refl (ii (0 : Int))) (.cons (LeV.refl (ii (12 : Int))) (.cons (LeV.undef (ii v4.fst)) .nil))) (.refl _)))))
 (fun v4 => (kIx (enc := eI) (l := x6.fDims) (k := v4.snd.fst) fun v9 => (kN (wr (wr (v4.fst * v9) + v4.snd.snd)) rfl fun v10 => (kM0 (alts := Kn (x0, x1, x3, x6) ()) (Q4b v10 (wr (v4.snd.fst + 1))))))))))))
 (kX (alts := Kn (x0, x1, x3, x6) ()) (.inl x10) (.here _ rfl (.refl _) (.refl _))))) h)) x10 x11 o h
def Ib (x0 : List XN) (x1 : List Qc) (x2 : QR) (x3 : List Q8) : Option (Int × Int) :=
 some (List.length x3 : Int) >>= fun v0 =>
 some (List.length x2.fDims : Int) >>= fun v1 =>
 if v0 != v1 then
 some ((0 : Int), (11 : Int))
 else
 some ((0 : Int) : Int) >>= fun v2 =>
 some () >>= fun v3 =>
 UP x0 x1 x3 x2 v2 0 >>= fun v4 => (match v4 with
 | (.inl v5) =>
 some (v5, (0 : Int))
 | (.inr v6) =>
 some (v6.fst, v6.snd))
theorem AD (x0 : List XN) (x1 : List Qc) (x2 : QR) (x3 : List Q8) (r : (Int × Int)) (h : Ib x0 x1 x2 x3 = some r) : PU 135 [US x0, QW x1, Zm x2, GM x3] (Xg r) :=
 Pu2 (hs := [(15, .n eI 15 none), (18, .n eI 18 none), (19, .split), (10, .n eI 10 none), (3000006, .l [] [0, 1, 3, 6, 10, 11] [kk 6] [8, 9, 10] [] (Kn (x0, x1, x3, x2)))]) ((kN _ (mLen (sh := Q3) x3) fun v0 => (kN _ (mLen (sh := eI) x2.fDims) fun v1 => (kIf (c := v0 != v1) (kEr (enc := Xg) ((0 : Int), (11 : Int)))
 (kN (0 : Int) rfl fun v2 => (kL2 () (hL := (Re x0 x1 x3 x2 v2 0)) (hA := fun v3 v5 => (kEr (enc := Xg) (v5, (0 : Int))))
 (hB := fun v3 v6 => (kEr (enc := Xg) (v6.fst, v6.snd)))))))) h)
def Kt (s : Unit) (u : (QF × Int × Int)) (o : Bool) : List Alt := jb o (fun b => [.ptr 0 0 0, ii (u.2.1), ii (u.2.2), .bool b]) [.cells 0 (Qs (u.1)).cells]
def D8 (s : Unit) (u : (QF × Int)) (o : Int) : List Alt := [⟨fun (x : Int) => x = o, .normal, fun x => [.ptr 0 0 0, ii (u.2), ii x], fun x => [.cells 0 (Qs (u.1)).cells]⟩]
def Wz (x0 : List XN) (x1 : List Qc) (x2 : Q1) : Option QF :=
 if x2.fOp == 1 then
 some ((QF.mk x2.fVal x2.fType (0 : Int))) >>= fun v0 =>
 some v0
 else
 if x2.fOp == 2 then
 De x2.fLin x1 >>= fun v1 =>
 some (((QF.mk (gVal.mk (0 : Int) (0 : Int)) (Qg.mk (0 : Int) (0 : Int) (0 : Int) (0 : Int) (0 : Int)) (0 : Int))), v1.fst) >>= fun v2 =>
 (some ((QF.mk (gVal.mk (0 : Int) (0 : Int)) (Qg.mk (0 : Int) (0 : Int) (0 : Int) (0 : Int) (0 : Int)) (0 : Int)), v1.fst, v1.snd) >>= fun v4 =>
 (if v1.snd == 0 then
 if 2147483647 < v1.fst then
 some true
 else
 if v1.fst < (-2147483647 : Int) then
 some true
 else
 some false
 else
 some false) >>= fun v5 => if v5 then
 some (3 : Int)
 else
 some v4.snd.snd) >>= fun v8 =>
 if v8 != 0 then
 some ((QF.mk (gVal.mk (0 : Int) (0 : Int)) (Qg.mk (0 : Int) (0 : Int) (0 : Int) (0 : Int) (0 : Int)) v8)) >>= fun v9 =>
 some v9
 else
 some ((gVal.mk v2.snd (1 : Int))) >>= fun v10 =>
 some ((Qg.mk (3 : Int) (0 : Int) (0 : Int) (0 : Int) (0 : Int))) >>= fun v11 =>
 some ((QF.mk v10 v11 (0 : Int))) >>= fun v12 =>
 some v12
 else
 Dg x0 x2.fName >>= fun v13 =>
 if v13.snd != 0 then
 some ((QF.mk (gVal.mk (0 : Int) (0 : Int)) (Qg.mk (0 : Int) (0 : Int) (0 : Int) (0 : Int) (0 : Int)) v13.snd)) >>= fun v14 =>
 some v14
 else
 Ib x0 x1 v13.fst x2.fIdx >>= fun v15 =>
 if v15.snd != 0 then
 some ((QF.mk (gVal.mk (0 : Int) (0 : Int)) (Qg.mk (0 : Int) (0 : Int) (0 : Int) (0 : Int) (0 : Int)) v15.snd)) >>= fun v16 =>
 some v16
 else
 ix v13.fst.fVals v15.fst >>= fun v17 =>
 some ((QF.mk v17 v13.fst.fType (0 : Int))) >>= fun v18 =>
 some v18
theorem FM (x0 : List XN) (x1 : List Qc) (x2 : Q1) (r : QF) (h : Wz x0 x1 x2 = some r) : PU 120 [US x0, QW x1, Q6 x2] (Qs r) :=
 Pu2 (hs := [(16, .split), (21, .n Qs 21 none), (23, .split), (28, .c Xg), (32, .split), (35, .split), (38, .split), (42, .split), (44, .n Qs 44 none), (46, .n Qk 46 none), (47, .n Qy 47 none), (48, .n Qs 48 none), (53, .c Jh), (57, .split), (59, .n Qs 59 none), (66, .c Xg), (70, .split), (72, .n Qs 72 none), (76, .e Qk), (80, .n Qs 80 none), (5000006, .l [] [] [] [6, 7, 8, 40] [kk 6] (Kt ())), (6000008, .l [] [] [] [6, 7, 8] [kk 6] (D8 ()))]) ((kIf (c := x2.fOp == 1) (kW (sh := Qs) (QF.mk x2.fVal x2.fType (0 : Int)) lr fun v0 => (kEr (enc := Qs) v0))
 (kIf (c := x2.fOp == 2) (kC (sh := Xg) (Mk x2.fLin x1) fun v1 => (kJ1 (id := 6000008) (((QF.mk (gVal.mk (0 : Int) (0 : Int)) (Qg.mk (0 : Int) (0 : Int) (0 : Int) (0 : Int) (0 : Int)) (0 : Int))), v1.fst) (fun v2 ev2 v3 => (kJbE (id := 5000006) ((QF.mk (gVal.mk (0 : Int) (0 : Int)) (Qg.mk (0 : Int) (0 : Int) (0 : Int) (0 : Int) (0 : Int)) (0 : Int)), v1.fst, v1.snd) (fun v4 ev4 v5 => (kIf (c := v1.snd == 0) (kIfD (p := 2147483647 < v1.fst) (kXj (alts := Kt ()) ev4 true (.here () rfl (.refl _) (.refl _)))
 (kIfD (p := v1.fst < (-2147483647 : Int)) (kXj (alts := Kt ()) ev4 true (.here () rfl (.refl _) (.refl _)))
 (kXj (alts := Kt ()) ev4 false (.next (.here () rfl (.refl _) (.refl _))))))
 (kXj (alts := Kt ()) ev4 false (.next (.here () rfl (.refl _) (.refl _))))))
 (fun v4 ev4 => (kXj (alts := D8 ()) (u0 := (v4.fst, v4.snd.fst)) (by subst ev4; exact ev2) (3 : Int) (.here _ rfl (.refl _) (.refl _))))
 (fun v4 ev4 => (kXj (alts := D8 ()) (u0 := (v4.fst, v4.snd.fst)) (by subst ev4; exact ev2) v4.snd.snd (.here _ rfl (.refl _) (.refl _))))))
 (fun v2 v8 => (kIf (c := v8 != 0) (kW (sh := Qs) (QF.mk (gVal.mk (0 : Int) (0 : Int)) (Qg.mk (0 : Int) (0 : Int) (0 : Int) (0 : Int) (0 : Int)) v8) lr fun v9 => (kEr (enc := Qs) v9))
 (kW (sh := Qk) (gVal.mk v2.snd (1 : Int)) lr fun v10 => (kW (sh := Qy) (Qg.mk (3 : Int) (0 : Int) (0 : Int) (0 : Int) (0 : Int)) lr fun v11 => (kW (sh := Qs) (QF.mk v10 v11 (0 : Int)) lr fun v12 => (kEr (enc := Qs) v12))))))))
 (kC (sh := Jh) (Ll x0 x2.fName) fun v13 => (kIf (c := v13.snd != 0) (kW (sh := Qs) (QF.mk (gVal.mk (0 : Int) (0 : Int)) (Qg.mk (0 : Int) (0 : Int) (0 : Int) (0 : Int) (0 : Int)) v13.snd) lr fun v14 => (kEr (enc := Qs) v14))
 (kC (sh := Xg) (AD x0 x1 v13.fst x2.fIdx) fun v15 => (kIf (c := v15.snd != 0) (kW (sh := Qs) (QF.mk (gVal.mk (0 : Int) (0 : Int)) (Qg.mk (0 : Int) (0 : Int) (0 : Int) (0 : Int) (0 : Int)) v15.snd) lr fun v16 => (kEr (enc := Qs) v16))
 (kIx (enc := Qk) (l := v13.fst.fVals) (k := v15.fst) fun v17 => (kW (sh := Qs) (QF.mk v17 v13.fst.fType (0 : Int)) lr fun v18 => (kEr (enc := Qs) v18))))))))) h)
def UK (x0 : Qg) : Option Int :=
 if 0 ≤ w6 x0.fFrac then
 some (wr ((1 : Int) * (2 : Int) ^ min (w6 x0.fFrac).toNat (64 : Nat)))
 else none
theorem WE (x0 : Qg) (r : Int) (h : UK x0 = some r) : PU 140 [Qy x0] (eI r) :=
 Pu2 (hs := [(6, .s)]) ((kG (p := 0 ≤ w6 x0.fFrac) (kEr (enc := eI) (wr ((1 : Int) * (2 : Int) ^ min (w6 x0.fFrac).toNat (64 : Nat))))) h)
def Cc (x0 : Int) : Option Int :=
 if x0 < 0 then
 some (w6 (w6 (wr ((0 : Int) - wr (x0 + 1))) + 1))
 else
 some (w6 x0)
theorem IR (x0 : Int) (r : Int) (h : Cc x0 = some r) : PU 169 [eI x0] (eU64 r) :=
 Pu2 (hs := [(4, .split)]) ((kIfD (p := x0 < 0) (kEr (enc := eU64) (w6 (w6 (wr ((0 : Int) - wr (x0 + 1))) + 1)))
 (kEr (enc := eU64) (w6 x0))) h)
def GY (s : Unit) (u : Unit) (o : Int) : List Alt := [⟨fun (x : Int) => x = o, .exit 0, fun x => [.int .u64 x], fun x => []⟩]
def VH (x0 : Int) (x1 : Int) : Option Int :=
 if x1 != 0 then
 if x1 ≠ 0 then
 some (x0.tmod x1 : Int) >>= fun v0 =>
 VH x1 v0
 else none
 else
 some x0
 partial_fixpoint
theorem S8 (x0 : Int) (x1 : Int) (o : Int) (h : VH x0 x1 = some o) : LO 171 1 12 [0, 1] [.int .u64 x0, .int .u64 x1] [] [0] (GY () () o) :=
 VH.partial_correctness  (fun x0 x1 o => LO 171 1 12 [0, 1] [.int .u64 x0, .int .u64 x1] [] [0] (GY () () o))
 (fun VH Q3c x0 x1 o h  =>
 Lp2 (hs := [(6, .split), (10, .s), (1, .n eU64 1 none)]) (kb := []) (kbx := []) ((kIf (c := x1 != 0) (kG (p := x1 ≠ 0) (kN (x0.tmod x1) rfl fun v0 => (kM0 (alts := GY () ()) (Q3c x1 v0))))
 (kX (alts := GY () ()) x0 (.here _ rfl (.refl _) (.refl _)))) h)) x0 x1 o h
def Nm (x0 : Int) (x1 : Int) : Option Int :=
 some () >>= fun v0 =>
 VH x0 x1 >>= fun v2 =>
 some v2
theorem OF (x0 : Int) (x1 : Int) (r : Int) (h : Nm x0 x1 = some r) : PU 171 [eU64 x0, eU64 x1] (eU64 r) :=
 Pu2 (hs := [(3000002, .l [] [0, 1] [] [0] [] (GY ()))]) ((kL1 () (S8 x0 x1) fun v0 v2 => (kEr (enc := eU64) v2)) h)
def Jr (s : Bool) (u : (Int × Int × gVal)) (o : Bool) : List Alt := jb o (fun b => [.bool s, .int .u64 (u.1), .int .u64 (u.2.1), .ptr 0 0 0, .bool b]) [.cells 0 (Qk (u.2.2)).cells]
def Wt (x0 : Bool) (x1 : Int) (x2 : Int) : Option (gVal × Int) :=
 Nm x1 x2 >>= fun v0 =>
 if v0 ≠ 0 then
 some (w6 (x1.tdiv v0) : Int) >>= fun v1 =>
 if v0 ≠ 0 then
 some (w6 (x2.tdiv v0) : Int) >>= fun v2 =>
 some (v1, v2, (gVal.mk (0 : Int) (0 : Int))) >>= fun v3 =>
 (if 2147483647 < v1 then
 some true
 else
 if 2147483647 < v2 then
 some true
 else
 some false) >>= fun v4 => if v4 then
 some ((gVal.mk (0 : Int) (0 : Int))) >>= fun v6 =>
 some (v6, (3 : Int))
 else
 if x0 then
 some ((gVal.mk (wr ((0 : Int) - wr v3.fst)) (wr v3.snd.fst))) >>= fun v8 =>
 some (v8, (0 : Int))
 else
 some ((gVal.mk (wr v3.fst) (wr v3.snd.fst))) >>= fun v9 =>
 some (v9, (0 : Int))
 else none
 else none
theorem FB (x0 : Bool) (x1 : Int) (x2 : Int) (r : (gVal × Int)) (h : Wt x0 x1 x2 = some r) : PU 168 [eB x0, eU64 x1, eU64 x2] (Qo r) :=
 Pu2 (hs := [(11, .c eU64), (14, .s), (1, .n eU64 1 none), (17, .s), (2, .n eU64 2 none), (19, .split), (22, .split), (24, .n Qk 24 none), (25, .split), (31, .n Qk 31 none), (36, .n Qk 36 none), (5000004, .l [] [] [] [0, 1, 2, 6, 23] [kk 6] (Jr x0))]) ((kC (sh := eU64) (OF x1 x2) fun v0 => (kG (p := v0 ≠ 0) (kN (w6 (x1.tdiv v0)) rfl fun v1 => (kG (p := v0 ≠ 0) (kN (w6 (x2.tdiv v0)) rfl fun v2 => (kJb (id := 5000004) (v1, v2, (gVal.mk (0 : Int) (0 : Int))) (fun v3 ev3 v4 => (kIfD (p := 2147483647 < v1) (kXj (alts := Jr x0) ev3 true (.here () rfl (.refl _) (.refl _)))
 (kIfD (p := 2147483647 < v2) (kXj (alts := Jr x0) ev3 true (.here () rfl (.refl _) (.refl _)))
 (kXj (alts := Jr x0) ev3 false (.next (.here () rfl (.refl _) (.refl _)))))))
 (fun v3 => (kW (sh := Qk) (gVal.mk (0 : Int) (0 : Int)) lr fun v6 => (kEr (enc := Qo) (v6, (3 : Int)))))
 (fun v3 => (kIf (c := x0) (kW (sh := Qk) (gVal.mk (wr ((0 : Int) - wr v3.fst)) (wr v3.snd.fst)) lr fun v8 => (kEr (enc := Qo) (v8, (0 : Int))))
 (kW (sh := Qk) (gVal.mk (wr v3.fst) (wr v3.snd.fst)) lr fun v9 => (kEr (enc := Qo) (v9, (0 : Int)))))))))))) h)
def Uo (x0 : Int) (x1 : Int) : Option (gVal × Int) :=
 if x1 == 0 then
 some ((gVal.mk (0 : Int) (0 : Int))) >>= fun v0 =>
 some (v0, (4 : Int))
 else
 Cc x0 >>= fun v1 =>
 Cc x1 >>= fun v2 =>
 Wt (!decide (x0 < 0) == decide (x1 < 0)) v1 v2 >>= fun v3 =>
 some (v3.fst, v3.snd)
theorem CM (x0 : Int) (x1 : Int) (r : (gVal × Int)) (h : Uo x0 x1 = some r) : PU 163 [eI x0, eI x1] (Qo r) :=
 Pu2 (hs := [(7, .split), (8, .n Qk 8 none), (15, .c eU64), (17, .c eU64), (18, .c Qo)]) ((kIf (c := x1 == 0) (kW (sh := Qk) (gVal.mk (0 : Int) (0 : Int)) lr fun v0 => (kEr (enc := Qo) (v0, (4 : Int))))
 (kC (sh := eU64) (IR x0) fun v1 => (kC (sh := eU64) (IR x1) fun v2 => (kC (sh := Qo) (FB (!decide (x0 < 0) == decide (x1 < 0)) v1 v2) fun v3 => (kEr (enc := Qo) (v3.fst, v3.snd)))))) h)
def GC (s : Unit) (u : gVal) (o : gVal) : List Alt := [⟨fun (x : gVal) => x = o, .normal, fun x => [.ptr 0 0 0, .ptr 1 0 0], fun x => [.cells 0 (Qk x).cells, .cells 0 (Qk u).cells]⟩]
def CX (x0 : Qg) (x1 : gVal) : Option gVal :=
 some (gVal.mk (0 : Int) (0 : Int)) >>= fun v0 =>
 (if x0.fKind == 2 then
 UK x0 >>= fun v2 =>
 Uo x1.fN v2 >>= fun v3 =>
 some v3.fst
 else
 some x1) >>= fun v4 =>
 some v4
theorem As (x0 : Qg) (x1 : gVal) (r : gVal) (h : CX x0 x1 = some r) : PU 136 [Qy x0, Qk x1] (Qk r) :=
 Pu2 (hs := [(7, .split), (12, .c eI), (13, .c Qo), (6000003, .l [] [] [] [3, 4] [kk 3, kk 4] (GC ()))]) ((kJ1 (id := 6000003) (gVal.mk (0 : Int) (0 : Int)) (fun v0 ev0 v1 => (kIf (c := x0.fKind == 2) (kC (sh := eI) (WE x0) fun v2 => (kC (sh := Qo) (CM x1.fN v2) fun v3 => (kXj (alts := GC ()) ev0 v3.fst (.here _ rfl (.refl _) (.refl _)))))
 (kXj (alts := GC ()) ev0 x1 (.here _ rfl (.refl _) (.refl _)))))
 (fun v0 v4 => (kEr (enc := Qk) v4))) h)
def U1 (x0 : Int) (x1 : Int) : Option Int :=
 if x1 ≠ 0 then
 some (wr (x0.tdiv x1) : Int) >>= fun v0 =>
 if x0 < wr (v0 * x1) then
 some (wr (v0 - (1 : Int)))
 else
 some v0
 else none
theorem Wc (x0 : Int) (x1 : Int) (r : Int) (h : U1 x0 x1 = some r) : PU 137 [eI x0, eI x1] (eI r) :=
 Pu2 (hs := [(8, .s), (5, .n eI 5 none), (13, .split)]) ((kG (p := x1 ≠ 0) (kN (wr (x0.tdiv x1)) rfl fun v0 => (kIfD (p := x0 < wr (v0 * x1)) (kEr (enc := eI) (wr (v0 - (1 : Int))))
 (kEr (enc := eI) v0)))) h)
def VU (s : (Int × Int × Int)) (u : (Int × Int)) (o : Bool) : List Alt := jb o (fun b => [ii (s.1), ii (s.2.1), ii (s.2.2), ii (u.1), ii (u.2), .bool b]) []
def K8 (s : Unit) (u : Int) (o : Bool) : List Alt := jb o (fun b => [ii u, .bool b]) []
def G5 (x0 : Int) (x1 : Int) (x2 : Int) : Option Int :=
 U1 x0 x1 >>= fun v0 =>
 some (wr (x0 - wr (v0 * x1)) : Int) >>= fun v1 =>
 some (v0, v1) >>= fun v2 =>
 (if v1 == 0 then
 some true
 else
 if x2 == 1 then
 some true
 else
 some false) >>= fun v3 => if v3 then
 some v2.fst
 else
 if x2 == 2 then
 some (wr (v2.fst + 1))
 else
 if x2 == 3 then
 if x0 < 0 then
 some (wr (v2.fst + 1))
 else
 some v2.fst
 else
 some v2.fst >>= fun v6 =>
 (if wr (x1 - v2.snd) < v2.snd then
 some true
 else
 if v2.snd == wr (x1 - v2.snd) then
 if (2 : Int) ≠ 0 then
 if v2.fst.tmod (2 : Int) != 0 then
 some true
 else
 some false
 else none
 else
 some false) >>= fun v7 => if v7 then
 some (wr (v6 + 1))
 else
 some v6
theorem NO (x0 : Int) (x1 : Int) (x2 : Int) (r : Int) (h : G5 x0 x1 x2 = some r) : PU 139 [eI x0, eI x1, eI x2] (eI r) :=
 Pu2 (hs := [(11, .c eI), (8, .n eI 8 none), (18, .split), (21, .split), (25, .split), (29, .split), (31, .split), (39, .split), (45, .split), (48, .s), (49, .split), (5000003, .l [] [] [] [0, 1, 2, 7, 8, 22] [] (VU (x0, x1, x2))), (5000011, .l [] [] [] [7, 51] [] (K8 ()))]) ((kC (sh := eI) (Wc x0 x1) fun v0 => (kN (wr (x0 - wr (v0 * x1))) rfl fun v1 => (kJb (id := 5000003) (v0, v1) (fun v2 ev2 v3 => (kIf (c := v1 == 0) (kXj (alts := VU (x0, x1, x2)) ev2 true (.here () rfl (.refl _) (.refl _)))
 (kIf (c := x2 == 1) (kXj (alts := VU (x0, x1, x2)) ev2 true (.here () rfl (.refl _) (.refl _)))
 (kXj (alts := VU (x0, x1, x2)) ev2 false (.next (.here () rfl (.refl _) (.refl _)))))))
 (fun v2 => (kEr (enc := eI) v2.fst))
 (fun v2 => (kIf (c := x2 == 2) (kEr (enc := eI) (wr (v2.fst + 1)))
 (kIf (c := x2 == 3) (kIfD (p := x0 < 0) (kEr (enc := eI) (wr (v2.fst + 1)))
 (kEr (enc := eI) v2.fst))
 (kJb (id := 5000011) v2.fst (fun v6 ev6 v7 => (kIfD (p := wr (x1 - v2.snd) < v2.snd) (kXj (alts := K8 ()) ev6 true (.here () rfl (.refl _) (.refl _)))
 (kIf (c := v2.snd == wr (x1 - v2.snd)) (kG (p := (2 : Int) ≠ 0) (kIf (c := v2.fst.tmod (2 : Int) != 0) (kXj (alts := K8 ()) ev6 true (.here () rfl (.refl _) (.refl _)))
 (kXj (alts := K8 ()) ev6 false (.next (.here () rfl (.refl _) (.refl _))))))
 (kXj (alts := K8 ()) ev6 false (.next (.here () rfl (.refl _) (.refl _)))))))
 (fun v6 => (kEr (enc := eI) (wr (v6 + 1))))
 (fun v6 => (kEr (enc := eI) v6))))))))) h)
def Du (s : Unit) (u : (gVal × Int)) (o : Int) : List Alt := [⟨fun (x : Int) => x = o, .normal, fun x => [ii x, .ptr 0 0 0, ii (u.2)], fun x => [.cells 0 (Qk (u.1)).cells]⟩]
def J7 (x0 : Qg) (x1 : Int) : Option gVal :=
 if 0 ≤ w6 (wr (x0.fBits - (1 : Int))) then
 some (wr ((1 : Int) * (2 : Int) ^ min (w6 (wr (x0.fBits - (1 : Int)))).toNat (64 : Nat)) : Int) >>= fun v0 =>
 some ((gVal.mk (0 : Int) (0 : Int)), v0) >>= fun v1 =>
 (if x0.fOver == 2 then
 U1 (wr (x1 + v0)) (wr ((2 : Int) * v0)) >>= fun v3 =>
 some (wr (x1 - wr (wr (v3 * (2 : Int)) * v0)) : Int) >>= fun v4 =>
 some v4
 else
 some x1) >>= fun v5 =>
 some ((gVal.mk (if true = true then max (wr ((0 : Int) - v1.snd)) (if false = true then max (wr (v1.snd - (1 : Int))) v5 else min (wr (v1.snd - (1 : Int))) v5) else min (wr ((0 : Int) - v1.snd)) (if false = true then max (wr (v1.snd - (1 : Int))) v5 else min (wr (v1.snd - (1 : Int))) v5)) (1 : Int))) >>= fun v6 =>
 some v6
 else none
theorem DY (x0 : Qg) (x1 : Int) (r : gVal) (h : J7 x0 x1 = some r) : PU 138 [Qy x0, eI x1] (Qk r) :=
 Pu2 (hs := [(10, .s), (5, .n eI 5 none), (13, .split), (20, .c eI), (1, .n eI 1 none), (32, .n Qk 32 none), (6000004, .l [] [] [] [1, 4, 5] [kk 4] (Du ()))]) ((kG (p := 0 ≤ w6 (wr (x0.fBits - (1 : Int)))) (kN (wr ((1 : Int) * (2 : Int) ^ min (w6 (wr (x0.fBits - (1 : Int)))).toNat (64 : Nat))) rfl fun v0 => (kJ1 (id := 6000004) ((gVal.mk (0 : Int) (0 : Int)), v0) (fun v1 ev1 v2 => (kIf (c := x0.fOver == 2) (kC (sh := eI) (Wc (wr (x1 + v0)) (wr ((2 : Int) * v0))) fun v3 => (kN (wr (x1 - wr (wr (v3 * (2 : Int)) * v0))) rfl fun v4 => (kXj (alts := Du ()) ev1 v4 (.here _ rfl (.refl _) (.refl _)))))
 (kXj (alts := Du ()) ev1 x1 (.here _ rfl (.refl _) (.refl _)))))
 (fun v1 v5 => (kW (sh := Qk) (gVal.mk (if true = true then max (wr ((0 : Int) - v1.snd)) (if false = true then max (wr (v1.snd - (1 : Int))) v5 else min (wr (v1.snd - (1 : Int))) v5) else min (wr ((0 : Int) - v1.snd)) (if false = true then max (wr (v1.snd - (1 : Int))) v5 else min (wr (v1.snd - (1 : Int))) v5)) (1 : Int)) lr fun v6 => (kEr (enc := Qk) v6)))))) h)
def Js (s : (Qg × Qg × gVal)) (u : gVal) (o : Bool) : List Alt := jb o (fun b => [.ptr 0 0 0, .ptr 1 0 0, .ptr 2 0 0, .ptr 3 0 0, .bool b]) [.cells 0 (Qy (s.1)).cells, .cells 0 (Qy (s.2.1)).cells, .cells 0 (Qk (s.2.2)).cells, .cells 0 (Qk u).cells]
def Wu (x0 : Qg) (x1 : Qg) (x2 : gVal) : Option (gVal × Int) :=
 some (gVal.mk (0 : Int) (0 : Int)) >>= fun v0 =>
 (XC x0 >>= fun v2 => if v2 then
 XC x1 >>= fun v3 => if v3 then
 some false
 else
 some true
 else
 some true) >>= fun v1 => if v1 then
 some ((gVal.mk (0 : Int) (0 : Int))) >>= fun v5 =>
 some (v5, (10 : Int))
 else
 Kl x0 x2 >>= fun v7 => if v7 then
 CX x0 x2 >>= fun v8 =>
 if x1.fKind == 3 then
 U1 v8.fN v8.fD >>= fun v9 =>
 some ((gVal.mk v9 (1 : Int))) >>= fun v10 =>
 some (v10, (0 : Int))
 else
 if x1.fKind == 2 then
 UK x1 >>= fun v11 =>
 G5 (wr (v8.fN * v11)) v8.fD x1.fRound >>= fun v12 =>
 J7 x1 v12 >>= fun v13 =>
 some (v13, (0 : Int))
 else
 some (v8, (0 : Int))
 else
 some ((gVal.mk (0 : Int) (0 : Int))) >>= fun v14 =>
 some (v14, (1 : Int))
theorem FC (x0 : Qg) (x1 : Qg) (x2 : gVal) (r : (gVal × Int)) (h : Wu x0 x1 x2 = some r) : PU 121 [Qy x0, Qy x1, Qk x2] (Qo r) :=
 Pu2 (hs := [(10, .cb), (14, .cb), (17, .n Qk 17 none), (20, .cb), (22, .n Qk 22 none), (25, .c Qk), (28, .split), (33, .c eI), (34, .n Qk 34 none), (37, .split), (42, .c eI), (48, .c eI), (49, .c Qk), (5000001, .l [] [] [] [3, 4, 5, 6, 16] [kk 3, kk 4, kk 5, kk 6] (Js (x0, x1, x2)))]) ((kJb (id := 5000001) (gVal.mk (0 : Int) (0 : Int)) (fun v0 ev0 v1 => (kCb (Up x0) (kCb (Up x1) (kXj (alts := Js (x0, x1, x2)) ev0 false (.next (.here () rfl (.refl _) (.refl _))))
 (kXj (alts := Js (x0, x1, x2)) ev0 true (.here () rfl (.refl _) (.refl _))))
 (kXj (alts := Js (x0, x1, x2)) ev0 true (.here () rfl (.refl _) (.refl _)))))
 (fun v0 => (kW (sh := Qk) (gVal.mk (0 : Int) (0 : Int)) lr fun v5 => (kEr (enc := Qo) (v5, (10 : Int)))))
 (fun v0 => (kCb (DG x0 x2) (kC (sh := Qk) (As x0 x2) fun v8 => (kIf (c := x1.fKind == 3) (kC (sh := eI) (Wc v8.fN v8.fD) fun v9 => (kW (sh := Qk) (gVal.mk v9 (1 : Int)) lr fun v10 => (kEr (enc := Qo) (v10, (0 : Int)))))
 (kIf (c := x1.fKind == 2) (kC (sh := eI) (WE x1) fun v11 => (kC (sh := eI) (NO (wr (v8.fN * v11)) v8.fD x1.fRound) fun v12 => (kC (sh := Qk) (DY x1 v12) fun v13 => (kEr (enc := Qo) (v13, (0 : Int))))))
 (kEr (enc := Qo) (v8, (0 : Int))))))
 (kW (sh := Qk) (gVal.mk (0 : Int) (0 : Int)) lr fun v14 => (kEr (enc := Qo) (v14, (1 : Int))))))) h)
def DQ (x0 : Qg) (x1 : gVal) : Option Bool :=
 XC x0 >>= fun v0 => if v0 then
 Kl x0 x1 >>= fun v1 =>
 some v1
 else
 some false
theorem Id (x0 : Qg) (x1 : gVal) (r : Bool) (h : DQ x0 x1 = some r) : PU 123 [Qy x0, Qk x1] (eB r) :=
 Pu2 (hs := [(6, .cb), (10, .c eB)]) ((kCb (Up x0) (kC (sh := eB) (DG x0 x1) fun v1 => (kEr (enc := eB) v1))
 (kEr (enc := eB) false)) h)
def ZH (x0 : gVal) : Option Bool :=
 some ((Qg.mk (1 : Int) (0 : Int) (0 : Int) (0 : Int) (0 : Int))) >>= fun v0 =>
 Kl v0 x0 >>= fun v1 =>
 some v1
theorem Y9 (x0 : gVal) (r : Bool) (h : ZH x0 = some r) : PU 148 [Qk x0] (eB r) :=
 Pu2 (hs := [(3, .n Qy 3 none), (5, .c eB)]) ((kW (sh := Qy) (Qg.mk (1 : Int) (0 : Int) (0 : Int) (0 : Int) (0 : Int)) lr fun v0 => (kC (sh := eB) (DG v0 x0) fun v1 => (kEr (enc := eB) v1))) h)
def G4 (x0 : Int) (x1 : Int) : Option Int :=
 if x0 < x1 then
 some (-1 : Int)
 else
 if x1 < x0 then
 some (1 : Int)
 else
 some (0 : Int)
theorem NN (x0 : Int) (x1 : Int) (r : Int) (h : G4 x0 x1 = some r) : PU 149 [eI x0, eI x1] (eI r) :=
 Pu2 (hs := [(7, .split), (10, .split)]) ((kIfD (p := x0 < x1) (kEr (enc := eI) (-1 : Int))
 (kIfD (p := x1 < x0) (kEr (enc := eI) (1 : Int))
 (kEr (enc := eI) (0 : Int)))) h)
def KQ (s : (gVal × gVal)) (u : Unit) (o : Bool) : List Alt := jb o (fun b => [.ptr 0 0 0, .ptr 1 0 0, .bool b]) [.cells 0 (Qk (s.1)).cells, .cells 0 (Qk (s.2)).cells]
def C4 (x0 : gVal) (x1 : gVal) : Option Int :=
 some () >>= fun v0 =>
 (ZH x0 >>= fun v2 => if v2 then
 ZH x1 >>= fun v3 => if v3 then
 some true
 else
 some false
 else
 some false) >>= fun v1 => if v1 then
 G4 (wr (x0.fN * x1.fD)) (wr (x1.fN * x0.fD)) >>= fun v5 =>
 some v5
 else
 if x0.fN != x1.fN then
 G4 x0.fN x1.fN >>= fun v7 =>
 some v7
 else
 G4 x0.fD x1.fD >>= fun v8 =>
 some v8
theorem T0 (x0 : gVal) (x1 : gVal) (r : Int) (h : C4 x0 x1 = some r) : PU 124 [Qk x0, Qk x1] (eI r) :=
 Pu2 (hs := [(6, .cb), (9, .cb), (21, .c eI), (26, .split), (31, .c eI), (36, .c eI), (5000001, .l [] [] [] [2, 3, 10] [kk 2, kk 3] (KQ (x0, x1)))]) ((kJb (id := 5000001) () (fun v0 ev0 v1 => (kCb (Y9 x0) (kCb (Y9 x1) (kXj (alts := KQ (x0, x1)) ev0 true (.here () rfl (.refl _) (.refl _)))
 (kXj (alts := KQ (x0, x1)) ev0 false (.next (.here () rfl (.refl _) (.refl _)))))
 (kXj (alts := KQ (x0, x1)) ev0 false (.next (.here () rfl (.refl _) (.refl _))))))
 (fun v0 => (kC (sh := eI) (NN (wr (x0.fN * x1.fD)) (wr (x1.fN * x0.fD))) fun v5 => (kEr (enc := eI) v5)))
 (fun v0 => (kIf (c := x0.fN != x1.fN) (kC (sh := eI) (NN x0.fN x1.fN) fun v7 => (kEr (enc := eI) v7))
 (kC (sh := eI) (NN x0.fD x1.fD) fun v8 => (kEr (enc := eI) v8))))) h)
def KR (s : (gVal × gVal)) (u : Unit) (o : Bool) : List Alt := jb o (fun b => [.ptr 0 0 0, .ptr 1 0 0, .bool b]) [.cells 0 (Qk (s.1)).cells, .cells 0 (Qk (s.2)).cells]
def Gp (x0 : Qg) (x1 : gVal) (x2 : gVal) : Option Int :=
 some () >>= fun v0 =>
 (DQ x0 x1 >>= fun v2 => if v2 then
 DQ x0 x2 >>= fun v3 => if v3 then
 some false
 else
 some true
 else
 some true) >>= fun v1 => if v1 then
 some (0 : Int)
 else
 C4 x1 x2 >>= fun v6 =>
 some v6
theorem MM (x0 : Qg) (x1 : gVal) (x2 : gVal) (r : Int) (h : Gp x0 x1 x2 = some r) : PU 102 [Qy x0, Qk x1, Qk x2] (eI r) :=
 Pu2 (hs := [(9, .cb), (14, .cb), (19, .c eI), (5000001, .l [] [] [] [4, 5, 16] [kk 4, kk 5] (KR (x1, x2)))]) ((kJb (id := 5000001) () (fun v0 ev0 v1 => (kCb (Id x0 x1) (kCb (Id x0 x2) (kXj (alts := KR (x1, x2)) ev0 false (.next (.here () rfl (.refl _) (.refl _))))
 (kXj (alts := KR (x1, x2)) ev0 true (.here () rfl (.refl _) (.refl _))))
 (kXj (alts := KR (x1, x2)) ev0 true (.here () rfl (.refl _) (.refl _)))))
 (fun v0 => (kEr (enc := eI) (0 : Int)))
 (fun v0 => (kC (sh := eI) (T0 x1 x2) fun v6 => (kEr (enc := eI) v6)))) h)
def Dv (s : Qg) (u : gVal) (o : (Int × Int)) : List Alt := [⟨fun (x : (Int × Int)) => x = o, .normal, fun x => [ii (x.1), ii (x.2), .ptr 0 0 0, .ptr 1 0 0], fun x => [.cells 0 (Qy s).cells, .cells 0 (Qk u).cells]⟩]
def Nn (x0 : Int) (x1 : Qg) (x2 : Int) (x3 : Int) : Option (gVal × Int) :=
 if x0 == 4 then
 J7 x1 (wr (x2 + x3)) >>= fun v0 =>
 some (v0, (0 : Int))
 else
 if x0 == 5 then
 J7 x1 (wr (x2 - x3)) >>= fun v1 =>
 some (v1, (0 : Int))
 else
 if x0 == 6 then
 UK x1 >>= fun v2 =>
 G5 (wr (x2 * x3)) v2 x1.fRound >>= fun v3 =>
 J7 x1 v3 >>= fun v4 =>
 some (v4, (0 : Int))
 else
 if x0 == 8 then
 J7 x1 (wr ((0 : Int) - x2)) >>= fun v5 =>
 some (v5, (0 : Int))
 else
 if x3 == 0 then
 some ((gVal.mk (0 : Int) (0 : Int))) >>= fun v6 =>
 some (v6, (4 : Int))
 else
 some (gVal.mk (0 : Int) (0 : Int)) >>= fun v7 =>
 (if x3 < 0 then
 some (wr ((0 : Int) - x2) : Int) >>= fun v9 =>
 some (wr ((0 : Int) - x3) : Int) >>= fun v10 =>
 some (v9, v10)
 else
 some (x2, x3)) >>= fun v11 =>
 UK x1 >>= fun v12 =>
 G5 (wr (v11.fst * v12)) v11.snd x1.fRound >>= fun v13 =>
 J7 x1 v13 >>= fun v14 =>
 some (v14, (0 : Int))
theorem OG (x0 : Int) (x1 : Qg) (x2 : Int) (x3 : Int) (r : (gVal × Int)) (h : Nn x0 x1 x2 x3 = some r) : PU 141 [eI x0, Qy x1, eI x2, eI x3] (Qo r) :=
 Pu2 (hs := [(12, .split), (17, .c Qk), (19, .split), (24, .c Qk), (26, .split), (32, .c eI), (35, .c eI), (36, .c Qk), (38, .split), (42, .c Qk), (44, .split), (45, .n Qk 45 none), (47, .split), (2, .n eI 2 none), (3, .n eI 3 none), (55, .c eI), (60, .c eI), (61, .c Qk), (6000014, .l [] [] [] [2, 3, 5, 8] [kk 5, kk 8] (Dv x1))]) ((kIf (c := x0 == 4) (kC (sh := Qk) (DY x1 (wr (x2 + x3))) fun v0 => (kEr (enc := Qo) (v0, (0 : Int))))
 (kIf (c := x0 == 5) (kC (sh := Qk) (DY x1 (wr (x2 - x3))) fun v1 => (kEr (enc := Qo) (v1, (0 : Int))))
 (kIf (c := x0 == 6) (kC (sh := eI) (WE x1) fun v2 => (kC (sh := eI) (NO (wr (x2 * x3)) v2 x1.fRound) fun v3 => (kC (sh := Qk) (DY x1 v3) fun v4 => (kEr (enc := Qo) (v4, (0 : Int))))))
 (kIf (c := x0 == 8) (kC (sh := Qk) (DY x1 (wr ((0 : Int) - x2))) fun v5 => (kEr (enc := Qo) (v5, (0 : Int))))
 (kIf (c := x3 == 0) (kW (sh := Qk) (gVal.mk (0 : Int) (0 : Int)) lr fun v6 => (kEr (enc := Qo) (v6, (4 : Int))))
 (kJ1 (id := 6000014) (gVal.mk (0 : Int) (0 : Int)) (fun v7 ev7 v8 => (kIfD (p := x3 < 0) (kN (wr ((0 : Int) - x2)) rfl fun v9 => (kN (wr ((0 : Int) - x3)) rfl fun v10 => (kXj (alts := Dv x1) ev7 (v9, v10) (.here _ rfl (.refl _) (.refl _)))))
 (kXj (alts := Dv x1) ev7 (x2, x3) (.here _ rfl (.refl _) (.refl _)))))
 (fun v7 v11 => (kC (sh := eI) (WE x1) fun v12 => (kC (sh := eI) (NO (wr (v11.fst * v12)) v11.snd x1.fRound) fun v13 => (kC (sh := Qk) (DY x1 v13) fun v14 => (kEr (enc := Qo) (v14, (0 : Int))))))))))))) h)
def GD (s : Unit) (u : gVal) (o : (Int × Int)) : List Alt := [⟨fun (x : (Int × Int)) => x = o, .normal, fun x => [ii (x.1), ii (x.2), .ptr 0 0 0], fun x => [.cells 0 (Qk u).cells]⟩]
def QO (s : Unit) (u : (gVal × Int)) (o : Bool) : List Alt := jb o (fun b => [.ptr 0 0 0, ii (u.2), .bool b]) [.cells 0 (Qk (u.1)).cells]
end Go.Proofs.YtokfigmmegifeaaGreat
end
