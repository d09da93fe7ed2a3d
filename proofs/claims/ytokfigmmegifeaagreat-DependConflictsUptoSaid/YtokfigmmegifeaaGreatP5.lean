/- Proved in the last of these texts: for every input of bulk at most 1048576 the law returns true and its arguments read afterwards as they read before. This text: a part of the proof. -/
import Derived.Test.YtokfigmmegifeaaGreatP4
noncomputable section
namespace Go.Proofs.YtokfigmmegifeaaGreat
open Go HY
set_option maxRecDepth 1000000
set_option linter.unusedVariables false
def UW (s : (Int × Q2)) (u : Int) (o : Int) : List Alt := [⟨fun (x : Int) => x = o, .exit 2, fun x => [ii s.1, .ptr 0 0 0, ii x, ii u], fun x => [.cells 0 (Q8 s.2).cells]⟩]
def Jc (s : (Int × Q2 × Int)) (u : (Int × Int)) (o : Bool) : List Alt := jb o (fun b => [ii (s.1), .ptr 0 0 0, ii (u.1), ii (s.2.2), ii (u.2), .bool b]) [.cells 0 (Q8 (s.2.1)).cells]
def Ye (x1 : Int) (x2 : Q2) (x5 : Int) (x6 : Int) (x7 : Int) : Option Int :=
 some (x5, x7) >>= fun v0 =>
 (ix x2.fIdx x6 >>= fun v2 =>
 some (List.length v2.fAt : Int) >>= fun v3 =>
 if x7 < v3 then
 if x5 ≤ x1 then
 some true
 else
 some false
 else
 some false) >>= fun v1 => if v1 then
 ix x2.fIdx x6 >>= fun v5 =>
 ix v5.fAt v0.snd >>= fun v6 =>
 some (List.length v6.fL : Int) >>= fun v7 =>
 some (wr (v0.fst + v7) : Int) >>= fun v8 =>
 Ye x1 x2 v8 x6 (wr (v0.snd + (1 : Int)))
 else
 some v0.fst
 partial_fixpoint
theorem Rk (x1 : Int) (x2 : Q2) (x5 : Int) (x6 : Int) (x7 : Int) (o : Int) (h : Ye x1 x2 x5 x6 x7 = some o) : LO 44 7 101 [1, 2, 5, 6, 7] [ii x1, .ptr 0 0 0, ii x5, ii x6, ii x7] [.cells 0 (Q8 x2).cells] [1, 2, 5, 6] (UW (x1, x2) x6 o) :=
 Ye.partial_correctness x1 x2 x6 (fun x5 x7 o => LO 44 7 101 [1, 2, 5, 6, 7] [ii x1, .ptr 0 0 0, ii x5, ii x6, ii x7] [.cells 0 (Q8 x2).cells] [1, 2, 5, 6] (UW (x1, x2) x6 o))
 (fun Ye Q1p x5 x7 o h  =>
 Lp2 (hs := [(5, .n eI 5 none), (5, .n eI 5 none), (52, .e Q4), (55, .n eI 55 none), (56, .split), (60, .split), (68, .e Q4), (72, .e Qj), (75, .n eI 75 none), (5, .n eI 5 none), (5, .n eI 5 none), (5000007, .l [] [] [] [1, 2, 5, 6, 7, 61] [kk 2] (Jc (x1, x2, x6)))]) (kb := [kk 2]) (kbx := [kk 2]) ((kJb (id := 5000007) (x5, x7) (fun v0 ev0 v1 => (kIx (enc := Q4) (l := x2.fIdx) (k := x6) fun v2 => (kN _ (mLen (sh := Qj) v2.fAt) fun v3 => (kIfD (p := x7 < v3) (kIfD (p := x5 ≤ x1) (kXj (alts := Jc (x1, x2, x6)) ev0 true (.here () rfl (.refl _) (.refl _)))
 (kXj (alts := Jc (x1, x2, x6)) ev0 false (.next (.here () rfl (.refl _) (.refl _)))))
 (kXj (alts := Jc (x1, x2, x6)) ev0 false (.next (.here () rfl (.refl _) (.refl _))))))))
 (fun v0 => (kIx (enc := Q4) (l := x2.fIdx) (k := x6) fun v5 => (kIx (enc := Qj) (l := v5.fAt) (k := v0.snd) fun v6 => (kN _ (mLen (sh := Qf) v6.fL) fun v7 => (kN (wr (v0.fst + v7)) rfl fun v8 => (kM0 (alts := UW (x1, x2) x6) (Q1p v8 (wr (v0.snd + (1 : Int))))))))))
 (fun v0 => (kX (alts := UW (x1, x2) x6) v0.fst (.here _ rfl (.refl _) (.refl _))))) h)) x5 x7 o h
def UV (s : (Int × Q2)) (u : Unit) (o : Int) : List Alt := [⟨fun (x : Int) => x = o, .exit 0, fun x => [ii s.1, .ptr 0 0 0, ii x], fun x => [.cells 0 (Q8 s.2).cells]⟩]
def Jb (s : (Int × Q2)) (u : (Int × Int)) (o : Bool) : List Alt := jb o (fun b => [ii (s.1), .ptr 0 0 0, ii (u.1), ii (u.2), .bool b]) [.cells 0 (Q8 (s.2)).cells]
def Yd (x1 : Int) (x2 : Q2) (x5 : Int) (x6 : Int) : Option Int :=
 some (x5, x6) >>= fun v0 =>
 (some (List.length x2.fIdx : Int) >>= fun v2 =>
 if x6 < v2 then
 if x5 ≤ x1 then
 some true
 else
 some false
 else
 some false) >>= fun v1 => if v1 then
 ix x2.fIdx v0.snd >>= fun v4 =>
 ix x2.fIdx v0.snd >>= fun v5 =>
 some (List.length v4.fLin.fL : Int) >>= fun v6 =>
 some (List.length v5.fAt : Int) >>= fun v7 =>
 some (wr (wr (v0.fst + (↑(List.map Qf v4.fLin.fL).length : Int)) + v7) : Int) >>= fun v8 =>
 some v0.snd >>= fun v9 =>
 Ye x1 x2 v8 v0.snd (0 : Int) >>= fun v11 =>
 Yd x1 x2 v11 (wr (v9 + (1 : Int)))
 else
 some v0.fst
 partial_fixpoint
theorem Rj (x1 : Int) (x2 : Q2) (x5 : Int) (x6 : Int) (o : Int) (h : Yd x1 x2 x5 x6 = some o) : LO 44 3 101 [1, 2, 5, 6] [ii x1, .ptr 0 0 0, ii x5, ii x6] [.cells 0 (Q8 x2).cells] [1, 2, 5] (UV (x1, x2) () o) :=
 Yd.partial_correctness x1 x2 (fun x5 x6 o => LO 44 3 101 [1, 2, 5, 6] [ii x1, .ptr 0 0 0, ii x5, ii x6] [.cells 0 (Q8 x2).cells] [1, 2, 5] (UV (x1, x2) () o))
 (fun Yd Q1o x5 x6 o h  =>
 Lp2 (hs := [(5, .n eI 5 none), (21, .n eI 21 none), (22, .split), (26, .split), (34, .e Q4), (38, .n eI 38 none), (43, .e Q4), (46, .n eI 46 none), (5, .n eI 5 none), (5, .n eI 5 none), (5, .n eI 5 none), (3000008, .l [] [1, 2, 5, 6, 7] [kk 2] [1, 2, 5, 6] [kk 2] (UW (x1, x2))), (5000003, .l [] [] [] [1, 2, 5, 6, 27] [kk 2] (Jb (x1, x2)))]) (kb := [kk 2]) (kbx := [kk 2]) ((kJb (id := 5000003) (x5, x6) (fun v0 ev0 v1 => (kN _ (mLen (sh := Q4) x2.fIdx) fun v2 => (kIfD (p := x6 < v2) (kIfD (p := x5 ≤ x1) (kXj (alts := Jb (x1, x2)) ev0 true (.here () rfl (.refl _) (.refl _)))
 (kXj (alts := Jb (x1, x2)) ev0 false (.next (.here () rfl (.refl _) (.refl _)))))
 (kXj (alts := Jb (x1, x2)) ev0 false (.next (.here () rfl (.refl _) (.refl _)))))))
 (fun v0 => (kIx (enc := Q4) (l := x2.fIdx) (k := v0.snd) fun v4 => (kIx (enc := Q4) (l := x2.fIdx) (k := v0.snd) fun v5 => (kN _ (mLen (sh := Qf) v4.fLin.fL) fun v6 => (kN _ (mLen (sh := Qj) v5.fAt) fun v7 => (kN (wr (wr (v0.fst + (↑(List.map Qf v4.fLin.fL).length : Int)) + v7)) rfl fun v8 => (kL1 v0.snd (Rk x1 x2 v8 v0.snd (0 : Int)) fun v9 v11 => (kM0 (alts := UV (x1, x2) ()) (Q1o v11 (wr (v9 + (1 : Int))))))))))))
 (fun v0 => (kX (alts := UV (x1, x2) ()) v0.fst (.here _ rfl (.refl _) (.refl _))))) h)) x5 x6 o h
def Un (s : (Int × Q2)) (u : Unit) (o : Int) : List Alt := [⟨fun (x : Int) => x = o, .exit 4, fun x => [ii x], fun x => []⟩]
def Jd (s : (Int × Q2)) (u : (Int × Int)) (o : Bool) : List Alt := jb o (fun b => [ii (s.1), .ptr 0 0 0, ii (u.1), ii (u.2), .bool b]) [.cells 0 (Q8 (s.2)).cells]
mutual
def K1 (x0 : Q2) (x1 : Int) : Option Int :=
 some (List.length x0.fLin.fL : Int) >>= fun v0 =>
 some (List.length x0.fIdx : Int) >>= fun v1 =>
 some (wr (wr ((1 : Int) + v0) + v1) : Int) >>= fun v2 =>
 some () >>= fun v3 =>
 Yd x1 x0 v2 (0 : Int) >>= fun v5 =>
 some () >>= fun v6 =>
 XN x1 x0 v5 (0 : Int) >>= fun v8 =>
 some v8
 partial_fixpoint
def XN (x1 : Int) (x2 : Q2) (x5 : Int) (x8 : Int) : Option Int :=
 some (x5, x8) >>= fun v0 =>
 (some (List.length x2.fArgs : Int) >>= fun v2 =>
 if x8 < v2 then
 if x5 ≤ x1 then
 some true
 else
 some false
 else
 some false) >>= fun v1 => if v1 then
 Option.map Qb.f (ix x2.fArgs v0.snd) >>= fun v4 =>
 K1 v4 (wr (x1 - v0.fst)) >>= fun v5 =>
 some (wr (v0.fst + v5) : Int) >>= fun v6 =>
 XN x1 x2 v6 (wr (v0.snd + (1 : Int)))
 else
 some v0.fst
 partial_fixpoint
end
theorem SC  : (∀ (x0 : Q2) (x1 : Int) (r : Int), K1 x0 x1 = some r → PU 44 [Q8 x0, eI x1] (eI r)) ∧ (∀ (x1 : Int) (x2 : Q2) (x5 : Int) (x8 : Int) (o : Int), XN x1 x2 x5 x8 = some o → LO 44 11 101 [1, 2, 5, 8] [ii x1, .ptr 0 0 0, ii x5, ii x8] [.cells 0 (Q8 x2).cells] [5] (Un (x1, x2) () o)) :=
 K1.mutual_partial_correctness  (fun x0 x1 r => PU 44 [Q8 x0, eI x1] (eI r)) (fun x1 x2 x5 x8 o => LO 44 11 101 [1, 2, 5, 8] [ii x1, .ptr 0 0 0, ii x5, ii x8] [.cells 0 (Q8 x2).cells] [5] (Un (x1, x2) () o))
 (fun XN Q1n x0 x1 r h  =>
 Pu2 (hs := [(12, .n eI 12 none), (16, .n eI 16 none), (5, .n eI 5 none), (5, .n eI 5 none), (5, .n eI 5 none), (5, .n eI 5 none), (3000012, .l [] [1, 2, 5, 8] [kk 2] [5] [] (Un (x1, x0))), (3000004, .l [] [1, 2, 5, 6] [kk 2] [1, 2, 5] [kk 2] (UV (x1, x0)))]) ((kN _ (mLen (sh := Qf) x0.fLin.fL) fun v0 => (kN _ (mLen (sh := Q4) x0.fIdx) fun v1 => (kN (wr (wr ((1 : Int) + v0) + v1)) rfl fun v2 => (kL1 () (Rj x1 x0 v2 (0 : Int)) fun v3 v5 => (kL1 () (Q1n x1 x0 v5 (0 : Int)) fun v6 v8 => (kEr (enc := eI) v8)))))) h))
 (fun K1 XN Q1k Q1n x1 x2 x5 x8 o h  =>
 Lp2 (hs := [(5, .n eI 5 none), (5, .n eI 5 none), (5, .n eI 5 none), (80, .n eI 80 none), (81, .split), (85, .split), (93, .e Q8), (98, .c eI), (5, .n eI 5 none), (5000011, .l [] [] [] [1, 2, 5, 8, 86] [kk 2] (Jd (x1, x2)))]) (kb := [kk 2]) (kbx := []) ((kJb (id := 5000011) (x5, x8) (fun v0 ev0 v1 => (kN _ (mLen (sh := Qm) x2.fArgs) fun v2 => (kIfD (p := x8 < v2) (kIfD (p := x5 ≤ x1) (kXj (alts := Jd (x1, x2)) ev0 true (.here () rfl (.refl _) (.refl _)))
 (kXj (alts := Jd (x1, x2)) ev0 false (.next (.here () rfl (.refl _) (.refl _)))))
 (kXj (alts := Jd (x1, x2)) ev0 false (.next (.here () rfl (.refl _) (.refl _)))))))
 (fun v0 => (kIxR (l := x2.fArgs) (k := v0.snd) QS fun v4 => (kC (sh := eI) (Q1k v4 (wr (x1 - v0.fst))) fun v5 => (kN (wr (v0.fst + v5)) rfl fun v6 => (kM0 (alts := Un (x1, x2) ()) (Q1n x1 x2 v6 (wr (v0.snd + (1 : Int)))))))))
 (fun v0 => (kX (alts := Un (x1, x2) ()) v0.fst (.here _ rfl (.refl _) (.refl _))))) h))
theorem If (x0 : Q2) (x1 : Int) (r : Int) (h : K1 x0 x1 = some r) : PU 44 [Q8 x0, eI x1] (eI r) := (SC ).1 x0 x1 r h
def KE (s : ((List Q9) × Int)) (u : Unit) (o : Int) : List Alt := [⟨fun (x : Int) => x = o, .exit 0, fun x => [ii x], fun x => []⟩]
def K6 (s : ((List Q9) × Int)) (u : (Int × Int)) (o : Bool) : List Alt := jb o (fun b => [.sl 20 (List.map Qq (s.1)), ii (s.2), ii (u.1), ii (u.2), .bool b]) []
mutual
def Y7 (x0 : List Q9) (x1 : Int) : Option Int :=
 some (List.length x0 : Int) >>= fun v0 =>
 some (v0 : Int) >>= fun v1 =>
 some () >>= fun v2 =>
 Zq x0 x1 v1 (0 : Int) >>= fun v4 =>
 some v4
 partial_fixpoint
def Zq (x0 : List Q9) (x1 : Int) (x5 : Int) (x6 : Int) : Option Int :=
 some (x5, x6) >>= fun v0 =>
 (some (List.length x0 : Int) >>= fun v2 =>
 if x6 < v2 then
 if x5 ≤ x1 then
 some true
 else
 some false
 else
 some false) >>= fun v1 => if v1 then
 Option.map Q9.f (ix x0 v0.snd) >>= fun v4 =>
 K1 v4.fExpr x1 >>= fun v5 =>
 Option.map Q9.f (ix x0 v0.snd) >>= fun v6 =>
 K1 (QO.mk (0 : Int) [] (gVal.mk (0 : Int) (0 : Int)) (Qi.mk (0 : Int) (0 : Int) (0 : Int) (0 : Int) (0 : Int)) (gLin.mk (0 : Int) []) v6.fIdx [] : Q2) x1 >>= fun v7 =>
 Option.map Q9.f (ix x0 v0.snd) >>= fun v8 =>
 Y7 v8.fBody (if true = true then max (0 : Int) (wr (x1 - v0.fst)) else min (0 : Int) (wr (x1 - v0.fst))) >>= fun v9 =>
 some ((QO.mk (0 : Int) [] (gVal.mk (0 : Int) (0 : Int)) (Qi.mk (0 : Int) (0 : Int) (0 : Int) (0 : Int) (0 : Int)) (gLin.mk (0 : Int) []) v6.fIdx [] : Q2)) >>= fun v10 =>
 some (wr (wr (wr (v0.fst + v5) + v7) + v9) : Int) >>= fun v11 =>
 Zq x0 x1 v11 (wr (v0.snd + (1 : Int)))
 else
 some v0.fst
 partial_fixpoint
end
theorem Id  : (∀ (x0 : List Q9) (x1 : Int) (r : Int), Y7 x0 x1 = some r → PU 26 [Zf x0, eI x1] (eI r)) ∧ (∀ (x0 : List Q9) (x1 : Int) (x5 : Int) (x6 : Int) (o : Int), Zq x0 x1 x5 x6 = some o → LO 26 3 50 [0, 1, 5, 6] [.sl 20 (List.map Qq x0), ii x1, ii x5, ii x6] [] [5] (KE (x0, x1) () o)) :=
 Y7.mutual_partial_correctness  (fun x0 x1 r => PU 26 [Zf x0, eI x1] (eI r)) (fun x0 x1 x5 x6 o => LO 26 3 50 [0, 1, 5, 6] [.sl 20 (List.map Qq x0), ii x1, ii x5, ii x6] [] [5] (KE (x0, x1) () o))
 (fun Zq Q1m x0 x1 r h  =>
 Pu2 (hs := [(8, .n eI 8 none), (5, .n eI 5 none), (3000004, .l [] [0, 1, 5, 6] [] [5] [] (KE (x0, x1)))]) ((kN _ (mLen (sh := Qq) x0) fun v0 => (kN v0 rfl fun v1 => (kL1 () (Q1m x0 x1 v1 (0 : Int)) fun v2 v4 => (kEr (enc := eI) v4)))) h))
 (fun Y7 Zq Q1l Q1m x0 x1 x5 x6 o h  =>
 Lp2 (hs := [(11, .n eI 11 none), (12, .split), (16, .split), (23, .e Qn), (27, .c eI), (31, .e Qn), (34, .n Q8 34 none), (36, .c eI), (40, .e Qn), (47, .c eI), (5, .n eI 5 none), (5000003, .l [] [] [] [0, 1, 5, 6, 17] [] (K6 (x0, x1)))]) (kb := []) (kbx := []) ((kJb (id := 5000003) (x5, x6) (fun v0 ev0 v1 => (kN _ (mLen (sh := Qq) x0) fun v2 => (kIfD (p := x6 < v2) (kIfD (p := x5 ≤ x1) (kXj (alts := K6 (x0, x1)) ev0 true (.here () rfl (.refl _) (.refl _)))
 (kXj (alts := K6 (x0, x1)) ev0 false (.next (.here () rfl (.refl _) (.refl _)))))
 (kXj (alts := K6 (x0, x1)) ev0 false (.next (.here () rfl (.refl _) (.refl _)))))))
 (fun v0 => (kIxR (l := x0) (k := v0.snd) QW fun v4 => (kC (sh := eI) (If v4.fExpr x1) fun v5 => (kIxR (l := x0) (k := v0.snd) QW fun v6 => (kC (sh := eI) (fun y hy => Pu.le (If (QO.mk (0 : Int) [] (gVal.mk (0 : Int) (0 : Int)) (Qi.mk (0 : Int) (0 : Int) (0 : Int) (0 : Int) (0 : Int)) (gLin.mk (0 : Int) []) v6.fIdx [] : Q2) x1 y hy) (.cons (LeT.agg (.cons (LeT.refl (ii (0 : Int))) (.cons (LeT.refl (AV.str [])) (.cons (LeT.refl (ii (0 : Int))) (.cons (LeT.refl (ii (0 : Int))) (.cons (LeT.refl (ii (0 : Int))) (.cons (LeT.refl (ii (0 : Int))) (.cons (LeT.refl (ii (0 : Int))) (.cons (LeT.refl (ii (0 : Int))) (.cons (LeT.refl (ii (0 : Int))) (.cons (LeT.refl (ii (0 : Int))) (.cons (LeT.nil 2) (.cons (LeT.refl (AV.sl (4 : Nat) (List.map Q4 v6.fIdx))) (.cons (LeT.nil 13) .nil)))))))))))))) (.cons (LeT.refl (ii x1)) .nil)) (LeT.refl _)) fun v7 => (kIxR (l := x0) (k := v0.snd) QW fun v8 => (kC (sh := eI) (Q1l v8.fBody (if true = true then max (0 : Int) (wr (x1 - v0.fst)) else min (0 : Int) (wr (x1 - v0.fst)))) fun v9 => (kW (sh := Q8) (QO.mk (0 : Int) [] (gVal.mk (0 : Int) (0 : Int)) (Qi.mk (0 : Int) (0 : Int) (0 : Int) (0 : Int) (0 : Int)) (gLin.mk (0 : Int) []) v6.fIdx [] : Q2) (LeV.agg (.cons (LeV.refl (ii (0 : Int))) (.cons (LeV.refl (AV.str [])) (.cons (LeV.refl (ii (0 : Int))) (.cons (LeV.refl (ii (0 : Int))) (.cons (LeV.refl (ii (0 : Int))) (.cons (LeV.refl (ii (0 : Int))) (.cons (LeV.refl (ii (0 : Int))) (.cons (LeV.refl (ii (0 : Int))) (.cons (LeV.refl (ii (0 : Int))) (.cons (LeV.refl (ii (0 : Int))) (.cons (LeV.nil 2) (.cons (LeV.refl (AV.sl (4 : Nat) (List.map Q4 v6.fIdx))) (.cons (LeV.nil 13) .nil)))))))))))))) fun v10 => (kN (wr (wr (wr (v0.fst + v5) + v7) + v9)) rfl fun v11 => (kM0 (alts := KE (x0, x1) ()) (Q1m x0 x1 v11 (wr (v0.snd + (1 : Int))))))))))))))
 (fun v0 => (kX (alts := KE (x0, x1) ()) v0.fst (.here _ rfl (.refl _) (.refl _))))) h))
theorem HA (x0 : List Q9) (x1 : Int) (r : Int) (h : Y7 x0 x1 = some r) : PU 26 [Zf x0, eI x1] (eI r) := (Id ).1 x0 x1 r h
def Us (s : ((List Q9) × Int)) (u : Unit) (o : Int) : List Alt := [⟨fun (x : Int) => x = o, .exit 0, fun x => [ii x], fun x => []⟩]
def VR (s : ((List Q9) × Int)) (u : (Int × Int)) (o : Bool) : List Alt := jb o (fun b => [.sl 20 (List.map Qq (s.1)), ii (s.2), ii (u.1), ii (u.2), .bool b]) []
mutual
def V5 (x0 : List Q9) (x1 : Int) : Option Int :=
 some () >>= fun v0 =>
 X4 x0 x1 (0 : Int) (0 : Int) >>= fun v2 =>
 some v2
 partial_fixpoint
def X4 (x0 : List Q9) (x1 : Int) (x5 : Int) (x6 : Int) : Option Int :=
 some (x5, x6) >>= fun v0 =>
 (some (List.length x0 : Int) >>= fun v2 =>
 if x6 < v2 then
 if (0 : Int) < x1 then
 some true
 else
 some false
 else
 some false) >>= fun v1 => if v1 then
 Option.map Q9.f (ix x0 v0.snd) >>= fun v4 =>
 V5 v4.fBody (wr (x1 - (1 : Int))) >>= fun v5 =>
 X4 x0 x1 (if true = true then max v0.fst (wr ((1 : Int) + v5)) else min v0.fst (wr ((1 : Int) + v5))) (wr (v0.snd + (1 : Int)))
 else
 some v0.fst
 partial_fixpoint
end
theorem Tp  : (∀ (x0 : List Q9) (x1 : Int) (r : Int), V5 x0 x1 = some r → PU 27 [Zf x0, eI x1] (eI r)) ∧ (∀ (x0 : List Q9) (x1 : Int) (x5 : Int) (x6 : Int) (o : Int), X4 x0 x1 x5 x6 = some o → LO 27 3 29 [0, 1, 5, 6] [.sl 20 (List.map Qq x0), ii x1, ii x5, ii x6] [] [5] (Us (x0, x1) () o)) :=
 V5.mutual_partial_correctness  (fun x0 x1 r => PU 27 [Zf x0, eI x1] (eI r)) (fun x0 x1 x5 x6 o => LO 27 3 29 [0, 1, 5, 6] [.sl 20 (List.map Qq x0), ii x1, ii x5, ii x6] [] [5] (Us (x0, x1) () o))
 (fun X4 Q3b x0 x1 r h  =>
 Pu2 (hs := [(3000004, .l [] [0, 1, 5, 6] [] [5] [] (Us (x0, x1)))]) ((kL1 () (Q3b x0 x1 (0 : Int) (0 : Int)) fun v0 v2 => (kEr (enc := eI) v2)) h))
 (fun V5 X4 Q3a Q3b x0 x1 x5 x6 o h  =>
 Lp2 (hs := [(9, .n eI 9 none), (10, .split), (13, .split), (20, .e Qn), (25, .c eI), (5000003, .l [] [] [] [0, 1, 5, 6, 14] [] (VR (x0, x1)))]) (kb := []) (kbx := []) ((kJb (id := 5000003) (x5, x6) (fun v0 ev0 v1 => (kN _ (mLen (sh := Qq) x0) fun v2 => (kIfD (p := x6 < v2) (kIfD (p := (0 : Int) < x1) (kXj (alts := VR (x0, x1)) ev0 true (.here () rfl (.refl _) (.refl _)))
 (kXj (alts := VR (x0, x1)) ev0 false (.next (.here () rfl (.refl _) (.refl _)))))
 (kXj (alts := VR (x0, x1)) ev0 false (.next (.here () rfl (.refl _) (.refl _)))))))
 (fun v0 => (kIxR (l := x0) (k := v0.snd) QW fun v4 => (kC (sh := eI) (Q3a v4.fBody (wr (x1 - (1 : Int)))) fun v5 => (kM0 (alts := Us (x0, x1) ()) (Q3b x0 x1 (if true = true then max v0.fst (wr ((1 : Int) + v5)) else min v0.fst (wr ((1 : Int) + v5))) (wr (v0.snd + (1 : Int))))))))
 (fun v0 => (kX (alts := Us (x0, x1) ()) v0.fst (.here _ rfl (.refl _) (.refl _))))) h))
theorem A2 (x0 : List Q9) (x1 : Int) (r : Int) (h : V5 x0 x1 = some r) : PU 27 [Zf x0, eI x1] (eI r) := (Tp ).1 x0 x1 r h
def G1 (s : ((List Q9) × Int)) (u : Unit) (o : Int) : List Alt := [⟨fun (x : Int) => x = o, .exit 0, fun x => [ii x], fun x => []⟩]
def Js (s : ((List Q9) × Int)) (u : (Int × Int)) (o : Bool) : List Alt := jb o (fun b => [.sl 20 (List.map Qq (s.1)), ii (s.2), ii (u.1), ii (u.2), .bool b]) []
mutual
def J5 (x0 : List Q9) (x1 : Int) : Option Int :=
 some (List.length x0 : Int) >>= fun v0 =>
 some (v0 : Int) >>= fun v1 =>
 some () >>= fun v2 =>
 Yl x0 x1 v1 (0 : Int) >>= fun v4 =>
 some v4
 partial_fixpoint
def Yl (x0 : List Q9) (x1 : Int) (x5 : Int) (x6 : Int) : Option Int :=
 some (x5, x6) >>= fun v0 =>
 (some (List.length x0 : Int) >>= fun v2 =>
 if x6 < v2 then
 if x5 ≤ x1 then
 some true
 else
 some false
 else
 some false) >>= fun v1 => if v1 then
 Option.map Q9.f (ix x0 v0.snd) >>= fun v4 =>
 J5 v4.fBody (if true = true then max (0 : Int) (wr (x1 - v0.fst)) else min (0 : Int) (wr (x1 - v0.fst))) >>= fun v5 =>
 some (wr (v0.fst + v5) : Int) >>= fun v6 =>
 Yl x0 x1 v6 (wr (v0.snd + (1 : Int)))
 else
 some v0.fst
 partial_fixpoint
end
theorem SH  : (∀ (x0 : List Q9) (x1 : Int) (r : Int), J5 x0 x1 = some r → PU 28 [Zf x0, eI x1] (eI r)) ∧ (∀ (x0 : List Q9) (x1 : Int) (x5 : Int) (x6 : Int) (o : Int), Yl x0 x1 x5 x6 = some o → LO 28 3 33 [0, 1, 5, 6] [.sl 20 (List.map Qq x0), ii x1, ii x5, ii x6] [] [5] (G1 (x0, x1) () o)) :=
 J5.mutual_partial_correctness  (fun x0 x1 r => PU 28 [Zf x0, eI x1] (eI r)) (fun x0 x1 x5 x6 o => LO 28 3 33 [0, 1, 5, 6] [.sl 20 (List.map Qq x0), ii x1, ii x5, ii x6] [] [5] (G1 (x0, x1) () o))
 (fun Yl Q3f x0 x1 r h  =>
 Pu2 (hs := [(8, .n eI 8 none), (5, .n eI 5 none), (3000004, .l [] [0, 1, 5, 6] [] [5] [] (G1 (x0, x1)))]) ((kN _ (mLen (sh := Qq) x0) fun v0 => (kN v0 rfl fun v1 => (kL1 () (Q3f x0 x1 v1 (0 : Int)) fun v2 v4 => (kEr (enc := eI) v4)))) h))
 (fun J5 Yl Q3e Q3f x0 x1 x5 x6 o h  =>
 Lp2 (hs := [(11, .n eI 11 none), (12, .split), (16, .split), (23, .e Qn), (30, .c eI), (5, .n eI 5 none), (5000003, .l [] [] [] [0, 1, 5, 6, 17] [] (Js (x0, x1)))]) (kb := []) (kbx := []) ((kJb (id := 5000003) (x5, x6) (fun v0 ev0 v1 => (kN _ (mLen (sh := Qq) x0) fun v2 => (kIfD (p := x6 < v2) (kIfD (p := x5 ≤ x1) (kXj (alts := Js (x0, x1)) ev0 true (.here () rfl (.refl _) (.refl _)))
 (kXj (alts := Js (x0, x1)) ev0 false (.next (.here () rfl (.refl _) (.refl _)))))
 (kXj (alts := Js (x0, x1)) ev0 false (.next (.here () rfl (.refl _) (.refl _)))))))
 (fun v0 => (kIxR (l := x0) (k := v0.snd) QW fun v4 => (kC (sh := eI) (Q3e v4.fBody (if true = true then max (0 : Int) (wr (x1 - v0.fst)) else min (0 : Int) (wr (x1 - v0.fst)))) fun v5 => (kN (wr (v0.fst + v5)) rfl fun v6 => (kM0 (alts := G1 (x0, x1) ()) (Q3f x0 x1 v6 (wr (v0.snd + (1 : Int)))))))))
 (fun v0 => (kX (alts := G1 (x0, x1) ()) v0.fst (.here _ rfl (.refl _) (.refl _))))) h))
theorem Fb (x0 : List Q9) (x1 : Int) (r : Int) (h : J5 x0 x1 = some r) : PU 28 [Zf x0, eI x1] (eI r) := (SH ).1 x0 x1 r h
def CV  : Option (List Str) :=
 some [[(115 : UInt8), (105 : UInt8), (122 : UInt8), (101 : UInt8)], [(119 : UInt8), (104 : UInt8), (101 : UInt8), (114 : UInt8), (101 : UInt8)], [(105 : UInt8), (110 : UInt8)], [(100 : UInt8), (101 : UInt8), (102 : UInt8)], [(111 : UInt8), (117 : UInt8), (116 : UInt8)], [(115 : UInt8), (117 : UInt8), (109 : UInt8)], [(112 : UInt8), (114 : UInt8), (111 : UInt8), (100 : UInt8)], [(109 : UInt8), (105 : UInt8), (110 : UInt8)], [(109 : UInt8), (97 : UInt8), (120 : UInt8)], [(115 : UInt8), (99 : UInt8), (97 : UInt8), (110 : UInt8)], [(111 : UInt8), (118 : UInt8), (101 : UInt8), (114 : UInt8)], [(105 : UInt8), (102 : UInt8)], [(99 : UInt8), (97 : UInt8), (115 : UInt8), (116 : UInt8)], [(102 : UInt8), (114 : UInt8), (97 : UInt8), (99 : UInt8)], [(105 : UInt8), (110 : UInt8), (116 : UInt8)], [(102 : UInt8), (105 : UInt8), (120 : UInt8)], [(99 : UInt8), (101 : UInt8), (105 : UInt8), (108 : UInt8)], [(102 : UInt8), (108 : UInt8), (111 : UInt8), (111 : UInt8), (114 : UInt8)], [(122 : UInt8), (101 : UInt8), (114 : UInt8), (111 : UInt8)], [(101 : UInt8), (118 : UInt8), (101 : UInt8), (110 : UInt8)], [(115 : UInt8), (97 : UInt8), (116 : UInt8)], [(119 : UInt8), (114 : UInt8), (97 : UInt8), (112 : UInt8)]]
theorem AS  (r : List Str) (h : CV  = some r) : PU 73 [] (eLS r) :=
 Pu2 (hs := [(0, .z [{ slot := 1, own := 1 }, { slot := 1, fz := true }] none)]) ((kT (rfl : (22 : Nat) = (22 : Nat)) (kEr (enc := eLS) [[(115 : UInt8), (105 : UInt8), (122 : UInt8), (101 : UInt8)], [(119 : UInt8), (104 : UInt8), (101 : UInt8), (114 : UInt8), (101 : UInt8)], [(105 : UInt8), (110 : UInt8)], [(100 : UInt8), (101 : UInt8), (102 : UInt8)], [(111 : UInt8), (117 : UInt8), (116 : UInt8)], [(115 : UInt8), (117 : UInt8), (109 : UInt8)], [(112 : UInt8), (114 : UInt8), (111 : UInt8), (100 : UInt8)], [(109 : UInt8), (105 : UInt8), (110 : UInt8)], [(109 : UInt8), (97 : UInt8), (120 : UInt8)], [(115 : UInt8), (99 : UInt8), (97 : UInt8), (110 : UInt8)], [(111 : UInt8), (118 : UInt8), (101 : UInt8), (114 : UInt8)], [(105 : UInt8), (102 : UInt8)], [(99 : UInt8), (97 : UInt8), (115 : UInt8), (116 : UInt8)], [(102 : UInt8), (114 : UInt8), (97 : UInt8), (99 : UInt8)], [(105 : UInt8), (110 : UInt8), (116 : UInt8)], [(102 : UInt8), (105 : UInt8), (120 : UInt8)], [(99 : UInt8), (101 : UInt8), (105 : UInt8), (108 : UInt8)], [(102 : UInt8), (108 : UInt8), (111 : UInt8), (111 : UInt8), (114 : UInt8)], [(122 : UInt8), (101 : UInt8), (114 : UInt8), (111 : UInt8)], [(101 : UInt8), (118 : UInt8), (101 : UInt8), (110 : UInt8)], [(115 : UInt8), (97 : UInt8), (116 : UInt8)], [(119 : UInt8), (114 : UInt8), (97 : UInt8), (112 : UInt8)]])) h)
def UI (s : ((List Str) × Str)) (u : Unit) (o : Unit ⊕ Bool) : List Alt := [⟨fun (x : Unit) => (Sum.inl x : Unit ⊕ Bool) = o, .exit 0, fun x => [.undef], fun x => []⟩, ⟨fun (x : Bool) => (Sum.inr x : Unit ⊕ Bool) = o, .ret, fun x => [.bool x], fun x => []⟩]
def K8 (x0 : List Str) (x1 : Str) (x5 : Int) : Option (Unit ⊕ Bool) :=
 some (List.length x0 : Int) >>= fun v0 =>
 if x5 < v0 then
 ix x0 x5 >>= fun v1 =>
 if v1 == x1 then
 some (.inr true)
 else
 K8 x0 x1 (wr (x5 + (1 : Int)))
 else
 some (.inl ())
 partial_fixpoint
theorem SK (x0 : List Str) (x1 : Str) (x5 : Int) (o : Unit ⊕ Bool) (h : K8 x0 x1 x5 = some o) : LO 72 2 18 [0, 1, 5] [.sl 1 (List.map eS x0), .str x1, ii x5] [] [4] (UI (x0, x1) () o) :=
 K8.partial_correctness x0 x1 (fun x5 o => LO 72 2 18 [0, 1, 5] [.sl 1 (List.map eS x0), .str x1, ii x5] [] [4] (UI (x0, x1) () o))
 (fun K8 Q1e x5 o h  =>
 Lp2 (hs := [(8, .n eI 8 none), (9, .split), (14, .e eS), (17, .split)]) (kb := []) (kbx := []) ((kN _ (mLen (sh := eS) x0) fun v0 => (kIfD (p := x5 < v0) (kIx (enc := eS) (l := x0) (k := x5) fun v1 => (kIf (c := v1 == x1) (kX (alts := UI (x0, x1) ()) (.inr true) (.next (.here _ rfl (.refl _) (.refl _))))
 (kM0 (alts := UI (x0, x1) ()) (Q1e (wr (x5 + (1 : Int)))))))
 (kX (alts := UI (x0, x1) ()) (.inl ()) (.here _ rfl (.refl _) (.refl _))))) h)) x5 o h
def Da (x0 : List Str) (x1 : Str) : Option Bool :=
 some () >>= fun v0 =>
 K8 x0 x1 (0 : Int) >>= fun v1 => (match v1 with
 | (.inl v2) =>
 some false
 | (.inr v3) =>
 some v3)
theorem Nq (x0 : List Str) (x1 : Str) (r : Bool) (h : Da x0 x1 = some r) : PU 72 [eLS x0, eS x1] (eB r) :=
 Pu2 (hs := [(3000003, .l [] [0, 1, 5] [] [4] [] (UI (x0, x1)))]) ((kL2 () (hL := (SK x0 x1 (0 : Int))) (hA := fun v0 v2 => (kEr (enc := eB) false))
 (hB := fun v0 v3 => (kEr (enc := eB) v3))) h)
def Uf (s : Str) (u : Unit) (o : Unit ⊕ Bool) : List Alt := [⟨fun (x : Unit) => (Sum.inl x : Unit ⊕ Bool) = o, .exit 0, fun x => [.undef], fun x => []⟩, ⟨fun (x : Bool) => (Sum.inr x : Unit ⊕ Bool) = o, .ret, fun x => [.bool x], fun x => []⟩]
def QN (s : Str) (u : Int) (o : Bool) : List Alt := jb o (fun b => [.str s, ii u, .bool b]) []
def Yx (x0 : Str) (x3 : Int) : Option (Unit ⊕ Bool) :=
 if x3 < (↑(List.length x0) : Int) then
 ix x0 x3 >>= fun v0 =>
 some x3 >>= fun v1 =>
 (if (97 : Int) ≤ (↑v0.toNat : Int) then
 if (↑v0.toNat : Int) ≤ (122 : Int) then
 some false
 else
 if (0 : Int) < x3 then
 if (48 : Int) ≤ (↑v0.toNat : Int) then
 if (↑v0.toNat : Int) ≤ (57 : Int) then
 some false
 else
 if (↑v0.toNat : Int) == (95 : Int) then
 some false
 else
 some true
 else
 if (↑v0.toNat : Int) == (95 : Int) then
 some false
 else
 some true
 else
 some true
 else
 if (0 : Int) < x3 then
 if (48 : Int) ≤ (↑v0.toNat : Int) then
 if (↑v0.toNat : Int) ≤ (57 : Int) then
 some false
 else
 if (↑v0.toNat : Int) == (95 : Int) then
 some false
 else
 some true
 else
 if (↑v0.toNat : Int) == (95 : Int) then
 some false
 else
 some true
 else
 some true) >>= fun v2 => if v2 then
 some (.inr false)
 else
 Yx x0 (wr (v1 + (1 : Int)))
 else
 some (.inl ())
 partial_fixpoint
theorem Tv (x0 : Str) (x3 : Int) (o : Unit ⊕ Bool) (h : Yx x0 x3 = some o) : LO 45 4 50 [0, 3] [.str x0, ii x3] [] [2] (Uf x0 () o) :=
 Yx.partial_correctness x0 (fun x3 o => LO 45 4 50 [0, 3] [.str x0, ii x3] [] [2] (Uf x0 () o))
 (fun Yx Q1j x3 o h  =>
 Lp2 (hs := [(21, .split), (26, .u), (28, .split), (31, .split), (35, .split), (38, .split), (41, .split), (45, .split), (5000007, .l [] [] [] [0, 3, 49] [] (QN x0))]) (kb := []) (kbx := []) ((kIfD (p := x3 < (↑(List.length x0) : Int)) (kU (s := x0) (k := x3) fun v0 => (kJb (id := 5000007) x3 (fun v1 ev1 v2 => (kIfD (p := (97 : Int) ≤ (↑v0.toNat : Int)) (kIfD (p := (↑v0.toNat : Int) ≤ (122 : Int)) (kXj (alts := QN x0) ev1 false (.next (.here () rfl (.refl _) (.refl _))))
 (kIfD (p := (0 : Int) < x3) (kIfD (p := (48 : Int) ≤ (↑v0.toNat : Int)) (kIfD (p := (↑v0.toNat : Int) ≤ (57 : Int)) (kXj (alts := QN x0) ev1 false (.next (.here () rfl (.refl _) (.refl _))))
 (kIf (c := (↑v0.toNat : Int) == (95 : Int)) (kXj (alts := QN x0) ev1 false (.next (.here () rfl (.refl _) (.refl _))))
 (kXj (alts := QN x0) ev1 true (.here () rfl (.refl _) (.refl _)))))
 (kIf (c := (↑v0.toNat : Int) == (95 : Int)) (kXj (alts := QN x0) ev1 false (.next (.here () rfl (.refl _) (.refl _))))
 (kXj (alts := QN x0) ev1 true (.here () rfl (.refl _) (.refl _)))))
 (kXj (alts := QN x0) ev1 true (.here () rfl (.refl _) (.refl _)))))
 (kIfD (p := (0 : Int) < x3) (kIfD (p := (48 : Int) ≤ (↑v0.toNat : Int)) (kIfD (p := (↑v0.toNat : Int) ≤ (57 : Int)) (kXj (alts := QN x0) ev1 false (.next (.here () rfl (.refl _) (.refl _))))
 (kIf (c := (↑v0.toNat : Int) == (95 : Int)) (kXj (alts := QN x0) ev1 false (.next (.here () rfl (.refl _) (.refl _))))
 (kXj (alts := QN x0) ev1 true (.here () rfl (.refl _) (.refl _)))))
 (kIf (c := (↑v0.toNat : Int) == (95 : Int)) (kXj (alts := QN x0) ev1 false (.next (.here () rfl (.refl _) (.refl _))))
 (kXj (alts := QN x0) ev1 true (.here () rfl (.refl _) (.refl _)))))
 (kXj (alts := QN x0) ev1 true (.here () rfl (.refl _) (.refl _))))))
 (fun v1 => (kX (alts := Uf x0 ()) (.inr false) (.next (.here _ rfl (.refl _) (.refl _)))))
 (fun v1 => (kM0 (alts := Uf x0 ()) (Q1j (wr (v1 + (1 : Int))))))))
 (kX (alts := Uf x0 ()) (.inl ()) (.here _ rfl (.refl _) (.refl _)))) h)) x3 o h
def KD (s : Str) (u : Unit) (o : Bool) : List Alt := jb o (fun b => [.str s, .bool b]) []
def VV (x0 : Str) : Option Bool :=
 some () >>= fun v0 =>
 (if (↑(List.length x0) : Int) < (1 : Int) then
 some true
 else
 if (16 : Int) < (↑(List.length x0) : Int) then
 some true
 else
 CV >>= fun v2 =>
 Da v2 x0 >>= fun v3 => if v3 then
 some true
 else
 some false) >>= fun v1 => if v1 then
 some false
 else
 some () >>= fun v6 =>
 Yx x0 (0 : Int) >>= fun v7 => (match v7 with
 | (.inl v8) =>
 some true
 | (.inr v9) =>
 some v9)
theorem Dy (x0 : Str) (r : Bool) (h : VV x0 = some r) : PU 45 [eS x0] (eB r) :=
 Pu2 (hs := [(7, .split), (11, .split), (14, .c eLS), (16, .cb), (3000005, .l [] [0, 3] [] [2] [] (Uf x0)), (5000001, .l [] [] [] [0, 17] [] (KD x0))]) ((kJb (id := 5000001) () (fun v0 ev0 v1 => (kIfD (p := (↑(List.length x0) : Int) < (1 : Int)) (kXj (alts := KD x0) ev0 true (.here () rfl (.refl _) (.refl _)))
 (kIfD (p := (16 : Int) < (↑(List.length x0) : Int)) (kXj (alts := KD x0) ev0 true (.here () rfl (.refl _) (.refl _)))
 (kC (sh := eLS) (AS) fun v2 => (kCb (Nq v2 x0) (kXj (alts := KD x0) ev0 true (.here () rfl (.refl _) (.refl _)))
 (kXj (alts := KD x0) ev0 false (.next (.here () rfl (.refl _) (.refl _)))))))))
 (fun v0 => (kEr (enc := eB) false))
 (fun v0 => (kL2 () (hL := (Tv x0 (0 : Int))) (hA := fun v6 v8 => (kEr (enc := eB) true))
 (hB := fun v6 v9 => (kEr (enc := eB) v9))))) h)
def U1 (s : Qi) (u : Unit) (o : Bool) : List Alt := jb o (fun b => [.ptr 0 0 0, .bool b]) [.cells 0 (Qy s).cells]
def Xv (x0 : Qi) : Option Bool :=
 some () >>= fun v0 =>
 (if x0.fKind == (1 : Int) then
 some true
 else
 if x0.fKind == (3 : Int) then
 some true
 else
 some false) >>= fun v1 => if v1 then
 if x0.fBits == (0 : Int) then
 if x0.fFrac == (0 : Int) then
 if x0.fRound == (0 : Int) then
 some (x0.fOver == (0 : Int))
 else
 some false
 else
 some false
 else
 some false
 else
 if x0.fKind == (2 : Int) then
 if (2 : Int) ≤ x0.fBits then
 if x0.fBits ≤ (31 : Int) then
 if (0 : Int) ≤ x0.fFrac then
 if x0.fFrac ≤ (30 : Int) then
 if (1 : Int) ≤ x0.fRound then
 if x0.fRound ≤ (4 : Int) then
 if x0.fOver == (1 : Int) then
 some true
 else
 some (x0.fOver == (2 : Int))
 else
 some false
 else
 some false
 else
 some false
 else
 some false
 else
 some false
 else
 some false
 else
 some false
theorem Uc (x0 : Qi) (r : Bool) (h : Xv x0 = some r) : PU 46 [Qy x0] (eB r) :=
 Pu2 (hs := [(5, .split), (9, .split), (13, .split), (17, .split), (22, .split), (31, .split), (35, .split), (40, .split), (45, .split), (50, .split), (55, .split), (60, .split), (65, .split), (5000001, .l [] [] [] [1, 10] [kk 1] (U1 x0))]) ((kJb (id := 5000001) () (fun v0 ev0 v1 => (kIf (c := x0.fKind == (1 : Int)) (kXj (alts := U1 x0) ev0 true (.here () rfl (.refl _) (.refl _)))
 (kIf (c := x0.fKind == (3 : Int)) (kXj (alts := U1 x0) ev0 true (.here () rfl (.refl _) (.refl _)))
 (kXj (alts := U1 x0) ev0 false (.next (.here () rfl (.refl _) (.refl _)))))))
 (fun v0 => (kIf (c := x0.fBits == (0 : Int)) (kIf (c := x0.fFrac == (0 : Int)) (kIf (c := x0.fRound == (0 : Int)) (kEr (enc := eB) (x0.fOver == (0 : Int)))
 (kEr (enc := eB) false))
 (kEr (enc := eB) false))
 (kEr (enc := eB) false)))
 (fun v0 => (kIf (c := x0.fKind == (2 : Int)) (kIfD (p := (2 : Int) ≤ x0.fBits) (kIfD (p := x0.fBits ≤ (31 : Int)) (kIfD (p := (0 : Int) ≤ x0.fFrac) (kIfD (p := x0.fFrac ≤ (30 : Int)) (kIfD (p := (1 : Int) ≤ x0.fRound) (kIfD (p := x0.fRound ≤ (4 : Int)) (kIf (c := x0.fOver == (1 : Int)) (kEr (enc := eB) true)
 (kEr (enc := eB) (x0.fOver == (2 : Int))))
 (kEr (enc := eB) false))
 (kEr (enc := eB) false))
 (kEr (enc := eB) false))
 (kEr (enc := eB) false))
 (kEr (enc := eB) false))
 (kEr (enc := eB) false))
 (kEr (enc := eB) false)))) h)
def XL (s : List Int) (u : Unit) (o : Unit ⊕ Int) : List Alt := [⟨fun (x : Unit) => (Sum.inl x : Unit ⊕ Int) = o, .exit 2, fun x => [.undef], fun x => []⟩, ⟨fun (x : Int) => (Sum.inr x : Unit ⊕ Int) = o, .ret, fun x => [ii x], fun x => []⟩]
def Zs (x0 : List Int) (x4 : Int) (x5 : Int) : Option (Unit ⊕ Int) :=
 some (List.length x0 : Int) >>= fun v0 =>
 if x5 < v0 then
 ix x0 x5 >>= fun v1 =>
 if (4096 : Int) < v1 then
 some (.inr (2 : Int))
 else
 ix x0 x5 >>= fun v2 =>
 some (wr (x4 * v2) : Int) >>= fun v3 =>
 if (4096 : Int) < v3 then
 some (.inr (2 : Int))
 else
 Zs x0 v3 (wr (x5 + (1 : Int)))
 else
 some (.inl ())
 partial_fixpoint
theorem L4 (x0 : List Int) (x4 : Int) (x5 : Int) (o : Unit ⊕ Int) (h : Zs x0 x4 x5 = some o) : LO 47 10 39 [0, 4, 5] [.sl 1 (List.map eI x0), ii x4, ii x5] [] [2] (XL x0 () o) :=
 Zs.partial_correctness x0 (fun x4 x5 o => LO 47 10 39 [0, 4, 5] [.sl 1 (List.map eI x0), ii x4, ii x5] [] [2] (XL x0 () o))
 (fun Zs Q1y x4 x5 o h  =>
 Lp2 (hs := [(22, .n eI 22 none), (23, .split), (28, .e eI), (30, .split), (34, .e eI), (4, .n eI 4 none), (38, .split)]) (kb := []) (kbx := []) ((kN _ (mLen (sh := eI) x0) fun v0 => (kIfD (p := x5 < v0) (kIx (enc := eI) (l := x0) (k := x5) fun v1 => (kIfD (p := (4096 : Int) < v1) (kX (alts := XL x0 ()) (.inr (2 : Int)) (.next (.here _ rfl (.refl _) (.refl _))))
 (kIx (enc := eI) (l := x0) (k := x5) fun v2 => (kN (wr (x4 * v2)) rfl fun v3 => (kIfD (p := (4096 : Int) < v3) (kX (alts := XL x0 ()) (.inr (2 : Int)) (.next (.here _ rfl (.refl _) (.refl _))))
 (kM0 (alts := XL x0 ()) (Q1y v3 (wr (x5 + (1 : Int))))))))))
 (kX (alts := XL x0 ()) (.inl ()) (.here _ rfl (.refl _) (.refl _))))) h)) x4 x5 o h
def YQ (s : List Int) (u : Unit) (o : Unit ⊕ Int) : List Alt := [⟨fun (x : Unit) => (Sum.inl x : Unit ⊕ Int) = o, .exit 0, fun x => [.sl 1 (List.map eI s), .undef], fun x => []⟩, ⟨fun (x : Int) => (Sum.inr x : Unit ⊕ Int) = o, .ret, fun x => [.sl 1 (List.map eI s), ii x], fun x => []⟩]
def ZF (x0 : List Int) (x3 : Int) : Option (Unit ⊕ Int) :=
 some (List.length x0 : Int) >>= fun v0 =>
 if x3 < v0 then
 ix x0 x3 >>= fun v1 =>
 if v1 < (1 : Int) then
 some (.inr (1 : Int))
 else
 ZF x0 (wr (x3 + (1 : Int)))
 else
 some (.inl ())
 partial_fixpoint
theorem LZ (x0 : List Int) (x3 : Int) (o : Unit ⊕ Int) (h : ZF x0 x3 = some o) : LO 47 4 39 [0, 3] [.sl 1 (List.map eI x0), ii x3] [] [0, 2] (YQ x0 () o) :=
 ZF.partial_correctness x0 (fun x3 o => LO 47 4 39 [0, 3] [.sl 1 (List.map eI x0), ii x3] [] [0, 2] (YQ x0 () o))
 (fun ZF Q1z x3 o h  =>
 Lp2 (hs := [(11, .n eI 11 none), (12, .split), (17, .e eI), (19, .split)]) (kb := []) (kbx := []) ((kN _ (mLen (sh := eI) x0) fun v0 => (kIfD (p := x3 < v0) (kIx (enc := eI) (l := x0) (k := x3) fun v1 => (kIfD (p := v1 < (1 : Int)) (kX (alts := YQ x0 ()) (.inr (1 : Int)) (.next (.here _ rfl (.refl _) (.refl _))))
 (kM0 (alts := YQ x0 ()) (Q1z (wr (x3 + (1 : Int)))))))
 (kX (alts := YQ x0 ()) (.inl ()) (.here _ rfl (.refl _) (.refl _))))) h)) x3 o h
def Dc (x0 : List Int) : Option Int :=
 some (List.length x0 : Int) >>= fun v0 =>
 if (6 : Int) < v0 then
 some (2 : Int)
 else
 some () >>= fun v1 =>
 ZF x0 (0 : Int) >>= fun v2 => (match v2 with
 | (.inl v3) =>
 some ((1 : Int) : Int) >>= fun v4 =>
 some () >>= fun v5 =>
 Zs x0 v4 (0 : Int) >>= fun v6 => (match v6 with
 | (.inl v7) =>
 some (0 : Int)
 | (.inr v8) =>
 some v8)
 | (.inr v9) =>
 some v9)
theorem Ev (x0 : List Int) (r : Int) (h : Dc x0 = some r) : PU 47 [eLI x0] (eI r) :=
 Pu2 (hs := [(7, .n eI 7 none), (8, .split), (4, .n eI 4 none), (3000011, .l [] [0, 4, 5] [] [2] [] (XL x0)), (3000005, .l [] [0, 3] [] [0, 2] [] (YQ x0))]) ((kN _ (mLen (sh := eI) x0) fun v0 => (kIfD (p := (6 : Int) < v0) (kEr (enc := eI) (2 : Int))
 (kL2 () (hL := (LZ x0 (0 : Int))) (hA := fun v1 v3 => (kN (1 : Int) rfl fun v4 => (kL2 () (hL := (L4 x0 v4 (0 : Int))) (hA := fun v5 v7 => (kEr (enc := eI) (0 : Int)))
 (hB := fun v5 v8 => (kEr (enc := eI) v8)))))
 (hB := fun v1 v9 => (kEr (enc := eI) v9))))) h)
def Jq (s : Qh) (u : (Int × Qw)) (o : Unit ⊕ Int) : List Alt := [⟨fun (x : Unit) => (Sum.inl x : Unit ⊕ Int) = o, .exit 2, fun x => [.ptr 0 0 0, .undef, ii u.1, .ptr 1 0 0], fun x => [.cells 0 (Qs s).cells, .cells 0 (Qx u.2).cells]⟩, ⟨fun (x : Int) => (Sum.inr x : Unit ⊕ Int) = o, .ret, fun x => [.ptr 0 0 0, ii x, ii u.1, .ptr 1 0 0], fun x => [.cells 0 (Qs s).cells, .cells 0 (Qx u.2).cells]⟩]
def Yj (x1 : Qh) (x3 : Int) (x4 : Qw) (x5 : Int) : Option (Unit ⊕ Int) :=
 if x5 < x3 then
 ix x1.fBufs x5 >>= fun v0 =>
 if v0.fName == x4.fName then
 some (.inr (8 : Int))
 else
 Yj x1 x3 x4 (wr (x5 + (1 : Int)))
 else
 some (.inl ())
 partial_fixpoint
theorem Rv (x1 : Qh) (x3 : Int) (x4 : Qw) (x5 : Int) (o : Unit ⊕ Int) (h : Yj x1 x3 x4 x5 = some o) : LO 29 8 55 [1, 3, 4, 5] [.ptr 0 0 0, ii x3, .ptr 1 0 0, ii x5] [.cells 0 (Qs x1).cells, .cells 0 (Qx x4).cells] [1, 2, 3, 4] (Jq x1 (x3, x4) o) :=
 Yj.partial_correctness x1 x3 x4 (fun x5 o => LO 29 8 55 [1, 3, 4, 5] [.ptr 0 0 0, ii x3, .ptr 1 0 0, ii x5] [.cells 0 (Qs x1).cells, .cells 0 (Qx x4).cells] [1, 2, 3, 4] (Jq x1 (x3, x4) o))
 (fun Yj Q39 x5 o h  =>
 Lp2 (hs := [(25, .split), (31, .e Qx), (36, .split)]) (kb := [kk 1, kk 4]) (kbx := [kk 1, kk 4]) ((kIfD (p := x5 < x3) (kIx (enc := Qx) (l := x1.fBufs) (k := x5) fun v0 => (kIf (c := v0.fName == x4.fName) (kX (alts := Jq x1 (x3, x4)) (.inr (8 : Int)) (.next (.here _ rfl (.refl _) (.refl _))))
 (kM0 (alts := Jq x1 (x3, x4)) (Q39 (wr (x5 + (1 : Int)))))))
 (kX (alts := Jq x1 (x3, x4)) (.inl ()) (.here _ rfl (.refl _) (.refl _)))) h)) x5 o h
def Xu (s : Qh) (u : Unit) (o : Unit ⊕ Int) : List Alt := [⟨fun (x : Unit) => (Sum.inl x : Unit ⊕ Int) = o, .exit 0, fun x => [.undef], fun x => []⟩, ⟨fun (x : Int) => (Sum.inr x : Unit ⊕ Int) = o, .ret, fun x => [ii x], fun x => []⟩]
def Jp (s : Qh) (u : Int) (o : Bool) : List Alt := jb o (fun b => [.ptr 0 0 0, ii u, .bool b]) [.cells 0 (Qs s).cells]
def Yi (x1 : Qh) (x3 : Int) : Option (Unit ⊕ Int) :=
 some (List.length x1.fBufs : Int) >>= fun v0 =>
 if x3 < v0 then
 ix x1.fBufs x3 >>= fun v1 =>
 VV v1.fName >>= fun v2 => if v2 then
 some (x3, v1) >>= fun v3 =>
 Yj x1 x3 v1 (0 : Int) >>= fun v4 => (match v4 with
 | (.inl v5) =>
 Xv v3.snd.fType >>= fun v6 => if v6 then
 Dc v3.snd.fDims >>= fun v7 =>
 if v7 != (0 : Int) then
 some (.inr v7)
 else
 some v3.fst >>= fun v8 =>
 (if v3.snd.fUse < (1 : Int) then
 some true
 else
 if (3 : Int) < v3.snd.fUse then
 some true
 else
 some false) >>= fun v9 => if v9 then
 some (.inr (1 : Int))
 else
 Yi x1 (wr (v8 + (1 : Int)))
 else
 some (.inr (10 : Int))
 | (.inr v12) =>
 some (.inr v12))
 else
 some (.inr (7 : Int))
 else
 some (.inl ())
 partial_fixpoint
theorem Ru (x1 : Qh) (x3 : Int) (o : Unit ⊕ Int) (h : Yi x1 x3 = some o) : LO 29 2 55 [1, 3] [.ptr 0 0 0, ii x3] [.cells 0 (Qs x1).cells] [2] (Xu x1 () o) :=
 Yi.partial_correctness x1 (fun x3 o => LO 29 2 55 [1, 3] [.ptr 0 0 0, ii x3] [.cells 0 (Qs x1).cells] [2] (Xu x1 () o))
 (fun Yi Q38 x3 o h  =>
 Lp2 (hs := [(10, .n eI 10 none), (11, .split), (17, .e Qx), (21, .cb), (39, .cb), (43, .c eI), (45, .split), (49, .split), (53, .split), (3000009, .l [] [1, 3, 4, 5] [kk 1, kk 4] [1, 2, 3, 4] [kk 1, kk 4] (Jq x1)), (5000017, .l [] [] [] [1, 3, 54] [kk 1] (Jp x1))]) (kb := [kk 1]) (kbx := []) ((kN _ (mLen (sh := Qx) x1.fBufs) fun v0 => (kIfD (p := x3 < v0) (kIx (enc := Qx) (l := x1.fBufs) (k := x3) fun v1 => (kCb (Dy v1.fName) (kL2 (x3, v1) (hL := (Rv x1 x3 v1 (0 : Int))) (hA := fun v3 v5 => (kCb (Uc v3.snd.fType) (kC (sh := eI) (Ev v3.snd.fDims) fun v7 => (kIf (c := v7 != (0 : Int)) (kX (alts := Xu x1 ()) (.inr v7) (.next (.here _ rfl (.refl _) (.refl _))))
 (kJb (id := 5000017) v3.fst (fun v8 ev8 v9 => (kIfD (p := v3.snd.fUse < (1 : Int)) (kXj (alts := Jp x1) ev8 true (.here () rfl (.refl _) (.refl _)))
 (kIfD (p := (3 : Int) < v3.snd.fUse) (kXj (alts := Jp x1) ev8 true (.here () rfl (.refl _) (.refl _)))
 (kXj (alts := Jp x1) ev8 false (.next (.here () rfl (.refl _) (.refl _)))))))
 (fun v8 => (kX (alts := Xu x1 ()) (.inr (1 : Int)) (.next (.here _ rfl (.refl _) (.refl _)))))
 (fun v8 => (kM0 (alts := Xu x1 ()) (Q38 (wr (v8 + (1 : Int)))))))))
 (kX (alts := Xu x1 ()) (.inr (10 : Int)) (.next (.here _ rfl (.refl _) (.refl _))))))
 (hB := fun v3 v12 => (kX (alts := Xu x1 ()) (.inr v12) (.next (.here _ rfl (.refl _) (.refl _))))))
 (kX (alts := Xu x1 ()) (.inr (7 : Int)) (.next (.here _ rfl (.refl _) (.refl _))))))
 (kX (alts := Xu x1 ()) (.inl ()) (.here _ rfl (.refl _) (.refl _))))) h)) x3 o h
def DL (x0 : Qh) : Option Int :=
 some () >>= fun v0 =>
 Yi x0 (0 : Int) >>= fun v1 => (match v1 with
 | (.inl v2) =>
 some (0 : Int)
 | (.inr v3) =>
 some v3)
theorem F8 (x0 : Qh) (r : Int) (h : DL x0 = some r) : PU 29 [Qs x0] (eI r) :=
 Pu2 (hs := [(3000003, .l [] [1, 3] [kk 1] [2] [] (Xu x0))]) ((kL2 () (hL := (Ru x0 (0 : Int))) (hA := fun v0 v2 => (kEr (enc := eI) (0 : Int)))
 (hB := fun v0 v3 => (kEr (enc := eI) v3))) h)
def UJ (s : (gLin × gLin)) (u : Unit) (o : Unit ⊕ Bool) : List Alt := [⟨fun (x : Unit) => (Sum.inl x : Unit ⊕ Bool) = o, .exit 0, fun x => [.undef], fun x => []⟩, ⟨fun (x : Bool) => (Sum.inr x : Unit ⊕ Bool) = o, .ret, fun x => [.bool x], fun x => []⟩]
def K9 (x2 : gLin) (x3 : gLin) (x5 : Int) : Option (Unit ⊕ Bool) :=
 some (List.length x2.fL : Int) >>= fun v0 =>
 if x5 < v0 then
 ix x2.fL x5 >>= fun v1 =>
 ix x3.fL x5 >>= fun v2 =>
 if !(v1.fName == v2.fName && (v1.fBy == v2.fBy && true)) then
 some (.inr false)
 else
 K9 x2 x3 (wr (x5 + (1 : Int)))
 else
 some (.inl ())
 partial_fixpoint
theorem SL (x2 : gLin) (x3 : gLin) (x5 : Int) (o : Unit ⊕ Bool) (h : K9 x2 x3 x5 = some o) : LO 108 4 38 [2, 3, 5] [.ptr 0 0 0, .ptr 1 0 0, ii x5] [.cells 0 (Qj x2).cells, .cells 0 (Qj x3).cells] [4] (UJ (x2, x3) () o) :=
 K9.partial_correctness x2 x3 (fun x5 o => LO 108 4 38 [2, 3, 5] [.ptr 0 0 0, .ptr 1 0 0, ii x5] [.cells 0 (Qj x2).cells, .cells 0 (Qj x3).cells] [4] (UJ (x2, x3) () o))
 (fun K9 Q1h x5 o h  =>
 Lp2 (hs := [(23, .n eI 23 none), (24, .split), (30, .e Qf), (35, .e Qf), (37, .split)]) (kb := [kk 2, kk 3]) (kbx := []) ((kN _ (mLen (sh := Qf) x2.fL) fun v0 => (kIfD (p := x5 < v0) (kIx (enc := Qf) (l := x2.fL) (k := x5) fun v1 => (kIx (enc := Qf) (l := x3.fL) (k := x5) fun v2 => (kIf (c := !(v1.fName == v2.fName && (v1.fBy == v2.fBy && true))) (kX (alts := UJ (x2, x3) ()) (.inr false) (.next (.here _ rfl (.refl _) (.refl _))))
 (kM0 (alts := UJ (x2, x3) ()) (Q1h (wr (x5 + (1 : Int))))))))
 (kX (alts := UJ (x2, x3) ()) (.inl ()) (.here _ rfl (.refl _) (.refl _))))) h)) x5 o h
def UE (s : (gLin × gLin)) (u : Unit) (o : Bool) : List Alt := jb o (fun b => [.ptr 0 0 0, .ptr 1 0 0, .bool b]) [.cells 0 (Qj (s.1)).cells, .cells 0 (Qj (s.2)).cells]
def DY (x0 : gLin) (x1 : gLin) : Option Bool :=
 some () >>= fun v0 =>
 (if x0.fK != x1.fK then
 some true
 else
 some (List.length x0.fL : Int) >>= fun v2 =>
 some (List.length x1.fL : Int) >>= fun v3 =>
 if v2 != v3 then
 some true
 else
 some false) >>= fun v1 => if v1 then
 some false
 else
 some () >>= fun v6 =>
 K9 x0 x1 (0 : Int) >>= fun v7 => (match v7 with
 | (.inl v8) =>
 some true
 | (.inr v9) =>
 some v9)
theorem L2 (x0 : gLin) (x1 : gLin) (r : Bool) (h : DY x0 x1 = some r) : PU 108 [Qj x0, Qj x1] (eB r) :=
 Pu2 (hs := [(10, .split), (14, .n eI 14 none), (17, .n eI 17 none), (18, .split), (3000005, .l [] [2, 3, 5] [kk 2, kk 3] [4] [] (UJ (x0, x1))), (5000001, .l [] [] [] [2, 3, 19] [kk 2, kk 3] (UE (x0, x1)))]) ((kJb (id := 5000001) () (fun v0 ev0 v1 => (kIf (c := x0.fK != x1.fK) (kXj (alts := UE (x0, x1)) ev0 true (.here () rfl (.refl _) (.refl _)))
 (kN _ (mLen (sh := Qf) x0.fL) fun v2 => (kN _ (mLen (sh := Qf) x1.fL) fun v3 => (kIf (c := v2 != v3) (kXj (alts := UE (x0, x1)) ev0 true (.here () rfl (.refl _) (.refl _)))
 (kXj (alts := UE (x0, x1)) ev0 false (.next (.here () rfl (.refl _) (.refl _)))))))))
 (fun v0 => (kEr (enc := eB) false))
 (fun v0 => (kL2 () (hL := (SL x0 x1 (0 : Int))) (hA := fun v6 v8 => (kEr (enc := eB) true))
 (hB := fun v6 v9 => (kEr (enc := eB) v9))))) h)
def Ue (s : ((List gLin) × (List gLin))) (u : Unit) (o : Unit ⊕ Bool) : List Alt := [⟨fun (x : Unit) => (Sum.inl x : Unit ⊕ Bool) = o, .exit 0, fun x => [.undef], fun x => []⟩, ⟨fun (x : Bool) => (Sum.inr x : Unit ⊕ Bool) = o, .ret, fun x => [.bool x], fun x => []⟩]
def Yw (x0 : List gLin) (x1 : List gLin) (x5 : Int) : Option (Unit ⊕ Bool) :=
 some (List.length x0 : Int) >>= fun v0 =>
 if x5 < v0 then
 ix x0 x5 >>= fun v1 =>
 ix x1 x5 >>= fun v2 =>
 DY v1 v2 >>= fun v3 => if v3 then
 Yw x0 x1 (wr (x5 + (1 : Int)))
 else
 some (.inr false)
 else
 some (.inl ())
 partial_fixpoint
theorem Tu (x0 : List gLin) (x1 : List gLin) (x5 : Int) (o : Unit ⊕ Bool) (h : Yw x0 x1 x5 = some o) : LO 152 4 27 [0, 1, 5] [.sl 2 (List.map Qj x0), .sl 2 (List.map Qj x1), ii x5] [] [4] (Ue (x0, x1) () o) :=
 Yw.partial_correctness x0 x1 (fun x5 o => LO 152 4 27 [0, 1, 5] [.sl 2 (List.map Qj x0), .sl 2 (List.map Qj x1), ii x5] [] [4] (Ue (x0, x1) () o))
 (fun Yw Q1i x5 o h  =>
 Lp2 (hs := [(13, .n eI 13 none), (14, .split), (19, .e Qj), (23, .e Qj), (25, .cb)]) (kb := []) (kbx := []) ((kN _ (mLen (sh := Qj) x0) fun v0 => (kIfD (p := x5 < v0) (kIx (enc := Qj) (l := x0) (k := x5) fun v1 => (kIx (enc := Qj) (l := x1) (k := x5) fun v2 => (kCb (L2 v1 v2) (kM0 (alts := Ue (x0, x1) ()) (Q1i (wr (x5 + (1 : Int)))))
 (kX (alts := Ue (x0, x1) ()) (.inr false) (.next (.here _ rfl (.refl _) (.refl _)))))))
 (kX (alts := Ue (x0, x1) ()) (.inl ()) (.here _ rfl (.refl _) (.refl _))))) h)) x5 o h
def WE (x0 : List gLin) (x1 : List gLin) : Option Bool :=
 some (List.length x0 : Int) >>= fun v0 =>
 some (List.length x1 : Int) >>= fun v1 =>
 if v0 != v1 then
 some false
 else
 some () >>= fun v2 =>
 Yw x0 x1 (0 : Int) >>= fun v3 => (match v3 with
 | (.inl v4) =>
 some true
 | (.inr v5) =>
 some v5)
theorem PJ (x0 : List gLin) (x1 : List gLin) (r : Bool) (h : WE x0 x1 = some r) : PU 152 [NU x0, NU x1] (eB r) :=
 Pu2 (hs := [(7, .n eI 7 none), (9, .n eI 9 none), (10, .split), (3000005, .l [] [0, 1, 5] [] [4] [] (Ue (x0, x1)))]) ((kN _ (mLen (sh := Qj) x0) fun v0 => (kN _ (mLen (sh := Qj) x1) fun v1 => (kIf (c := v0 != v1) (kEr (enc := eB) false)
 (kL2 () (hL := (Tu x0 x1 (0 : Int))) (hA := fun v2 v4 => (kEr (enc := eB) true))
 (hB := fun v2 v5 => (kEr (enc := eB) v5)))))) h)
def CU (x0 : Qa) (x1 : Qa) : Option Bool :=
 if x0.fFrom == x1.fFrom then
 DY x0.fLin x1.fLin >>= fun v0 => if v0 then
 WE x0.fAt x1.fAt >>= fun v1 =>
 some v1
 else
 some false
 else
 some false
theorem AR (x0 : Qa) (x1 : Qa) (r : Bool) (h : CU x0 x1 = some r) : PU 128 [Q4 x0, Q4 x1] (eB r) :=
 Pu2 (hs := [(9, .split), (15, .cb), (22, .c eB)]) ((kIf (c := x0.fFrom == x1.fFrom) (kCb (L2 x0.fLin x1.fLin) (kC (sh := eB) (PJ x0.fAt x1.fAt) fun v1 => (kEr (enc := eB) v1))
 (kEr (enc := eB) false))
 (kEr (enc := eB) false)) h)
def KS (s : ((List Qa) × (List Qa))) (u : Unit) (o : Unit ⊕ Bool) : List Alt := [⟨fun (x : Unit) => (Sum.inl x : Unit ⊕ Bool) = o, .exit 0, fun x => [.undef], fun x => []⟩, ⟨fun (x : Bool) => (Sum.inr x : Unit ⊕ Bool) = o, .ret, fun x => [.bool x], fun x => []⟩]
def Xd (x0 : List Qa) (x1 : List Qa) (x5 : Int) : Option (Unit ⊕ Bool) :=
 some (List.length x0 : Int) >>= fun v0 =>
 if x5 < v0 then
 ix x0 x5 >>= fun v1 =>
 ix x1 x5 >>= fun v2 =>
 CU v1 v2 >>= fun v3 => if v3 then
 Xd x0 x1 (wr (x5 + (1 : Int)))
 else
 some (.inr false)
 else
 some (.inl ())
 partial_fixpoint
theorem Hz (x0 : List Qa) (x1 : List Qa) (x5 : Int) (o : Unit ⊕ Bool) (h : Xd x0 x1 x5 = some o) : LO 109 4 27 [0, 1, 5] [.sl 4 (List.map Q4 x0), .sl 4 (List.map Q4 x1), ii x5] [] [4] (KS (x0, x1) () o) :=
 Xd.partial_correctness x0 x1 (fun x5 o => LO 109 4 27 [0, 1, 5] [.sl 4 (List.map Q4 x0), .sl 4 (List.map Q4 x1), ii x5] [] [4] (KS (x0, x1) () o))
 (fun Xd Q1f x5 o h  =>
 Lp2 (hs := [(13, .n eI 13 none), (14, .split), (19, .e Q4), (23, .e Q4), (25, .cb)]) (kb := []) (kbx := []) ((kN _ (mLen (sh := Q4) x0) fun v0 => (kIfD (p := x5 < v0) (kIx (enc := Q4) (l := x0) (k := x5) fun v1 => (kIx (enc := Q4) (l := x1) (k := x5) fun v2 => (kCb (AR v1 v2) (kM0 (alts := KS (x0, x1) ()) (Q1f (wr (x5 + (1 : Int)))))
 (kX (alts := KS (x0, x1) ()) (.inr false) (.next (.here _ rfl (.refl _) (.refl _)))))))
 (kX (alts := KS (x0, x1) ()) (.inl ()) (.here _ rfl (.refl _) (.refl _))))) h)) x5 o h
def DX (x0 : List Qa) (x1 : List Qa) : Option Bool :=
 some (List.length x0 : Int) >>= fun v0 =>
 some (List.length x1 : Int) >>= fun v1 =>
 if v0 != v1 then
 some false
 else
 some () >>= fun v2 =>
 Xd x0 x1 (0 : Int) >>= fun v3 => (match v3 with
 | (.inl v4) =>
 some true
 | (.inr v5) =>
 some v5)
theorem Tt (x0 : List Qa) (x1 : List Qa) (r : Bool) (h : DX x0 x1 = some r) : PU 109 [Gq x0, Gq x1] (eB r) :=
 Pu2 (hs := [(7, .n eI 7 none), (9, .n eI 9 none), (10, .split), (3000005, .l [] [0, 1, 5] [] [4] [] (KS (x0, x1)))]) ((kN _ (mLen (sh := Q4) x0) fun v0 => (kN _ (mLen (sh := Q4) x1) fun v1 => (kIf (c := v0 != v1) (kEr (enc := eB) false)
 (kL2 () (hL := (Hz x0 x1 (0 : Int))) (hA := fun v2 v4 => (kEr (enc := eB) true))
 (hB := fun v2 v5 => (kEr (enc := eB) v5)))))) h)
def Ja (s : ((List Qb) × (List Qb))) (u : Unit) (o : Unit ⊕ Bool) : List Alt := [⟨fun (x : Unit) => (Sum.inl x : Unit ⊕ Bool) = o, .exit 0, fun x => [.undef], fun x => []⟩, ⟨fun (x : Bool) => (Sum.inr x : Unit ⊕ Bool) = o, .ret, fun x => [.bool x], fun x => []⟩]
mutual
def VU (x0 : Q2) (x1 : Q2) : Option Bool :=
 if x0.fOp == x1.fOp then
 if x0.fName == x1.fName then
 if x0.fVal.fN == x1.fVal.fN && (x0.fVal.fD == x1.fVal.fD && true) then
 if x0.fType.fKind == x1.fType.fKind && (x0.fType.fBits == x1.fType.fBits && (x0.fType.fFrac == x1.fType.fFrac && (x0.fType.fRound == x1.fType.fRound && (x0.fType.fOver == x1.fType.fOver && true)))) then
 DY x0.fLin x1.fLin >>= fun v0 => if v0 then
 DX x0.fIdx x1.fIdx >>= fun v1 => if v1 then
 DH x0.fArgs x1.fArgs >>= fun v2 =>
 some v2
 else
 some false
 else
 some false
 else
 some false
 else
 some false
 else
 some false
 else
 some false
 partial_fixpoint
def DH (x0 : List Qb) (x1 : List Qb) : Option Bool :=
 some (List.length x0 : Int) >>= fun v0 =>
 some (List.length x1 : Int) >>= fun v1 =>
 if v0 != v1 then
 some false
 else
 some () >>= fun v2 =>
 Yc x0 x1 (0 : Int) >>= fun v3 => (match v3 with
 | (.inl v4) =>
 some true
 | (.inr v5) =>
 some v5)
 partial_fixpoint
def Yc (x0 : List Qb) (x1 : List Qb) (x5 : Int) : Option (Unit ⊕ Bool) :=
 some (List.length x0 : Int) >>= fun v0 =>
 if x5 < v0 then
 Option.map Qb.f (ix x0 x5) >>= fun v1 =>
 Option.map Qb.f (ix x1 x5) >>= fun v2 =>
 VU v1 v2 >>= fun v3 => if v3 then
 Yc x0 x1 (wr (x5 + (1 : Int)))
 else
 some (.inr false)
 else
 some (.inl ())
 partial_fixpoint
end
theorem AP  : (∀ (x0 : Q2) (x1 : Q2) (r : Bool), VU x0 x1 = some r → PU 95 [Q8 x0, Q8 x1] (eB r)) ∧ (∀ (x0 : List Qb) (x1 : List Qb) (r : Bool), DH x0 x1 = some r → PU 110 [YA x0, YA x1] (eB r)) ∧ (∀ (x0 : List Qb) (x1 : List Qb) (x5 : Int) (o : Unit ⊕ Bool), Yc x0 x1 x5 = some o → LO 110 4 27 [0, 1, 5] [.sl 13 (List.map Qm x0), .sl 13 (List.map Qm x1), ii x5] [] [4] (Ja (x0, x1) () o)) :=
 VU.mutual_partial_correctness  (fun x0 x1 r => PU 95 [Q8 x0, Q8 x1] (eB r)) (fun x0 x1 r => PU 110 [YA x0, YA x1] (eB r)) (fun x0 x1 x5 o => LO 110 4 27 [0, 1, 5] [.sl 13 (List.map Qm x0), .sl 13 (List.map Qm x1), ii x5] [] [4] (Ja (x0, x1) () o))
 (fun DH Q1c x0 x1 r h  =>
 Pu2 (hs := [(9, .split), (15, .split), (22, .split), (29, .split), (36, .cb), (43, .cb), (50, .c eB)]) ((kIf (c := x0.fOp == x1.fOp) (kIf (c := x0.fName == x1.fName) (kIf (c := x0.fVal.fN == x1.fVal.fN && (x0.fVal.fD == x1.fVal.fD && true)) (kIf (c := x0.fType.fKind == x1.fType.fKind && (x0.fType.fBits == x1.fType.fBits && (x0.fType.fFrac == x1.fType.fFrac && (x0.fType.fRound == x1.fType.fRound && (x0.fType.fOver == x1.fType.fOver && true))))) (kCb (L2 x0.fLin x1.fLin) (kCb (Tt x0.fIdx x1.fIdx) (kC (sh := eB) (Q1c x0.fArgs x1.fArgs) fun v2 => (kEr (enc := eB) v2))
 (kEr (enc := eB) false))
 (kEr (enc := eB) false))
 (kEr (enc := eB) false))
 (kEr (enc := eB) false))
 (kEr (enc := eB) false))
 (kEr (enc := eB) false)) h))
 (fun Yc Q1d x0 x1 r h  =>
 Pu2 (hs := [(7, .n eI 7 none), (9, .n eI 9 none), (10, .split), (3000005, .l [] [0, 1, 5] [] [4] [] (Ja (x0, x1)))]) ((kN _ (mLen (sh := Qm) x0) fun v0 => (kN _ (mLen (sh := Qm) x1) fun v1 => (kIf (c := v0 != v1) (kEr (enc := eB) false)
 (kL2 () (hL := (Q1d x0 x1 (0 : Int))) (hA := fun v2 v4 => (kEr (enc := eB) true))
 (hB := fun v2 v5 => (kEr (enc := eB) v5)))))) h))
 (fun VU Yc Q1b Q1d x0 x1 x5 o h  =>
 Lp2 (hs := [(13, .n eI 13 none), (14, .split), (19, .e Q8), (23, .e Q8), (25, .cb)]) (kb := []) (kbx := []) ((kN _ (mLen (sh := Qm) x0) fun v0 => (kIfD (p := x5 < v0) (kIxR (l := x0) (k := x5) QS fun v1 => (kIxR (l := x1) (k := x5) QS fun v2 => (kCb (Q1b v1 v2) (kM0 (alts := Ja (x0, x1) ()) (Q1d x0 x1 (wr (x5 + (1 : Int)))))
 (kX (alts := Ja (x0, x1) ()) (.inr false) (.next (.here _ rfl (.refl _) (.refl _)))))))
 (kX (alts := Ja (x0, x1) ()) (.inl ()) (.here _ rfl (.refl _) (.refl _))))) h))
theorem PI (x0 : Q2) (x1 : Q2) (r : Bool) (h : VU x0 x1 = some r) : PU 95 [Q8 x0, Q8 x1] (eB r) := (AP ).1 x0 x1 r h
def Gn (s : Qc) (u : (Bool × Bool)) (o : Bool) : List Alt := [⟨fun (x : Bool) => x = o, .normal, fun x => [.ptr 0 0 0, .bool (u.1), .bool (u.2), .bool x], fun x => [.cells 0 (Qn s).cells]⟩]
def YY (s : Qc) (u : (Bool × Bool × Bool)) (o : Bool) : List Alt := jb o (fun b => [.ptr 0 0 0, .bool (u.1), .bool (u.2.1), .bool (u.2.2), .bool b]) [.cells 0 (Qn s).cells]
def QB (s : Qc) (u : (Bool × Bool)) (o : Bool) : List Alt := jb o (fun b => [.ptr 0 0 0, .bool (u.1), .bool (u.2), .bool b]) [.cells 0 (Qn s).cells]
def Zu (s : Qc) (u : Bool) (o : Bool) : List Alt := jb o (fun b => [.ptr 0 0 0, .bool u, .bool b]) [.cells 0 (Qn s).cells]
def CF (x0 : Qc) : Option Bool :=
 some ((x0.fOp == (1 : Int)), (x0.fOp == (4 : Int))) >>= fun v0 =>
 (if x0.fOp == (2 : Int) then
 some true
 else
 some (x0.fOp == (3 : Int))) >>= fun v2 =>
 some (v0.fst, v0.snd, v2) >>= fun v3 =>
 (if v0.fst then
 some false
 else
 if v0.snd then
 some false
 else
 if v2 then
 some false
 else
 some true) >>= fun v4 => if v4 then
 some false
 else
 some (v3.fst, v3.snd.snd) >>= fun v7 =>
 (if v3.fst then
 if x0.fOp != (3 : Int) then
 if x0.fFold != (0 : Int) then
 some true
 else
 if v3.snd.fst then
 if !x0.fName == [] then
 some true
 else
 some false
 else
 some false
 else
 if v3.snd.fst then
 if !x0.fName == [] then
 some true
 else
 some false
 else
 some false
 else
 if x0.fMany != (0 : Int) then
 some true
 else
 if x0.fMark != (0 : Int) then
 some true
 else
 if x0.fOp != (3 : Int) then
 if x0.fFold != (0 : Int) then
 some true
 else
 if v3.snd.fst then
 if !x0.fName == [] then
 some true
 else
 some false
 else
 some false
 else
 if v3.snd.fst then
 if !x0.fName == [] then
 some true
 else
 some false
 else
 some false) >>= fun v8 => if v8 then
 some false
 else
 some v7.fst >>= fun v11 =>
 (if v7.snd then
 if v7.snd then
 some (List.length x0.fBody : Int) >>= fun v13 =>
 if (0 : Int) < v13 then
 some true
 else
 some false
 else
 some false
 else
 some (List.length x0.fIdx : Int) >>= fun v14 =>
 if (0 : Int) < v14 then
 some true
 else
 if v7.snd then
 some (List.length x0.fBody : Int) >>= fun v15 =>
 if (0 : Int) < v15 then
 some true
 else
 some false
 else
 some false) >>= fun v12 => if v12 then
 some false
 else
 if v11 then
 some ((QO.mk (0 : Int) [] (gVal.mk (0 : Int) (0 : Int)) (Qi.mk (0 : Int) (0 : Int) (0 : Int) (0 : Int) (0 : Int)) (gLin.mk (0 : Int) []) [] [] : Q2)) >>= fun v18 =>
 VU x0.fExpr v18 >>= fun v19 =>
 some v19
 else
 some true
theorem A3 (x0 : Qc) (r : Bool) (h : CF x0 = some r) : PU 74 [Qn x0] (eB r) :=
 Pu2 (hs := [(14, .split), (20, .split), (23, .split), (27, .split), (30, .split), (35, .split), (39, .split), (45, .split), (49, .split), (53, .split), (57, .split), (60, .split), (65, .n eI 65 none), (66, .split), (69, .split), (73, .n eI 73 none), (74, .split), (77, .split), (82, .n Q8 82 none), (83, .c eB), (5000002, .l [] [] [] [1, 3, 4, 5] [kk 1] (Gn x0)), (5000003, .l [] [] [] [1, 3, 4, 5, 29] [kk 1] (YY x0)), (5000005, .l [] [] [] [1, 3, 5, 59] [kk 1] (QB x0)), (5000007, .l [] [] [] [1, 3, 76] [kk 1] (Zu x0))]) ((kJ1 (id := 5000002) ((x0.fOp == (1 : Int)), (x0.fOp == (4 : Int))) (fun v0 ev0 v1 => (kIf (c := x0.fOp == (2 : Int)) (kXj (alts := Gn x0) ev0 true (.here _ rfl (.refl _) (.refl _)))
 (kXj (alts := Gn x0) ev0 (x0.fOp == (3 : Int)) (.here _ rfl (.refl _) (.refl _)))))
 (fun v0 v2 => (kJb (id := 5000003) (v0.fst, v0.snd, v2) (fun v3 ev3 v4 => (kIf (c := v0.fst) (kXj (alts := YY x0) ev3 false (.next (.here () rfl (.refl _) (.refl _))))
 (kIf (c := v0.snd) (kXj (alts := YY x0) ev3 false (.next (.here () rfl (.refl _) (.refl _))))
 (kIf (c := v2) (kXj (alts := YY x0) ev3 false (.next (.here () rfl (.refl _) (.refl _))))
 (kXj (alts := YY x0) ev3 true (.here () rfl (.refl _) (.refl _)))))))
 (fun v3 => (kEr (enc := eB) false))
 (fun v3 => (kJb (id := 5000005) (v3.fst, v3.snd.snd) (fun v7 ev7 v8 => (kIf (c := v3.fst) (kIf (c := x0.fOp != (3 : Int)) (kIf (c := x0.fFold != (0 : Int)) (kXj (alts := QB x0) ev7 true (.here () rfl (.refl _) (.refl _)))
 (kIf (c := v3.snd.fst) (kIf (c := !x0.fName == []) (kXj (alts := QB x0) ev7 true (.here () rfl (.refl _) (.refl _)))
 (kXj (alts := QB x0) ev7 false (.next (.here () rfl (.refl _) (.refl _)))))
 (kXj (alts := QB x0) ev7 false (.next (.here () rfl (.refl _) (.refl _))))))
 (kIf (c := v3.snd.fst) (kIf (c := !x0.fName == []) (kXj (alts := QB x0) ev7 true (.here () rfl (.refl _) (.refl _)))
 (kXj (alts := QB x0) ev7 false (.next (.here () rfl (.refl _) (.refl _)))))
 (kXj (alts := QB x0) ev7 false (.next (.here () rfl (.refl _) (.refl _))))))
 (kIf (c := x0.fMany != (0 : Int)) (kXj (alts := QB x0) ev7 true (.here () rfl (.refl _) (.refl _)))
 (kIf (c := x0.fMark != (0 : Int)) (kXj (alts := QB x0) ev7 true (.here () rfl (.refl _) (.refl _)))
 (kIf (c := x0.fOp != (3 : Int)) (kIf (c := x0.fFold != (0 : Int)) (kXj (alts := QB x0) ev7 true (.here () rfl (.refl _) (.refl _)))
 (kIf (c := v3.snd.fst) (kIf (c := !x0.fName == []) (kXj (alts := QB x0) ev7 true (.here () rfl (.refl _) (.refl _)))
 (kXj (alts := QB x0) ev7 false (.next (.here () rfl (.refl _) (.refl _)))))
 (kXj (alts := QB x0) ev7 false (.next (.here () rfl (.refl _) (.refl _))))))
 (kIf (c := v3.snd.fst) (kIf (c := !x0.fName == []) (kXj (alts := QB x0) ev7 true (.here () rfl (.refl _) (.refl _)))
 (kXj (alts := QB x0) ev7 false (.next (.here () rfl (.refl _) (.refl _)))))
 (kXj (alts := QB x0) ev7 false (.next (.here () rfl (.refl _) (.refl _))))))))))
 (fun v7 => (kEr (enc := eB) false))
 (fun v7 => (kJb (id := 5000007) v7.fst (fun v11 ev11 v12 => (kIf (c := v7.snd) (kIf (c := v7.snd) (kN _ (mLen (sh := Qq) x0.fBody) fun v13 => (kIfD (p := (0 : Int) < v13) (kXj (alts := Zu x0) ev11 true (.here () rfl (.refl _) (.refl _)))
 (kXj (alts := Zu x0) ev11 false (.next (.here () rfl (.refl _) (.refl _))))))
 (kXj (alts := Zu x0) ev11 false (.next (.here () rfl (.refl _) (.refl _)))))
 (kN _ (mLen (sh := Q4) x0.fIdx) fun v14 => (kIfD (p := (0 : Int) < v14) (kXj (alts := Zu x0) ev11 true (.here () rfl (.refl _) (.refl _)))
 (kIf (c := v7.snd) (kN _ (mLen (sh := Qq) x0.fBody) fun v15 => (kIfD (p := (0 : Int) < v15) (kXj (alts := Zu x0) ev11 true (.here () rfl (.refl _) (.refl _)))
 (kXj (alts := Zu x0) ev11 false (.next (.here () rfl (.refl _) (.refl _))))))
 (kXj (alts := Zu x0) ev11 false (.next (.here () rfl (.refl _) (.refl _)))))))))
 (fun v11 => (kEr (enc := eB) false))
 (fun v11 => (kIf (c := v11) (kW (sh := Q8) (QO.mk (0 : Int) [] (gVal.mk (0 : Int) (0 : Int)) (Qi.mk (0 : Int) (0 : Int) (0 : Int) (0 : Int) (0 : Int)) (gLin.mk (0 : Int) []) [] [] : Q2) (LeV.agg (.cons (LeV.refl (ii (0 : Int))) (.cons (LeV.refl (AV.str [])) (.cons (LeV.refl (ii (0 : Int))) (.cons (LeV.refl (ii (0 : Int))) (.cons (LeV.refl (ii (0 : Int))) (.cons (LeV.refl (ii (0 : Int))) (.cons (LeV.refl (ii (0 : Int))) (.cons (LeV.refl (ii (0 : Int))) (.cons (LeV.refl (ii (0 : Int))) (.cons (LeV.refl (ii (0 : Int))) (.cons (LeV.nil 2) (.cons (LeV.nil 4) (.cons (LeV.nil 13) .nil)))))))))))))) fun v18 => (kC (sh := eB) (PI x0.fExpr v18) fun v19 => (kEr (enc := eB) v19)))
 (kEr (enc := eB) true)))))))))) h)
def KX (s : (Str × Qh)) (u : Unit) (o : Qw ⊕ (Qw × Bool)) : List Alt := [⟨fun (x : Qw) => (Sum.inl x : Qw ⊕ (Qw × Bool)) = o, .exit 0, fun x => [.ptr 0 0 0, .undef], fun x => [.cells 0 (Qx x).cells]⟩, ⟨fun (x : (Qw × Bool)) => (Sum.inr x : Qw ⊕ (Qw × Bool)) = o, .ret, fun x => [.ptr 0 0 0, .bool x.2], fun x => [.cells 0 (Qx x.1).cells]⟩]
def Z6 (x1 : Str) (x2 : Qh) (x4 : Qw) (x6 : Int) : Option (Qw ⊕ (Qw × Bool)) :=
 some (List.length x2.fBufs : Int) >>= fun v0 =>
 if x6 < v0 then
 ix x2.fBufs x6 >>= fun v1 =>
 if v1.fName == x1 then
 ix x2.fBufs x6 >>= fun v2 =>
 some (.inr (v2, true))
 else
 Z6 x1 x2 x4 (wr (x6 + (1 : Int)))
 else
 some (.inl x4)
 partial_fixpoint
theorem HK (x1 : Str) (x2 : Qh) (x4 : Qw) (x6 : Int) (o : Qw ⊕ (Qw × Bool)) (h : Z6 x1 x2 x4 x6 = some o) : LO 75 2 28 [1, 2, 4, 6] [.str x1, .ptr 0 0 0, .ptr 1 0 0, ii x6] [.cells 0 (Qs x2).cells, .cells 0 (Qx x4).cells] [4, 5] (KX (x1, x2) () o) :=
 Z6.partial_correctness x1 x2 x4 (fun x6 o => LO 75 2 28 [1, 2, 4, 6] [.str x1, .ptr 0 0 0, .ptr 1 0 0, ii x6] [.cells 0 (Qs x2).cells, .cells 0 (Qx x4).cells] [4, 5] (KX (x1, x2) () o))
 (fun Z6 Q2x x6 o h  =>
 Lp2 (hs := [(10, .n eI 10 none), (11, .split), (17, .e Qx), (21, .split), (25, .e Qx)]) (kb := [kk 2, kk 4]) (kbx := [kk 4]) ((kN _ (mLen (sh := Qx) x2.fBufs) fun v0 => (kIfD (p := x6 < v0) (kIx (enc := Qx) (l := x2.fBufs) (k := x6) fun v1 => (kIf (c := v1.fName == x1) (kIx (enc := Qx) (l := x2.fBufs) (k := x6) fun v2 => (kX (alts := KX (x1, x2) ()) (.inr (v2, true)) (.next (.here _ rfl (.refl _) (.refl _)))))
 (kM0 (alts := KX (x1, x2) ()) (Q2x (wr (x6 + (1 : Int)))))))
 (kX (alts := KX (x1, x2) ()) (.inl x4) (.here _ rfl (.refl _) (.refl _))))) h)) x6 o h
def Xs (x0 : Qh) (x1 : Str) : Option (Qw × Bool) :=
 some () >>= fun v0 =>
 Z6 x1 x0 (Qw.mk [] (Qi.mk (0 : Int) (0 : Int) (0 : Int) (0 : Int) (0 : Int)) [] (0 : Int)) (0 : Int) >>= fun v1 => (match v1 with
 | (.inl v2) =>
 some ((Qw.mk [] (Qi.mk (0 : Int) (0 : Int) (0 : Int) (0 : Int) (0 : Int)) [] (0 : Int))) >>= fun v3 =>
 some (v3, false)
 | (.inr v4) =>
 some (v4.fst, v4.snd))
theorem Uj (x0 : Qh) (x1 : Str) (r : (Qw × Bool)) (h : Xs x0 x1 = some r) : PU 75 [Qs x0, eS x1] (QX r) :=
 Pu2 (hs := [(27, .n Qx 27 none), (3000003, .l [] [1, 2, 4, 6] [kk 2, kk 4] [4, 5] [kk 4] (KX (x1, x0)))]) ((kL2 () (hL := (fun y hy => ZC.le (.cons (LeV.refl (AV.str x1)) (.cons (LeV.refl (AV.ptr (0 : Nat) (0 : Nat) (0 : Nat))) (.cons (LeV.refl (AV.ptr (1 : Nat) (0 : Nat) (0 : Nat))) (.cons (LeV.refl (ii (0 : Int))) .nil)))) (.cons (LeB.refl (Box.cells (0 : Nat) [AV.sl (8 : Nat) (List.map Qx x0.fBufs), AV.sl (20 : Nat) (List.map Qq x0.fBody)])) (.cons (LeB.cells (0 : Nat) (.cons (LeV.refl (AV.str [])) (.cons (LeV.refl (ii (0 : Int))) (.cons (LeV.refl (ii (0 : Int))) (.cons (LeV.refl (ii (0 : Int))) (.cons (LeV.refl (ii (0 : Int))) (.cons (LeV.refl (ii (0 : Int))) (.cons (LeV.nil 1) (.cons (LeV.refl (ii (0 : Int))) .nil))))))))) .nil)) (HK x1 x0 (Qw.mk [] (Qi.mk (0 : Int) (0 : Int) (0 : Int) (0 : Int) (0 : Int)) [] (0 : Int)) (0 : Int) y hy))) (hA := fun v0 v2 => (kW (sh := Qx) (Qw.mk [] (Qi.mk (0 : Int) (0 : Int) (0 : Int) (0 : Int) (0 : Int)) [] (0 : Int)) (LeV.agg (.cons (LeV.refl (AV.str [])) (.cons (LeV.refl (ii (0 : Int))) (.cons (LeV.refl (ii (0 : Int))) (.cons (LeV.refl (ii (0 : Int))) (.cons (LeV.refl (ii (0 : Int))) (.cons (LeV.refl (ii (0 : Int))) (.cons (LeV.nil 1) (.cons (LeV.refl (ii (0 : Int))) .nil))))))))) fun v3 => (kEr (enc := QX) (v3, false))))
 (hB := fun v0 v4 => (kEr (enc := QX) (v4.fst, v4.snd)))) h)
def Ur (s : (Int × Q2)) (u : Unit) (o : Int) : List Alt := [⟨fun (x : Int) => x = o, .exit 0, fun x => [ii x], fun x => []⟩]
def VK (s : (Int × Q2)) (u : (Int × Int)) (o : Bool) : List Alt := jb o (fun b => [ii (s.1), .ptr 0 0 0, ii (u.1), ii (u.2), .bool b]) [.cells 0 (Q8 (s.2)).cells]
mutual
def V4 (x0 : Q2) (x1 : Int) : Option Int :=
 some () >>= fun v0 =>
 XP x1 x0 (1 : Int) (0 : Int) >>= fun v2 =>
 some v2
 partial_fixpoint
def XP (x1 : Int) (x2 : Q2) (x5 : Int) (x6 : Int) : Option Int :=
 some (x5, x6) >>= fun v0 =>
 (some (List.length x2.fArgs : Int) >>= fun v2 =>
 if x6 < v2 then
 if (1 : Int) < x1 then
 some true
 else
 some false
 else
 some false) >>= fun v1 => if v1 then
 Option.map Qb.f (ix x2.fArgs v0.snd) >>= fun v4 =>
 V4 v4 (wr (x1 - (1 : Int))) >>= fun v5 =>
 XP x1 x2 (if true = true then max v0.fst (wr ((1 : Int) + v5)) else min v0.fst (wr ((1 : Int) + v5))) (wr (v0.snd + (1 : Int)))
 else
 some v0.fst
 partial_fixpoint
end
theorem Tn  : (∀ (x0 : Q2) (x1 : Int) (r : Int), V4 x0 x1 = some r → PU 113 [Q8 x0, eI x1] (eI r)) ∧ (∀ (x1 : Int) (x2 : Q2) (x5 : Int) (x6 : Int) (o : Int), XP x1 x2 x5 x6 = some o → LO 113 3 30 [1, 2, 5, 6] [ii x1, .ptr 0 0 0, ii x5, ii x6] [.cells 0 (Q8 x2).cells] [5] (Ur (x1, x2) () o)) :=
 V4.mutual_partial_correctness  (fun x0 x1 r => PU 113 [Q8 x0, eI x1] (eI r)) (fun x1 x2 x5 x6 o => LO 113 3 30 [1, 2, 5, 6] [ii x1, .ptr 0 0 0, ii x5, ii x6] [.cells 0 (Q8 x2).cells] [5] (Ur (x1, x2) () o))
 (fun XP Q2e x0 x1 r h  =>
 Pu2 (hs := [(3000004, .l [] [1, 2, 5, 6] [kk 2] [5] [] (Ur (x1, x0)))]) ((kL1 () (Q2e x1 x0 (1 : Int) (0 : Int)) fun v0 v2 => (kEr (enc := eI) v2)) h))
 (fun V4 XP Q2d Q2e x1 x2 x5 x6 o h  =>
 Lp2 (hs := [(10, .n eI 10 none), (11, .split), (14, .split), (22, .e Q8), (26, .c eI), (5000003, .l [] [] [] [1, 2, 5, 6, 15] [kk 2] (VK (x1, x2)))]) (kb := [kk 2]) (kbx := []) ((kJb (id := 5000003) (x5, x6) (fun v0 ev0 v1 => (kN _ (mLen (sh := Qm) x2.fArgs) fun v2 => (kIfD (p := x6 < v2) (kIfD (p := (1 : Int) < x1) (kXj (alts := VK (x1, x2)) ev0 true (.here () rfl (.refl _) (.refl _)))
 (kXj (alts := VK (x1, x2)) ev0 false (.next (.here () rfl (.refl _) (.refl _)))))
 (kXj (alts := VK (x1, x2)) ev0 false (.next (.here () rfl (.refl _) (.refl _)))))))
 (fun v0 => (kIxR (l := x2.fArgs) (k := v0.snd) QS fun v4 => (kC (sh := eI) (Q2d v4 (wr (x1 - (1 : Int)))) fun v5 => (kM0 (alts := Ur (x1, x2) ()) (Q2e x1 x2 (if true = true then max v0.fst (wr ((1 : Int) + v5)) else min v0.fst (wr ((1 : Int) + v5))) (wr (v0.snd + (1 : Int))))))))
 (fun v0 => (kX (alts := Ur (x1, x2) ()) v0.fst (.here _ rfl (.refl _) (.refl _))))) h))
theorem SU (x0 : Q2) (x1 : Int) (r : Int) (h : V4 x0 x1 = some r) : PU 113 [Q8 x0, eI x1] (eI r) := (Tn ).1 x0 x1 r h
def CA (x0 : Q2) : Option Int :=
 V4 x0 (41 : Int) >>= fun v0 =>
 some v0
theorem SS (x0 : Q2) (r : Int) (h : CA x0 = some r) : PU 98 [Q8 x0] (eI r) :=
 Pu2 (hs := [(4, .c eI)]) ((kC (sh := eI) (SU x0 (41 : Int)) fun v0 => (kEr (enc := eI) v0)) h)
def UZ (s : (Int × Q2)) (u : Unit) (o : Int) : List Alt := [⟨fun (x : Int) => x = o, .exit 0, fun x => [ii x], fun x => []⟩]
def Jj (s : (Int × Q2)) (u : (Int × Int)) (o : Bool) : List Alt := jb o (fun b => [ii (s.1), .ptr 0 0 0, ii (u.1), ii (u.2), .bool b]) [.cells 0 (Q8 (s.2)).cells]
mutual
def J3 (x0 : Q2) (x1 : Int) : Option Int :=
 some ((1 : Int) : Int) >>= fun v0 =>
 some () >>= fun v1 =>
 Yh x1 x0 v0 (0 : Int) >>= fun v3 =>
 some v3
 partial_fixpoint
def Yh (x1 : Int) (x2 : Q2) (x5 : Int) (x6 : Int) : Option Int :=
 some (x5, x6) >>= fun v0 =>
 (some (List.length x2.fArgs : Int) >>= fun v2 =>
 if x6 < v2 then
 if x5 ≤ x1 then
 some true
 else
 some false
 else
 some false) >>= fun v1 => if v1 then
 Option.map Qb.f (ix x2.fArgs v0.snd) >>= fun v4 =>
 J3 v4 (wr (x1 - v0.fst)) >>= fun v5 =>
 some (wr (v0.fst + v5) : Int) >>= fun v6 =>
 Yh x1 x2 v6 (wr (v0.snd + (1 : Int)))
 else
 some v0.fst
 partial_fixpoint
end
theorem SE  : (∀ (x0 : Q2) (x1 : Int) (r : Int), J3 x0 x1 = some r → PU 114 [Q8 x0, eI x1] (eI r)) ∧ (∀ (x1 : Int) (x2 : Q2) (x5 : Int) (x6 : Int) (o : Int), Yh x1 x2 x5 x6 = some o → LO 114 3 31 [1, 2, 5, 6] [ii x1, .ptr 0 0 0, ii x5, ii x6] [.cells 0 (Q8 x2).cells] [5] (UZ (x1, x2) () o)) :=
 J3.mutual_partial_correctness  (fun x0 x1 r => PU 114 [Q8 x0, eI x1] (eI r)) (fun x1 x2 x5 x6 o => LO 114 3 31 [1, 2, 5, 6] [ii x1, .ptr 0 0 0, ii x5, ii x6] [.cells 0 (Q8 x2).cells] [5] (UZ (x1, x2) () o))
 (fun Yh Q2p x0 x1 r h  =>
 Pu2 (hs := [(5, .n eI 5 none), (3000004, .l [] [1, 2, 5, 6] [kk 2] [5] [] (UZ (x1, x0)))]) ((kN (1 : Int) rfl fun v0 => (kL1 () (Q2p x1 x0 v0 (0 : Int)) fun v1 v3 => (kEr (enc := eI) v3))) h))
 (fun J3 Yh Q2o Q2p x1 x2 x5 x6 o h  =>
 Lp2 (hs := [(10, .n eI 10 none), (11, .split), (15, .split), (23, .e Q8), (28, .c eI), (5, .n eI 5 none), (5000003, .l [] [] [] [1, 2, 5, 6, 16] [kk 2] (Jj (x1, x2)))]) (kb := [kk 2]) (kbx := []) ((kJb (id := 5000003) (x5, x6) (fun v0 ev0 v1 => (kN _ (mLen (sh := Qm) x2.fArgs) fun v2 => (kIfD (p := x6 < v2) (kIfD (p := x5 ≤ x1) (kXj (alts := Jj (x1, x2)) ev0 true (.here () rfl (.refl _) (.refl _)))
 (kXj (alts := Jj (x1, x2)) ev0 false (.next (.here () rfl (.refl _) (.refl _)))))
 (kXj (alts := Jj (x1, x2)) ev0 false (.next (.here () rfl (.refl _) (.refl _)))))))
 (fun v0 => (kIxR (l := x2.fArgs) (k := v0.snd) QS fun v4 => (kC (sh := eI) (Q2o v4 (wr (x1 - v0.fst))) fun v5 => (kN (wr (v0.fst + v5)) rfl fun v6 => (kM0 (alts := UZ (x1, x2) ()) (Q2p x1 x2 v6 (wr (v0.snd + (1 : Int)))))))))
 (fun v0 => (kX (alts := UZ (x1, x2) ()) v0.fst (.here _ rfl (.refl _) (.refl _))))) h))
theorem F2 (x0 : Q2) (x1 : Int) (r : Int) (h : J3 x0 x1 = some r) : PU 114 [Q8 x0, eI x1] (eI r) := (SE ).1 x0 x1 r h
def W0 (x0 : Q2) : Option Int :=
 J3 x0 (2000 : Int) >>= fun v0 =>
 some (if false = true then max v0 (2001 : Int) else min v0 (2001 : Int))
theorem AZ (x0 : Q2) (r : Int) (h : W0 x0 = some r) : PU 99 [Q8 x0] (eI r) :=
 Pu2 (hs := [(4, .c eI)]) ((kC (sh := eI) (F2 x0 (2000 : Int)) fun v0 => (kEr (enc := eI) (if false = true then max v0 (2001 : Int) else min v0 (2001 : Int)))) h)
def Vp (s : Q2) (u : Unit) (o : Unit ⊕ Bool) : List Alt := [⟨fun (x : Unit) => (Sum.inl x : Unit ⊕ Bool) = o, .exit 0, fun x => [.undef], fun x => []⟩, ⟨fun (x : Bool) => (Sum.inr x : Unit ⊕ Bool) = o, .ret, fun x => [.bool x], fun x => []⟩]
def Z3 (s : Q2) (u : Int) (o : Bool) : List Alt := jb o (fun b => [.ptr 0 0 0, ii u, .bool b]) [.cells 0 (Q8 s).cells]
def XS (x1 : Q2) (x3 : Int) : Option (Unit ⊕ Bool) :=
 some (List.length x1.fIdx : Int) >>= fun v0 =>
 if x3 < v0 then
 ix x1.fIdx x3 >>= fun v1 =>
 some x3 >>= fun v2 =>
 (if v1.fFrom == [] then
 some (List.length v1.fAt : Int) >>= fun v4 =>
 if (0 : Int) < v4 then
 some true
 else
 if !v1.fFrom == [] then
 if v1.fLin.fK != (0 : Int) then
 some true
 else
 some (List.length v1.fLin.fL : Int) >>= fun v5 =>
 if (0 : Int) < v5 then
 some true
 else
 some false
 else
 some false
 else
 if !v1.fFrom == [] then
 if v1.fLin.fK != (0 : Int) then
 some true
 else
 some (List.length v1.fLin.fL : Int) >>= fun v6 =>
 if (0 : Int) < v6 then
 some true
 else
 some false
 else
 some false) >>= fun v3 => if v3 then
 some (.inr false)
 else
 XS x1 (wr (v2 + (1 : Int)))
 else
 some (.inl ())
 partial_fixpoint
theorem EB (x1 : Q2) (x3 : Int) (o : Unit ⊕ Bool) (h : XS x1 x3 = some o) : LO 115 8 109 [1, 3] [.ptr 0 0 0, ii x3] [.cells 0 (Q8 x1).cells] [2] (Vp x1 () o) :=
 XS.partial_correctness x1 (fun x3 o => LO 115 8 109 [1, 3] [.ptr 0 0 0, ii x3] [.cells 0 (Q8 x1).cells] [2] (Vp x1 () o))
 (fun XS Q2l x3 o h  =>
 Lp2 (hs := [(73, .n eI 73 none), (74, .split), (80, .e Q4), (84, .split), (88, .n eI 88 none), (89, .split), (94, .split), (99, .split), (104, .n eI 104 none), (105, .split), (5000011, .l [] [] [] [1, 3, 108] [kk 1] (Z3 x1))]) (kb := [kk 1]) (kbx := []) ((kN _ (mLen (sh := Q4) x1.fIdx) fun v0 => (kIfD (p := x3 < v0) (kIx (enc := Q4) (l := x1.fIdx) (k := x3) fun v1 => (kJb (id := 5000011) x3 (fun v2 ev2 v3 => (kIf (c := v1.fFrom == []) (kN _ (mLen (sh := Qj) v1.fAt) fun v4 => (kIfD (p := (0 : Int) < v4) (kXj (alts := Z3 x1) ev2 true (.here () rfl (.refl _) (.refl _)))
 (kIf (c := !v1.fFrom == []) (kIf (c := v1.fLin.fK != (0 : Int)) (kXj (alts := Z3 x1) ev2 true (.here () rfl (.refl _) (.refl _)))
 (kN _ (mLen (sh := Qf) v1.fLin.fL) fun v5 => (kIfD (p := (0 : Int) < v5) (kXj (alts := Z3 x1) ev2 true (.here () rfl (.refl _) (.refl _)))
 (kXj (alts := Z3 x1) ev2 false (.next (.here () rfl (.refl _) (.refl _)))))))
 (kXj (alts := Z3 x1) ev2 false (.next (.here () rfl (.refl _) (.refl _)))))))
 (kIf (c := !v1.fFrom == []) (kIf (c := v1.fLin.fK != (0 : Int)) (kXj (alts := Z3 x1) ev2 true (.here () rfl (.refl _) (.refl _)))
 (kN _ (mLen (sh := Qf) v1.fLin.fL) fun v6 => (kIfD (p := (0 : Int) < v6) (kXj (alts := Z3 x1) ev2 true (.here () rfl (.refl _) (.refl _)))
 (kXj (alts := Z3 x1) ev2 false (.next (.here () rfl (.refl _) (.refl _)))))))
 (kXj (alts := Z3 x1) ev2 false (.next (.here () rfl (.refl _) (.refl _)))))))
 (fun v2 => (kX (alts := Vp x1 ()) (.inr false) (.next (.here _ rfl (.refl _) (.refl _)))))
 (fun v2 => (kM0 (alts := Vp x1 ()) (Q2l (wr (v2 + (1 : Int))))))))
 (kX (alts := Vp x1 ()) (.inl ()) (.here _ rfl (.refl _) (.refl _))))) h)) x3 o h
def VN (s : Q2) (u : Unit) (o : Bool) : List Alt := jb o (fun b => [.ptr 0 0 0, .bool b]) [.cells 0 (Q8 s).cells]
def Z2 (s : Q2) (u : Unit) (o : Bool) : List Alt := jb o (fun b => [.ptr 0 0 0, .bool b]) [.cells 0 (Q8 s).cells]
def QR (s : Q2) (u : Unit) (o : Bool) : List Alt := jb o (fun b => [.ptr 0 0 0, .bool b]) [.cells 0 (Q8 s).cells]
def CD (x0 : Q2) : Option Bool :=
 some () >>= fun v0 =>
 (if x0.fOp < (1 : Int) then
 some true
 else
 if (18 : Int) < x0.fOp then
 some true
 else
 some false) >>= fun v1 => if v1 then
 some false
 else
 some () >>= fun v4 =>
 (if x0.fOp != (1 : Int) then
 some ((gVal.mk (0 : Int) (0 : Int))) >>= fun v6 =>
 if !(x0.fVal.fN == v6.fN && (x0.fVal.fD == v6.fD && true)) then
 some true
 else
 if x0.fOp != (1 : Int) then
 if x0.fOp != (12 : Int) then
 some ((Qi.mk (0 : Int) (0 : Int) (0 : Int) (0 : Int) (0 : Int))) >>= fun v7 =>
 if !(x0.fType.fKind == v7.fKind && (x0.fType.fBits == v7.fBits && (x0.fType.fFrac == v7.fFrac && (x0.fType.fRound == v7.fRound && (x0.fType.fOver == v7.fOver && true))))) then
 some true
 else
 some false
 else
 some false
 else
 some false
 else
 if x0.fOp != (1 : Int) then
 if x0.fOp != (12 : Int) then
 some ((Qi.mk (0 : Int) (0 : Int) (0 : Int) (0 : Int) (0 : Int))) >>= fun v8 =>
 if !(x0.fType.fKind == v8.fKind && (x0.fType.fBits == v8.fBits && (x0.fType.fFrac == v8.fFrac && (x0.fType.fRound == v8.fRound && (x0.fType.fOver == v8.fOver && true))))) then
 some true
 else
 some false
 else
 some false
 else
 some false) >>= fun v5 => if v5 then
 some false
 else
 some () >>= fun v11 =>
 (if x0.fOp != (2 : Int) then
 if x0.fLin.fK != (0 : Int) then
 some true
 else
 some (List.length x0.fLin.fL : Int) >>= fun v13 =>
 if (0 : Int) < v13 then
 some true
 else
 if x0.fOp != (3 : Int) then
 if !x0.fName == [] then
 some true
 else
 some (List.length x0.fIdx : Int) >>= fun v14 =>
 if (0 : Int) < v14 then
 some true
 else
 some false
 else
 some false
 else
 if x0.fOp != (3 : Int) then
 if !x0.fName == [] then
 some true
 else
 some (List.length x0.fIdx : Int) >>= fun v15 =>
 if (0 : Int) < v15 then
 some true
 else
 some false
 else
 some false) >>= fun v12 => if v12 then
 some false
 else
 some () >>= fun v18 =>
 XS x0 (0 : Int) >>= fun v19 => (match v19 with
 | (.inl v20) =>
 some true
 | (.inr v21) =>
 some v21)
theorem SW (x0 : Q2) (r : Bool) (h : CD x0 = some r) : PU 115 [Q8 x0] (eB r) :=
 Pu2 (hs := [(7, .split), (11, .split), (15, .split), (19, .n Qk 19 none), (20, .split), (25, .split), (29, .split), (34, .n Qy 34 none), (35, .split), (40, .split), (45, .split), (50, .n eI 50 none), (51, .split), (57, .split), (61, .split), (65, .n eI 65 none), (66, .split), (3000009, .l [] [1, 3] [kk 1] [2] [] (Vp x0)), (5000001, .l [] [] [] [1, 12] [kk 1] (VN x0)), (5000003, .l [] [] [] [1, 37] [kk 1] (Z2 x0)), (5000005, .l [] [] [] [1, 69] [kk 1] (QR x0))]) ((kJb (id := 5000001) () (fun v0 ev0 v1 => (kIfD (p := x0.fOp < (1 : Int)) (kXj (alts := VN x0) ev0 true (.here () rfl (.refl _) (.refl _)))
 (kIfD (p := (18 : Int) < x0.fOp) (kXj (alts := VN x0) ev0 true (.here () rfl (.refl _) (.refl _)))
 (kXj (alts := VN x0) ev0 false (.next (.here () rfl (.refl _) (.refl _)))))))
 (fun v0 => (kEr (enc := eB) false))
 (fun v0 => (kJb (id := 5000003) () (fun v4 ev4 v5 => (kIf (c := x0.fOp != (1 : Int)) (kW (sh := Qk) (gVal.mk (0 : Int) (0 : Int)) lr fun v6 => (kIf (c := !(x0.fVal.fN == v6.fN && (x0.fVal.fD == v6.fD && true))) (kXj (alts := Z2 x0) ev4 true (.here () rfl (.refl _) (.refl _)))
 (kIf (c := x0.fOp != (1 : Int)) (kIf (c := x0.fOp != (12 : Int)) (kW (sh := Qy) (Qi.mk (0 : Int) (0 : Int) (0 : Int) (0 : Int) (0 : Int)) lr fun v7 => (kIf (c := !(x0.fType.fKind == v7.fKind && (x0.fType.fBits == v7.fBits && (x0.fType.fFrac == v7.fFrac && (x0.fType.fRound == v7.fRound && (x0.fType.fOver == v7.fOver && true)))))) (kXj (alts := Z2 x0) ev4 true (.here () rfl (.refl _) (.refl _)))
 (kXj (alts := Z2 x0) ev4 false (.next (.here () rfl (.refl _) (.refl _))))))
 (kXj (alts := Z2 x0) ev4 false (.next (.here () rfl (.refl _) (.refl _)))))
 (kXj (alts := Z2 x0) ev4 false (.next (.here () rfl (.refl _) (.refl _)))))))
 (kIf (c := x0.fOp != (1 : Int)) (kIf (c := x0.fOp != (12 : Int)) (kW (sh := Qy) (Qi.mk (0 : Int) (0 : Int) (0 : Int) (0 : Int) (0 : Int)) lr fun v8 => (kIf (c := !(x0.fType.fKind == v8.fKind && (x0.fType.fBits == v8.fBits && (x0.fType.fFrac == v8.fFrac && (x0.fType.fRound == v8.fRound && (x0.fType.fOver == v8.fOver && true)))))) (kXj (alts := Z2 x0) ev4 true (.here () rfl (.refl _) (.refl _)))
 (kXj (alts := Z2 x0) ev4 false (.next (.here () rfl (.refl _) (.refl _))))))
 (kXj (alts := Z2 x0) ev4 false (.next (.here () rfl (.refl _) (.refl _)))))
 (kXj (alts := Z2 x0) ev4 false (.next (.here () rfl (.refl _) (.refl _)))))))
 (fun v4 => (kEr (enc := eB) false))
 (fun v4 => (kJb (id := 5000005) () (fun v11 ev11 v12 => (kIf (c := x0.fOp != (2 : Int)) (kIf (c := x0.fLin.fK != (0 : Int)) (kXj (alts := QR x0) ev11 true (.here () rfl (.refl _) (.refl _)))
 (kN _ (mLen (sh := Qf) x0.fLin.fL) fun v13 => (kIfD (p := (0 : Int) < v13) (kXj (alts := QR x0) ev11 true (.here () rfl (.refl _) (.refl _)))
 (kIf (c := x0.fOp != (3 : Int)) (kIf (c := !x0.fName == []) (kXj (alts := QR x0) ev11 true (.here () rfl (.refl _) (.refl _)))
 (kN _ (mLen (sh := Q4) x0.fIdx) fun v14 => (kIfD (p := (0 : Int) < v14) (kXj (alts := QR x0) ev11 true (.here () rfl (.refl _) (.refl _)))
 (kXj (alts := QR x0) ev11 false (.next (.here () rfl (.refl _) (.refl _)))))))
 (kXj (alts := QR x0) ev11 false (.next (.here () rfl (.refl _) (.refl _))))))))
 (kIf (c := x0.fOp != (3 : Int)) (kIf (c := !x0.fName == []) (kXj (alts := QR x0) ev11 true (.here () rfl (.refl _) (.refl _)))
 (kN _ (mLen (sh := Q4) x0.fIdx) fun v15 => (kIfD (p := (0 : Int) < v15) (kXj (alts := QR x0) ev11 true (.here () rfl (.refl _) (.refl _)))
 (kXj (alts := QR x0) ev11 false (.next (.here () rfl (.refl _) (.refl _)))))))
 (kXj (alts := QR x0) ev11 false (.next (.here () rfl (.refl _) (.refl _)))))))
 (fun v11 => (kEr (enc := eB) false))
 (fun v11 => (kL2 () (hL := (EB x0 (0 : Int))) (hA := fun v18 v20 => (kEr (enc := eB) true))
 (hB := fun v18 v21 => (kEr (enc := eB) v21))))))))) h)
def Vn (s : Q2) (u : Unit) (o : Unit ⊕ Bool) : List Alt := [⟨fun (x : Unit) => (Sum.inl x : Unit ⊕ Bool) = o, .exit 0, fun x => [.undef], fun x => []⟩, ⟨fun (x : Bool) => (Sum.inr x : Unit ⊕ Bool) = o, .ret, fun x => [.bool x], fun x => []⟩]
def VM (s : Q2) (u : Int) (o : Bool) : List Alt := jb o (fun b => [.ptr 0 0 0, ii u, .bool b]) [.cells 0 (Q8 s).cells]
def XQ (x1 : Q2) (x3 : Int) : Option (Unit ⊕ Bool) :=
 some (List.length x1.fIdx : Int) >>= fun v0 =>
 if x3 < v0 then
 some x3 >>= fun v1 =>
 (ix x1.fIdx x3 >>= fun v3 =>
 if !v3.fFrom == [] then
 ix x1.fIdx x3 >>= fun v4 =>
 VV v4.fFrom >>= fun v5 => if v5 then
 some false
 else
 some true
 else
 some false) >>= fun v2 => if v2 then
 some (.inr false)
 else
 XQ x1 (wr (v1 + (1 : Int)))
 else
 some (.inl ())
 partial_fixpoint
theorem EA (x1 : Q2) (x3 : Int) (o : Unit ⊕ Bool) (h : XQ x1 x3 = some o) : LO 116 4 37 [1, 3] [.ptr 0 0 0, ii x3] [.cells 0 (Q8 x1).cells] [2] (Vn x1 () o) :=
 XQ.partial_correctness x1 (fun x3 o => LO 116 4 37 [1, 3] [.ptr 0 0 0, ii x3] [.cells 0 (Q8 x1).cells] [2] (Vn x1 () o))
 (fun XQ Q2i x3 o h  =>
 Lp2 (hs := [(16, .n eI 16 none), (17, .split), (23, .e Q4), (26, .split), (31, .e Q4), (34, .cb), (5000006, .l [] [] [] [1, 3, 36] [kk 1] (VM x1))]) (kb := [kk 1]) (kbx := []) ((kN _ (mLen (sh := Q4) x1.fIdx) fun v0 => (kIfD (p := x3 < v0) (kJb (id := 5000006) x3 (fun v1 ev1 v2 => (kIx (enc := Q4) (l := x1.fIdx) (k := x3) fun v3 => (kIf (c := !v3.fFrom == []) (kIx (enc := Q4) (l := x1.fIdx) (k := x3) fun v4 => (kCb (Dy v4.fFrom) (kXj (alts := VM x1) ev1 false (.next (.here () rfl (.refl _) (.refl _))))
 (kXj (alts := VM x1) ev1 true (.here () rfl (.refl _) (.refl _)))))
 (kXj (alts := VM x1) ev1 false (.next (.here () rfl (.refl _) (.refl _)))))))
 (fun v1 => (kX (alts := Vn x1 ()) (.inr false) (.next (.here _ rfl (.refl _) (.refl _)))))
 (fun v1 => (kM0 (alts := Vn x1 ()) (Q2i (wr (v1 + (1 : Int)))))))
 (kX (alts := Vn x1 ()) (.inl ()) (.here _ rfl (.refl _) (.refl _))))) h)) x3 o h
def VL (s : Q2) (u : Unit) (o : Bool) : List Alt := jb o (fun b => [.ptr 0 0 0, .bool b]) [.cells 0 (Q8 s).cells]
def CC (x0 : Q2) : Option Bool :=
 some () >>= fun v0 =>
 (if x0.fOp == (3 : Int) then
 VV x0.fName >>= fun v2 => if v2 then
 some false
 else
 some true
 else
 some false) >>= fun v1 => if v1 then
 some false
 else
 some () >>= fun v5 =>
 XQ x0 (0 : Int) >>= fun v6 => (match v6 with
 | (.inl v7) =>
 some true
 | (.inr v8) =>
 some v8)
theorem SV (x0 : Q2) (r : Bool) (h : CC x0 = some r) : PU 116 [Q8 x0] (eB r) :=
 Pu2 (hs := [(6, .split), (10, .cb), (3000005, .l [] [1, 3] [kk 1] [2] [] (Vn x0)), (5000001, .l [] [] [] [1, 12] [kk 1] (VL x0))]) ((kJb (id := 5000001) () (fun v0 ev0 v1 => (kIf (c := x0.fOp == (3 : Int)) (kCb (Dy x0.fName) (kXj (alts := VL x0) ev0 false (.next (.here () rfl (.refl _) (.refl _))))
 (kXj (alts := VL x0) ev0 true (.here () rfl (.refl _) (.refl _))))
 (kXj (alts := VL x0) ev0 false (.next (.here () rfl (.refl _) (.refl _))))))
 (fun v0 => (kEr (enc := eB) false))
 (fun v0 => (kL2 () (hL := (EA x0 (0 : Int))) (hA := fun v5 v7 => (kEr (enc := eB) true))
 (hB := fun v5 v8 => (kEr (enc := eB) v8))))) h)
def Kh (s : Unit) (u : Int) (o : Bool) : List Alt := jb o (fun b => [ii u, .bool b]) []
def Ki (s : Unit) (u : Int) (o : Bool) : List Alt := jb o (fun b => [ii u, .bool b]) []
def DK (x0 : Int) : Option Int :=
 some x0 >>= fun v0 =>
 (if x0 == (1 : Int) then
 some true
 else
 if x0 == (2 : Int) then
 some true
 else
 if x0 == (3 : Int) then
 some true
 else
 some false) >>= fun v1 => if v1 then
 some (0 : Int)
 else
 some v0 >>= fun v4 =>
 (if v0 == (8 : Int) then
 some true
 else
 if v0 == (12 : Int) then
 some true
 else
 if v0 == (18 : Int) then
 some true
 else
 some false) >>= fun v5 => if v5 then
 some (1 : Int)
 else
 if v4 == (11 : Int) then
 some (3 : Int)
 else
 some (2 : Int)
theorem F0 (x0 : Int) (r : Int) (h : DK x0 = some r) : PU 129 [eI x0] (eI r) :=
 Pu2 (hs := [(4, .split), (4, .split), (4, .split), (8, .split), (8, .split), (8, .split), (13, .split), (6000004, .l [] [] [] [3, 4] [] (Kh ())), (6000008, .l [] [] [] [3, 8] [] (Ki ()))]) ((kJb (id := 6000004) x0 (fun v0 ev0 v1 => (kIf (c := x0 == (1 : Int)) (kXj (alts := Kh ()) ev0 true (.here () rfl (.refl _) (.refl _)))
 (kIf (c := x0 == (2 : Int)) (kXj (alts := Kh ()) ev0 true (.here () rfl (.refl _) (.refl _)))
 (kIf (c := x0 == (3 : Int)) (kXj (alts := Kh ()) ev0 true (.here () rfl (.refl _) (.refl _)))
 (kXj (alts := Kh ()) ev0 false (.next (.here () rfl (.refl _) (.refl _))))))))
 (fun v0 => (kEr (enc := eI) (0 : Int)))
 (fun v0 => (kJb (id := 6000008) v0 (fun v4 ev4 v5 => (kIf (c := v0 == (8 : Int)) (kXj (alts := Ki ()) ev4 true (.here () rfl (.refl _) (.refl _)))
 (kIf (c := v0 == (12 : Int)) (kXj (alts := Ki ()) ev4 true (.here () rfl (.refl _) (.refl _)))
 (kIf (c := v0 == (18 : Int)) (kXj (alts := Ki ()) ev4 true (.here () rfl (.refl _) (.refl _)))
 (kXj (alts := Ki ()) ev4 false (.next (.here () rfl (.refl _) (.refl _))))))))
 (fun v4 => (kEr (enc := eI) (1 : Int)))
 (fun v4 => (kIf (c := v4 == (11 : Int)) (kEr (enc := eI) (3 : Int))
 (kEr (enc := eI) (2 : Int))))))) h)
def KV (s : Q2) (u : Unit) (o : Unit ⊕ Bool) : List Alt := [⟨fun (x : Unit) => (Sum.inl x : Unit ⊕ Bool) = o, .exit 0, fun x => [.undef], fun x => []⟩, ⟨fun (x : Bool) => (Sum.inr x : Unit ⊕ Bool) = o, .ret, fun x => [.bool x], fun x => []⟩]
def Xg (x1 : Q2) (x3 : Int) : Option (Unit ⊕ Bool) :=
 some (List.length x1.fIdx : Int) >>= fun v0 =>
 if x3 < v0 then
 ix x1.fIdx x3 >>= fun v1 =>
 some (List.length v1.fAt : Int) >>= fun v2 =>
 if (6 : Int) < v2 then
 some (.inr false)
 else
 Xg x1 (wr (x3 + (1 : Int)))
 else
 some (.inl ())
 partial_fixpoint
theorem HG (x1 : Q2) (x3 : Int) (o : Unit ⊕ Bool) (h : Xg x1 x3 = some o) : LO 117 4 32 [1, 3] [.ptr 0 0 0, ii x3] [.cells 0 (Q8 x1).cells] [2] (KV x1 () o) :=
 Xg.partial_correctness x1 (fun x3 o => LO 117 4 32 [1, 3] [.ptr 0 0 0, ii x3] [.cells 0 (Q8 x1).cells] [2] (KV x1 () o))
 (fun Xg Q2m x3 o h  =>
 Lp2 (hs := [(20, .n eI 20 none), (21, .split), (27, .e Q4), (30, .n eI 30 none), (31, .split)]) (kb := [kk 1]) (kbx := []) ((kN _ (mLen (sh := Q4) x1.fIdx) fun v0 => (kIfD (p := x3 < v0) (kIx (enc := Q4) (l := x1.fIdx) (k := x3) fun v1 => (kN _ (mLen (sh := Qj) v1.fAt) fun v2 => (kIfD (p := (6 : Int) < v2) (kX (alts := KV x1 ()) (.inr false) (.next (.here _ rfl (.refl _) (.refl _))))
 (kM0 (alts := KV x1 ()) (Q2m (wr (x3 + (1 : Int))))))))
 (kX (alts := KV x1 ()) (.inl ()) (.here _ rfl (.refl _) (.refl _))))) h)) x3 o h
def V9 (s : Q2) (u : Unit) (o : Bool) : List Alt := jb o (fun b => [.ptr 0 0 0, .bool b]) [.cells 0 (Q8 s).cells]
def C3 (x0 : Q2) : Option Bool :=
 some () >>= fun v0 =>
 (DK x0.fOp >>= fun v2 =>
 some (List.length x0.fArgs : Int) >>= fun v3 =>
 if v3 != v2 then
 some true
 else
 some (List.length x0.fIdx : Int) >>= fun v4 =>
 if (6 : Int) < v4 then
 some true
 else
 some false) >>= fun v1 => if v1 then
 some false
 else
 some () >>= fun v7 =>
 Xg x0 (0 : Int) >>= fun v8 => (match v8 with
 | (.inl v9) =>
 some true
 | (.inr v10) =>
 some v10)
theorem Ty (x0 : Q2) (r : Bool) (h : C3 x0 = some r) : PU 117 [Q8 x0] (eB r) :=
 Pu2 (hs := [(6, .n eI 6 none), (9, .c eI), (10, .split), (14, .n eI 14 none), (15, .split), (3000005, .l [] [1, 3] [kk 1] [2] [] (KV x0)), (5000001, .l [] [] [] [1, 16] [kk 1] (V9 x0))]) ((kJb (id := 5000001) () (fun v0 ev0 v1 => (kC (sh := eI) (F0 x0.fOp) fun v2 => (kN _ (mLen (sh := Qm) x0.fArgs) fun v3 => (kIf (c := v3 != v2) (kXj (alts := V9 x0) ev0 true (.here () rfl (.refl _) (.refl _)))
 (kN _ (mLen (sh := Q4) x0.fIdx) fun v4 => (kIfD (p := (6 : Int) < v4) (kXj (alts := V9 x0) ev0 true (.here () rfl (.refl _) (.refl _)))
 (kXj (alts := V9 x0) ev0 false (.next (.here () rfl (.refl _) (.refl _))))))))))
 (fun v0 => (kEr (enc := eB) false))
 (fun v0 => (kL2 () (hL := (HG x0 (0 : Int))) (hA := fun v7 v9 => (kEr (enc := eB) true))
 (hB := fun v7 v10 => (kEr (enc := eB) v10))))) h)
def Zn (x0 : Q2) : Option Bool :=
 if (13 : Int) ≤ x0.fOp then
 some (decide (x0.fOp ≤ (18 : Int)))
 else
 some false
theorem YU (x0 : Q2) (r : Bool) (h : Zn x0 = some r) : PU 77 [Q8 x0] (eB r) :=
 Pu2 (hs := [(5, .split)]) ((kIfD (p := (13 : Int) ≤ x0.fOp) (kEr (enc := eB) (decide (x0.fOp ≤ (18 : Int))))
 (kEr (enc := eB) false)) h)
def Dr (x0 : Int) (x1 : Int) : Option Bool :=
 if x0 == (11 : Int) then
 if x1 == (0 : Int) then
 some true
 else
 if x0 == (16 : Int) then
 some true
 else
 if x0 == (17 : Int) then
 some true
 else
 some (x0 == (18 : Int))
 else
 if x0 == (16 : Int) then
 some true
 else
 if x0 == (17 : Int) then
 some true
 else
 some (x0 == (18 : Int))
theorem SY (x0 : Int) (x1 : Int) (r : Bool) (h : Dr x0 x1 = some r) : PU 130 [eI x0, eI x1] (eB r) :=
 Pu2 (hs := [(6, .split), (9, .split), (13, .split), (17, .split)]) ((kIf (c := x0 == (11 : Int)) (kIf (c := x1 == (0 : Int)) (kEr (enc := eB) true)
 (kIf (c := x0 == (16 : Int)) (kEr (enc := eB) true)
 (kIf (c := x0 == (17 : Int)) (kEr (enc := eB) true)
 (kEr (enc := eB) (x0 == (18 : Int))))))
 (kIf (c := x0 == (16 : Int)) (kEr (enc := eB) true)
 (kIf (c := x0 == (17 : Int)) (kEr (enc := eB) true)
 (kEr (enc := eB) (x0 == (18 : Int)))))) h)
def Vq (s : Q2) (u : Unit) (o : Unit ⊕ Bool) : List Alt := [⟨fun (x : Unit) => (Sum.inl x : Unit ⊕ Bool) = o, .exit 0, fun x => [.undef], fun x => []⟩, ⟨fun (x : Bool) => (Sum.inr x : Unit ⊕ Bool) = o, .ret, fun x => [.bool x], fun x => []⟩]
def XT (x1 : Q2) (x3 : Int) : Option (Unit ⊕ Bool) :=
 some (List.length x1.fArgs : Int) >>= fun v0 =>
 if x3 < v0 then
 Option.map Qb.f (ix x1.fArgs x3) >>= fun v1 =>
 Zn v1 >>= fun v2 =>
 Dr x1.fOp x3 >>= fun v3 =>
 if !v2 == v3 then
 some (.inr false)
 else
 XT x1 (wr (x3 + (1 : Int)))
 else
 some (.inl ())
 partial_fixpoint
theorem EC (x1 : Q2) (x3 : Int) (o : Unit ⊕ Bool) (h : XT x1 x3 = some o) : LO 118 4 36 [1, 3] [.ptr 0 0 0, ii x3] [.cells 0 (Q8 x1).cells] [2] (Vq x1 () o) :=
 XT.partial_correctness x1 (fun x3 o => LO 118 4 36 [1, 3] [.ptr 0 0 0, ii x3] [.cells 0 (Q8 x1).cells] [2] (Vq x1 () o))
 (fun XT Q2r x3 o h  =>
 Lp2 (hs := [(21, .n eI 21 none), (22, .split), (28, .e Q8), (30, .c eB), (34, .c eB), (35, .split)]) (kb := [kk 1]) (kbx := []) ((kN _ (mLen (sh := Qm) x1.fArgs) fun v0 => (kIfD (p := x3 < v0) (kIxR (l := x1.fArgs) (k := x3) QS fun v1 => (kC (sh := eB) (YU v1) fun v2 => (kC (sh := eB) (SY x1.fOp x3) fun v3 => (kIf (c := !v2 == v3) (kX (alts := Vq x1 ()) (.inr false) (.next (.here _ rfl (.refl _) (.refl _))))
 (kM0 (alts := Vq x1 ()) (Q2r (wr (x3 + (1 : Int)))))))))
 (kX (alts := Vq x1 ()) (.inl ()) (.here _ rfl (.refl _) (.refl _))))) h)) x3 o h
def Y2 (s : Q2) (u : Unit) (o : Bool) : List Alt := jb o (fun b => [.ptr 0 0 0, .bool b]) [.cells 0 (Q8 s).cells]
def CE (x0 : Q2) : Option Bool :=
 some () >>= fun v0 =>
 (if x0.fOp == (1 : Int) then
 Xv x0.fType >>= fun v2 => if v2 then
 some false
 else
 some true
 else
 if x0.fOp == (12 : Int) then
 Xv x0.fType >>= fun v3 => if v3 then
 some false
 else
 some true
 else
 some false) >>= fun v1 => if v1 then
 some false
 else
 some () >>= fun v6 =>
 XT x0 (0 : Int) >>= fun v7 => (match v7 with
 | (.inl v8) =>
 some true
 | (.inr v9) =>
 some v9)
theorem SX (x0 : Q2) (r : Bool) (h : CE x0 = some r) : PU 118 [Q8 x0] (eB r) :=
 Pu2 (hs := [(6, .split), (10, .split), (15, .cb), (3000005, .l [] [1, 3] [kk 1] [2] [] (Vq x0)), (5000001, .l [] [] [] [1, 17] [kk 1] (Y2 x0))]) ((kJb (id := 5000001) () (fun v0 ev0 v1 => (kIf (c := x0.fOp == (1 : Int)) (kCb (Uc x0.fType) (kXj (alts := Y2 x0) ev0 false (.next (.here () rfl (.refl _) (.refl _))))
 (kXj (alts := Y2 x0) ev0 true (.here () rfl (.refl _) (.refl _))))
 (kIf (c := x0.fOp == (12 : Int)) (kCb (Uc x0.fType) (kXj (alts := Y2 x0) ev0 false (.next (.here () rfl (.refl _) (.refl _))))
 (kXj (alts := Y2 x0) ev0 true (.here () rfl (.refl _) (.refl _))))
 (kXj (alts := Y2 x0) ev0 false (.next (.here () rfl (.refl _) (.refl _)))))))
 (fun v0 => (kEr (enc := eB) false))
 (fun v0 => (kL2 () (hL := (EC x0 (0 : Int))) (hA := fun v6 v8 => (kEr (enc := eB) true))
 (hB := fun v6 v9 => (kEr (enc := eB) v9))))) h)
def Do (s : Unit) (u : Unit) (o : Int) : List Alt := [⟨fun (x : Int) => x = o, .exit 0, fun x => [ii x], fun x => []⟩]
def JK (x0 : Int) (x1 : Int) : Option Int :=
 if x1 != (0 : Int) then
 if x1 ≠ (0 : Int) then
 some (x0.tmod x1 : Int) >>= fun v0 =>
 JK x1 v0
 else none
 else
 some x0
 partial_fixpoint
theorem SM (x0 : Int) (x1 : Int) (o : Int) (h : JK x0 x1 = some o) : LO 153 1 12 [0, 1] [ii x0, ii x1] [] [0] (Do () () o) :=
 JK.partial_correctness  (fun x0 x1 o => LO 153 1 12 [0, 1] [ii x0, ii x1] [] [0] (Do () () o))
 (fun JK Q1q x0 x1 o h  =>
 Lp2 (hs := [(6, .split), (10, .s), (1, .n eI 1 none)]) (kb := []) (kbx := []) ((kIf (c := x1 != (0 : Int)) (kG (p := x1 ≠ (0 : Int)) (kN (x0.tmod x1) rfl fun v0 => (kM0 (alts := Do () ()) (Q1q x1 v0))))
 (kX (alts := Do () ()) x0 (.here _ rfl (.refl _) (.refl _)))) h)) x0 x1 o h
def No (x0 : Int) (x1 : Int) : Option Int :=
 some () >>= fun v0 =>
 JK x0 x1 >>= fun v2 =>
 some v2
theorem B4 (x0 : Int) (x1 : Int) (r : Int) (h : No x0 x1 = some r) : PU 153 [eI x0, eI x1] (eI r) :=
 Pu2 (hs := [(3000002, .l [] [0, 1] [] [0] [] (Do ()))]) ((kL1 () (SM x0 x1) fun v0 v2 => (kEr (enc := eI) v2)) h)
def YN (s : (Qi × gVal)) (u : Unit) (o : Bool) : List Alt := jb o (fun b => [.ptr 0 0 0, .ptr 1 0 0, .bool b]) [.cells 0 (Qy (s.1)).cells, .cells 0 (Qk (s.2)).cells]
def Ka (x0 : Qi) (x1 : gVal) : Option Bool :=
 if x0.fKind == (2 : Int) then
 if (0 : Int) ≤ wr (x0.fBits - (1 : Int)) then
 some (wr ((1 : Int) * (2 : Int) ^ min (wr (x0.fBits - (1 : Int))).toNat (64 : Nat)) : Int) >>= fun v0 =>
 if x1.fD == (1 : Int) then
 if wr ((0 : Int) - v0) ≤ x1.fN then
 some (decide (x1.fN < v0))
 else
 some false
 else
 some false
 else none
 else
 some () >>= fun v1 =>
 (if (2147483647 : Int) < x1.fN then
 some true
 else
 if x1.fN < (-2147483647 : Int) then
 some true
 else
 if x1.fD < (1 : Int) then
 some true
 else
 if (2147483647 : Int) < x1.fD then
 some true
 else
 some false) >>= fun v2 => if v2 then
 some false
 else
 if x0.fKind == (3 : Int) then
 some (x1.fD == (1 : Int))
 else
 No (if true = true then max x1.fN (wr ((0 : Int) - x1.fN)) else min x1.fN (wr ((0 : Int) - x1.fN))) x1.fD >>= fun v5 =>
 some (v5 == (1 : Int))
theorem Dg (x0 : Qi) (x1 : gVal) (r : Bool) (h : Ka x0 x1 = some r) : PU 131 [Qy x0, Qk x1] (eB r) :=
 Pu2 (hs := [(8, .split), (12, .s), (5, .n eI 5 none), (15, .split), (21, .split), (31, .split), (35, .split), (40, .split), (45, .split), (49, .split), (61, .c eI), (5000004, .l [] [] [] [2, 3, 46] [kk 2, kk 3] (YN (x0, x1)))]) ((kIf (c := x0.fKind == (2 : Int)) (kG (p := (0 : Int) ≤ wr (x0.fBits - (1 : Int))) (kN (wr ((1 : Int) * (2 : Int) ^ min (wr (x0.fBits - (1 : Int))).toNat (64 : Nat))) rfl fun v0 => (kIf (c := x1.fD == (1 : Int)) (kIfD (p := wr ((0 : Int) - v0) ≤ x1.fN) (kEr (enc := eB) (decide (x1.fN < v0)))
 (kEr (enc := eB) false))
 (kEr (enc := eB) false))))
 (kJb (id := 5000004) () (fun v1 ev1 v2 => (kIfD (p := (2147483647 : Int) < x1.fN) (kXj (alts := YN (x0, x1)) ev1 true (.here () rfl (.refl _) (.refl _)))
 (kIfD (p := x1.fN < (-2147483647 : Int)) (kXj (alts := YN (x0, x1)) ev1 true (.here () rfl (.refl _) (.refl _)))
 (kIfD (p := x1.fD < (1 : Int)) (kXj (alts := YN (x0, x1)) ev1 true (.here () rfl (.refl _) (.refl _)))
 (kIfD (p := (2147483647 : Int) < x1.fD) (kXj (alts := YN (x0, x1)) ev1 true (.here () rfl (.refl _) (.refl _)))
 (kXj (alts := YN (x0, x1)) ev1 false (.next (.here () rfl (.refl _) (.refl _)))))))))
 (fun v1 => (kEr (enc := eB) false))
 (fun v1 => (kIf (c := x0.fKind == (3 : Int)) (kEr (enc := eB) (x1.fD == (1 : Int)))
 (kC (sh := eI) (B4 (if true = true then max x1.fN (wr ((0 : Int) - x1.fN)) else min x1.fN (wr ((0 : Int) - x1.fN))) x1.fD) fun v5 => (kEr (enc := eB) (v5 == (1 : Int)))))))) h)
def Kg (s : gLin) (u : Unit) (o : Unit ⊕ Bool) : List Alt := [⟨fun (x : Unit) => (Sum.inl x : Unit ⊕ Bool) = o, .exit 0, fun x => [.undef], fun x => []⟩, ⟨fun (x : Bool) => (Sum.inr x : Unit ⊕ Bool) = o, .ret, fun x => [.bool x], fun x => []⟩]
def Xo (s : gLin) (u : Int) (o : Bool) : List Alt := jb o (fun b => [.ptr 0 0 0, ii u, .bool b]) [.cells 0 (Qj s).cells]
def QQ (x1 : gLin) (x3 : Int) : Option (Unit ⊕ Bool) :=
 some (List.length x1.fL : Int) >>= fun v0 =>
 if x3 < v0 then
 some x3 >>= fun v1 =>
 (ix x1.fL x3 >>= fun v3 =>
 VV v3.fName >>= fun v4 => if v4 then
 ix x1.fL x3 >>= fun v5 =>
 if v5.fBy == (0 : Int) then
 some true
 else
 if (0 : Int) < x3 then
 ix x1.fL (wr (x3 - (1 : Int))) >>= fun v6 =>
 ix x1.fL x3 >>= fun v7 =>
 if !Op.bytesLess v6.fName v7.fName then
 some true
 else
 some false
 else
 some false
 else
 some true) >>= fun v2 => if v2 then
 some (.inr false)
 else
 QQ x1 (wr (v1 + (1 : Int)))
 else
 some (.inl ())
 partial_fixpoint
theorem Ie (x1 : gLin) (x3 : Int) (o : Unit ⊕ Bool) (h : QQ x1 x3 = some o) : LO 132 2 48 [1, 3] [.ptr 0 0 0, ii x3] [.cells 0 (Qj x1).cells] [2] (Kg x1 () o) :=
 QQ.partial_correctness x1 (fun x3 o => LO 132 2 48 [1, 3] [.ptr 0 0 0, ii x3] [.cells 0 (Qj x1).cells] [2] (Kg x1 () o))
 (fun QQ Q1g x3 o h  =>
 Lp2 (hs := [(7, .n eI 7 none), (8, .split), (14, .e Qf), (17, .cb), (23, .e Qf), (26, .split), (30, .split), (36, .e Qf), (42, .e Qf), (45, .split), (5000004, .l [] [] [] [1, 3, 47] [kk 1] (Xo x1))]) (kb := [kk 1]) (kbx := []) ((kN _ (mLen (sh := Qf) x1.fL) fun v0 => (kIfD (p := x3 < v0) (kJb (id := 5000004) x3 (fun v1 ev1 v2 => (kIx (enc := Qf) (l := x1.fL) (k := x3) fun v3 => (kCb (Dy v3.fName) (kIx (enc := Qf) (l := x1.fL) (k := x3) fun v5 => (kIf (c := v5.fBy == (0 : Int)) (kXj (alts := Xo x1) ev1 true (.here () rfl (.refl _) (.refl _)))
 (kIfD (p := (0 : Int) < x3) (kIx (enc := Qf) (l := x1.fL) (k := wr (x3 - (1 : Int))) fun v6 => (kIx (enc := Qf) (l := x1.fL) (k := x3) fun v7 => (kIf (c := !Op.bytesLess v6.fName v7.fName) (kXj (alts := Xo x1) ev1 true (.here () rfl (.refl _) (.refl _)))
 (kXj (alts := Xo x1) ev1 false (.next (.here () rfl (.refl _) (.refl _)))))))
 (kXj (alts := Xo x1) ev1 false (.next (.here () rfl (.refl _) (.refl _)))))))
 (kXj (alts := Xo x1) ev1 true (.here () rfl (.refl _) (.refl _))))))
 (fun v1 => (kX (alts := Kg x1 ()) (.inr false) (.next (.here _ rfl (.refl _) (.refl _)))))
 (fun v1 => (kM0 (alts := Kg x1 ()) (Q1g (wr (v1 + (1 : Int)))))))
 (kX (alts := Kg x1 ()) (.inl ()) (.here _ rfl (.refl _) (.refl _))))) h)) x3 o h
def ZA (x0 : gLin) : Option Bool :=
 some () >>= fun v0 =>
 QQ x0 (0 : Int) >>= fun v1 => (match v1 with
 | (.inl v2) =>
 some true
 | (.inr v3) =>
 some v3)
theorem KQ (x0 : gLin) (r : Bool) (h : ZA x0 = some r) : PU 132 [Qj x0] (eB r) :=
 Pu2 (hs := [(3000003, .l [] [1, 3] [kk 1] [2] [] (Kg x0))]) ((kL2 () (hL := (Ie x0 (0 : Int))) (hA := fun v0 v2 => (kEr (enc := eB) true))
 (hB := fun v0 v3 => (kEr (enc := eB) v3))) h)
def KU (s : Q2) (u : Int) (o : Unit ⊕ Bool) : List Alt := [⟨fun (x : Unit) => (Sum.inl x : Unit ⊕ Bool) = o, .exit 2, fun x => [.ptr 0 0 0, .undef, ii u], fun x => [.cells 0 (Q8 s).cells]⟩, ⟨fun (x : Bool) => (Sum.inr x : Unit ⊕ Bool) = o, .ret, fun x => [.ptr 0 0 0, .bool x, ii u], fun x => [.cells 0 (Q8 s).cells]⟩]
def Xf (x1 : Q2) (x3 : Int) (x4 : Int) : Option (Unit ⊕ Bool) :=
 ix x1.fIdx x3 >>= fun v0 =>
 some (List.length v0.fAt : Int) >>= fun v1 =>
 if x4 < v1 then
 ix x1.fIdx x3 >>= fun v2 =>
 ix v2.fAt x4 >>= fun v3 =>
 ZA v3 >>= fun v4 => if v4 then
 Xf x1 x3 (wr (x4 + (1 : Int)))
 else
 some (.inr false)
 else
 some (.inl ())
 partial_fixpoint
theorem HF (x1 : Q2) (x3 : Int) (x4 : Int) (o : Unit ⊕ Bool) (h : Xf x1 x3 x4 = some o) : LO 119 9 59 [1, 3, 4] [.ptr 0 0 0, ii x3, ii x4] [.cells 0 (Q8 x1).cells] [1, 2, 3] (KU x1 x3 o) :=
 Xf.partial_correctness x1 x3 (fun x4 o => LO 119 9 59 [1, 3, 4] [.ptr 0 0 0, ii x3, ii x4] [.cells 0 (Q8 x1).cells] [1, 2, 3] (KU x1 x3 o))
 (fun Xf Q2g x4 o h  =>
 Lp2 (hs := [(41, .e Q4), (44, .n eI 44 none), (45, .split), (51, .e Q4), (55, .e Qj), (57, .cb)]) (kb := [kk 1]) (kbx := [kk 1]) ((kIx (enc := Q4) (l := x1.fIdx) (k := x3) fun v0 => (kN _ (mLen (sh := Qj) v0.fAt) fun v1 => (kIfD (p := x4 < v1) (kIx (enc := Q4) (l := x1.fIdx) (k := x3) fun v2 => (kIx (enc := Qj) (l := v2.fAt) (k := x4) fun v3 => (kCb (KQ v3) (kM0 (alts := KU x1 x3) (Q2g (wr (x4 + (1 : Int)))))
 (kX (alts := KU x1 x3) (.inr false) (.next (.here _ rfl (.refl _) (.refl _)))))))
 (kX (alts := KU x1 x3) (.inl ()) (.here _ rfl (.refl _) (.refl _)))))) h)) x4 o h
def YF (s : Q2) (u : Unit) (o : Unit ⊕ Bool) : List Alt := [⟨fun (x : Unit) => (Sum.inl x : Unit ⊕ Bool) = o, .exit 0, fun x => [.undef], fun x => []⟩, ⟨fun (x : Bool) => (Sum.inr x : Unit ⊕ Bool) = o, .ret, fun x => [.bool x], fun x => []⟩]
def Xe (x1 : Q2) (x3 : Int) : Option (Unit ⊕ Bool) :=
 some (List.length x1.fIdx : Int) >>= fun v0 =>
 if x3 < v0 then
 ix x1.fIdx x3 >>= fun v1 =>
 ZA v1.fLin >>= fun v2 => if v2 then
 some x3 >>= fun v3 =>
 Xf x1 x3 (0 : Int) >>= fun v4 => (match v4 with
 | (.inl v5) =>
 Xe x1 (wr (v3 + (1 : Int)))
 | (.inr v6) =>
 some (.inr v6))
 else
 some (.inr false)
 else
 some (.inl ())
 partial_fixpoint
theorem HE (x1 : Q2) (x3 : Int) (o : Unit ⊕ Bool) (h : Xe x1 x3 = some o) : LO 119 4 59 [1, 3] [.ptr 0 0 0, ii x3] [.cells 0 (Q8 x1).cells] [2] (YF x1 () o) :=
 Xe.partial_correctness x1 (fun x3 o => LO 119 4 59 [1, 3] [.ptr 0 0 0, ii x3] [.cells 0 (Q8 x1).cells] [2] (YF x1 () o))
 (fun Xe Q2f x3 o h  =>
 Lp2 (hs := [(25, .n eI 25 none), (26, .split), (32, .e Q4), (35, .cb), (3000010, .l [] [1, 3, 4] [kk 1] [1, 2, 3] [kk 1] (KU x1))]) (kb := [kk 1]) (kbx := []) ((kN _ (mLen (sh := Q4) x1.fIdx) fun v0 => (kIfD (p := x3 < v0) (kIx (enc := Q4) (l := x1.fIdx) (k := x3) fun v1 => (kCb (KQ v1.fLin) (kL2 x3 (hL := (HF x1 x3 (0 : Int))) (hA := fun v3 v5 => (kM0 (alts := YF x1 ()) (Q2f (wr (v3 + (1 : Int))))))
 (hB := fun v3 v6 => (kX (alts := YF x1 ()) (.inr v6) (.next (.here _ rfl (.refl _) (.refl _))))))
 (kX (alts := YF x1 ()) (.inr false) (.next (.here _ rfl (.refl _) (.refl _))))))
 (kX (alts := YF x1 ()) (.inl ()) (.here _ rfl (.refl _) (.refl _))))) h)) x3 o h
def XH (s : Q2) (u : Unit) (o : Bool) : List Alt := jb o (fun b => [.ptr 0 0 0, .bool b]) [.cells 0 (Q8 s).cells]
def DZ (x0 : Q2) : Option Bool :=
 some () >>= fun v0 =>
 (if x0.fOp == (1 : Int) then
 Ka x0.fType x0.fVal >>= fun v2 => if v2 then
 ZA x0.fLin >>= fun v3 => if v3 then
 some false
 else
 some true
 else
 some true
 else
 ZA x0.fLin >>= fun v4 => if v4 then
 some false
 else
 some true) >>= fun v1 => if v1 then
 some false
 else
 some () >>= fun v7 =>
 Xe x0 (0 : Int) >>= fun v8 => (match v8 with
 | (.inl v9) =>
 some true
 | (.inr v10) =>
 some v10)
theorem Tx (x0 : Q2) (r : Bool) (h : DZ x0 = some r) : PU 119 [Q8 x0] (eB r) :=
 Pu2 (hs := [(7, .split), (13, .cb), (19, .cb), (3000005, .l [] [1, 3] [kk 1] [2] [] (YF x0)), (5000001, .l [] [] [] [1, 21] [kk 1] (XH x0))]) ((kJb (id := 5000001) () (fun v0 ev0 v1 => (kIf (c := x0.fOp == (1 : Int)) (kCb (Dg x0.fType x0.fVal) (kCb (KQ x0.fLin) (kXj (alts := XH x0) ev0 false (.next (.here () rfl (.refl _) (.refl _))))
 (kXj (alts := XH x0) ev0 true (.here () rfl (.refl _) (.refl _))))
 (kXj (alts := XH x0) ev0 true (.here () rfl (.refl _) (.refl _))))
 (kCb (KQ x0.fLin) (kXj (alts := XH x0) ev0 false (.next (.here () rfl (.refl _) (.refl _))))
 (kXj (alts := XH x0) ev0 true (.here () rfl (.refl _) (.refl _))))))
 (fun v0 => (kEr (enc := eB) false))
 (fun v0 => (kL2 () (hL := (HE x0 (0 : Int))) (hA := fun v7 v9 => (kEr (enc := eB) true))
 (hB := fun v7 v10 => (kEr (enc := eB) v10))))) h)
def Vo (s : Q2) (u : Unit) (o : Unit ⊕ Int) : List Alt := [⟨fun (x : Unit) => (Sum.inl x : Unit ⊕ Int) = o, .exit 1, fun x => [.undef], fun x => []⟩, ⟨fun (x : Int) => (Sum.inr x : Unit ⊕ Int) = o, .ret, fun x => [ii x], fun x => []⟩]
mutual
def J2 (x0 : Q2) : Option Int :=
 CD x0 >>= fun v0 => if v0 then
 CC x0 >>= fun v1 => if v1 then
 C3 x0 >>= fun v2 => if v2 then
 CE x0 >>= fun v3 => if v3 then
 DZ x0 >>= fun v4 => if v4 then
 some () >>= fun v5 =>
 XR x0 (0 : Int) >>= fun v6 => (match v6 with
 | (.inl v7) =>
 some (0 : Int)
 | (.inr v8) =>
 some v8)
 else
 some (1 : Int)
 else
 some (10 : Int)
 else
 some (11 : Int)
 else
 some (7 : Int)
 else
 some (5 : Int)
 partial_fixpoint
def XR (x1 : Q2) (x3 : Int) : Option (Unit ⊕ Int) :=
 some (List.length x1.fArgs : Int) >>= fun v0 =>
 if x3 < v0 then
 Option.map Qb.f (ix x1.fArgs x3) >>= fun v1 =>
 J2 v1 >>= fun v2 =>
 if v2 != (0 : Int) then
 some (.inr v2)
 else
 XR x1 (wr (x3 + (1 : Int)))
 else
 some (.inl ())
 partial_fixpoint
end
theorem SD  : (∀ (x0 : Q2) (r : Int), J2 x0 = some r → PU 100 [Q8 x0] (eI r)) ∧ (∀ (x1 : Q2) (x3 : Int) (o : Unit ⊕ Int), XR x1 x3 = some o → LO 100 12 41 [1, 3] [.ptr 0 0 0, ii x3] [.cells 0 (Q8 x1).cells] [2] (Vo x1 () o)) :=
 J2.mutual_partial_correctness  (fun x0 r => PU 100 [Q8 x0] (eI r)) (fun x1 x3 o => LO 100 12 41 [1, 3] [.ptr 0 0 0, ii x3] [.cells 0 (Q8 x1).cells] [2] (Vo x1 () o))
 (fun XR Q2k x0 r h  =>
 Pu2 (hs := [(7, .cb), (11, .cb), (15, .cb), (19, .cb), (23, .cb), (3000013, .l [] [1, 3] [kk 1] [2] [] (Vo x0))]) ((kCb (SW x0) (kCb (SV x0) (kCb (Ty x0) (kCb (SX x0) (kCb (Tx x0) (kL2 () (hL := (Q2k x0 (0 : Int))) (hA := fun v5 v7 => (kEr (enc := eI) (0 : Int)))
 (hB := fun v5 v8 => (kEr (enc := eI) v8)))
 (kEr (enc := eI) (1 : Int)))
 (kEr (enc := eI) (10 : Int)))
 (kEr (enc := eI) (11 : Int)))
 (kEr (enc := eI) (7 : Int)))
 (kEr (enc := eI) (5 : Int))) h))
 (fun J2 XR Q2j Q2k x1 x3 o h  =>
 Lp2 (hs := [(28, .n eI 28 none), (29, .split), (35, .e Q8), (37, .c eI), (39, .split)]) (kb := [kk 1]) (kbx := []) ((kN _ (mLen (sh := Qm) x1.fArgs) fun v0 => (kIfD (p := x3 < v0) (kIxR (l := x1.fArgs) (k := x3) QS fun v1 => (kC (sh := eI) (Q2j v1) fun v2 => (kIf (c := v2 != (0 : Int)) (kX (alts := Vo x1 ()) (.inr v2) (.next (.here _ rfl (.refl _) (.refl _))))
 (kM0 (alts := Vo x1 ()) (Q2k x1 (wr (x3 + (1 : Int))))))))
 (kX (alts := Vo x1 ()) (.inl ()) (.here _ rfl (.refl _) (.refl _))))) h))
theorem F1 (x0 : Q2) (r : Int) (h : J2 x0 = some r) : PU 100 [Q8 x0] (eI r) := (SD ).1 x0 r h
def Uy (x0 : Q2) : Option Int :=
 CA x0 >>= fun v0 =>
 if (40 : Int) < v0 then
 some (13 : Int)
 else
 W0 x0 >>= fun v1 =>
 if (2000 : Int) < v1 then
 some (2 : Int)
 else
 J2 x0 >>= fun v2 =>
 some v2
theorem NQ (x0 : Q2) (r : Int) (h : Uy x0 = some r) : PU 81 [Q8 x0] (eI r) :=
 Pu2 (hs := [(4, .c eI), (5, .split), (7, .c eI), (8, .split), (10, .c eI)]) ((kC (sh := eI) (SS x0) fun v0 => (kIfD (p := (40 : Int) < v0) (kEr (enc := eI) (13 : Int))
 (kC (sh := eI) (AZ x0) fun v1 => (kIfD (p := (2000 : Int) < v1) (kEr (enc := eI) (2 : Int))
 (kC (sh := eI) (F1 x0) fun v2 => (kEr (enc := eI) v2)))))) h)
def GD (s : Q2) (u : Unit) (o : List Qb) : List Alt := [⟨fun (x : List Qb) => x = o, .exit 0, fun x => [.sl 13 (List.map Qm x)], fun x => []⟩]
mutual
def KA (x0 : Q2) : Option (List Qb) :=
 some () >>= fun v0 =>
 Yy x0 [(Qb.mk x0)] (0 : Int) >>= fun v2 =>
 some v2
 partial_fixpoint
def Yy (x1 : Q2) (x3 : List Qb) (x4 : Int) : Option (List Qb) :=
 some (List.length x1.fArgs : Int) >>= fun v0 =>
 if x4 < v0 then
 Option.map Qb.f (ix x1.fArgs x4) >>= fun v1 =>
 KA v1 >>= fun v2 =>
 if (x3.length + (List.map Qm v2).length) * (160 : Nat) ≤ (140737488355328 : Nat) ∧ x3.length + (List.map Qm v2).length ≤ (9223372036854775807 : Nat) then
 some (x3 ++ v2) >>= fun v3 =>
 Yy x1 v3 (wr (x4 + (1 : Int)))
 else none
 else
 some x3
 partial_fixpoint
end
theorem AQ  : (∀ (x0 : Q2) (r : List Qb), KA x0 = some r → PU 79 [Q8 x0] (YA r)) ∧ (∀ (x1 : Q2) (x3 : List Qb) (x4 : Int) (o : List Qb), Yy x1 x3 x4 = some o → LO 79 3 23 [1, 3, 4] [.ptr 0 0 0, .ow 1 0 13 (List.length x3), ii x4] [.cells 0 (Q8 x1).cells, .own 0 13 (List.map Qm x3)] [3] (GD x1 () o)) :=
 KA.mutual_partial_correctness  (fun x0 r => PU 79 [Q8 x0] (YA r)) (fun x1 x3 x4 o => LO 79 3 23 [1, 3, 4] [.ptr 0 0 0, .ow 1 0 13 (List.length x3), ii x4] [.cells 0 (Q8 x1).cells, .own 0 13 (List.map Qm x3)] [3] (GD x1 () o))
 (fun Yy Q25 x0 r h  =>
 Pu2 (hs := [(3000004, .l [] [1, 3, 4] [kk 1, { slot := 3, own := 13 }] [3] [{ slot := 3, fz := true }] (GD x0))]) ((kL1 () (fun y hy => ZC.le (.cons (LeV.refl (AV.ptr (0 : Nat) (0 : Nat) (0 : Nat))) (.cons (LeV.refl (AV.ow (1 : Nat) (0 : Nat) (13 : Nat) (1 : Nat))) (.cons (LeV.refl (ii (0 : Int))) .nil))) (.cons (LeB.refl (Box.cells (0 : Nat) [ii x0.fOp, AV.str x0.fName, ii x0.fVal.fN, ii x0.fVal.fD, ii x0.fType.fKind, ii x0.fType.fBits, ii x0.fType.fFrac, ii x0.fType.fRound, ii x0.fType.fOver, ii x0.fLin.fK, AV.sl (2 : Nat) (List.map Qf x0.fLin.fL), AV.sl (4 : Nat) (List.map Q4 x0.fIdx), AV.sl (13 : Nat) (List.map Qm x0.fArgs)])) (.cons (LeB.own (0 : Nat) (13 : Nat) (.cons (legExpr x0) .nil)) .nil)) (Q25 x0 [(Qb.mk x0)] (0 : Int) y hy)) fun v0 v2 => (kEr (enc := YA) v2)) h))
 (fun KA Yy Q24 Q25 x1 x3 x4 o h  =>
 Lp2 (hs := [(10, .n eI 10 none), (11, .split), (18, .e Q8), (20, .c YA), (21, .z [{ slot := 14, own := 13 }] (some (.n Qm 21 (some .a))))]) (kb := [kk 1, { slot := 3, own := 13 }]) (kbx := [{ slot := 3, fz := true }]) ((kN _ (mLen (sh := Qm) x1.fArgs) fun v0 => (kIfD (p := x4 < v0) (kIxR (l := x1.fArgs) (k := x4) QS fun v1 => (kC (sh := YA) (Q24 v1) fun v2 => (kA (q := (x3.length + (List.map Qm v2).length) * (160 : Nat) ≤ (140737488355328 : Nat) ∧ x3.length + (List.map Qm v2).length ≤ (9223372036854775807 : Nat)) (sh := Qm) (l := x3) (kO (sh := Qm) (x3 ++ v2) (mAA (sh := Qm) x3 v2) (nAA (sh := Qm) x3 v2) fun v3 => (kM0 (alts := GD x1 ()) (Q25 x1 v3 (wr (x4 + (1 : Int)))))))))
 (kT (nM (sh := Qm) x3) (kX (alts := GD x1 ()) x3 (.here _ rfl (.refl _) (.refl _)))))) h))
theorem E4 (x0 : Q2) (r : List Qb) (h : KA x0 = some r) : PU 79 [Q8 x0] (YA r) := (AQ ).1 x0 r h
def Vt (s : ((List gLin) × (List Qd) × Int)) (u : Int) (o : Bool) : List Alt := [⟨fun (x : Bool) => x = o, .exit 4, fun x => [.sl 2 (List.map Qj s.1), .sl 2 (List.map Qe s.2.1), ii s.2.2, ii u, .bool x], fun x => []⟩]
def X3 (x0 : List gLin) (x1 : List Qd) (x5 : Int) (x6 : Int) (x7 : Bool) (x8 : Int) : Option Bool :=
 some (List.length x1 : Int) >>= fun v0 =>
 if x8 < v0 then
 if x7 then
 X3 x0 x1 x5 x6 true (wr (x8 + (1 : Int)))
 else
 ix x1 x8 >>= fun v1 =>
 ix x0 x5 >>= fun v2 =>
 ix v2.fL x6 >>= fun v3 =>
 X3 x0 x1 x5 x6 (v1.fName == v3.fName) (wr (x8 + (1 : Int)))
 else
 some x7
 partial_fixpoint
theorem EH (x0 : List gLin) (x1 : List Qd) (x5 : Int) (x6 : Int) (x7 : Bool) (x8 : Int) (o : Bool) (h : X3 x0 x1 x5 x6 x7 x8 = some o) : LO 111 9 51 [0, 1, 5, 6, 7, 8] [.sl 2 (List.map Qj x0), .sl 2 (List.map Qe x1), ii x5, ii x6, .bool x7, ii x8] [] [0, 1, 5, 6, 7] (Vt (x0, x1, x5) x6 o) :=
 X3.partial_correctness x0 x1 x5 x6 (fun x7 x8 o => LO 111 9 51 [0, 1, 5, 6, 7, 8] [.sl 2 (List.map Qj x0), .sl 2 (List.map Qe x1), ii x5, ii x6, .bool x7, ii x8] [] [0, 1, 5, 6, 7] (Vt (x0, x1, x5) x6 o))
 (fun X3 Q37 x7 x8 o h  =>
 Lp2 (hs := [(27, .n eI 27 none), (28, .split), (31, .split), (35, .e Qe), (40, .e Qj), (44, .e Qf)]) (kb := []) (kbx := []) ((kN _ (mLen (sh := Qe) x1) fun v0 => (kIfD (p := x8 < v0) (kIf (c := x7) (kM0 (alts := Vt (x0, x1, x5) x6) (Q37 true (wr (x8 + (1 : Int)))))
 (kIx (enc := Qe) (l := x1) (k := x8) fun v1 => (kIx (enc := Qj) (l := x0) (k := x5) fun v2 => (kIx (enc := Qf) (l := v2.fL) (k := x6) fun v3 => (kM0 (alts := Vt (x0, x1, x5) x6) (Q37 (v1.fName == v3.fName) (wr (x8 + (1 : Int)))))))))
 (kX (alts := Vt (x0, x1, x5) x6) x7 (.here _ rfl (.refl _) (.refl _))))) h)) x7 x8 o h
def Vs (s : ((List gLin) × (List Qd))) (u : Int) (o : Unit ⊕ Bool) : List Alt := [⟨fun (x : Unit) => (Sum.inl x : Unit ⊕ Bool) = o, .exit 2, fun x => [.sl 2 (List.map Qj s.1), .sl 2 (List.map Qe s.2), .undef, ii u], fun x => []⟩, ⟨fun (x : Bool) => (Sum.inr x : Unit ⊕ Bool) = o, .ret, fun x => [.sl 2 (List.map Qj s.1), .sl 2 (List.map Qe s.2), .bool x, ii u], fun x => []⟩]
def XV (x0 : List gLin) (x1 : List Qd) (x5 : Int) (x6 : Int) : Option (Unit ⊕ Bool) :=
 ix x0 x5 >>= fun v0 =>
 some (List.length v0.fL : Int) >>= fun v1 =>
 if x6 < v1 then
 some x6 >>= fun v2 =>
 X3 x0 x1 x5 x6 false (0 : Int) >>= fun v4 =>
 if v4 then
 XV x0 x1 x5 (wr (v2 + (1 : Int)))
 else
 some (.inr false)
 else
 some (.inl ())
 partial_fixpoint
theorem EG (x0 : List gLin) (x1 : List Qd) (x5 : Int) (x6 : Int) (o : Unit ⊕ Bool) (h : XV x0 x1 x5 x6 = some o) : LO 111 5 51 [0, 1, 5, 6] [.sl 2 (List.map Qj x0), .sl 2 (List.map Qe x1), ii x5, ii x6] [] [0, 1, 4, 5] (Vs (x0, x1) x5 o) :=
 XV.partial_correctness x0 x1 x5 (fun x6 o => LO 111 5 51 [0, 1, 5, 6] [.sl 2 (List.map Qj x0), .sl 2 (List.map Qe x1), ii x5, ii x6] [] [0, 1, 4, 5] (Vs (x0, x1) x5 o))
 (fun XV Q36 x6 o h  =>
 Lp2 (hs := [(18, .e Qj), (21, .n eI 21 none), (22, .split), (49, .split), (3000010, .l [] [0, 1, 5, 6, 7, 8] [] [0, 1, 5, 6, 7] [] (Vt (x0, x1, x5)))]) (kb := []) (kbx := []) ((kIx (enc := Qj) (l := x0) (k := x5) fun v0 => (kN _ (mLen (sh := Qf) v0.fL) fun v1 => (kIfD (p := x6 < v1) (kL1 x6 (EH x0 x1 x5 x6 false (0 : Int)) fun v2 v4 => (kIf (c := v4) (kM0 (alts := Vs (x0, x1) x5) (Q36 (wr (v2 + (1 : Int)))))
 (kX (alts := Vs (x0, x1) x5) (.inr false) (.next (.here _ rfl (.refl _) (.refl _))))))
 (kX (alts := Vs (x0, x1) x5) (.inl ()) (.here _ rfl (.refl _) (.refl _)))))) h)) x6 o h
def Vr (s : ((List gLin) × (List Qd))) (u : Unit) (o : Unit ⊕ Bool) : List Alt := [⟨fun (x : Unit) => (Sum.inl x : Unit ⊕ Bool) = o, .exit 0, fun x => [.undef], fun x => []⟩, ⟨fun (x : Bool) => (Sum.inr x : Unit ⊕ Bool) = o, .ret, fun x => [.bool x], fun x => []⟩]
def XU (x0 : List gLin) (x1 : List Qd) (x5 : Int) : Option (Unit ⊕ Bool) :=
 some (List.length x0 : Int) >>= fun v0 =>
 if x5 < v0 then
 some x5 >>= fun v1 =>
 XV x0 x1 x5 (0 : Int) >>= fun v2 => (match v2 with
 | (.inl v3) =>
 XU x0 x1 (wr (v1 + (1 : Int)))
 | (.inr v4) =>
 some (.inr v4))
 else
 some (.inl ())
 partial_fixpoint
theorem EF (x0 : List gLin) (x1 : List Qd) (x5 : Int) (o : Unit ⊕ Bool) (h : XU x0 x1 x5 = some o) : LO 111 2 51 [0, 1, 5] [.sl 2 (List.map Qj x0), .sl 2 (List.map Qe x1), ii x5] [] [4] (Vr (x0, x1) () o) :=
 XU.partial_correctness x0 x1 (fun x5 o => LO 111 2 51 [0, 1, 5] [.sl 2 (List.map Qj x0), .sl 2 (List.map Qe x1), ii x5] [] [4] (Vr (x0, x1) () o))
 (fun XU Q35 x5 o h  =>
 Lp2 (hs := [(11, .n eI 11 none), (12, .split), (3000006, .l [] [0, 1, 5, 6] [] [0, 1, 4, 5] [] (Vs (x0, x1)))]) (kb := []) (kbx := []) ((kN _ (mLen (sh := Qj) x0) fun v0 => (kIfD (p := x5 < v0) (kL2 x5 (hL := (EG x0 x1 x5 (0 : Int))) (hA := fun v1 v3 => (kM0 (alts := Vr (x0, x1) ()) (Q35 (wr (v1 + (1 : Int))))))
 (hB := fun v1 v4 => (kX (alts := Vr (x0, x1) ()) (.inr v4) (.next (.here _ rfl (.refl _) (.refl _))))))
 (kX (alts := Vr (x0, x1) ()) (.inl ()) (.here _ rfl (.refl _) (.refl _))))) h)) x5 o h
def Ds (x0 : List gLin) (x1 : List Qd) : Option Bool :=
 some () >>= fun v0 =>
 XU x0 x1 (0 : Int) >>= fun v1 => (match v1 with
 | (.inl v2) =>
 some true
 | (.inr v3) =>
 some v3)
theorem LD (x0 : List gLin) (x1 : List Qd) (r : Bool) (h : Ds x0 x1 = some r) : PU 111 [NU x0, QP x1] (eB r) :=
 Pu2 (hs := [(3000003, .l [] [0, 1, 5] [] [4] [] (Vr (x0, x1)))]) ((kL2 () (hL := (EF x0 x1 (0 : Int))) (hA := fun v0 v2 => (kEr (enc := eB) true))
 (hB := fun v0 v3 => (kEr (enc := eB) v3))) h)
def G0 (s : List Qa) (u : Unit) (o : List gLin) : List Alt := [⟨fun (x : List gLin) => x = o, .exit 0, fun x => [.sl 2 (List.map Qj x)], fun x => []⟩]
def Yk (x0 : List Qa) (x3 : List gLin) (x4 : Int) : Option (List gLin) :=
 some (List.length x0 : Int) >>= fun v0 =>
 if x4 < v0 then
 ix x0 x4 >>= fun v1 =>
 if (x3.length + (1 : Nat)) * (32 : Nat) ≤ (140737488355328 : Nat) ∧ x3.length + (1 : Nat) ≤ (9223372036854775807 : Nat) then
 some (x3 ++ [v1.fLin]) >>= fun v2 =>
 ix x0 x4 >>= fun v3 =>
 if (v2.length + (List.map Qj v3.fAt).length) * (32 : Nat) ≤ (140737488355328 : Nat) ∧ v2.length + (List.map Qj v3.fAt).length ≤ (9223372036854775807 : Nat) then
 some (v2 ++ v3.fAt) >>= fun v4 =>
 Yk x0 v4 (wr (x4 + (1 : Int)))
 else none
 else none
 else
 some x3
 partial_fixpoint
theorem Rw (x0 : List Qa) (x3 : List gLin) (x4 : Int) (o : List gLin) (h : Yk x0 x3 x4 = some o) : LO 112 3 27 [0, 3, 4] [.sl 4 (List.map Q4 x0), .ow 0 0 2 (List.length x3), ii x4] [.own 0 2 (List.map Qj x3)] [3] (G0 x0 () o) :=
 Yk.partial_correctness x0 (fun x3 x4 o => LO 112 3 27 [0, 3, 4] [.sl 4 (List.map Q4 x0), .ow 0 0 2 (List.length x3), ii x4] [.own 0 2 (List.map Qj x3)] [3] (G0 x0 () o))
 (fun Yk Q3c x3 x4 o h  =>
 Lp2 (hs := [(7, .n eI 7 none), (8, .split), (14, .e Q4), (18, .z [{ slot := 11, own := 2 }] (some (.n Qj 18 (some .a)))), (22, .e Q4), (25, .z [{ slot := 19, own := 2 }] (some (.n Qj 25 (some .a))))]) (kb := [{ slot := 3, own := 2 }]) (kbx := [{ slot := 3, fz := true }]) ((kN _ (mLen (sh := Q4) x0) fun v0 => (kIfD (p := x4 < v0) (kIx (enc := Q4) (l := x0) (k := x4) fun v1 => (kA (q := (x3.length + (1 : Nat)) * (32 : Nat) ≤ (140737488355328 : Nat) ∧ x3.length + (1 : Nat) ≤ (9223372036854775807 : Nat)) (sh := Qj) (l := x3) (kO (sh := Qj) (x3 ++ [v1.fLin]) (mA (sh := Qj) x3 v1.fLin) (nA x3 v1.fLin) fun v2 => (kIx (enc := Q4) (l := x0) (k := x4) fun v3 => (kA (q := (v2.length + (List.map Qj v3.fAt).length) * (32 : Nat) ≤ (140737488355328 : Nat) ∧ v2.length + (List.map Qj v3.fAt).length ≤ (9223372036854775807 : Nat)) (sh := Qj) (l := v2) (kO (sh := Qj) (v2 ++ v3.fAt) (mAA (sh := Qj) v2 v3.fAt) (nAA (sh := Qj) v2 v3.fAt) fun v4 => (kM0 (alts := G0 x0 ()) (Q3c v4 (wr (x4 + (1 : Int)))))))))))
 (kT (nM (sh := Qj) x3) (kX (alts := G0 x0 ()) x3 (.here _ rfl (.refl _) (.refl _)))))) h)) x3 x4 o h
def W4 (x0 : List Qa) : Option (List gLin) :=
 some () >>= fun v0 =>
 Yk x0 [] (0 : Int) >>= fun v2 =>
 some v2
theorem F9 (x0 : List Qa) (r : List gLin) (h : W4 x0 = some r) : PU 112 [Gq x0] (NU r) :=
 Pu2 (hs := [(3000004, .l [] [0, 3, 4] [{ slot := 3, own := 2 }] [3] [{ slot := 3, fz := true }] (G0 x0))]) ((kL1 () (Rw x0 [] (0 : Int)) fun v0 v2 => (kEr (enc := NU) v2)) h)
def XM (s : (Qh × Q2)) (u : Unit) (o : Unit ⊕ Int) : List Alt := [⟨fun (x : Unit) => (Sum.inl x : Unit ⊕ Int) = o, .exit 0, fun x => [.undef], fun x => []⟩, ⟨fun (x : Int) => (Sum.inr x : Unit ⊕ Int) = o, .ret, fun x => [ii x], fun x => []⟩]
def X5 (x3 : Qh) (x5 : Q2) (x9 : Int) : Option (Unit ⊕ Int) :=
 some (List.length x5.fIdx : Int) >>= fun v0 =>
 if x9 < v0 then
 ix x5.fIdx x9 >>= fun v1 =>
 if v1.fFrom == [] then
 X5 x3 x5 (wr (x9 + (1 : Int)))
 else
 ix x5.fIdx x9 >>= fun v2 =>
 Xs x3 v2.fFrom >>= fun v3 =>
 if v3.snd then
 if v3.fst.fType.fKind != (3 : Int) then
 some (.inr (10 : Int))
 else
 ix x5.fIdx x9 >>= fun v4 =>
 some (List.length v3.fst.fDims : Int) >>= fun v5 =>
 some (List.length v4.fAt : Int) >>= fun v6 =>
 if v5 != v6 then
 some (.inr (11 : Int))
 else
 X5 x3 x5 (wr (x9 + (1 : Int)))
 else
 some (.inr (9 : Int))
 else
 some (.inl ())
 partial_fixpoint
theorem EI (x3 : Qh) (x5 : Q2) (x9 : Int) (o : Unit ⊕ Int) (h : X5 x3 x5 x9 = some o) : LO 96 11 90 [3, 5, 9] [.ptr 0 0 0, .ptr 1 0 0, ii x9] [.cells 0 (Qs x3).cells, .cells 0 (Q8 x5).cells] [6] (XM (x3, x5) () o) :=
 X5.partial_correctness x3 x5 (fun x9 o => LO 96 11 90 [3, 5, 9] [.ptr 0 0 0, .ptr 1 0 0, ii x9] [.cells 0 (Qs x3).cells, .cells 0 (Q8 x5).cells] [6] (XM (x3, x5) () o))
 (fun X5 Q3d x9 o h  =>
 Lp2 (hs := [(48, .n eI 48 none), (49, .split), (55, .e Q4), (58, .split), (64, .e Q4), (67, .c QX), (71, .split), (77, .split), (81, .n eI 81 none), (85, .e Q4), (88, .n eI 88 none), (89, .split)]) (kb := [kk 3, kk 5]) (kbx := []) ((kN _ (mLen (sh := Q4) x5.fIdx) fun v0 => (kIfD (p := x9 < v0) (kIx (enc := Q4) (l := x5.fIdx) (k := x9) fun v1 => (kIf (c := v1.fFrom == []) (kM0 (alts := XM (x3, x5) ()) (Q3d (wr (x9 + (1 : Int)))))
 (kIx (enc := Q4) (l := x5.fIdx) (k := x9) fun v2 => (kC (sh := QX) (Uj x3 v2.fFrom) fun v3 => (kIf (c := v3.snd) (kIf (c := v3.fst.fType.fKind != (3 : Int)) (kX (alts := XM (x3, x5) ()) (.inr (10 : Int)) (.next (.here _ rfl (.refl _) (.refl _))))
 (kIx (enc := Q4) (l := x5.fIdx) (k := x9) fun v4 => (kN _ (mLen (sh := eI) v3.fst.fDims) fun v5 => (kN _ (mLen (sh := Qj) v4.fAt) fun v6 => (kIf (c := v5 != v6) (kX (alts := XM (x3, x5) ()) (.inr (11 : Int)) (.next (.here _ rfl (.refl _) (.refl _))))
 (kM0 (alts := XM (x3, x5) ()) (Q3d (wr (x9 + (1 : Int))))))))))
 (kX (alts := XM (x3, x5) ()) (.inr (9 : Int)) (.next (.here _ rfl (.refl _) (.refl _)))))))))
 (kX (alts := XM (x3, x5) ()) (.inl ()) (.here _ rfl (.refl _) (.refl _))))) h)) x9 o h
def Jr (s : (Qh × Q2)) (u : Unit) (o : Bool) : List Alt := jb o (fun b => [.ptr 0 0 0, .ptr 1 0 0, .bool b]) [.cells 0 (Qs (s.1)).cells, .cells 0 (Q8 (s.2)).cells]
def W5 (x0 : Qh) (x1 : List Qd) (x2 : Q2) : Option Int :=
 some () >>= fun v0 =>
 (Ds [x2.fLin] x1 >>= fun v2 => if v2 then
 W4 x2.fIdx >>= fun v3 =>
 Ds v3 x1 >>= fun v4 => if v4 then
 some false
 else
 some true
 else
 some true) >>= fun v1 => if v1 then
 some (9 : Int)
 else
 if x2.fOp != (3 : Int) then
 some (0 : Int)
 else
 Xs x0 x2.fName >>= fun v7 =>
 if v7.snd then
 some (List.length v7.fst.fDims : Int) >>= fun v8 =>
 some (List.length x2.fIdx : Int) >>= fun v9 =>
 if v8 != v9 then
 some (11 : Int)
 else
 some () >>= fun v10 =>
 X5 x0 x2 (0 : Int) >>= fun v11 => (match v11 with
 | (.inl v12) =>
 some (0 : Int)
 | (.inr v13) =>
 some v13)
 else
 some (9 : Int)
theorem Fa (x0 : Qh) (x1 : List Qd) (x2 : Q2) (r : Int) (h : W5 x0 x1 x2 = some r) : PU 96 [Qs x0, QP x1, Q8 x2] (eI r) :=
 Pu2 (hs := [(16, .cb), (21, .c NU), (23, .cb), (28, .split), (33, .c QX), (36, .split), (40, .n eI 40 none), (43, .n eI 43 none), (44, .split), (3000012, .l [] [3, 5, 9] [kk 3, kk 5] [6] [] (XM (x0, x2))), (5000001, .l [] [] [] [3, 5, 25] [kk 3, kk 5] (Jr (x0, x2)))]) ((kJb (id := 5000001) () (fun v0 ev0 v1 => (kCb (LD [x2.fLin] x1) (kC (sh := NU) (F9 x2.fIdx) fun v3 => (kCb (LD v3 x1) (kXj (alts := Jr (x0, x2)) ev0 false (.next (.here () rfl (.refl _) (.refl _))))
 (kXj (alts := Jr (x0, x2)) ev0 true (.here () rfl (.refl _) (.refl _)))))
 (kXj (alts := Jr (x0, x2)) ev0 true (.here () rfl (.refl _) (.refl _)))))
 (fun v0 => (kEr (enc := eI) (9 : Int)))
 (fun v0 => (kIf (c := x2.fOp != (3 : Int)) (kEr (enc := eI) (0 : Int))
 (kC (sh := QX) (Uj x0 x2.fName) fun v7 => (kIf (c := v7.snd) (kN _ (mLen (sh := eI) v7.fst.fDims) fun v8 => (kN _ (mLen (sh := Q4) x2.fIdx) fun v9 => (kIf (c := v8 != v9) (kEr (enc := eI) (11 : Int))
 (kL2 () (hL := (EI x0 x2 (0 : Int))) (hA := fun v10 v12 => (kEr (enc := eI) (0 : Int)))
 (hB := fun v10 v13 => (kEr (enc := eI) v13))))))
 (kEr (enc := eI) (9 : Int))))))) h)
def KK (s : (Qh × Q2)) (u : Unit) (o : (Qi × (List Qi)) ⊕ (Qi × Int)) : List Alt := [⟨fun (x : (Qi × (List Qi))) => (Sum.inl x : (Qi × (List Qi)) ⊕ (Qi × Int)) = o, .exit 0, fun x => [.ptr 0 0 0, .ptr 1 0 0, .ptr 2 0 0, .undef, .sl 5 (List.map Qy x.2)], fun x => [.cells 0 (Qs s.1).cells, .cells 0 (Q8 s.2).cells, .cells 0 (Qy x.1).cells]⟩, ⟨fun (x : (Qi × Int)) => (Sum.inr x : (Qi × (List Qi)) ⊕ (Qi × Int)) = o, .ret, fun x => [.ptr 0 0 0, .ptr 1 0 0, .ptr 2 0 0, ii x.2, .undef], fun x => [.cells 0 (Qs s.1).cells, .cells 0 (Q8 s.2).cells, .cells 0 (Qy x.1).cells]⟩]
def Jm (s : (Qh × Q2)) (u : (Qi × (List Qi))) (o : Bool) : List Alt := jb o (fun b => [.ptr 0 0 0, .ptr 1 0 0, .ptr 2 0 0, .sl 5 (List.map Qy (u.2)), .bool b]) [.cells 0 (Qs (s.1)).cells, .cells 0 (Q8 (s.2)).cells, .cells 0 (Qy (u.1)).cells]
def Jo (s : (Qh × Q2)) (u : (Qi × (List Qi) × Int)) (o : Bool) : List Alt := jb o (fun b => [.ptr 0 0 0, .ptr 1 0 0, .ptr 2 0 0, .sl 5 (List.map Qy (u.2.1)), ii (u.2.2), .bool b]) [.cells 0 (Qs (s.1)).cells, .cells 0 (Q8 (s.2)).cells, .cells 0 (Qy (u.1)).cells]
mutual
def J4 (x0 : Qh) (x1 : Q2) : Option (Qi × Int) :=
 some () >>= fun v0 =>
 Xx x0 x1 (Qi.mk (0 : Int) (0 : Int) (0 : Int) (0 : Int) (0 : Int)) [] (0 : Int) >>= fun v1 => (match v1 with
 | (.inl v2) =>
 some (v2.fst, v2.snd) >>= fun v3 =>
 (if (↑(List.map Qy v2.snd).length : Int) == (2 : Int) then
 ix v2.snd (0 : Int) >>= fun v5 =>
 ix v2.snd (1 : Int) >>= fun v6 =>
 some (List.length v2.snd : Int) >>= fun v7 =>
 if !(v5.fKind == v6.fKind && (v5.fBits == v6.fBits && (v5.fFrac == v6.fFrac && (v5.fRound == v6.fRound && (v5.fOver == v6.fOver && true))))) then
 some true
 else
 some false
 else
 some (List.length v2.snd : Int) >>= fun v8 =>
 some false) >>= fun v4 => if v4 then
 some ((Qi.mk (0 : Int) (0 : Int) (0 : Int) (0 : Int) (0 : Int))) >>= fun v10 =>
 some (v10, (10 : Int))
 else
 some (v3.fst, v3.snd, x1.fOp) >>= fun v12 =>
 (if x1.fOp == (1 : Int) then
 some true
 else
 if x1.fOp == (12 : Int) then
 some true
 else
 some false) >>= fun v13 => if v13 then
 some (x1.fType, (0 : Int))
 else
 if v12.snd.snd == (2 : Int) then
 some ((Qi.mk (3 : Int) (0 : Int) (0 : Int) (0 : Int) (0 : Int))) >>= fun v16 =>
 some (v16, (0 : Int))
 else
 if v12.snd.snd == (3 : Int) then
 Xs x0 x1.fName >>= fun v17 =>
 some (v17.fst.fType, (0 : Int))
 else
 Zn x1 >>= fun v18 => if v18 then
 some ((Qi.mk (0 : Int) (0 : Int) (0 : Int) (0 : Int) (0 : Int))) >>= fun v19 =>
 some (v19, (0 : Int))
 else
 ix v12.snd.fst (0 : Int) >>= fun v20 =>
 some (v20, (0 : Int))
 | (.inr v21) =>
 some (v21.fst, v21.snd))
 partial_fixpoint
def Xx (x2 : Qh) (x3 : Q2) (x4 : Qi) (x6 : List Qi) (x7 : Int) : Option ((Qi × (List Qi)) ⊕ (Qi × Int)) :=
 some (List.length x3.fArgs : Int) >>= fun v0 =>
 if x7 < v0 then
 Option.map Qb.f (ix x3.fArgs x7) >>= fun v1 =>
 J4 x2 v1 >>= fun v2 =>
 if v2.snd != (0 : Int) then
 some ((Qi.mk (0 : Int) (0 : Int) (0 : Int) (0 : Int) (0 : Int))) >>= fun v3 =>
 some (.inr (v3, v2.snd))
 else
 Option.map Qb.f (ix x3.fArgs x7) >>= fun v4 =>
 Zn v4 >>= fun v5 => if v5 then
 Xx x2 x3 x4 x6 (wr (x7 + (1 : Int)))
 else
 if (x6.length + (1 : Nat)) * (40 : Nat) ≤ (140737488355328 : Nat) ∧ x6.length + (1 : Nat) ≤ (9223372036854775807 : Nat) then
 some (x6 ++ [v2.fst]) >>= fun v6 =>
 Xx x2 x3 x4 v6 (wr (x7 + (1 : Int)))
 else none
 else
 some (.inl (x4, x6))
 partial_fixpoint
end
theorem SF (x0 : Qh) : (∀ (x1 : Q2) (r : (Qi × Int)), J4 x0 x1 = some r → PU 97 [Qs x0, Q8 x1] (QY r)) ∧ (∀ (x3 : Q2) (x4 : Qi) (x6 : List Qi) (x7 : Int) (o : (Qi × (List Qi)) ⊕ (Qi × Int)), Xx x0 x3 x4 x6 x7 = some o → LO 97 3 84 [2, 3, 4, 6, 7] [.ptr 0 0 0, .ptr 1 0 0, .ptr 2 0 0, .ow 3 0 5 (List.length x6), ii x7] [.cells 0 (Qs x0).cells, .cells 0 (Q8 x3).cells, .cells 0 (Qy x4).cells, .own 0 5 (List.map Qy x6)] [2, 3, 4, 5, 6] (KK (x0, x3) () o)) :=
 J4.mutual_partial_correctness x0 (fun x1 r => PU 97 [Qs x0, Q8 x1] (QY r)) (fun x3 x4 x6 x7 o => LO 97 3 84 [2, 3, 4, 6, 7] [.ptr 0 0 0, .ptr 1 0 0, .ptr 2 0 0, .ow 3 0 5 (List.length x6), ii x7] [.cells 0 (Qs x0).cells, .cells 0 (Q8 x3).cells, .cells 0 (Qy x4).cells, .own 0 5 (List.map Qy x6)] [2, 3, 4, 5, 6] (KK (x0, x3) () o))
 (fun Xx Q30 x1 r h  =>
 Pu2 (hs := [(45, .n eI 45 none), (46, .split), (49, .e Qy), (52, .e Qy), (54, .split), (56, .n Qy 56 none), (59, .split), (59, .split), (65, .split), (66, .n Qy 66 none), (68, .split), (73, .c QX), (79, .cb), (80, .n Qy 80 none), (82, .e Qy), (3000004, .l [] [2, 3, 4, 6, 7] [kk 2, kk 3, kk 4, { slot := 6, own := 5 }] [2, 3, 4, 5, 6] [kk 2, kk 3, kk 4, { slot := 6, fz := true }] (KK (x0, x1))), (5000010, .l [] [] [] [2, 3, 4, 6, 55] [kk 2, kk 3, kk 4, { slot := 6, fz := true }] (Jm (x0, x1))), (6000015, .l [] [] [] [2, 3, 4, 6, 58, 59] [kk 2, kk 3, kk 4, { slot := 6, fz := true }] (Jo (x0, x1)))]) ((kL2 () (hL := (Q30 x1 (Qi.mk (0 : Int) (0 : Int) (0 : Int) (0 : Int) (0 : Int)) [] (0 : Int))) (hA := fun v0 v2 => (kJb (id := 5000010) (v2.fst, v2.snd) (fun v3 ev3 v4 => (kIf (c := (↑(List.map Qy v2.snd).length : Int) == (2 : Int)) (kIx (enc := Qy) (l := v2.snd) (k := (0 : Int)) fun v5 => (kIx (enc := Qy) (l := v2.snd) (k := (1 : Int)) fun v6 => (kN _ (mLen (sh := Qy) v2.snd) fun v7 => (kIf (c := !(v5.fKind == v6.fKind && (v5.fBits == v6.fBits && (v5.fFrac == v6.fFrac && (v5.fRound == v6.fRound && (v5.fOver == v6.fOver && true)))))) (kXj (alts := Jm (x0, x1)) ev3 true (.here () rfl (.refl _) (.refl _)))
 (kXj (alts := Jm (x0, x1)) ev3 false (.next (.here () rfl (.refl _) (.refl _))))))))
 (kN _ (mLen (sh := Qy) v2.snd) fun v8 => (kXj (alts := Jm (x0, x1)) ev3 false (.next (.here () rfl (.refl _) (.refl _)))))))
 (fun v3 => (kW (sh := Qy) (Qi.mk (0 : Int) (0 : Int) (0 : Int) (0 : Int) (0 : Int)) lr fun v10 => (kEr (enc := QY) (v10, (10 : Int)))))
 (fun v3 => (kJb (id := 6000015) (v3.fst, v3.snd, x1.fOp) (fun v12 ev12 v13 => (kIf (c := x1.fOp == (1 : Int)) (kXj (alts := Jo (x0, x1)) ev12 true (.here () rfl (.refl _) (.refl _)))
 (kIf (c := x1.fOp == (12 : Int)) (kXj (alts := Jo (x0, x1)) ev12 true (.here () rfl (.refl _) (.refl _)))
 (kXj (alts := Jo (x0, x1)) ev12 false (.next (.here () rfl (.refl _) (.refl _)))))))
 (fun v12 => (kEr (enc := QY) (x1.fType, (0 : Int))))
 (fun v12 => (kIf (c := v12.snd.snd == (2 : Int)) (kW (sh := Qy) (Qi.mk (3 : Int) (0 : Int) (0 : Int) (0 : Int) (0 : Int)) lr fun v16 => (kEr (enc := QY) (v16, (0 : Int))))
 (kIf (c := v12.snd.snd == (3 : Int)) (kC (sh := QX) (Uj x0 x1.fName) fun v17 => (kEr (enc := QY) (v17.fst.fType, (0 : Int))))
 (kCb (YU x1) (kW (sh := Qy) (Qi.mk (0 : Int) (0 : Int) (0 : Int) (0 : Int) (0 : Int)) lr fun v19 => (kEr (enc := QY) (v19, (0 : Int))))
 (kIx (enc := Qy) (l := v12.snd.fst) (k := (0 : Int)) fun v20 => (kEr (enc := QY) (v20, (0 : Int))))))))))))
 (hB := fun v0 v21 => (kEr (enc := QY) (v21.fst, v21.snd)))) h))
 (fun J4 Xx Q2z Q30 x3 x4 x6 x7 o h  =>
 Lp2 (hs := [(15, .n eI 15 none), (16, .split), (24, .e Q8), (26, .c QY), (30, .split), (31, .n Qy 31 none), (36, .e Q8), (38, .cb), (43, .z [{ slot := 40, own := 5 }] (some (.n Qy 43 (some .a))))]) (kb := [kk 2, kk 3, kk 4, { slot := 6, own := 5 }]) (kbx := [kk 2, kk 3, kk 4, { slot := 6, fz := true }]) ((kN _ (mLen (sh := Qm) x3.fArgs) fun v0 => (kIfD (p := x7 < v0) (kIxR (l := x3.fArgs) (k := x7) QS fun v1 => (kC (sh := QY) (Q2z v1) fun v2 => (kIf (c := v2.snd != (0 : Int)) (kW (sh := Qy) (Qi.mk (0 : Int) (0 : Int) (0 : Int) (0 : Int) (0 : Int)) lr fun v3 => (kT (nM (sh := Qy) x6) (kX (alts := KK (x0, x3) ()) (.inr (v3, v2.snd)) (.next (.here _ rfl (.cons (LeV.refl (AV.ptr (0 : Nat) (0 : Nat) (0 : Nat))) (.cons (LeV.refl (AV.ptr (1 : Nat) (0 : Nat) (0 : Nat))) (.cons (LeV.refl (AV.ptr (2 : Nat) (0 : Nat) (0 : Nat))) (.cons (LeV.refl (ii v2.snd)) (.cons (LeV.undef (AV.sl (5 : Nat) (List.map Qy x6))) .nil))))) (.refl _))))))
 (kIxR (l := x3.fArgs) (k := x7) QS fun v4 => (kCb (YU v4) (kM0 (alts := KK (x0, x3) ()) (Q30 x3 x4 x6 (wr (x7 + (1 : Int)))))
 (kA (q := (x6.length + (1 : Nat)) * (40 : Nat) ≤ (140737488355328 : Nat) ∧ x6.length + (1 : Nat) ≤ (9223372036854775807 : Nat)) (sh := Qy) (l := x6) (kO (sh := Qy) (x6 ++ [v2.fst]) (mA (sh := Qy) x6 v2.fst) (nA x6 v2.fst) fun v6 => (kM0 (alts := KK (x0, x3) ()) (Q30 x3 x4 v6 (wr (x7 + (1 : Int))))))))))))
 (kT (nM (sh := Qy) x6) (kX (alts := KK (x0, x3) ()) (.inl (x4, x6)) (.here _ rfl (.refl _) (.refl _)))))) h))
theorem F6 (x0 : Qh) (x1 : Q2) (r : (Qi × Int)) (h : J4 x0 x1 = some r) : PU 97 [Qs x0, Q8 x1] (QY r) := (SF x0).1 x1 r h
def Kk (s : ((List Qd) × Qh × Q2)) (u : List Qb) (o : Qi ⊕ (Qi × Int)) : List Alt := [⟨fun (x : Qi) => (Sum.inl x : Qi ⊕ (Qi × Int)) = o, .exit 0, fun x => [.ptr 0 0 0, .ptr 1 0 0, .ptr 2 0 0, .undef], fun x => [.cells 0 (Qs s.2.1).cells, .cells 0 (Q8 s.2.2).cells, .cells 0 (Qy x).cells]⟩, ⟨fun (x : (Qi × Int)) => (Sum.inr x : Qi ⊕ (Qi × Int)) = o, .ret, fun x => [.ptr 0 0 0, .ptr 1 0 0, .ptr 2 0 0, ii x.2], fun x => [.cells 0 (Qs s.2.1).cells, .cells 0 (Q8 s.2.2).cells, .cells 0 (Qy x.1).cells]⟩]
def ZT (x1 : List Qd) (x3 : Qh) (x6 : Qi) (x9 : List Qb) (x10 : Int) : Option (Qi ⊕ (Qi × Int)) :=
 some (List.length x9 : Int) >>= fun v0 =>
 if x10 < v0 then
 Option.map Qb.f (ix x9 x10) >>= fun v1 =>
 W5 x3 x1 v1 >>= fun v2 =>
 if v2 != (0 : Int) then
 some ((Qi.mk (0 : Int) (0 : Int) (0 : Int) (0 : Int) (0 : Int))) >>= fun v3 =>
 some (.inr (v3, v2))
 else
 ZT x1 x3 x6 x9 (wr (x10 + (1 : Int)))
 else
 some (.inl x6)
 partial_fixpoint
theorem Ii (x1 : List Qd) (x3 : Qh) (x5 : Q2) (x6 : Qi) (x9 : List Qb) (x10 : Int) (o : Qi ⊕ (Qi × Int)) (h : ZT x1 x3 x6 x9 x10 = some o) : LO 76 6 42 [1, 3, 5, 6, 9, 10] [.sl 2 (List.map Qe x1), .ptr 0 0 0, .ptr 1 0 0, .ptr 2 0 0, .sl 13 (List.map Qm x9), ii x10] [.cells 0 (Qs x3).cells, .cells 0 (Q8 x5).cells, .cells 0 (Qy x6).cells] [3, 5, 6, 7] (Kk (x1, x3, x5) x9 o) :=
 ZT.partial_correctness x1 x3 x6 x9 (fun x10 o => ∀ (x5 : Q2), LO 76 6 42 [1, 3, 5, 6, 9, 10] [.sl 2 (List.map Qe x1), .ptr 0 0 0, .ptr 1 0 0, .ptr 2 0 0, .sl 13 (List.map Qm x9), ii x10] [.cells 0 (Qs x3).cells, .cells 0 (Q8 x5).cells, .cells 0 (Qy x6).cells] [3, 5, 6, 7] (Kk (x1, x3, x5) x9 o))
 (fun ZT Q2y x10 o h x5 =>
 Lp2 (hs := [(22, .n eI 22 none), (23, .split), (30, .e Q8), (32, .c eI), (34, .split), (35, .n Qy 35 none)]) (kb := [kk 3, kk 5, kk 6]) (kbx := [kk 3, kk 5, kk 6]) ((kN _ (mLen (sh := Qm) x9) fun v0 => (kIfD (p := x10 < v0) (kIxR (l := x9) (k := x10) QS fun v1 => (kC (sh := eI) (Fa x3 x1 v1) fun v2 => (kIf (c := v2 != (0 : Int)) (kW (sh := Qy) (Qi.mk (0 : Int) (0 : Int) (0 : Int) (0 : Int) (0 : Int)) lr fun v3 => (kX (alts := Kk (x1, x3, x5) x9) (.inr (v3, v2)) (.next (.here _ rfl (.refl _) (.refl _)))))
 (kM0 (alts := Kk (x1, x3, x5) x9) (fun y hy => Q2y (wr (x10 + (1 : Int))) y hy x5)))))
 (kX (alts := Kk (x1, x3, x5) x9) (.inl x6) (.here _ rfl (.refl _) (.refl _))))) h)) x10 o h x5
def JA (x0 : Qh) (x1 : List Qd) (x2 : Q2) : Option (Qi × Int) :=
 Uy x2 >>= fun v0 =>
 if v0 != (0 : Int) then
 some ((Qi.mk (0 : Int) (0 : Int) (0 : Int) (0 : Int) (0 : Int))) >>= fun v1 =>
 some (v1, v0)
 else
 KA x2 >>= fun v2 =>
 some v2 >>= fun v3 =>
 ZT x1 x0 (Qi.mk (0 : Int) (0 : Int) (0 : Int) (0 : Int) (0 : Int)) v2 (0 : Int) >>= fun v4 => (match v4 with
 | (.inl v5) =>
 J4 x0 x2 >>= fun v6 =>
 some (v6.fst, v6.snd)
 | (.inr v7) =>
 some (v7.fst, v7.snd))
theorem Wb (x0 : Qh) (x1 : List Qd) (x2 : Q2) (r : (Qi × Int)) (h : JA x0 x1 x2 = some r) : PU 76 [Qs x0, QP x1, Q8 x2] (QY r) :=
 Pu2 (hs := [(13, .c eI), (15, .split), (16, .n Qy 16 none), (19, .c YA), (39, .c QY), (3000007, .l [] [1, 3, 5, 6, 9, 10] [kk 3, kk 5, kk 6] [3, 5, 6, 7] [kk 3, kk 5, kk 6] (Kk (x1, x0, x2)))]) ((kC (sh := eI) (NQ x2) fun v0 => (kIf (c := v0 != (0 : Int)) (kW (sh := Qy) (Qi.mk (0 : Int) (0 : Int) (0 : Int) (0 : Int) (0 : Int)) lr fun v1 => (kEr (enc := QY) (v1, v0)))
 (kC (sh := YA) (E4 x2) fun v2 => (kL2 v2 (hL := (Ii x1 x0 x2 (Qi.mk (0 : Int) (0 : Int) (0 : Int) (0 : Int) (0 : Int)) v2 (0 : Int))) (hA := fun v3 v5 => (kC (sh := QY) (F6 x0 x2) fun v6 => (kEr (enc := QY) (v6.fst, v6.snd))))
 (hB := fun v3 v7 => (kEr (enc := QY) (v7.fst, v7.snd))))))) h)
def Y3 (s : ((List Qd) × Qh × Qc)) (u : Qw) (o : Bool) : List Alt := jb o (fun b => [.sl 2 (List.map Qe (s.1)), .ptr 0 0 0, .ptr 1 0 0, .ptr 2 0 0, .bool b]) [.cells 0 (Qs (s.2.1)).cells, .cells 0 (Qn (s.2.2)).cells, .cells 0 (Qx u).cells]
def YZ (s : Unit) (u : Int) (o : Bool) : List Alt := jb o (fun b => [ii u, .bool b]) []
def CG (x0 : Qh) (x1 : List Qd) (x2 : Qc) : Option Int :=
 some ((QO.mk (3 : Int) x2.fName (gVal.mk (0 : Int) (0 : Int)) (Qi.mk (0 : Int) (0 : Int) (0 : Int) (0 : Int) (0 : Int)) (gLin.mk (0 : Int) []) x2.fIdx [] : Q2)) >>= fun v0 =>
 JA x0 x1 v0 >>= fun v1 =>
 if v1.snd != (0 : Int) then
 some v1.snd
 else
 Xs x0 x2.fName >>= fun v2 =>
 some v2.fst >>= fun v3 =>
 (if v2.fst.fUse == (1 : Int) then
 some true
 else
 if x2.fOp == (3 : Int) then
 if x2.fFold < (1 : Int) then
 some true
 else
 if (4 : Int) < x2.fFold then
 some true
 else
 some false
 else
 some false) >>= fun v4 => if v4 then
 some (1 : Int)
 else
 JA x0 x1 x2.fExpr >>= fun v7 =>
 some v7.snd >>= fun v8 =>
 (if v7.snd == (0 : Int) then
 Zn x2.fExpr >>= fun v10 => if v10 then
 some true
 else
 if !(v7.fst.fKind == v3.fType.fKind && (v7.fst.fBits == v3.fType.fBits && (v7.fst.fFrac == v3.fType.fFrac && (v7.fst.fRound == v3.fType.fRound && (v7.fst.fOver == v3.fType.fOver && true))))) then
 some true
 else
 some false
 else
 some false) >>= fun v9 => if v9 then
 some (10 : Int)
 else
 some v8
theorem A4 (x0 : Qh) (x1 : List Qd) (x2 : Qc) (r : Int) (h : CG x0 x1 x2 = some r) : PU 78 [Qs x0, QP x1, Qn x2] (eI r) :=
 Pu2 (hs := [(20, .n Q8 20 none), (21, .c QY), (25, .split), (31, .c QX), (36, .split), (40, .split), (44, .split), (48, .split), (57, .c QY), (61, .split), (65, .cb), (70, .split), (5000005, .l [] [] [] [1, 3, 5, 9, 51] [kk 3, kk 5, kk 9] (Y3 (x1, x0, x2))), (5000008, .l [] [] [] [12, 72] [] (YZ ()))]) ((kW (sh := Q8) (QO.mk (3 : Int) x2.fName (gVal.mk (0 : Int) (0 : Int)) (Qi.mk (0 : Int) (0 : Int) (0 : Int) (0 : Int) (0 : Int)) (gLin.mk (0 : Int) []) x2.fIdx [] : Q2) (LeV.agg (.cons (LeV.refl (ii (3 : Int))) (.cons (LeV.refl (AV.str x2.fName)) (.cons (LeV.refl (ii (0 : Int))) (.cons (LeV.refl (ii (0 : Int))) (.cons (LeV.refl (ii (0 : Int))) (.cons (LeV.refl (ii (0 : Int))) (.cons (LeV.refl (ii (0 : Int))) (.cons (LeV.refl (ii (0 : Int))) (.cons (LeV.refl (ii (0 : Int))) (.cons (LeV.refl (ii (0 : Int))) (.cons (LeV.nil 2) (.cons (LeV.refl (AV.sl (4 : Nat) (List.map Q4 x2.fIdx))) (.cons (LeV.nil 13) .nil)))))))))))))) fun v0 => (kC (sh := QY) (Wb x0 x1 v0) fun v1 => (kIf (c := v1.snd != (0 : Int)) (kEr (enc := eI) v1.snd)
 (kC (sh := QX) (Uj x0 x2.fName) fun v2 => (kJb (id := 5000005) v2.fst (fun v3 ev3 v4 => (kIf (c := v2.fst.fUse == (1 : Int)) (kXj (alts := Y3 (x1, x0, x2)) ev3 true (.here () rfl (.refl _) (.refl _)))
 (kIf (c := x2.fOp == (3 : Int)) (kIfD (p := x2.fFold < (1 : Int)) (kXj (alts := Y3 (x1, x0, x2)) ev3 true (.here () rfl (.refl _) (.refl _)))
 (kIfD (p := (4 : Int) < x2.fFold) (kXj (alts := Y3 (x1, x0, x2)) ev3 true (.here () rfl (.refl _) (.refl _)))
 (kXj (alts := Y3 (x1, x0, x2)) ev3 false (.next (.here () rfl (.refl _) (.refl _))))))
 (kXj (alts := Y3 (x1, x0, x2)) ev3 false (.next (.here () rfl (.refl _) (.refl _)))))))
 (fun v3 => (kEr (enc := eI) (1 : Int)))
 (fun v3 => (kC (sh := QY) (Wb x0 x1 x2.fExpr) fun v7 => (kJb (id := 5000008) v7.snd (fun v8 ev8 v9 => (kIf (c := v7.snd == (0 : Int)) (kCb (YU x2.fExpr) (kXj (alts := YZ ()) ev8 true (.here () rfl (.refl _) (.refl _)))
 (kIf (c := !(v7.fst.fKind == v3.fType.fKind && (v7.fst.fBits == v3.fType.fBits && (v7.fst.fFrac == v3.fType.fFrac && (v7.fst.fRound == v3.fType.fRound && (v7.fst.fOver == v3.fType.fOver && true)))))) (kXj (alts := YZ ()) ev8 true (.here () rfl (.refl _) (.refl _)))
 (kXj (alts := YZ ()) ev8 false (.next (.here () rfl (.refl _) (.refl _))))))
 (kXj (alts := YZ ()) ev8 false (.next (.here () rfl (.refl _) (.refl _))))))
 (fun v8 => (kEr (enc := eI) (10 : Int)))
 (fun v8 => (kEr (enc := eI) v8)))))))))) h)
def U8 (s : Qc) (u : Unit) (o : Bool) : List Alt := jb o (fun b => [.ptr 0 0 0, .bool b]) [.cells 0 (Qn s).cells]
def Yt (s : Unit) (u : Unit) (o : Bool) : List Alt := jb o (fun b => [.bool b]) []
def U9 (s : Unit) (u : Int) (o : Bool) : List Alt := jb o (fun b => [ii u, .bool b]) []
def WS (x0 : Qh) (x1 : List Qd) (x2 : List Str) (x3 : Qc) : Option Int :=
 CF x3 >>= fun v0 => if v0 then
 if x3.fOp == (1 : Int) then
 Xs x0 x3.fName >>= fun v1 =>
 VV x3.fName >>= fun v2 => if v2 then
 some () >>= fun v3 =>
 (if v1.snd then
 some true
 else
 Da x2 x3.fName >>= fun v5 => if v5 then
 some true
 else
 some false) >>= fun v4 => if v4 then
 some (8 : Int)
 else
 some () >>= fun v8 =>
 (if x3.fMany < (1 : Int) then
 some true
 else
 if (65536 : Int) < x3.fMany then
 some true
 else
 if x3.fMark < (0 : Int) then
 some true
 else
 if (3 : Int) < x3.fMark then
 some true
 else
 some false) >>= fun v9 => if v9 then
 some (1 : Int)
 else
 some (0 : Int)
 else
 some (7 : Int)
 else
 if x3.fOp == (4 : Int) then
 JA x0 x1 x3.fExpr >>= fun v12 =>
 some v12.snd >>= fun v13 =>
 (if v12.snd == (0 : Int) then
 Zn x3.fExpr >>= fun v15 => if v15 then
 some false
 else
 some true
 else
 some false) >>= fun v14 => if v14 then
 some (10 : Int)
 else
 some v13
 else
 CG x0 x1 x3 >>= fun v18 =>
 some v18
 else
 some (5 : Int)
theorem PT (x0 : Qh) (x1 : List Qd) (x2 : List Str) (x3 : Qc) (r : Int) (h : WS x0 x1 x2 x3 = some r) : PU 48 [Qs x0, QP x1, eLS x2, Qn x3] (eI r) :=
 Pu2 (hs := [(14, .cb), (19, .split), (24, .c QX), (30, .cb), (33, .split), (38, .cb), (43, .split), (47, .split), (52, .split), (57, .split), (60, .split), (66, .c QY), (70, .split), (74, .cb), (81, .c eI), (5000008, .l [] [] [] [7, 32] [kk 7] (U8 x3)), (5000010, .l [] [] [] [40] [] (Yt ())), (5000015, .l [] [] [] [12, 76] [] (U9 ()))]) ((kCb (A3 x3) (kIf (c := x3.fOp == (1 : Int)) (kC (sh := QX) (Uj x0 x3.fName) fun v1 => (kCb (Dy x3.fName) (kJb (id := 5000008) () (fun v3 ev3 v4 => (kIf (c := v1.snd) (kXj (alts := U8 x3) ev3 true (.here () rfl (.refl _) (.refl _)))
 (kCb (Nq x2 x3.fName) (kXj (alts := U8 x3) ev3 true (.here () rfl (.refl _) (.refl _)))
 (kXj (alts := U8 x3) ev3 false (.next (.here () rfl (.refl _) (.refl _)))))))
 (fun v3 => (kEr (enc := eI) (8 : Int)))
 (fun v3 => (kJb (id := 5000010) () (fun v8 ev8 v9 => (kIfD (p := x3.fMany < (1 : Int)) (kXj (alts := Yt ()) ev8 true (.here () rfl (.refl _) (.refl _)))
 (kIfD (p := (65536 : Int) < x3.fMany) (kXj (alts := Yt ()) ev8 true (.here () rfl (.refl _) (.refl _)))
 (kIfD (p := x3.fMark < (0 : Int)) (kXj (alts := Yt ()) ev8 true (.here () rfl (.refl _) (.refl _)))
 (kIfD (p := (3 : Int) < x3.fMark) (kXj (alts := Yt ()) ev8 true (.here () rfl (.refl _) (.refl _)))
 (kXj (alts := Yt ()) ev8 false (.next (.here () rfl (.refl _) (.refl _)))))))))
 (fun v8 => (kEr (enc := eI) (1 : Int)))
 (fun v8 => (kEr (enc := eI) (0 : Int))))))
 (kEr (enc := eI) (7 : Int))))
 (kIf (c := x3.fOp == (4 : Int)) (kC (sh := QY) (Wb x0 x1 x3.fExpr) fun v12 => (kJb (id := 5000015) v12.snd (fun v13 ev13 v14 => (kIf (c := v12.snd == (0 : Int)) (kCb (YU x3.fExpr) (kXj (alts := U9 ()) ev13 false (.next (.here () rfl (.refl _) (.refl _))))
 (kXj (alts := U9 ()) ev13 true (.here () rfl (.refl _) (.refl _))))
 (kXj (alts := U9 ()) ev13 false (.next (.here () rfl (.refl _) (.refl _))))))
 (fun v13 => (kEr (enc := eI) (10 : Int)))
 (fun v13 => (kEr (enc := eI) v13))))
 (kC (sh := eI) (A4 x0 x1 x3) fun v18 => (kEr (enc := eI) v18))))
 (kEr (enc := eI) (5 : Int))) h)
def KL (s : ((List Qd) × (List Q9) × (List Int) × Qh)) (u : Unit) (o : ((List Str) × QC) ⊕ QC) : List Alt := [⟨fun (x : ((List Str) × QC)) => (Sum.inl x : ((List Str) × QC) ⊕ QC) = o, .exit 0, fun x => [.sl 1 (List.map eS x.1), .ptr 0 0 0], fun x => [.cells 0 (Z0 x.2).cells]⟩, ⟨fun (x : QC) => (Sum.inr x : ((List Str) × QC) ⊕ QC) = o, .ret, fun x => [.undef, .ptr 0 0 0], fun x => [.cells 0 (Z0 x).cells]⟩]
def GJ (s : ((List Qd) × (List Q9) × (List Int) × Qh)) (u : (QC × Int × (List Int))) (o : ((List Str) × (List Qd))) : List Alt := [⟨fun (x : ((List Str) × (List Qd))) => x = o, .normal, fun x => [.sl 2 (List.map Qe (s.1)), .sl 1 (List.map eS (x.1)), .sl 20 (List.map Qq (s.2.1)), .sl 1 (List.map eI (s.2.2.1)), .ptr 0 0 0, .ptr 1 0 0, ii (u.2.1), .sl 1 (List.map eI (u.2.2)), .sl 2 (List.map Qe (x.2))], fun x => [.cells 0 (Qs (s.2.2.2)).cells, .cells 0 (Z0 (u.1)).cells]⟩]
mutual
def K2 (x0 : Qh) (x1 : List Qd) (x2 : List Str) (x3 : List Q9) (x4 : List Int) : Option QC :=
 some () >>= fun v0 =>
 Xy x1 x2 x3 x4 x0 (QC.mk [] [] (0 : Int)) (0 : Int) >>= fun v1 => (match v1 with
 | (.inl v2) =>
 some ((QC.mk v2.fst [] (0 : Int))) >>= fun v3 =>
 some v3
 | (.inr v4) =>
 some v4)
 partial_fixpoint
def Xy (x1 : List Qd) (x2 : List Str) (x3 : List Q9) (x4 : List Int) (x5 : Qh) (x10 : QC) (x11 : Int) : Option (((List Str) × QC) ⊕ QC) :=
 some (List.length x3 : Int) >>= fun v0 =>
 if x11 < v0 then
 if (0 : Nat) = (0 : Nat) ∧ ((0 : Nat) + (List.map eI x4).length) * (8 : Nat) ≤ (140737488355328 : Nat) ∧ (0 : Nat) + (List.map eI x4).length ≤ (9223372036854775807 : Nat) then
 some ([] ++ x4) >>= fun v1 =>
 if (v1.length + (1 : Nat)) * (8 : Nat) ≤ (140737488355328 : Nat) ∧ v1.length + (1 : Nat) ≤ (9223372036854775807 : Nat) then
 some (v1 ++ [x11]) >>= fun v2 =>
 Option.map Q9.f (ix x3 x11) >>= fun v3 =>
 WS x5 x1 x2 v3 >>= fun v4 =>
 if v4 != (0 : Int) then
 some ((QC.mk [] v2 v4)) >>= fun v5 =>
 some (.inr v5)
 else
 some (x10, x11, v2) >>= fun v6 =>
 (Option.map Q9.f (ix x3 x11) >>= fun v8 =>
 if v8.fOp == (1 : Int) then
 if (0 : Nat) = (0 : Nat) ∧ ((0 : Nat) + (List.map eS x2).length) * (16 : Nat) ≤ (140737488355328 : Nat) ∧ (0 : Nat) + (List.map eS x2).length ≤ (9223372036854775807 : Nat) then
 Option.map Q9.f (ix x3 x11) >>= fun v9 =>
 if (0 : Nat) + (List.map eS x2).length = ([] ++ List.map eS x2).length ∧ ((0 : Nat) + (List.map eS x2).length + (1 : Nat)) * (16 : Nat) ≤ (140737488355328 : Nat) ∧ (0 : Nat) + (List.map eS x2).length + (1 : Nat) ≤ (9223372036854775807 : Nat) then
 some (([] ++ x2) ++ [v9.fName]) >>= fun v10 =>
 if (0 : Nat) = (0 : Nat) ∧ ((0 : Nat) + (List.map Qe x1).length) * (24 : Nat) ≤ (140737488355328 : Nat) ∧ (0 : Nat) + (List.map Qe x1).length ≤ (9223372036854775807 : Nat) then
 Option.map Q9.f (ix x3 x11) >>= fun v11 =>
 Option.map Q9.f (ix x3 x11) >>= fun v12 =>
 some ((Qd.mk v11.fName v12.fMany)) >>= fun v13 =>
 if (0 : Nat) + (List.map Qe x1).length = ([] ++ List.map Qe x1).length ∧ ((0 : Nat) + (List.map Qe x1).length + (1 : Nat)) * (24 : Nat) ≤ (140737488355328 : Nat) ∧ (0 : Nat) + (List.map Qe x1).length + (1 : Nat) ≤ (9223372036854775807 : Nat) then
 some (([] ++ x1) ++ [(Qd.mk v11.fName v12.fMany)]) >>= fun v14 =>
 some (v10, v14)
 else none
 else none
 else none
 else none
 else
 some (x2, x1)) >>= fun v15 =>
 Option.map Q9.f (ix x3 v6.snd.fst) >>= fun v16 =>
 K2 x5 v15.snd v15.fst v16.fBody v6.snd.snd >>= fun v17 =>
 if v17.fE != (0 : Int) then
 some (.inr v17)
 else
 Xy x1 v17.fUsed x3 x4 x5 v6.fst (wr (v6.snd.fst + (1 : Int)))
 else none
 else none
 else
 some (.inl (x2, x10))
 partial_fixpoint
end
theorem SG (x0 : Qh) : (∀ (x1 : List Qd) (x2 : List Str) (x3 : List Q9) (x4 : List Int) (r : QC), K2 x0 x1 x2 x3 x4 = some r → PU 30 [Qs x0, QP x1, eLS x2, Zf x3, eLI x4] (Z0 r)) ∧ (∀ (x1 : List Qd) (x2 : List Str) (x3 : List Q9) (x4 : List Int) (x10 : QC) (x11 : Int) (o : ((List Str) × QC) ⊕ QC), Xy x1 x2 x3 x4 x0 x10 x11 = some o → LO 30 2 92 [1, 2, 3, 4, 5, 10, 11] [.sl 2 (List.map Qe x1), .sl 1 (List.map eS x2), .sl 20 (List.map Qq x3), .sl 1 (List.map eI x4), .ptr 0 0 0, .ptr 1 0 0, ii x11] [.cells 0 (Qs x0).cells, .cells 0 (Z0 x10).cells] [2, 10] (KL (x1, x3, x4, x0) () o)) :=
 K2.mutual_partial_correctness x0 (fun x1 x2 x3 x4 r => PU 30 [Qs x0, QP x1, eLS x2, Zf x3, eLI x4] (Z0 r)) (fun x1 x2 x3 x4 x10 x11 o => LO 30 2 92 [1, 2, 3, 4, 5, 10, 11] [.sl 2 (List.map Qe x1), .sl 1 (List.map eS x2), .sl 20 (List.map Qq x3), .sl 1 (List.map eI x4), .ptr 0 0 0, .ptr 1 0 0, ii x11] [.cells 0 (Qs x0).cells, .cells 0 (Z0 x10).cells] [2, 10] (KL (x1, x3, x4, x0) () o))
 (fun Xy Q34 x1 x2 x3 x4 r h  =>
 Pu2 (hs := [(91, .n Z0 91 none), (3000003, .l [] [1, 2, 3, 4, 5, 10, 11] [{ slot := 2, fz := true }, kk 5, kk 10] [2, 10] [{ slot := 2, fz := true }, kk 10] (KL (x1, x3, x4, x0)))]) ((kL2 () (hL := (fun y hy => ZC.le (.cons (LeV.refl (AV.sl (2 : Nat) (List.map Qe x1))) (.cons (LeV.refl (AV.sl (1 : Nat) (List.map eS x2))) (.cons (LeV.refl (AV.sl (20 : Nat) (List.map Qq x3))) (.cons (LeV.refl (AV.sl (1 : Nat) (List.map eI x4))) (.cons (LeV.refl (AV.ptr (0 : Nat) (0 : Nat) (0 : Nat))) (.cons (LeV.refl (AV.ptr (1 : Nat) (0 : Nat) (0 : Nat))) (.cons (LeV.refl (ii (0 : Int))) .nil))))))) (.cons (LeB.refl (Box.cells (0 : Nat) [AV.sl (8 : Nat) (List.map Qx x0.fBufs), AV.sl (20 : Nat) (List.map Qq x0.fBody)])) (.cons (LeB.cells (0 : Nat) (.cons (LeV.nil 1) (.cons (LeV.nil 1) (.cons (LeV.refl (ii (0 : Int))) .nil)))) .nil)) (Q34 x1 x2 x3 x4 (QC.mk [] [] (0 : Int)) (0 : Int) y hy))) (hA := fun v0 v2 => (kW (sh := Z0) (QC.mk v2.fst [] (0 : Int)) (LeV.agg (.cons (LeV.refl (AV.sl (1 : Nat) (List.map eS v2.fst))) (.cons (LeV.nil 1) (.cons (LeV.refl (ii (0 : Int))) .nil)))) fun v3 => (kEr (enc := Z0) v3)))
 (hB := fun v0 v4 => (kEr (enc := Z0) v4))) h))
 (fun K2 Xy Q33 Q34 x1 x2 x3 x4 x10 x11 o h  =>
 Lp2 (hs := [(18, .n eI 18 none), (19, .split), (24, .z [{ slot := 22, own := 1 }] (some (.n eI 24 (some .a)))), (27, .z [{ slot := 24, own := 1 }] (some (.n eI 27 (some .a)))), (12, .z [{ slot := 27, fz := true }] none), (33, .e Qn), (35, .c eI), (37, .split), (40, .n Z0 40 none), (44, .e Qn), (47, .split), (50, .a), (53, .e Qn), (57, .z [{ slot := 50, own := 1 }] (some (.n eS 57 (some .a)))), (2, .z [{ slot := 57, fz := true }] none), (60, .a), (63, .e Qn), (68, .e Qn), (71, .n Qe 71 none), (73, .z [{ slot := 60, own := 2 }] (some (.n Qe 73 (some .a)))), (14, .z [{ slot := 73, fz := true }] none), (79, .e Qn), (83, .c Z0), (86, .split), (6000011, .l [] [] [] [1, 2, 3, 4, 5, 10, 11, 12, 14] [{ slot := 2, fz := true }, kk 5, kk 10, { slot := 12, fz := true }, { slot := 14, fz := true }] (GJ (x1, x3, x4, x0)))]) (kb := [{ slot := 2, fz := true }, kk 5, kk 10]) (kbx := [{ slot := 2, fz := true }, kk 10]) ((kN _ (mLen (sh := Qq) x3) fun v0 => (kIfD (p := x11 < v0) (kG (p := (0 : Nat) = (0 : Nat) ∧ ((0 : Nat) + (List.map eI x4).length) * (8 : Nat) ≤ (140737488355328 : Nat) ∧ (0 : Nat) + (List.map eI x4).length ≤ (9223372036854775807 : Nat)) (kO (sh := eI) ([] ++ x4) (mAA (sh := eI) [] x4) (nAA (sh := eI) [] x4) fun v1 => (kA (q := (v1.length + (1 : Nat)) * (8 : Nat) ≤ (140737488355328 : Nat) ∧ v1.length + (1 : Nat) ≤ (9223372036854775807 : Nat)) (sh := eI) (l := v1) (kO (sh := eI) (v1 ++ [x11]) (mA (sh := eI) v1 x11) (nA v1 x11) fun v2 => (kT (nM (sh := eI) v2) (kIxR (l := x3) (k := x11) QW fun v3 => (kC (sh := eI) (PT x0 x1 x2 v3) fun v4 => (kIf (c := v4 != (0 : Int)) (kW (sh := Z0) (QC.mk [] v2 v4) (LeV.agg (.cons (LeV.nil 1) (.cons (LeV.refl (AV.sl (1 : Nat) (List.map eI v2))) (.cons (LeV.refl (ii v4)) .nil)))) fun v5 => (kX (alts := KL (x1, x3, x4, x0) ()) (.inr v5) (.next (.here _ rfl (.cons (LeV.undef (AV.sl (1 : Nat) (List.map eS x2))) (.cons (LeV.refl (AV.ptr (0 : Nat) (0 : Nat) (0 : Nat))) .nil)) (.refl _)))))
 (kJ1 (id := 6000011) (x10, x11, v2) (fun v6 ev6 v7 => (kIxR (l := x3) (k := x11) QW fun v8 => (kIf (c := v8.fOp == (1 : Int)) (kG (p := (0 : Nat) = (0 : Nat) ∧ ((0 : Nat) + (List.map eS x2).length) * (16 : Nat) ≤ (140737488355328 : Nat) ∧ (0 : Nat) + (List.map eS x2).length ≤ (9223372036854775807 : Nat)) (kIxR (l := x3) (k := x11) QW fun v9 => (kG (p := (0 : Nat) + (List.map eS x2).length = ([] ++ List.map eS x2).length ∧ ((0 : Nat) + (List.map eS x2).length + (1 : Nat)) * (16 : Nat) ≤ (140737488355328 : Nat) ∧ (0 : Nat) + (List.map eS x2).length + (1 : Nat) ≤ (9223372036854775807 : Nat)) (kO (sh := eS) (([] ++ x2) ++ [v9.fName]) (mAp (sh := eS) (mAA (sh := eS) [] x2) (rfl : List.map eS [v9.fName] = List.map eS [v9.fName])) (by simp : List.length (([] ++ x2) ++ [v9.fName]) = (0 : Nat) + (List.map eS x2).length + (1 : Nat)) fun v10 => (kT (nM (sh := eS) v10) (kG (p := (0 : Nat) = (0 : Nat) ∧ ((0 : Nat) + (List.map Qe x1).length) * (24 : Nat) ≤ (140737488355328 : Nat) ∧ (0 : Nat) + (List.map Qe x1).length ≤ (9223372036854775807 : Nat)) (kIxR (l := x3) (k := x11) QW fun v11 => (kIxR (l := x3) (k := x11) QW fun v12 => (kW (sh := Qe) (Qd.mk v11.fName v12.fMany) lr fun v13 => (kG (p := (0 : Nat) + (List.map Qe x1).length = ([] ++ List.map Qe x1).length ∧ ((0 : Nat) + (List.map Qe x1).length + (1 : Nat)) * (24 : Nat) ≤ (140737488355328 : Nat) ∧ (0 : Nat) + (List.map Qe x1).length + (1 : Nat) ≤ (9223372036854775807 : Nat)) (kO (sh := Qe) (([] ++ x1) ++ [(Qd.mk v11.fName v12.fMany)]) (mAp (sh := Qe) (mAA (sh := Qe) [] x1) (rfl : List.map Qe [(Qd.mk v11.fName v12.fMany)] = List.map Qe [(Qd.mk v11.fName v12.fMany)])) (by simp : List.length (([] ++ x1) ++ [(Qd.mk v11.fName v12.fMany)]) = (0 : Nat) + (List.map Qe x1).length + (1 : Nat)) fun v14 => (kT (nM (sh := Qe) v14) (kXj (alts := GJ (x1, x3, x4, x0)) ev6 (v10, v14) (.here _ rfl (.refl _) (.refl _)))))))))))))))
 (kXj (alts := GJ (x1, x3, x4, x0)) ev6 (x2, x1) (.here _ rfl (.refl _) (.refl _))))))
 (fun v6 v15 => (kIxR (l := x3) (k := v6.snd.fst) QW fun v16 => (kC (sh := Z0) (Q33 v15.snd v15.fst v16.fBody v6.snd.snd) fun v17 => (kIf (c := v17.fE != (0 : Int)) (kX (alts := KL (x1, x3, x4, x0) ()) (.inr v17) (.next (.here _ rfl (.cons (LeV.undef (AV.sl (1 : Nat) (List.map eS v15.fst))) (.cons (LeV.refl (AV.ptr (0 : Nat) (0 : Nat) (0 : Nat))) .nil)) (.refl _))))
 (kM0 (alts := KL (x1, x3, x4, x0) ()) (Q34 x1 v17.fUsed x3 x4 v6.fst (wr (v6.snd.fst + (1 : Int))))))))))))))))))
 (kX (alts := KL (x1, x3, x4, x0) ()) (.inl (x2, x10)) (.here _ rfl (.refl _) (.refl _))))) h))
theorem F7 (x0 : Qh) (x1 : List Qd) (x2 : List Str) (x3 : List Q9) (x4 : List Int) (r : QC) (h : K2 x0 x1 x2 x3 x4 = some r) : PU 30 [Qs x0, QP x1, eLS x2, Zf x3, eLI x4] (Z0 r) := (SG x0).1 x1 x2 x3 x4 r h
def Kx (s : Qh) (u : Unit) (o : Bool) : List Alt := jb o (fun b => [.ptr 0 0 0, .bool b]) [.cells 0 (Qs s).cells]
def Dd (x0 : Qh) : Option (List Int × Int) :=
 V5 x0.fBody (41 : Int) >>= fun v0 =>
 if (40 : Int) < v0 then
 some ([], (13 : Int))
 else
 some () >>= fun v1 =>
 (J5 x0.fBody (2000 : Int) >>= fun v3 =>
 if (2000 : Int) < v3 then
 some true
 else
 some (List.length x0.fBufs : Int) >>= fun v4 =>
 if (128 : Int) < v4 then
 some true
 else
 some false) >>= fun v2 => if v2 then
 some ([], (2 : Int))
 else
 DL x0 >>= fun v7 =>
 if v7 != (0 : Int) then
 some ([], v7)
 else
 K2 x0 [] [] x0.fBody [] >>= fun v8 =>
 some (v8.fWay, v8.fE)
theorem EE (x0 : Qh) (r : (List Int × Int)) (h : Dd x0 = some r) : PU 14 [Qs x0] (Wx r) :=
 Pu2 (hs := [(8, .c eI), (9, .split), (12, .c eI), (13, .split), (17, .n eI 17 none), (18, .split), (21, .c eI), (23, .split), (28, .c Z0), (5000003, .l [] [] [] [1, 19] [kk 1] (Kx x0))]) ((kC (sh := eI) (A2 x0.fBody (41 : Int)) fun v0 => (kIfD (p := (40 : Int) < v0) (kE (enc := Wx) ([], (13 : Int)) (LeT.tup (.cons (LeT.nil 1) (.cons (LeT.refl (ii (13 : Int))) .nil))))
 (kJb (id := 5000003) () (fun v1 ev1 v2 => (kC (sh := eI) (Fb x0.fBody (2000 : Int)) fun v3 => (kIfD (p := (2000 : Int) < v3) (kXj (alts := Kx x0) ev1 true (.here () rfl (.refl _) (.refl _)))
 (kN _ (mLen (sh := Qx) x0.fBufs) fun v4 => (kIfD (p := (128 : Int) < v4) (kXj (alts := Kx x0) ev1 true (.here () rfl (.refl _) (.refl _)))
 (kXj (alts := Kx x0) ev1 false (.next (.here () rfl (.refl _) (.refl _)))))))))
 (fun v1 => (kE (enc := Wx) ([], (2 : Int)) (LeT.tup (.cons (LeT.nil 1) (.cons (LeT.refl (ii (2 : Int))) .nil)))))
 (fun v1 => (kC (sh := eI) (F8 x0) fun v7 => (kIf (c := v7 != (0 : Int)) (kE (enc := Wx) ([], v7) (LeT.tup (.cons (LeT.nil 1) (.cons (LeT.refl (ii v7)) .nil))))
 (kC (sh := Z0) (fun y hy => Pu.le (F7 x0 [] [] x0.fBody [] y hy) (.cons (LeT.refl (AV.agg [AV.sl (8 : Nat) (List.map Qx x0.fBufs), AV.sl (20 : Nat) (List.map Qq x0.fBody)])) (.cons (LeT.nil 2) (.cons (LeT.nil 1) (.cons (LeT.refl (AV.sl (20 : Nat) (List.map Qq x0.fBody))) (.cons (LeT.nil 1) .nil))))) (LeT.refl _)) fun v8 => (kEr (enc := Wx) (v8.fWay, v8.fE))))))))) h)
def KY (s : Q2) (u : Unit) (o : Unit ⊕ Bool) : List Alt := [⟨fun (x : Unit) => (Sum.inl x : Unit ⊕ Bool) = o, .exit 0, fun x => [.ptr 0 0 0, .undef], fun x => [.cells 0 (Q8 s).cells]⟩, ⟨fun (x : Bool) => (Sum.inr x : Unit ⊕ Bool) = o, .ret, fun x => [.ptr 0 0 0, .bool x], fun x => [.cells 0 (Q8 s).cells]⟩]
mutual
def Ks (x0 : Q2) : Option Bool :=
 some () >>= fun v0 =>
 Xi x0 (0 : Int) >>= fun v1 => (match v1 with
 | (.inl v2) =>
 some (x0.fOp != (3 : Int))
 | (.inr v3) =>
 some v3)
 partial_fixpoint
def Xi (x1 : Q2) (x3 : Int) : Option (Unit ⊕ Bool) :=
 some (List.length x1.fArgs : Int) >>= fun v0 =>
 if x3 < v0 then
 Option.map Qb.f (ix x1.fArgs x3) >>= fun v1 =>
 Ks v1 >>= fun v2 => if v2 then
 Xi x1 (wr (x3 + (1 : Int)))
 else
 some (.inr false)
 else
 some (.inl ())
 partial_fixpoint
end
theorem Rg  : (∀ (x0 : Q2) (r : Bool), Ks x0 = some r → PU 49 [Q8 x0] (eB r)) ∧ (∀ (x1 : Q2) (x3 : Int) (o : Unit ⊕ Bool), Xi x1 x3 = some o → LO 49 2 21 [1, 3] [.ptr 0 0 0, ii x3] [.cells 0 (Q8 x1).cells] [1, 2] (KY x1 () o)) :=
 Ks.mutual_partial_correctness  (fun x0 r => PU 49 [Q8 x0] (eB r)) (fun x1 x3 o => LO 49 2 21 [1, 3] [.ptr 0 0 0, ii x3] [.cells 0 (Q8 x1).cells] [1, 2] (KY x1 () o))
 (fun Xi Q3k x0 r h  =>
 Pu2 (hs := [(3000003, .l [] [1, 3] [kk 1] [1, 2] [kk 1] (KY x0))]) ((kL2 () (hL := (Q3k x0 (0 : Int))) (hA := fun v0 v2 => (kEr (enc := eB) (x0.fOp != (3 : Int))))
 (hB := fun v0 v3 => (kEr (enc := eB) v3))) h))
 (fun Ks Xi Q3j Q3k x1 x3 o h  =>
 Lp2 (hs := [(7, .n eI 7 none), (8, .split), (14, .e Q8), (16, .cb)]) (kb := [kk 1]) (kbx := [kk 1]) ((kN _ (mLen (sh := Qm) x1.fArgs) fun v0 => (kIfD (p := x3 < v0) (kIxR (l := x1.fArgs) (k := x3) QS fun v1 => (kCb (Q3j v1) (kM0 (alts := KY x1 ()) (Q3k x1 (wr (x3 + (1 : Int)))))
 (kX (alts := KY x1 ()) (.inr false) (.next (.here _ rfl (.refl _) (.refl _))))))
 (kX (alts := KY x1 ()) (.inl ()) (.here _ rfl (.refl _) (.refl _))))) h))
theorem TB (x0 : Q2) (r : Bool) (h : Ks x0 = some r) : PU 49 [Q8 x0] (eB r) := (Rg ).1 x0 r h
def UY (s : ((List Str) × Str)) (u : Unit) (o : Int) : List Alt := [⟨fun (x : Int) => x = o, .exit 0, fun x => [.sl 1 (List.map eS s.1), .str s.2, ii x], fun x => []⟩]
def Jh (s : ((List Str) × Str)) (u : Int) (o : Bool) : List Alt := jb o (fun b => [.sl 1 (List.map eS (s.1)), .str (s.2), ii u, .bool b]) []
def Yg (x0 : List Str) (x1 : Str) (x5 : Int) : Option Int :=
 some x5 >>= fun v0 =>
 (some (List.length x0 : Int) >>= fun v2 =>
 if x5 < v2 then
 ix x0 x5 >>= fun v3 =>
 if Op.bytesLess v3 x1 then
 some true
 else
 some false
 else
 some false) >>= fun v1 => if v1 then
 Yg x0 x1 (wr (v0 + (1 : Int)))
 else
 some v0
 partial_fixpoint
theorem Rs (x0 : List Str) (x1 : Str) (x5 : Int) (o : Int) (h : Yg x0 x1 x5 = some o) : LO 80 2 48 [0, 1, 5] [.sl 1 (List.map eS x0), .str x1, ii x5] [] [0, 1, 5] (UY (x0, x1) () o) :=
 Yg.partial_correctness x0 x1 (fun x5 o => LO 80 2 48 [0, 1, 5] [.sl 1 (List.map eS x0), .str x1, ii x5] [] [0, 1, 5] (UY (x0, x1) () o))
 (fun Yg Q2c x5 o h  =>
 Lp2 (hs := [(9, .n eI 9 none), (10, .split), (14, .e eS), (17, .split), (5000002, .l [] [] [] [0, 1, 5, 18] [] (Jh (x0, x1)))]) (kb := []) (kbx := []) ((kJb (id := 5000002) x5 (fun v0 ev0 v1 => (kN _ (mLen (sh := eS) x0) fun v2 => (kIfD (p := x5 < v2) (kIx (enc := eS) (l := x0) (k := x5) fun v3 => (kIf (c := Op.bytesLess v3 x1) (kXj (alts := Jh (x0, x1)) ev0 true (.here () rfl (.refl _) (.refl _)))
 (kXj (alts := Jh (x0, x1)) ev0 false (.next (.here () rfl (.refl _) (.refl _))))))
 (kXj (alts := Jh (x0, x1)) ev0 false (.next (.here () rfl (.refl _) (.refl _)))))))
 (fun v0 => (kM0 (alts := UY (x0, x1) ()) (Q2c (wr (v0 + (1 : Int))))))
 (fun v0 => (kX (alts := UY (x0, x1) ()) v0 (.here _ rfl (.refl _) (.refl _))))) h)) x5 o h
def Ji (s : ((List Str) × Str)) (u : Int) (o : Bool) : List Alt := jb o (fun b => [.sl 1 (List.map eS (s.1)), .str (s.2), ii u, .bool b]) []
def DJ (x0 : List Str) (x1 : Str) : Option (List Str) :=
 some () >>= fun v0 =>
 Yg x0 x1 (0 : Int) >>= fun v2 =>
 some v2 >>= fun v3 =>
 (some (List.length x0 : Int) >>= fun v5 =>
 if v2 < v5 then
 ix x0 v2 >>= fun v6 =>
 if v6 == x1 then
 some true
 else
 some false
 else
 some false) >>= fun v4 => if v4 then
 some x0
 else
 if (0 : Int) ≤ (0 : Int) ∧ (0 : Int) ≤ v3 ∧ v3 ≤ (↑(List.map eS x0).length : Int) then
 some ((List.drop (0 : Nat) (List.take v3.toNat x0)) : List Str) >>= fun v9 =>
 if (0 : Nat) = (0 : Nat) ∧ ((0 : Nat) + (List.map eS v9).length) * (16 : Nat) ≤ (140737488355328 : Nat) ∧ (0 : Nat) + (List.map eS v9).length ≤ (9223372036854775807 : Nat) then
 some ([] ++ v9) >>= fun v10 =>
 if (v10.length + (1 : Nat)) * (16 : Nat) ≤ (140737488355328 : Nat) ∧ v10.length + (1 : Nat) ≤ (9223372036854775807 : Nat) then
 some (v10 ++ [x1]) >>= fun v11 =>
 if (0 : Int) ≤ v3 ∧ v3 ≤ (↑(List.map eS x0).length : Int) then
 some ((List.drop v3.toNat x0) : List Str) >>= fun v12 =>
 if (v11.length + (List.map eS v12).length) * (16 : Nat) ≤ (140737488355328 : Nat) ∧ v11.length + (List.map eS v12).length ≤ (9223372036854775807 : Nat) then
 some (v11 ++ v12) >>= fun v13 =>
 some v13
 else none
 else none
 else none
 else none
 else none
theorem Ih (x0 : List Str) (x1 : Str) (r : List Str) (h : DJ x0 x1 = some r) : PU 80 [eLS x0, eS x1] (eLS r) :=
 Pu2 (hs := [(23, .n eI 23 none), (24, .split), (28, .e eS), (31, .split), (37, .n eLS 37 (some .s)), (38, .z [{ slot := 34, own := 1 }] (some (.n eS 38 (some .a)))), (42, .z [{ slot := 39, own := 1 }] (some (.n eS 42 (some .a)))), (46, .n eLS 46 (some .s)), (47, .z [{ slot := 43, own := 1 }] (some (.n eS 47 (some .a)))), (3000003, .l [] [0, 1, 5] [] [0, 1, 5] [] (UY (x0, x1))), (5000004, .l [] [] [] [0, 1, 5, 32] [] (Ji (x0, x1)))]) ((kL1 () (Rs x0 x1 (0 : Int)) fun v0 v2 => (kJb (id := 5000004) v2 (fun v3 ev3 v4 => (kN _ (mLen (sh := eS) x0) fun v5 => (kIfD (p := v2 < v5) (kIx (enc := eS) (l := x0) (k := v2) fun v6 => (kIf (c := v6 == x1) (kXj (alts := Ji (x0, x1)) ev3 true (.here () rfl (.refl _) (.refl _)))
 (kXj (alts := Ji (x0, x1)) ev3 false (.next (.here () rfl (.refl _) (.refl _))))))
 (kXj (alts := Ji (x0, x1)) ev3 false (.next (.here () rfl (.refl _) (.refl _)))))))
 (fun v3 => (kEr (enc := eLS) x0))
 (fun v3 => (kG (p := (0 : Int) ≤ (0 : Int) ∧ (0 : Int) ≤ v3 ∧ v3 ≤ (↑(List.map eS x0).length : Int)) (kW (sh := eLS) (List.drop (0 : Nat) (List.take v3.toNat x0)) (leSl (mTD (sh := eS) x0 v3.toNat (0 : Nat))) fun v9 => (kG (p := (0 : Nat) = (0 : Nat) ∧ ((0 : Nat) + (List.map eS v9).length) * (16 : Nat) ≤ (140737488355328 : Nat) ∧ (0 : Nat) + (List.map eS v9).length ≤ (9223372036854775807 : Nat)) (kO (sh := eS) ([] ++ v9) (mAA (sh := eS) [] v9) (nAA (sh := eS) [] v9) fun v10 => (kA (q := (v10.length + (1 : Nat)) * (16 : Nat) ≤ (140737488355328 : Nat) ∧ v10.length + (1 : Nat) ≤ (9223372036854775807 : Nat)) (sh := eS) (l := v10) (kO (sh := eS) (v10 ++ [x1]) (mA (sh := eS) v10 x1) (nA v10 x1) fun v11 => (kG (p := (0 : Int) ≤ v3 ∧ v3 ≤ (↑(List.map eS x0).length : Int)) (kW (sh := eLS) (List.drop v3.toNat x0) (leSl (mD (sh := eS) x0 v3.toNat)) fun v12 => (kA (q := (v11.length + (List.map eS v12).length) * (16 : Nat) ≤ (140737488355328 : Nat) ∧ v11.length + (List.map eS v12).length ≤ (9223372036854775807 : Nat)) (sh := eS) (l := v11) (kO (sh := eS) (v11 ++ v12) (mAA (sh := eS) v11 v12) (nAA (sh := eS) v11 v12) fun v13 => (kT (nM (sh := eS) v13) (kEr (enc := eLS) v13))))))))))))))) h)
def Uq (s : List Qb) (u : Int) (o : List Str) : List Alt := [⟨fun (x : List Str) => x = o, .exit 2, fun x => [.sl 1 (List.map eS x), .sl 13 (List.map Qm s), ii u], fun x => []⟩]
def Gl (s : ((List Qb) × Int)) (u : Int) (o : List Str) : List Alt := [⟨fun (x : List Str) => x = o, .normal, fun x => [.sl 1 (List.map eS x), .sl 13 (List.map Qm (s.1)), ii (s.2), ii u], fun x => []⟩]
def X2 (x3 : List Str) (x4 : List Qb) (x5 : Int) (x6 : Int) : Option (List Str) :=
 Option.map Qb.f (ix x4 x5) >>= fun v0 =>
 some (List.length v0.fIdx : Int) >>= fun v1 =>
 if x6 < v1 then
 some x6 >>= fun v2 =>
 (Option.map Qb.f (ix x4 x5) >>= fun v4 =>
 ix v4.fIdx x6 >>= fun v5 =>
 if !v5.fFrom == [] then
 Option.map Qb.f (ix x4 x5) >>= fun v6 =>
 ix v6.fIdx x6 >>= fun v7 =>
 DJ x3 v7.fFrom >>= fun v8 =>
 some v8
 else
 some x3) >>= fun v9 =>
 X2 v9 x4 x5 (wr (v2 + (1 : Int)))
 else
 some x3
 partial_fixpoint
theorem Ez (x3 : List Str) (x4 : List Qb) (x5 : Int) (x6 : Int) (o : List Str) (h : X2 x3 x4 x5 x6 = some o) : LO 51 9 60 [3, 4, 5, 6] [.sl 1 (List.map eS x3), .sl 13 (List.map Qm x4), ii x5, ii x6] [] [3, 4, 5] (Uq x4 x5 o) :=
 X2.partial_correctness x4 x5 (fun x3 x6 o => LO 51 9 60 [3, 4, 5, 6] [.sl 1 (List.map eS x3), .sl 13 (List.map Qm x4), ii x5, ii x6] [] [3, 4, 5] (Uq x4 x5 o))
 (fun X2 Q28 x3 x6 o h  =>
 Lp2 (hs := [(31, .e Q8), (34, .n eI 34 none), (35, .split), (40, .e Q8), (44, .e Q4), (47, .split), (51, .e Q8), (55, .e Q4), (58, .c eLS), (7000003, .l [] [] [] [3, 4, 5, 6] [] (Gl (x4, x5)))]) (kb := []) (kbx := []) ((kIxR (l := x4) (k := x5) QS fun v0 => (kN _ (mLen (sh := Q4) v0.fIdx) fun v1 => (kIfD (p := x6 < v1) (kJ1 (id := 7000003) x6 (fun v2 ev2 v3 => (kIxR (l := x4) (k := x5) QS fun v4 => (kIx (enc := Q4) (l := v4.fIdx) (k := x6) fun v5 => (kIf (c := !v5.fFrom == []) (kIxR (l := x4) (k := x5) QS fun v6 => (kIx (enc := Q4) (l := v6.fIdx) (k := x6) fun v7 => (kC (sh := eLS) (Ih x3 v7.fFrom) fun v8 => (kXj (alts := Gl (x4, x5)) ev2 v8 (.here _ rfl (.refl _) (.refl _))))))
 (kXj (alts := Gl (x4, x5)) ev2 x3 (.here _ rfl (.refl _) (.refl _)))))))
 (fun v2 v9 => (kM0 (alts := Uq x4 x5) (Q28 v9 (wr (v2 + (1 : Int)))))))
 (kX (alts := Uq x4 x5) x3 (.here _ rfl (.refl _) (.refl _)))))) h)) x3 x6 o h
def Up (s : Unit) (u : List Qb) (o : List Str) : List Alt := [⟨fun (x : List Str) => x = o, .exit 0, fun x => [.sl 1 (List.map eS x)], fun x => []⟩]
def Gk (s : List Qb) (u : Int) (o : List Str) : List Alt := [⟨fun (x : List Str) => x = o, .normal, fun x => [.sl 1 (List.map eS x), .sl 13 (List.map Qm s), ii u], fun x => []⟩]
def X1 (x3 : List Str) (x4 : List Qb) (x5 : Int) : Option (List Str) :=
 some (List.length x4 : Int) >>= fun v0 =>
 if x5 < v0 then
 some x5 >>= fun v1 =>
 (Option.map Qb.f (ix x4 x5) >>= fun v3 =>
 if v3.fOp == (3 : Int) then
 Option.map Qb.f (ix x4 x5) >>= fun v4 =>
 DJ x3 v4.fName >>= fun v5 =>
 some v5
 else
 some x3) >>= fun v6 =>
 some v1 >>= fun v7 =>
 X2 v6 x4 v1 (0 : Int) >>= fun v9 =>
 X1 v9 x4 (wr (v7 + (1 : Int)))
 else
 some x3
 partial_fixpoint
theorem Ey (x3 : List Str) (x4 : List Qb) (x5 : Int) (o : List Str) (h : X1 x3 x4 x5 = some o) : LO 51 4 60 [3, 4, 5] [.sl 1 (List.map eS x3), .sl 13 (List.map Qm x4), ii x5] [] [3] (Up () x4 o) :=
 X1.partial_correctness x4 (fun x3 x5 o => LO 51 4 60 [3, 4, 5] [.sl 1 (List.map eS x3), .sl 13 (List.map Qm x4), ii x5] [] [3] (Up () x4 o))
 (fun X1 Q27 x3 x5 o h  =>
 Lp2 (hs := [(11, .n eI 11 none), (12, .split), (17, .e Q8), (20, .split), (24, .e Q8), (27, .c eLS), (3000010, .l [] [3, 4, 5, 6] [] [3, 4, 5] [] (Uq x4)), (6000008, .l [] [] [] [3, 4, 5] [] (Gk x4))]) (kb := []) (kbx := []) ((kN _ (mLen (sh := Qm) x4) fun v0 => (kIfD (p := x5 < v0) (kJ1 (id := 6000008) x5 (fun v1 ev1 v2 => (kIxR (l := x4) (k := x5) QS fun v3 => (kIf (c := v3.fOp == (3 : Int)) (kIxR (l := x4) (k := x5) QS fun v4 => (kC (sh := eLS) (Ih x3 v4.fName) fun v5 => (kXj (alts := Gk x4) ev1 v5 (.here _ rfl (.refl _) (.refl _)))))
 (kXj (alts := Gk x4) ev1 x3 (.here _ rfl (.refl _) (.refl _))))))
 (fun v1 v6 => (kL1 v1 (Ez v6 x4 v1 (0 : Int)) fun v7 v9 => (kM0 (alts := Up () x4) (Q27 v9 (wr (v7 + (1 : Int))))))))
 (kX (alts := Up () x4) x3 (.here _ rfl (.refl _) (.refl _))))) h)) x3 x5 o h
def CB (x0 : Q2) : Option (List Str) :=
 KA x0 >>= fun v0 =>
 some v0 >>= fun v1 =>
 X1 [] v0 (0 : Int) >>= fun v3 =>
 some v3
theorem ST (x0 : Q2) (r : List Str) (h : CB x0 = some r) : PU 51 [Q8 x0] (eLS r) :=
 Pu2 (hs := [(8, .c YA), (3000005, .l [] [3, 4, 5] [] [3] [] (Up ()))]) ((kC (sh := YA) (E4 x0) fun v0 => (kL1 v0 (fun y hy => ZC.le (.cons (LeV.nil 1) (.cons (LeV.refl (AV.sl (13 : Nat) (List.map Qm v0))) (.cons (LeV.refl (ii (0 : Int))) .nil))) (.refl _) (Ey [] v0 (0 : Int) y hy)) fun v1 v3 => (kEr (enc := eLS) v3))) h)
def Kl (s : ((List Q9) × (List Str))) (u : Unit) (o : Unit ⊕ Bool) : List Alt := [⟨fun (x : Unit) => (Sum.inl x : Unit ⊕ Bool) = o, .exit 0, fun x => [.undef], fun x => []⟩, ⟨fun (x : Bool) => (Sum.inr x : Unit ⊕ Bool) = o, .ret, fun x => [.bool x], fun x => []⟩]
def Z4 (s : ((List Q9) × (List Str))) (u : Int) (o : Bool) : List Alt := jb o (fun b => [.sl 20 (List.map Qq (s.1)), .sl 1 (List.map eS (s.2)), ii u, .bool b]) []
mutual
def Xz (x0 : List Q9) (x1 : List Str) : Option Bool :=
 some () >>= fun v0 =>
 ZU x0 x1 (0 : Int) >>= fun v1 => (match v1 with
 | (.inl v2) =>
 some false
 | (.inr v3) =>
 some v3)
 partial_fixpoint
def ZU (x0 : List Q9) (x1 : List Str) (x5 : Int) : Option (Unit ⊕ Bool) :=
 some (List.length x0 : Int) >>= fun v0 =>
 if x5 < v0 then
 some x5 >>= fun v1 =>
 (Option.map Q9.f (ix x0 x5) >>= fun v3 =>
 if v3.fOp == (2 : Int) then
 Option.map Q9.f (ix x0 x5) >>= fun v4 =>
 Da x1 v4.fName >>= fun v5 => if v5 then
 some true
 else
 Option.map Q9.f (ix x0 x5) >>= fun v6 =>
 Xz v6.fBody x1 >>= fun v7 => if v7 then
 some true
 else
 some false
 else
 Option.map Q9.f (ix x0 x5) >>= fun v8 =>
 if v8.fOp == (3 : Int) then
 Option.map Q9.f (ix x0 x5) >>= fun v9 =>
 Da x1 v9.fName >>= fun v10 => if v10 then
 some true
 else
 Option.map Q9.f (ix x0 x5) >>= fun v11 =>
 Xz v11.fBody x1 >>= fun v12 => if v12 then
 some true
 else
 some false
 else
 Option.map Q9.f (ix x0 x5) >>= fun v13 =>
 Xz v13.fBody x1 >>= fun v14 => if v14 then
 some true
 else
 some false) >>= fun v2 => if v2 then
 some (.inr true)
 else
 ZU x0 x1 (wr (v1 + (1 : Int)))
 else
 some (.inl ())
 partial_fixpoint
end
theorem Es (x1 : List Str) : (∀ (x0 : List Q9) (r : Bool), Xz x0 x1 = some r → PU 50 [Zf x0, eLS x1] (eB r)) ∧ (∀ (x0 : List Q9) (x5 : Int) (o : Unit ⊕ Bool), ZU x0 x1 x5 = some o → LO 50 2 44 [0, 1, 5] [.sl 20 (List.map Qq x0), .sl 1 (List.map eS x1), ii x5] [] [4] (Kl (x0, x1) () o)) :=
 Xz.mutual_partial_correctness x1 (fun x0 r => PU 50 [Zf x0, eLS x1] (eB r)) (fun x0 x5 o => LO 50 2 44 [0, 1, 5] [.sl 20 (List.map Qq x0), .sl 1 (List.map eS x1), ii x5] [] [4] (Kl (x0, x1) () o))
 (fun ZU Q3p x0 r h  =>
 Pu2 (hs := [(3000003, .l [] [0, 1, 5] [] [4] [] (Kl (x0, x1)))]) ((kL2 () (hL := (Q3p x0 (0 : Int))) (hA := fun v0 v2 => (kEr (enc := eB) false))
 (hB := fun v0 v3 => (kEr (enc := eB) v3))) h))
 (fun Xz ZU Q3o Q3p x0 x5 o h  =>
 Lp2 (hs := [(8, .n eI 8 none), (9, .split), (14, .e Qn), (17, .split), (21, .e Qn), (24, .split), (30, .e Qn), (33, .cb), (38, .e Qn), (42, .cb), (5000004, .l [] [] [] [0, 1, 5, 43] [] (Z4 (x0, x1)))]) (kb := []) (kbx := []) ((kN _ (mLen (sh := Qq) x0) fun v0 => (kIfD (p := x5 < v0) (kJb (id := 5000004) x5 (fun v1 ev1 v2 => (kIxR (l := x0) (k := x5) QW fun v3 => (kIf (c := v3.fOp == (2 : Int)) (kIxR (l := x0) (k := x5) QW fun v4 => (kCb (Nq x1 v4.fName) (kXj (alts := Z4 (x0, x1)) ev1 true (.here () rfl (.refl _) (.refl _)))
 (kIxR (l := x0) (k := x5) QW fun v6 => (kCb (Q3o v6.fBody) (kXj (alts := Z4 (x0, x1)) ev1 true (.here () rfl (.refl _) (.refl _)))
 (kXj (alts := Z4 (x0, x1)) ev1 false (.next (.here () rfl (.refl _) (.refl _))))))))
 (kIxR (l := x0) (k := x5) QW fun v8 => (kIf (c := v8.fOp == (3 : Int)) (kIxR (l := x0) (k := x5) QW fun v9 => (kCb (Nq x1 v9.fName) (kXj (alts := Z4 (x0, x1)) ev1 true (.here () rfl (.refl _) (.refl _)))
 (kIxR (l := x0) (k := x5) QW fun v11 => (kCb (Q3o v11.fBody) (kXj (alts := Z4 (x0, x1)) ev1 true (.here () rfl (.refl _) (.refl _)))
 (kXj (alts := Z4 (x0, x1)) ev1 false (.next (.here () rfl (.refl _) (.refl _))))))))
 (kIxR (l := x0) (k := x5) QW fun v13 => (kCb (Q3o v13.fBody) (kXj (alts := Z4 (x0, x1)) ev1 true (.here () rfl (.refl _) (.refl _)))
 (kXj (alts := Z4 (x0, x1)) ev1 false (.next (.here () rfl (.refl _) (.refl _)))))))))))
 (fun v1 => (kX (alts := Kl (x0, x1) ()) (.inr true) (.next (.here _ rfl (.refl _) (.refl _)))))
 (fun v1 => (kM0 (alts := Kl (x0, x1) ()) (Q3p x0 (wr (v1 + (1 : Int)))))))
 (kX (alts := Kl (x0, x1) ()) (.inl ()) (.here _ rfl (.refl _) (.refl _))))) h))
theorem Rx (x0 : List Q9) (x1 : List Str) (r : Bool) (h : Xz x0 x1 = some r) : PU 50 [Zf x0, eLS x1] (eB r) := (Es x1).1 x0 r h
def Db (x0 : gLin) : Option Int :=
 ZA x0 >>= fun v0 => if v0 then
 some (0 : Int)
 else
 some (1 : Int)
theorem Eu (x0 : gLin) (r : Int) (h : Db x0 = some r) : PU 154 [Qj x0] (eI r) :=
 Pu2 (hs := [(4, .cb)]) ((kCb (KQ x0) (kEr (enc := eI) (0 : Int))
 (kEr (enc := eI) (1 : Int))) h)
def KO (x0 : Int) : Option Int :=
 if x0 < (0 : Int) then
 some (w6 (w6 (wr ((0 : Int) - wr (x0 + (1 : Int)))) + (1 : Int)))
 else
 some (w6 x0)
theorem GQ (x0 : Int) (r : Int) (h : KO x0 = some r) : PU 156 [eI x0] (eU64 r) :=
 Pu2 (hs := [(4, .split)]) ((kIfD (p := x0 < (0 : Int)) (kEr (enc := eU64) (w6 (w6 (wr ((0 : Int) - wr (x0 + (1 : Int)))) + (1 : Int))))
 (kEr (enc := eU64) (w6 x0))) h)
def DC (x0 : Q0) (x2 : Int) : Option Q0 :=
 if (4294967296 : Int) ≠ (0 : Int) then
 some (w6 (w6 (x0.f_0 + x2.tmod (4294967296 : Int)) + (0 : Int)) : Int) >>= fun v0 =>
 if (4294967296 : Int) ≠ (0 : Int) then
 if (4294967296 : Int) ≠ (0 : Int) then
 if (4294967296 : Int) ≠ (0 : Int) then
 some (w6 (x2.tdiv (4294967296 : Int)) : Int) >>= fun v1 =>
 if (4294967296 : Int) ≠ (0 : Int) then
 some (w6 (w6 (x0.f_1 + v1.tmod (4294967296 : Int)) + w6 (v0.tdiv (4294967296 : Int))) : Int) >>= fun v2 =>
 if (4294967296 : Int) ≠ (0 : Int) then
 if (4294967296 : Int) ≠ (0 : Int) then
 if (4294967296 : Int) ≠ (0 : Int) then
 some (w6 (v1.tdiv (4294967296 : Int)) : Int) >>= fun v3 =>
 if (4294967296 : Int) ≠ (0 : Int) then
 some (w6 (w6 (x0.f_2 + v3.tmod (4294967296 : Int)) + w6 (v2.tdiv (4294967296 : Int))) : Int) >>= fun v4 =>
 if (4294967296 : Int) ≠ (0 : Int) then
 if (4294967296 : Int) ≠ (0 : Int) then
 if (4294967296 : Int) ≠ (0 : Int) then
 some (w6 (v3.tdiv (4294967296 : Int)) : Int) >>= fun v5 =>
 if (4294967296 : Int) ≠ (0 : Int) then
 some (w6 (w6 (x0.f_3 + v5.tmod (4294967296 : Int)) + w6 (v4.tdiv (4294967296 : Int))) : Int) >>= fun v6 =>
 if (4294967296 : Int) ≠ (0 : Int) then
 if (4294967296 : Int) ≠ (0 : Int) then
 if (4294967296 : Int) ≠ (0 : Int) then
 some (w6 (v5.tdiv (4294967296 : Int)) : Int) >>= fun v7 =>
 if (4294967296 : Int) ≠ (0 : Int) then
 some (w6 (w6 (x0.f_4 + v7.tmod (4294967296 : Int)) + w6 (v6.tdiv (4294967296 : Int))) : Int) >>= fun v8 =>
 if (4294967296 : Int) ≠ (0 : Int) then
 if (4294967296 : Int) ≠ (0 : Int) then
 if (4294967296 : Int) ≠ (0 : Int) then
 some (w6 (v7.tdiv (4294967296 : Int)) : Int) >>= fun v9 =>
 if (4294967296 : Int) ≠ (0 : Int) then
 some (w6 (w6 (x0.f_5 + v9.tmod (4294967296 : Int)) + w6 (v8.tdiv (4294967296 : Int))) : Int) >>= fun v10 =>
 if (4294967296 : Int) ≠ (0 : Int) then
 if (4294967296 : Int) ≠ (0 : Int) then
 if (4294967296 : Int) ≠ (0 : Int) then
 some (w6 (v9.tdiv (4294967296 : Int)) : Int) >>= fun v11 =>
 some (Q0.mk (v0.tmod (4294967296 : Int)) (v2.tmod (4294967296 : Int)) (v4.tmod (4294967296 : Int)) (v6.tmod (4294967296 : Int)) (v8.tmod (4294967296 : Int)) (v10.tmod (4294967296 : Int)))
 else none
 else none
 else none
 else none
 else none
 else none
 else none
 else none
 else none
 else none
 else none
 else none
 else none
 else none
 else none
 else none
 else none
 else none
 else none
 else none
 else none
 else none
 else none
 else none
theorem Rn (x0 : Q0) (x2 : Int) (r : Q0) (h : DC x0 x2 = some r) : PU 165 [Q7 x0, eI (0 : Int), eU64 x2] (Q7 r) :=
 Pu2 (hs := [(19, .s), (9, .n eU64 9 none), (25, .s), (28, .s), (30, .s), (2, .n eU64 2 none)]) ((kG (p := (4294967296 : Int) ≠ (0 : Int)) (kN (w6 (w6 (x0.f_0 + x2.tmod (4294967296 : Int)) + (0 : Int))) rfl fun v0 => (kG (p := (4294967296 : Int) ≠ (0 : Int)) (kG (p := (4294967296 : Int) ≠ (0 : Int)) (kG (p := (4294967296 : Int) ≠ (0 : Int)) (kN (w6 (x2.tdiv (4294967296 : Int))) rfl fun v1 => (kG (p := (4294967296 : Int) ≠ (0 : Int)) (kN (w6 (w6 (x0.f_1 + v1.tmod (4294967296 : Int)) + w6 (v0.tdiv (4294967296 : Int)))) rfl fun v2 => (kG (p := (4294967296 : Int) ≠ (0 : Int)) (kG (p := (4294967296 : Int) ≠ (0 : Int)) (kG (p := (4294967296 : Int) ≠ (0 : Int)) (kN (w6 (v1.tdiv (4294967296 : Int))) rfl fun v3 => (kG (p := (4294967296 : Int) ≠ (0 : Int)) (kN (w6 (w6 (x0.f_2 + v3.tmod (4294967296 : Int)) + w6 (v2.tdiv (4294967296 : Int)))) rfl fun v4 => (kG (p := (4294967296 : Int) ≠ (0 : Int)) (kG (p := (4294967296 : Int) ≠ (0 : Int)) (kG (p := (4294967296 : Int) ≠ (0 : Int)) (kN (w6 (v3.tdiv (4294967296 : Int))) rfl fun v5 => (kG (p := (4294967296 : Int) ≠ (0 : Int)) (kN (w6 (w6 (x0.f_3 + v5.tmod (4294967296 : Int)) + w6 (v4.tdiv (4294967296 : Int)))) rfl fun v6 => (kG (p := (4294967296 : Int) ≠ (0 : Int)) (kG (p := (4294967296 : Int) ≠ (0 : Int)) (kG (p := (4294967296 : Int) ≠ (0 : Int)) (kN (w6 (v5.tdiv (4294967296 : Int))) rfl fun v7 => (kG (p := (4294967296 : Int) ≠ (0 : Int)) (kN (w6 (w6 (x0.f_4 + v7.tmod (4294967296 : Int)) + w6 (v6.tdiv (4294967296 : Int)))) rfl fun v8 => (kG (p := (4294967296 : Int) ≠ (0 : Int)) (kG (p := (4294967296 : Int) ≠ (0 : Int)) (kG (p := (4294967296 : Int) ≠ (0 : Int)) (kN (w6 (v7.tdiv (4294967296 : Int))) rfl fun v9 => (kG (p := (4294967296 : Int) ≠ (0 : Int)) (kN (w6 (w6 (x0.f_5 + v9.tmod (4294967296 : Int)) + w6 (v8.tdiv (4294967296 : Int)))) rfl fun v10 => (kG (p := (4294967296 : Int) ≠ (0 : Int)) (kG (p := (4294967296 : Int) ≠ (0 : Int)) (kG (p := (4294967296 : Int) ≠ (0 : Int)) (kN (w6 (v9.tdiv (4294967296 : Int))) rfl fun v11 => (kEr (enc := Q7) (Q0.mk (v0.tmod (4294967296 : Int)) (v2.tmod (4294967296 : Int)) (v4.tmod (4294967296 : Int)) (v6.tmod (4294967296 : Int)) (v8.tmod (4294967296 : Int)) (v10.tmod (4294967296 : Int)))))))))))))))))))))))))))))))))))))))) h)
def DD (x0 : Q0) (x2 : Int) : Option Q0 :=
 if (4294967296 : Int) ≠ (0 : Int) then
 some (w6 (w6 (x0.f_1 + x2.tmod (4294967296 : Int)) + (0 : Int)) : Int) >>= fun v0 =>
 if (4294967296 : Int) ≠ (0 : Int) then
 if (4294967296 : Int) ≠ (0 : Int) then
 if (4294967296 : Int) ≠ (0 : Int) then
 some (w6 (x2.tdiv (4294967296 : Int)) : Int) >>= fun v1 =>
 if (4294967296 : Int) ≠ (0 : Int) then
 some (w6 (w6 (x0.f_2 + v1.tmod (4294967296 : Int)) + w6 (v0.tdiv (4294967296 : Int))) : Int) >>= fun v2 =>
 if (4294967296 : Int) ≠ (0 : Int) then
 if (4294967296 : Int) ≠ (0 : Int) then
 if (4294967296 : Int) ≠ (0 : Int) then
 some (w6 (v1.tdiv (4294967296 : Int)) : Int) >>= fun v3 =>
 if (4294967296 : Int) ≠ (0 : Int) then
 some (w6 (w6 (x0.f_3 + v3.tmod (4294967296 : Int)) + w6 (v2.tdiv (4294967296 : Int))) : Int) >>= fun v4 =>
 if (4294967296 : Int) ≠ (0 : Int) then
 if (4294967296 : Int) ≠ (0 : Int) then
 if (4294967296 : Int) ≠ (0 : Int) then
 some (w6 (v3.tdiv (4294967296 : Int)) : Int) >>= fun v5 =>
 if (4294967296 : Int) ≠ (0 : Int) then
 some (w6 (w6 (x0.f_4 + v5.tmod (4294967296 : Int)) + w6 (v4.tdiv (4294967296 : Int))) : Int) >>= fun v6 =>
 if (4294967296 : Int) ≠ (0 : Int) then
 if (4294967296 : Int) ≠ (0 : Int) then
 if (4294967296 : Int) ≠ (0 : Int) then
 some (w6 (v5.tdiv (4294967296 : Int)) : Int) >>= fun v7 =>
 if (4294967296 : Int) ≠ (0 : Int) then
 some (w6 (w6 (x0.f_5 + v7.tmod (4294967296 : Int)) + w6 (v6.tdiv (4294967296 : Int))) : Int) >>= fun v8 =>
 if (4294967296 : Int) ≠ (0 : Int) then
 if (4294967296 : Int) ≠ (0 : Int) then
 if (4294967296 : Int) ≠ (0 : Int) then
 some (w6 (v7.tdiv (4294967296 : Int)) : Int) >>= fun v9 =>
 some (Q0.mk x0.f_0 (v0.tmod (4294967296 : Int)) (v2.tmod (4294967296 : Int)) (v4.tmod (4294967296 : Int)) (v6.tmod (4294967296 : Int)) (v8.tmod (4294967296 : Int)))
 else none
 else none
 else none
 else none
 else none
 else none
 else none
 else none
 else none
 else none
 else none
 else none
 else none
 else none
 else none
 else none
 else none
 else none
 else none
 else none
theorem Ro (x0 : Q0) (x2 : Int) (r : Q0) (h : DD x0 x2 = some r) : PU 165 [Q7 x0, eI (1 : Int), eU64 x2] (Q7 r) :=
 Pu2 (hs := [(19, .s), (9, .n eU64 9 none), (25, .s), (28, .s), (30, .s), (2, .n eU64 2 none)]) ((kG (p := (4294967296 : Int) ≠ (0 : Int)) (kN (w6 (w6 (x0.f_1 + x2.tmod (4294967296 : Int)) + (0 : Int))) rfl fun v0 => (kG (p := (4294967296 : Int) ≠ (0 : Int)) (kG (p := (4294967296 : Int) ≠ (0 : Int)) (kG (p := (4294967296 : Int) ≠ (0 : Int)) (kN (w6 (x2.tdiv (4294967296 : Int))) rfl fun v1 => (kG (p := (4294967296 : Int) ≠ (0 : Int)) (kN (w6 (w6 (x0.f_2 + v1.tmod (4294967296 : Int)) + w6 (v0.tdiv (4294967296 : Int)))) rfl fun v2 => (kG (p := (4294967296 : Int) ≠ (0 : Int)) (kG (p := (4294967296 : Int) ≠ (0 : Int)) (kG (p := (4294967296 : Int) ≠ (0 : Int)) (kN (w6 (v1.tdiv (4294967296 : Int))) rfl fun v3 => (kG (p := (4294967296 : Int) ≠ (0 : Int)) (kN (w6 (w6 (x0.f_3 + v3.tmod (4294967296 : Int)) + w6 (v2.tdiv (4294967296 : Int)))) rfl fun v4 => (kG (p := (4294967296 : Int) ≠ (0 : Int)) (kG (p := (4294967296 : Int) ≠ (0 : Int)) (kG (p := (4294967296 : Int) ≠ (0 : Int)) (kN (w6 (v3.tdiv (4294967296 : Int))) rfl fun v5 => (kG (p := (4294967296 : Int) ≠ (0 : Int)) (kN (w6 (w6 (x0.f_4 + v5.tmod (4294967296 : Int)) + w6 (v4.tdiv (4294967296 : Int)))) rfl fun v6 => (kG (p := (4294967296 : Int) ≠ (0 : Int)) (kG (p := (4294967296 : Int) ≠ (0 : Int)) (kG (p := (4294967296 : Int) ≠ (0 : Int)) (kN (w6 (v5.tdiv (4294967296 : Int))) rfl fun v7 => (kG (p := (4294967296 : Int) ≠ (0 : Int)) (kN (w6 (w6 (x0.f_5 + v7.tmod (4294967296 : Int)) + w6 (v6.tdiv (4294967296 : Int)))) rfl fun v8 => (kG (p := (4294967296 : Int) ≠ (0 : Int)) (kG (p := (4294967296 : Int) ≠ (0 : Int)) (kG (p := (4294967296 : Int) ≠ (0 : Int)) (kN (w6 (v7.tdiv (4294967296 : Int))) rfl fun v9 => (kEr (enc := Q7) (Q0.mk x0.f_0 (v0.tmod (4294967296 : Int)) (v2.tmod (4294967296 : Int)) (v4.tmod (4294967296 : Int)) (v6.tmod (4294967296 : Int)) (v8.tmod (4294967296 : Int)))))))))))))))))))))))))))))))))) h)
def DE (x0 : Q0) (x2 : Int) : Option Q0 :=
 if (4294967296 : Int) ≠ (0 : Int) then
 some (w6 (w6 (x0.f_2 + x2.tmod (4294967296 : Int)) + (0 : Int)) : Int) >>= fun v0 =>
 if (4294967296 : Int) ≠ (0 : Int) then
 if (4294967296 : Int) ≠ (0 : Int) then
 if (4294967296 : Int) ≠ (0 : Int) then
 some (w6 (x2.tdiv (4294967296 : Int)) : Int) >>= fun v1 =>
 if (4294967296 : Int) ≠ (0 : Int) then
 some (w6 (w6 (x0.f_3 + v1.tmod (4294967296 : Int)) + w6 (v0.tdiv (4294967296 : Int))) : Int) >>= fun v2 =>
 if (4294967296 : Int) ≠ (0 : Int) then
 if (4294967296 : Int) ≠ (0 : Int) then
 if (4294967296 : Int) ≠ (0 : Int) then
 some (w6 (v1.tdiv (4294967296 : Int)) : Int) >>= fun v3 =>
 if (4294967296 : Int) ≠ (0 : Int) then
 some (w6 (w6 (x0.f_4 + v3.tmod (4294967296 : Int)) + w6 (v2.tdiv (4294967296 : Int))) : Int) >>= fun v4 =>
 if (4294967296 : Int) ≠ (0 : Int) then
 if (4294967296 : Int) ≠ (0 : Int) then
 if (4294967296 : Int) ≠ (0 : Int) then
 some (w6 (v3.tdiv (4294967296 : Int)) : Int) >>= fun v5 =>
 if (4294967296 : Int) ≠ (0 : Int) then
 some (w6 (w6 (x0.f_5 + v5.tmod (4294967296 : Int)) + w6 (v4.tdiv (4294967296 : Int))) : Int) >>= fun v6 =>
 if (4294967296 : Int) ≠ (0 : Int) then
 if (4294967296 : Int) ≠ (0 : Int) then
 if (4294967296 : Int) ≠ (0 : Int) then
 some (w6 (v5.tdiv (4294967296 : Int)) : Int) >>= fun v7 =>
 some (Q0.mk x0.f_0 x0.f_1 (v0.tmod (4294967296 : Int)) (v2.tmod (4294967296 : Int)) (v4.tmod (4294967296 : Int)) (v6.tmod (4294967296 : Int)))
 else none
 else none
 else none
 else none
 else none
 else none
 else none
 else none
 else none
 else none
 else none
 else none
 else none
 else none
 else none
 else none
theorem Rp (x0 : Q0) (x2 : Int) (r : Q0) (h : DE x0 x2 = some r) : PU 165 [Q7 x0, eI (2 : Int), eU64 x2] (Q7 r) :=
 Pu2 (hs := [(19, .s), (9, .n eU64 9 none), (25, .s), (28, .s), (30, .s), (2, .n eU64 2 none)]) ((kG (p := (4294967296 : Int) ≠ (0 : Int)) (kN (w6 (w6 (x0.f_2 + x2.tmod (4294967296 : Int)) + (0 : Int))) rfl fun v0 => (kG (p := (4294967296 : Int) ≠ (0 : Int)) (kG (p := (4294967296 : Int) ≠ (0 : Int)) (kG (p := (4294967296 : Int) ≠ (0 : Int)) (kN (w6 (x2.tdiv (4294967296 : Int))) rfl fun v1 => (kG (p := (4294967296 : Int) ≠ (0 : Int)) (kN (w6 (w6 (x0.f_3 + v1.tmod (4294967296 : Int)) + w6 (v0.tdiv (4294967296 : Int)))) rfl fun v2 => (kG (p := (4294967296 : Int) ≠ (0 : Int)) (kG (p := (4294967296 : Int) ≠ (0 : Int)) (kG (p := (4294967296 : Int) ≠ (0 : Int)) (kN (w6 (v1.tdiv (4294967296 : Int))) rfl fun v3 => (kG (p := (4294967296 : Int) ≠ (0 : Int)) (kN (w6 (w6 (x0.f_4 + v3.tmod (4294967296 : Int)) + w6 (v2.tdiv (4294967296 : Int)))) rfl fun v4 => (kG (p := (4294967296 : Int) ≠ (0 : Int)) (kG (p := (4294967296 : Int) ≠ (0 : Int)) (kG (p := (4294967296 : Int) ≠ (0 : Int)) (kN (w6 (v3.tdiv (4294967296 : Int))) rfl fun v5 => (kG (p := (4294967296 : Int) ≠ (0 : Int)) (kN (w6 (w6 (x0.f_5 + v5.tmod (4294967296 : Int)) + w6 (v4.tdiv (4294967296 : Int)))) rfl fun v6 => (kG (p := (4294967296 : Int) ≠ (0 : Int)) (kG (p := (4294967296 : Int) ≠ (0 : Int)) (kG (p := (4294967296 : Int) ≠ (0 : Int)) (kN (w6 (v5.tdiv (4294967296 : Int))) rfl fun v7 => (kEr (enc := Q7) (Q0.mk x0.f_0 x0.f_1 (v0.tmod (4294967296 : Int)) (v2.tmod (4294967296 : Int)) (v4.tmod (4294967296 : Int)) (v6.tmod (4294967296 : Int)))))))))))))))))))))))))))) h)
def V3 (x0 : Q0) (x1 : Int) (x2 : Int) : Option Q0 :=
 if x1 = 0 then DC x0 x2 else
 if x1 = 1 then DD x0 x2 else
 if x1 = 2 then DE x0 x2 else none
theorem CJ (x0 : Q0) (x1 : Int) (x2 : Int) (r : Q0) (h : V3 x0 x1 x2 = some r) : PU 165 [Q7 x0, eI x1, eU64 x2] (Q7 r) := by
 unfold V3 at h
 by_cases h0 : x1 = 0
 ·subst h0; rw [if_pos rfl] at h; exact Rn x0 x2 r h
 rw [if_neg h0] at h
 by_cases h1 : x1 = 1
 ·subst h1; rw [if_pos rfl] at h; exact Ro x0 x2 r h
 rw [if_neg h1] at h
 by_cases h2 : x1 = 2
 ·subst h2; rw [if_pos rfl] at h; exact Rp x0 x2 r h
 rw [if_neg h2] at h
 cases h
def Uw (x0 : Q0) (x1 : Int) (x2 : Int) : Option Q0 :=
 if (4294967296 : Int) ≠ (0 : Int) then
 if (4294967296 : Int) ≠ (0 : Int) then
 if (4294967296 : Int) ≠ (0 : Int) then
 if (4294967296 : Int) ≠ (0 : Int) then
 some (x1.tmod (4294967296 : Int) : Int) >>= fun v0 =>
 some (w6 (x1.tdiv (4294967296 : Int)) : Int) >>= fun v1 =>
 some (x2.tmod (4294967296 : Int) : Int) >>= fun v2 =>
 some (w6 (x2.tdiv (4294967296 : Int)) : Int) >>= fun v3 =>
 V3 x0 (0 : Int) (w6 (v0 * v2)) >>= fun v4 =>
 V3 v4 (1 : Int) (w6 (v0 * v3)) >>= fun v5 =>
 V3 v5 (1 : Int) (w6 (v1 * v2)) >>= fun v6 =>
 V3 v6 (2 : Int) (w6 (v1 * v3)) >>= fun v7 =>
 some v7
 else none
 else none
 else none
 else none
theorem W9 (x0 : Q0) (x1 : Int) (x2 : Int) (r : Q0) (h : Uw x0 x1 x2 = some r) : PU 155 [Q7 x0, eU64 x1, eU64 x2] (Q7 r) :=
 Pu2 (hs := [(12, .s), (14, .s), (16, .s), (18, .s), (7, .n eU64 7 none), (8, .n eU64 8 none), (9, .n eU64 9 none), (10, .n eU64 10 none), (23, .c Q7), (28, .c Q7), (33, .c Q7), (38, .c Q7)]) ((kG (p := (4294967296 : Int) ≠ (0 : Int)) (kG (p := (4294967296 : Int) ≠ (0 : Int)) (kG (p := (4294967296 : Int) ≠ (0 : Int)) (kG (p := (4294967296 : Int) ≠ (0 : Int)) (kN (x1.tmod (4294967296 : Int)) rfl fun v0 => (kN (w6 (x1.tdiv (4294967296 : Int))) rfl fun v1 => (kN (x2.tmod (4294967296 : Int)) rfl fun v2 => (kN (w6 (x2.tdiv (4294967296 : Int))) rfl fun v3 => (kC (sh := Q7) (CJ x0 (0 : Int) (w6 (v0 * v2))) fun v4 => (kC (sh := Q7) (CJ v4 (1 : Int) (w6 (v0 * v3))) fun v5 => (kC (sh := Q7) (CJ v5 (1 : Int) (w6 (v1 * v2))) fun v6 => (kC (sh := Q7) (CJ v6 (2 : Int) (w6 (v1 * v3))) fun v7 => (kEr (enc := Q7) v7))))))))))))) h)
def Jg (s : ((List Qd) × Str)) (u : Unit) (o : Unit ⊕ (Int × Bool)) : List Alt := [⟨fun (x : Unit) => (Sum.inl x : Unit ⊕ (Int × Bool)) = o, .exit 0, fun x => [.undef, .undef], fun x => []⟩, ⟨fun (x : (Int × Bool)) => (Sum.inr x : Unit ⊕ (Int × Bool)) = o, .ret, fun x => [ii x.1, .bool x.2], fun x => []⟩]
def Yf (x0 : List Qd) (x1 : Str) (x6 : Int) : Option (Unit ⊕ (Int × Bool)) :=
 some (List.length x0 : Int) >>= fun v0 =>
 if x6 < v0 then
 ix x0 x6 >>= fun v1 =>
 if v1.fName == x1 then
 ix x0 x6 >>= fun v2 =>
 some (.inr (v2.fVal, true))
 else
 Yf x0 x1 (wr (x6 + (1 : Int)))
 else
 some (.inl ())
 partial_fixpoint
theorem Rq (x0 : List Qd) (x1 : Str) (x6 : Int) (o : Unit ⊕ (Int × Bool)) (h : Yf x0 x1 x6 = some o) : LO 157 2 25 [0, 1, 6] [.sl 2 (List.map Qe x0), .str x1, ii x6] [] [4, 5] (Jg (x0, x1) () o) :=
 Yf.partial_correctness x0 x1 (fun x6 o => LO 157 2 25 [0, 1, 6] [.sl 2 (List.map Qe x0), .str x1, ii x6] [] [4, 5] (Jg (x0, x1) () o))
 (fun Yf Q1x x6 o h  =>
 Lp2 (hs := [(9, .n eI 9 none), (10, .split), (15, .e Qe), (19, .split), (22, .e Qe)]) (kb := []) (kbx := []) ((kN _ (mLen (sh := Qe) x0) fun v0 => (kIfD (p := x6 < v0) (kIx (enc := Qe) (l := x0) (k := x6) fun v1 => (kIf (c := v1.fName == x1) (kIx (enc := Qe) (l := x0) (k := x6) fun v2 => (kX (alts := Jg (x0, x1) ()) (.inr (v2.fVal, true)) (.next (.here _ rfl (.refl _) (.refl _)))))
 (kM0 (alts := Jg (x0, x1) ()) (Q1x (wr (x6 + (1 : Int)))))))
 (kX (alts := Jg (x0, x1) ()) (.inl ()) (.here _ rfl (.refl _) (.refl _))))) h)) x6 o h
def CY (x0 : List Qd) (x1 : Str) : Option (Int × Bool) :=
 some () >>= fun v0 =>
 Yf x0 x1 (0 : Int) >>= fun v1 => (match v1 with
 | (.inl v2) =>
 some ((0 : Int), false)
 | (.inr v3) =>
 some (v3.fst, v3.snd))
theorem AW (x0 : List Qd) (x1 : Str) (r : (Int × Bool)) (h : CY x0 x1 = some r) : PU 157 [QP x0, eS x1] (ZM r) :=
 Pu2 (hs := [(3000003, .l [] [0, 1, 6] [] [4, 5] [] (Jg (x0, x1)))]) ((kL2 () (hL := (Rq x0 x1 (0 : Int))) (hA := fun v0 v2 => (kEr (enc := ZM) ((0 : Int), false)))
 (hB := fun v0 v3 => (kEr (enc := ZM) (v3.fst, v3.snd)))) h)
def CZ (x0 : Q0) (x1 : Q0) : Option Bool :=
 if x0.f_5 != x1.f_5 then
 some (decide (x0.f_5 < x1.f_5))
 else
 if x0.f_4 != x1.f_4 then
 some (decide (x0.f_4 < x1.f_4))
 else
 if x0.f_3 != x1.f_3 then
 some (decide (x0.f_3 < x1.f_3))
 else
 if x0.f_2 != x1.f_2 then
 some (decide (x0.f_2 < x1.f_2))
 else
 if x0.f_1 != x1.f_1 then
 some (decide (x0.f_1 < x1.f_1))
 else
 if x0.f_0 != x1.f_0 then
 some (decide (x0.f_0 < x1.f_0))
 else
 some false
theorem AX (x0 : Q0) (x1 : Q0) (r : Bool) (h : CZ x0 x1 = some r) : PU 158 [Q7 x0, Q7 x1] (eB r) :=
 Pu2 (hs := [(16, .split)]) ((kIf (c := x0.f_5 != x1.f_5) (kEr (enc := eB) (decide (x0.f_5 < x1.f_5)))
 (kIf (c := x0.f_4 != x1.f_4) (kEr (enc := eB) (decide (x0.f_4 < x1.f_4)))
 (kIf (c := x0.f_3 != x1.f_3) (kEr (enc := eB) (decide (x0.f_3 < x1.f_3)))
 (kIf (c := x0.f_2 != x1.f_2) (kEr (enc := eB) (decide (x0.f_2 < x1.f_2)))
 (kIf (c := x0.f_1 != x1.f_1) (kEr (enc := eB) (decide (x0.f_1 < x1.f_1)))
 (kIf (c := x0.f_0 != x1.f_0) (kEr (enc := eB) (decide (x0.f_0 < x1.f_0)))
 (kEr (enc := eB) false))))))) h)
def Dq (x0 : Q0) (x1 : Q0) : Option Q0 :=
 some (w6 (x1.f_0 + (0 : Int)) : Int) >>= fun v0 =>
 if x0.f_0 < v0 then
 some (w6 (x1.f_1 + (1 : Int)) : Int) >>= fun v1 =>
 if x0.f_1 < v1 then
 some (w6 (x1.f_2 + (1 : Int)) : Int) >>= fun v2 =>
 if x0.f_2 < v2 then
 some (w6 (x1.f_3 + (1 : Int)) : Int) >>= fun v3 =>
 if x0.f_3 < v3 then
 some (w6 (x1.f_4 + (1 : Int)) : Int) >>= fun v4 =>
 if x0.f_4 < v4 then
 some (w6 (x1.f_5 + (1 : Int)) : Int) >>= fun v5 =>
 if x0.f_5 < v5 then
 some (Q0.mk (w6 (w6 (x0.f_0 + (4294967296 : Int)) - v0)) (w6 (w6 (x0.f_1 + (4294967296 : Int)) - v1)) (w6 (w6 (x0.f_2 + (4294967296 : Int)) - v2)) (w6 (w6 (x0.f_3 + (4294967296 : Int)) - v3)) (w6 (w6 (x0.f_4 + (4294967296 : Int)) - v4)) (w6 (w6 (x0.f_5 + (4294967296 : Int)) - v5)))
 else
 some (Q0.mk (w6 (w6 (x0.f_0 + (4294967296 : Int)) - v0)) (w6 (w6 (x0.f_1 + (4294967296 : Int)) - v1)) (w6 (w6 (x0.f_2 + (4294967296 : Int)) - v2)) (w6 (w6 (x0.f_3 + (4294967296 : Int)) - v3)) (w6 (w6 (x0.f_4 + (4294967296 : Int)) - v4)) (w6 (x0.f_5 - v5)))
 else
 some (w6 (x1.f_5 + (0 : Int)) : Int) >>= fun v6 =>
 if x0.f_5 < v6 then
 some (Q0.mk (w6 (w6 (x0.f_0 + (4294967296 : Int)) - v0)) (w6 (w6 (x0.f_1 + (4294967296 : Int)) - v1)) (w6 (w6 (x0.f_2 + (4294967296 : Int)) - v2)) (w6 (w6 (x0.f_3 + (4294967296 : Int)) - v3)) (w6 (x0.f_4 - v4)) (w6 (w6 (x0.f_5 + (4294967296 : Int)) - v6)))
 else
 some (Q0.mk (w6 (w6 (x0.f_0 + (4294967296 : Int)) - v0)) (w6 (w6 (x0.f_1 + (4294967296 : Int)) - v1)) (w6 (w6 (x0.f_2 + (4294967296 : Int)) - v2)) (w6 (w6 (x0.f_3 + (4294967296 : Int)) - v3)) (w6 (x0.f_4 - v4)) (w6 (x0.f_5 - v6)))
 else
 some (w6 (x1.f_4 + (0 : Int)) : Int) >>= fun v7 =>
 if x0.f_4 < v7 then
 some (w6 (x1.f_5 + (1 : Int)) : Int) >>= fun v8 =>
 if x0.f_5 < v8 then
 some (Q0.mk (w6 (w6 (x0.f_0 + (4294967296 : Int)) - v0)) (w6 (w6 (x0.f_1 + (4294967296 : Int)) - v1)) (w6 (w6 (x0.f_2 + (4294967296 : Int)) - v2)) (w6 (x0.f_3 - v3)) (w6 (w6 (x0.f_4 + (4294967296 : Int)) - v7)) (w6 (w6 (x0.f_5 + (4294967296 : Int)) - v8)))
 else
 some (Q0.mk (w6 (w6 (x0.f_0 + (4294967296 : Int)) - v0)) (w6 (w6 (x0.f_1 + (4294967296 : Int)) - v1)) (w6 (w6 (x0.f_2 + (4294967296 : Int)) - v2)) (w6 (x0.f_3 - v3)) (w6 (w6 (x0.f_4 + (4294967296 : Int)) - v7)) (w6 (x0.f_5 - v8)))
 else
 some (w6 (x1.f_5 + (0 : Int)) : Int) >>= fun v9 =>
 if x0.f_5 < v9 then
 some (Q0.mk (w6 (w6 (x0.f_0 + (4294967296 : Int)) - v0)) (w6 (w6 (x0.f_1 + (4294967296 : Int)) - v1)) (w6 (w6 (x0.f_2 + (4294967296 : Int)) - v2)) (w6 (x0.f_3 - v3)) (w6 (x0.f_4 - v7)) (w6 (w6 (x0.f_5 + (4294967296 : Int)) - v9)))
 else
 some (Q0.mk (w6 (w6 (x0.f_0 + (4294967296 : Int)) - v0)) (w6 (w6 (x0.f_1 + (4294967296 : Int)) - v1)) (w6 (w6 (x0.f_2 + (4294967296 : Int)) - v2)) (w6 (x0.f_3 - v3)) (w6 (x0.f_4 - v7)) (w6 (x0.f_5 - v9)))
 else
 some (w6 (x1.f_3 + (0 : Int)) : Int) >>= fun v10 =>
 if x0.f_3 < v10 then
 some (w6 (x1.f_4 + (1 : Int)) : Int) >>= fun v11 =>
 if x0.f_4 < v11 then
 some (w6 (x1.f_5 + (1 : Int)) : Int) >>= fun v12 =>
 if x0.f_5 < v12 then
 some (Q0.mk (w6 (w6 (x0.f_0 + (4294967296 : Int)) - v0)) (w6 (w6 (x0.f_1 + (4294967296 : Int)) - v1)) (w6 (x0.f_2 - v2)) (w6 (w6 (x0.f_3 + (4294967296 : Int)) - v10)) (w6 (w6 (x0.f_4 + (4294967296 : Int)) - v11)) (w6 (w6 (x0.f_5 + (4294967296 : Int)) - v12)))
 else
 some (Q0.mk (w6 (w6 (x0.f_0 + (4294967296 : Int)) - v0)) (w6 (w6 (x0.f_1 + (4294967296 : Int)) - v1)) (w6 (x0.f_2 - v2)) (w6 (w6 (x0.f_3 + (4294967296 : Int)) - v10)) (w6 (w6 (x0.f_4 + (4294967296 : Int)) - v11)) (w6 (x0.f_5 - v12)))
 else
 some (w6 (x1.f_5 + (0 : Int)) : Int) >>= fun v13 =>
 if x0.f_5 < v13 then
 some (Q0.mk (w6 (w6 (x0.f_0 + (4294967296 : Int)) - v0)) (w6 (w6 (x0.f_1 + (4294967296 : Int)) - v1)) (w6 (x0.f_2 - v2)) (w6 (w6 (x0.f_3 + (4294967296 : Int)) - v10)) (w6 (x0.f_4 - v11)) (w6 (w6 (x0.f_5 + (4294967296 : Int)) - v13)))
 else
 some (Q0.mk (w6 (w6 (x0.f_0 + (4294967296 : Int)) - v0)) (w6 (w6 (x0.f_1 + (4294967296 : Int)) - v1)) (w6 (x0.f_2 - v2)) (w6 (w6 (x0.f_3 + (4294967296 : Int)) - v10)) (w6 (x0.f_4 - v11)) (w6 (x0.f_5 - v13)))
 else
 some (w6 (x1.f_4 + (0 : Int)) : Int) >>= fun v14 =>
 if x0.f_4 < v14 then
 some (w6 (x1.f_5 + (1 : Int)) : Int) >>= fun v15 =>
 if x0.f_5 < v15 then
 some (Q0.mk (w6 (w6 (x0.f_0 + (4294967296 : Int)) - v0)) (w6 (w6 (x0.f_1 + (4294967296 : Int)) - v1)) (w6 (x0.f_2 - v2)) (w6 (x0.f_3 - v10)) (w6 (w6 (x0.f_4 + (4294967296 : Int)) - v14)) (w6 (w6 (x0.f_5 + (4294967296 : Int)) - v15)))
 else
 some (Q0.mk (w6 (w6 (x0.f_0 + (4294967296 : Int)) - v0)) (w6 (w6 (x0.f_1 + (4294967296 : Int)) - v1)) (w6 (x0.f_2 - v2)) (w6 (x0.f_3 - v10)) (w6 (w6 (x0.f_4 + (4294967296 : Int)) - v14)) (w6 (x0.f_5 - v15)))
 else
 some (w6 (x1.f_5 + (0 : Int)) : Int) >>= fun v16 =>
 if x0.f_5 < v16 then
 some (Q0.mk (w6 (w6 (x0.f_0 + (4294967296 : Int)) - v0)) (w6 (w6 (x0.f_1 + (4294967296 : Int)) - v1)) (w6 (x0.f_2 - v2)) (w6 (x0.f_3 - v10)) (w6 (x0.f_4 - v14)) (w6 (w6 (x0.f_5 + (4294967296 : Int)) - v16)))
 else
 some (Q0.mk (w6 (w6 (x0.f_0 + (4294967296 : Int)) - v0)) (w6 (w6 (x0.f_1 + (4294967296 : Int)) - v1)) (w6 (x0.f_2 - v2)) (w6 (x0.f_3 - v10)) (w6 (x0.f_4 - v14)) (w6 (x0.f_5 - v16)))
 else
 some (w6 (x1.f_2 + (0 : Int)) : Int) >>= fun v17 =>
 if x0.f_2 < v17 then
 some (w6 (x1.f_3 + (1 : Int)) : Int) >>= fun v18 =>
 if x0.f_3 < v18 then
 some (w6 (x1.f_4 + (1 : Int)) : Int) >>= fun v19 =>
 if x0.f_4 < v19 then
 some (w6 (x1.f_5 + (1 : Int)) : Int) >>= fun v20 =>
 if x0.f_5 < v20 then
 some (Q0.mk (w6 (w6 (x0.f_0 + (4294967296 : Int)) - v0)) (w6 (x0.f_1 - v1)) (w6 (w6 (x0.f_2 + (4294967296 : Int)) - v17)) (w6 (w6 (x0.f_3 + (4294967296 : Int)) - v18)) (w6 (w6 (x0.f_4 + (4294967296 : Int)) - v19)) (w6 (w6 (x0.f_5 + (4294967296 : Int)) - v20)))
 else
 some (Q0.mk (w6 (w6 (x0.f_0 + (4294967296 : Int)) - v0)) (w6 (x0.f_1 - v1)) (w6 (w6 (x0.f_2 + (4294967296 : Int)) - v17)) (w6 (w6 (x0.f_3 + (4294967296 : Int)) - v18)) (w6 (w6 (x0.f_4 + (4294967296 : Int)) - v19)) (w6 (x0.f_5 - v20)))
 else
 some (w6 (x1.f_5 + (0 : Int)) : Int) >>= fun v21 =>
 if x0.f_5 < v21 then
 some (Q0.mk (w6 (w6 (x0.f_0 + (4294967296 : Int)) - v0)) (w6 (x0.f_1 - v1)) (w6 (w6 (x0.f_2 + (4294967296 : Int)) - v17)) (w6 (w6 (x0.f_3 + (4294967296 : Int)) - v18)) (w6 (x0.f_4 - v19)) (w6 (w6 (x0.f_5 + (4294967296 : Int)) - v21)))
 else
 some (Q0.mk (w6 (w6 (x0.f_0 + (4294967296 : Int)) - v0)) (w6 (x0.f_1 - v1)) (w6 (w6 (x0.f_2 + (4294967296 : Int)) - v17)) (w6 (w6 (x0.f_3 + (4294967296 : Int)) - v18)) (w6 (x0.f_4 - v19)) (w6 (x0.f_5 - v21)))
 else
 some (w6 (x1.f_4 + (0 : Int)) : Int) >>= fun v22 =>
 if x0.f_4 < v22 then
 some (w6 (x1.f_5 + (1 : Int)) : Int) >>= fun v23 =>
 if x0.f_5 < v23 then
 some (Q0.mk (w6 (w6 (x0.f_0 + (4294967296 : Int)) - v0)) (w6 (x0.f_1 - v1)) (w6 (w6 (x0.f_2 + (4294967296 : Int)) - v17)) (w6 (x0.f_3 - v18)) (w6 (w6 (x0.f_4 + (4294967296 : Int)) - v22)) (w6 (w6 (x0.f_5 + (4294967296 : Int)) - v23)))
 else
 some (Q0.mk (w6 (w6 (x0.f_0 + (4294967296 : Int)) - v0)) (w6 (x0.f_1 - v1)) (w6 (w6 (x0.f_2 + (4294967296 : Int)) - v17)) (w6 (x0.f_3 - v18)) (w6 (w6 (x0.f_4 + (4294967296 : Int)) - v22)) (w6 (x0.f_5 - v23)))
 else
 some (w6 (x1.f_5 + (0 : Int)) : Int) >>= fun v24 =>
 if x0.f_5 < v24 then
 some (Q0.mk (w6 (w6 (x0.f_0 + (4294967296 : Int)) - v0)) (w6 (x0.f_1 - v1)) (w6 (w6 (x0.f_2 + (4294967296 : Int)) - v17)) (w6 (x0.f_3 - v18)) (w6 (x0.f_4 - v22)) (w6 (w6 (x0.f_5 + (4294967296 : Int)) - v24)))
 else
 some (Q0.mk (w6 (w6 (x0.f_0 + (4294967296 : Int)) - v0)) (w6 (x0.f_1 - v1)) (w6 (w6 (x0.f_2 + (4294967296 : Int)) - v17)) (w6 (x0.f_3 - v18)) (w6 (x0.f_4 - v22)) (w6 (x0.f_5 - v24)))
 else
 some (w6 (x1.f_3 + (0 : Int)) : Int) >>= fun v25 =>
 if x0.f_3 < v25 then
 some (w6 (x1.f_4 + (1 : Int)) : Int) >>= fun v26 =>
 if x0.f_4 < v26 then
 some (w6 (x1.f_5 + (1 : Int)) : Int) >>= fun v27 =>
 if x0.f_5 < v27 then
 some (Q0.mk (w6 (w6 (x0.f_0 + (4294967296 : Int)) - v0)) (w6 (x0.f_1 - v1)) (w6 (x0.f_2 - v17)) (w6 (w6 (x0.f_3 + (4294967296 : Int)) - v25)) (w6 (w6 (x0.f_4 + (4294967296 : Int)) - v26)) (w6 (w6 (x0.f_5 + (4294967296 : Int)) - v27)))
 else
 some (Q0.mk (w6 (w6 (x0.f_0 + (4294967296 : Int)) - v0)) (w6 (x0.f_1 - v1)) (w6 (x0.f_2 - v17)) (w6 (w6 (x0.f_3 + (4294967296 : Int)) - v25)) (w6 (w6 (x0.f_4 + (4294967296 : Int)) - v26)) (w6 (x0.f_5 - v27)))
 else
 some (w6 (x1.f_5 + (0 : Int)) : Int) >>= fun v28 =>
 if x0.f_5 < v28 then
 some (Q0.mk (w6 (w6 (x0.f_0 + (4294967296 : Int)) - v0)) (w6 (x0.f_1 - v1)) (w6 (x0.f_2 - v17)) (w6 (w6 (x0.f_3 + (4294967296 : Int)) - v25)) (w6 (x0.f_4 - v26)) (w6 (w6 (x0.f_5 + (4294967296 : Int)) - v28)))
 else
 some (Q0.mk (w6 (w6 (x0.f_0 + (4294967296 : Int)) - v0)) (w6 (x0.f_1 - v1)) (w6 (x0.f_2 - v17)) (w6 (w6 (x0.f_3 + (4294967296 : Int)) - v25)) (w6 (x0.f_4 - v26)) (w6 (x0.f_5 - v28)))
 else
 some (w6 (x1.f_4 + (0 : Int)) : Int) >>= fun v29 =>
 if x0.f_4 < v29 then
 some (w6 (x1.f_5 + (1 : Int)) : Int) >>= fun v30 =>
 if x0.f_5 < v30 then
 some (Q0.mk (w6 (w6 (x0.f_0 + (4294967296 : Int)) - v0)) (w6 (x0.f_1 - v1)) (w6 (x0.f_2 - v17)) (w6 (x0.f_3 - v25)) (w6 (w6 (x0.f_4 + (4294967296 : Int)) - v29)) (w6 (w6 (x0.f_5 + (4294967296 : Int)) - v30)))
 else
 some (Q0.mk (w6 (w6 (x0.f_0 + (4294967296 : Int)) - v0)) (w6 (x0.f_1 - v1)) (w6 (x0.f_2 - v17)) (w6 (x0.f_3 - v25)) (w6 (w6 (x0.f_4 + (4294967296 : Int)) - v29)) (w6 (x0.f_5 - v30)))
 else
 some (w6 (x1.f_5 + (0 : Int)) : Int) >>= fun v31 =>
 if x0.f_5 < v31 then
 some (Q0.mk (w6 (w6 (x0.f_0 + (4294967296 : Int)) - v0)) (w6 (x0.f_1 - v1)) (w6 (x0.f_2 - v17)) (w6 (x0.f_3 - v25)) (w6 (x0.f_4 - v29)) (w6 (w6 (x0.f_5 + (4294967296 : Int)) - v31)))
 else
 some (Q0.mk (w6 (w6 (x0.f_0 + (4294967296 : Int)) - v0)) (w6 (x0.f_1 - v1)) (w6 (x0.f_2 - v17)) (w6 (x0.f_3 - v25)) (w6 (x0.f_4 - v29)) (w6 (x0.f_5 - v31)))
 else
 some (w6 (x1.f_1 + (0 : Int)) : Int) >>= fun v32 =>
 if x0.f_1 < v32 then
 some (w6 (x1.f_2 + (1 : Int)) : Int) >>= fun v33 =>
 if x0.f_2 < v33 then
 some (w6 (x1.f_3 + (1 : Int)) : Int) >>= fun v34 =>
 if x0.f_3 < v34 then
 some (w6 (x1.f_4 + (1 : Int)) : Int) >>= fun v35 =>
 if x0.f_4 < v35 then
 some (w6 (x1.f_5 + (1 : Int)) : Int) >>= fun v36 =>
 if x0.f_5 < v36 then
 some (Q0.mk (w6 (x0.f_0 - v0)) (w6 (w6 (x0.f_1 + (4294967296 : Int)) - v32)) (w6 (w6 (x0.f_2 + (4294967296 : Int)) - v33)) (w6 (w6 (x0.f_3 + (4294967296 : Int)) - v34)) (w6 (w6 (x0.f_4 + (4294967296 : Int)) - v35)) (w6 (w6 (x0.f_5 + (4294967296 : Int)) - v36)))
 else
 some (Q0.mk (w6 (x0.f_0 - v0)) (w6 (w6 (x0.f_1 + (4294967296 : Int)) - v32)) (w6 (w6 (x0.f_2 + (4294967296 : Int)) - v33)) (w6 (w6 (x0.f_3 + (4294967296 : Int)) - v34)) (w6 (w6 (x0.f_4 + (4294967296 : Int)) - v35)) (w6 (x0.f_5 - v36)))
 else
 some (w6 (x1.f_5 + (0 : Int)) : Int) >>= fun v37 =>
 if x0.f_5 < v37 then
 some (Q0.mk (w6 (x0.f_0 - v0)) (w6 (w6 (x0.f_1 + (4294967296 : Int)) - v32)) (w6 (w6 (x0.f_2 + (4294967296 : Int)) - v33)) (w6 (w6 (x0.f_3 + (4294967296 : Int)) - v34)) (w6 (x0.f_4 - v35)) (w6 (w6 (x0.f_5 + (4294967296 : Int)) - v37)))
 else
 some (Q0.mk (w6 (x0.f_0 - v0)) (w6 (w6 (x0.f_1 + (4294967296 : Int)) - v32)) (w6 (w6 (x0.f_2 + (4294967296 : Int)) - v33)) (w6 (w6 (x0.f_3 + (4294967296 : Int)) - v34)) (w6 (x0.f_4 - v35)) (w6 (x0.f_5 - v37)))
 else
 some (w6 (x1.f_4 + (0 : Int)) : Int) >>= fun v38 =>
 if x0.f_4 < v38 then
 some (w6 (x1.f_5 + (1 : Int)) : Int) >>= fun v39 =>
 if x0.f_5 < v39 then
 some (Q0.mk (w6 (x0.f_0 - v0)) (w6 (w6 (x0.f_1 + (4294967296 : Int)) - v32)) (w6 (w6 (x0.f_2 + (4294967296 : Int)) - v33)) (w6 (x0.f_3 - v34)) (w6 (w6 (x0.f_4 + (4294967296 : Int)) - v38)) (w6 (w6 (x0.f_5 + (4294967296 : Int)) - v39)))
 else
 some (Q0.mk (w6 (x0.f_0 - v0)) (w6 (w6 (x0.f_1 + (4294967296 : Int)) - v32)) (w6 (w6 (x0.f_2 + (4294967296 : Int)) - v33)) (w6 (x0.f_3 - v34)) (w6 (w6 (x0.f_4 + (4294967296 : Int)) - v38)) (w6 (x0.f_5 - v39)))
 else
 some (w6 (x1.f_5 + (0 : Int)) : Int) >>= fun v40 =>
 if x0.f_5 < v40 then
 some (Q0.mk (w6 (x0.f_0 - v0)) (w6 (w6 (x0.f_1 + (4294967296 : Int)) - v32)) (w6 (w6 (x0.f_2 + (4294967296 : Int)) - v33)) (w6 (x0.f_3 - v34)) (w6 (x0.f_4 - v38)) (w6 (w6 (x0.f_5 + (4294967296 : Int)) - v40)))
 else
 some (Q0.mk (w6 (x0.f_0 - v0)) (w6 (w6 (x0.f_1 + (4294967296 : Int)) - v32)) (w6 (w6 (x0.f_2 + (4294967296 : Int)) - v33)) (w6 (x0.f_3 - v34)) (w6 (x0.f_4 - v38)) (w6 (x0.f_5 - v40)))
 else
 some (w6 (x1.f_3 + (0 : Int)) : Int) >>= fun v41 =>
 if x0.f_3 < v41 then
 some (w6 (x1.f_4 + (1 : Int)) : Int) >>= fun v42 =>
 if x0.f_4 < v42 then
 some (w6 (x1.f_5 + (1 : Int)) : Int) >>= fun v43 =>
 if x0.f_5 < v43 then
 some (Q0.mk (w6 (x0.f_0 - v0)) (w6 (w6 (x0.f_1 + (4294967296 : Int)) - v32)) (w6 (x0.f_2 - v33)) (w6 (w6 (x0.f_3 + (4294967296 : Int)) - v41)) (w6 (w6 (x0.f_4 + (4294967296 : Int)) - v42)) (w6 (w6 (x0.f_5 + (4294967296 : Int)) - v43)))
 else
 some (Q0.mk (w6 (x0.f_0 - v0)) (w6 (w6 (x0.f_1 + (4294967296 : Int)) - v32)) (w6 (x0.f_2 - v33)) (w6 (w6 (x0.f_3 + (4294967296 : Int)) - v41)) (w6 (w6 (x0.f_4 + (4294967296 : Int)) - v42)) (w6 (x0.f_5 - v43)))
 else
 some (w6 (x1.f_5 + (0 : Int)) : Int) >>= fun v44 =>
 if x0.f_5 < v44 then
 some (Q0.mk (w6 (x0.f_0 - v0)) (w6 (w6 (x0.f_1 + (4294967296 : Int)) - v32)) (w6 (x0.f_2 - v33)) (w6 (w6 (x0.f_3 + (4294967296 : Int)) - v41)) (w6 (x0.f_4 - v42)) (w6 (w6 (x0.f_5 + (4294967296 : Int)) - v44)))
 else
 some (Q0.mk (w6 (x0.f_0 - v0)) (w6 (w6 (x0.f_1 + (4294967296 : Int)) - v32)) (w6 (x0.f_2 - v33)) (w6 (w6 (x0.f_3 + (4294967296 : Int)) - v41)) (w6 (x0.f_4 - v42)) (w6 (x0.f_5 - v44)))
 else
 some (w6 (x1.f_4 + (0 : Int)) : Int) >>= fun v45 =>
 if x0.f_4 < v45 then
 some (w6 (x1.f_5 + (1 : Int)) : Int) >>= fun v46 =>
 if x0.f_5 < v46 then
 some (Q0.mk (w6 (x0.f_0 - v0)) (w6 (w6 (x0.f_1 + (4294967296 : Int)) - v32)) (w6 (x0.f_2 - v33)) (w6 (x0.f_3 - v41)) (w6 (w6 (x0.f_4 + (4294967296 : Int)) - v45)) (w6 (w6 (x0.f_5 + (4294967296 : Int)) - v46)))
 else
 some (Q0.mk (w6 (x0.f_0 - v0)) (w6 (w6 (x0.f_1 + (4294967296 : Int)) - v32)) (w6 (x0.f_2 - v33)) (w6 (x0.f_3 - v41)) (w6 (w6 (x0.f_4 + (4294967296 : Int)) - v45)) (w6 (x0.f_5 - v46)))
 else
 some (w6 (x1.f_5 + (0 : Int)) : Int) >>= fun v47 =>
 if x0.f_5 < v47 then
 some (Q0.mk (w6 (x0.f_0 - v0)) (w6 (w6 (x0.f_1 + (4294967296 : Int)) - v32)) (w6 (x0.f_2 - v33)) (w6 (x0.f_3 - v41)) (w6 (x0.f_4 - v45)) (w6 (w6 (x0.f_5 + (4294967296 : Int)) - v47)))
 else
 some (Q0.mk (w6 (x0.f_0 - v0)) (w6 (w6 (x0.f_1 + (4294967296 : Int)) - v32)) (w6 (x0.f_2 - v33)) (w6 (x0.f_3 - v41)) (w6 (x0.f_4 - v45)) (w6 (x0.f_5 - v47)))
 else
 some (w6 (x1.f_2 + (0 : Int)) : Int) >>= fun v48 =>
 if x0.f_2 < v48 then
 some (w6 (x1.f_3 + (1 : Int)) : Int) >>= fun v49 =>
 if x0.f_3 < v49 then
 some (w6 (x1.f_4 + (1 : Int)) : Int) >>= fun v50 =>
 if x0.f_4 < v50 then
 some (w6 (x1.f_5 + (1 : Int)) : Int) >>= fun v51 =>
 if x0.f_5 < v51 then
 some (Q0.mk (w6 (x0.f_0 - v0)) (w6 (x0.f_1 - v32)) (w6 (w6 (x0.f_2 + (4294967296 : Int)) - v48)) (w6 (w6 (x0.f_3 + (4294967296 : Int)) - v49)) (w6 (w6 (x0.f_4 + (4294967296 : Int)) - v50)) (w6 (w6 (x0.f_5 + (4294967296 : Int)) - v51)))
 else
 some (Q0.mk (w6 (x0.f_0 - v0)) (w6 (x0.f_1 - v32)) (w6 (w6 (x0.f_2 + (4294967296 : Int)) - v48)) (w6 (w6 (x0.f_3 + (4294967296 : Int)) - v49)) (w6 (w6 (x0.f_4 + (4294967296 : Int)) - v50)) (w6 (x0.f_5 - v51)))
 else
 some (w6 (x1.f_5 + (0 : Int)) : Int) >>= fun v52 =>
 if x0.f_5 < v52 then
 some (Q0.mk (w6 (x0.f_0 - v0)) (w6 (x0.f_1 - v32)) (w6 (w6 (x0.f_2 + (4294967296 : Int)) - v48)) (w6 (w6 (x0.f_3 + (4294967296 : Int)) - v49)) (w6 (x0.f_4 - v50)) (w6 (w6 (x0.f_5 + (4294967296 : Int)) - v52)))
 else
 some (Q0.mk (w6 (x0.f_0 - v0)) (w6 (x0.f_1 - v32)) (w6 (w6 (x0.f_2 + (4294967296 : Int)) - v48)) (w6 (w6 (x0.f_3 + (4294967296 : Int)) - v49)) (w6 (x0.f_4 - v50)) (w6 (x0.f_5 - v52)))
 else
 some (w6 (x1.f_4 + (0 : Int)) : Int) >>= fun v53 =>
 if x0.f_4 < v53 then
 some (w6 (x1.f_5 + (1 : Int)) : Int) >>= fun v54 =>
 if x0.f_5 < v54 then
 some (Q0.mk (w6 (x0.f_0 - v0)) (w6 (x0.f_1 - v32)) (w6 (w6 (x0.f_2 + (4294967296 : Int)) - v48)) (w6 (x0.f_3 - v49)) (w6 (w6 (x0.f_4 + (4294967296 : Int)) - v53)) (w6 (w6 (x0.f_5 + (4294967296 : Int)) - v54)))
 else
 some (Q0.mk (w6 (x0.f_0 - v0)) (w6 (x0.f_1 - v32)) (w6 (w6 (x0.f_2 + (4294967296 : Int)) - v48)) (w6 (x0.f_3 - v49)) (w6 (w6 (x0.f_4 + (4294967296 : Int)) - v53)) (w6 (x0.f_5 - v54)))
 else
 some (w6 (x1.f_5 + (0 : Int)) : Int) >>= fun v55 =>
 if x0.f_5 < v55 then
 some (Q0.mk (w6 (x0.f_0 - v0)) (w6 (x0.f_1 - v32)) (w6 (w6 (x0.f_2 + (4294967296 : Int)) - v48)) (w6 (x0.f_3 - v49)) (w6 (x0.f_4 - v53)) (w6 (w6 (x0.f_5 + (4294967296 : Int)) - v55)))
 else
 some (Q0.mk (w6 (x0.f_0 - v0)) (w6 (x0.f_1 - v32)) (w6 (w6 (x0.f_2 + (4294967296 : Int)) - v48)) (w6 (x0.f_3 - v49)) (w6 (x0.f_4 - v53)) (w6 (x0.f_5 - v55)))
 else
 some (w6 (x1.f_3 + (0 : Int)) : Int) >>= fun v56 =>
 if x0.f_3 < v56 then
 some (w6 (x1.f_4 + (1 : Int)) : Int) >>= fun v57 =>
 if x0.f_4 < v57 then
 some (w6 (x1.f_5 + (1 : Int)) : Int) >>= fun v58 =>
 if x0.f_5 < v58 then
 some (Q0.mk (w6 (x0.f_0 - v0)) (w6 (x0.f_1 - v32)) (w6 (x0.f_2 - v48)) (w6 (w6 (x0.f_3 + (4294967296 : Int)) - v56)) (w6 (w6 (x0.f_4 + (4294967296 : Int)) - v57)) (w6 (w6 (x0.f_5 + (4294967296 : Int)) - v58)))
 else
 some (Q0.mk (w6 (x0.f_0 - v0)) (w6 (x0.f_1 - v32)) (w6 (x0.f_2 - v48)) (w6 (w6 (x0.f_3 + (4294967296 : Int)) - v56)) (w6 (w6 (x0.f_4 + (4294967296 : Int)) - v57)) (w6 (x0.f_5 - v58)))
 else
 some (w6 (x1.f_5 + (0 : Int)) : Int) >>= fun v59 =>
 if x0.f_5 < v59 then
 some (Q0.mk (w6 (x0.f_0 - v0)) (w6 (x0.f_1 - v32)) (w6 (x0.f_2 - v48)) (w6 (w6 (x0.f_3 + (4294967296 : Int)) - v56)) (w6 (x0.f_4 - v57)) (w6 (w6 (x0.f_5 + (4294967296 : Int)) - v59)))
 else
 some (Q0.mk (w6 (x0.f_0 - v0)) (w6 (x0.f_1 - v32)) (w6 (x0.f_2 - v48)) (w6 (w6 (x0.f_3 + (4294967296 : Int)) - v56)) (w6 (x0.f_4 - v57)) (w6 (x0.f_5 - v59)))
 else
 some (w6 (x1.f_4 + (0 : Int)) : Int) >>= fun v60 =>
 if x0.f_4 < v60 then
 some (w6 (x1.f_5 + (1 : Int)) : Int) >>= fun v61 =>
 if x0.f_5 < v61 then
 some (Q0.mk (w6 (x0.f_0 - v0)) (w6 (x0.f_1 - v32)) (w6 (x0.f_2 - v48)) (w6 (x0.f_3 - v56)) (w6 (w6 (x0.f_4 + (4294967296 : Int)) - v60)) (w6 (w6 (x0.f_5 + (4294967296 : Int)) - v61)))
 else
 some (Q0.mk (w6 (x0.f_0 - v0)) (w6 (x0.f_1 - v32)) (w6 (x0.f_2 - v48)) (w6 (x0.f_3 - v56)) (w6 (w6 (x0.f_4 + (4294967296 : Int)) - v60)) (w6 (x0.f_5 - v61)))
 else
 some (w6 (x1.f_5 + (0 : Int)) : Int) >>= fun v62 =>
 if x0.f_5 < v62 then
 some (Q0.mk (w6 (x0.f_0 - v0)) (w6 (x0.f_1 - v32)) (w6 (x0.f_2 - v48)) (w6 (x0.f_3 - v56)) (w6 (x0.f_4 - v60)) (w6 (w6 (x0.f_5 + (4294967296 : Int)) - v62)))
 else
 some (Q0.mk (w6 (x0.f_0 - v0)) (w6 (x0.f_1 - v32)) (w6 (x0.f_2 - v48)) (w6 (x0.f_3 - v56)) (w6 (x0.f_4 - v60)) (w6 (x0.f_5 - v62)))
theorem LC (x0 : Q0) (x1 : Q0) (r : Q0) (h : Dq x0 x1 = some r) : PU 159 [Q7 x0, Q7 x1] (Q7 r) :=
 Pu2 (hs := [(7, .n eU64 7 none), (21, .split)]) ((kN (w6 (x1.f_0 + (0 : Int))) rfl fun v0 => (kIfD (p := x0.f_0 < v0) (kN (w6 (x1.f_1 + (1 : Int))) rfl fun v1 => (kIfD (p := x0.f_1 < v1) (kN (w6 (x1.f_2 + (1 : Int))) rfl fun v2 => (kIfD (p := x0.f_2 < v2) (kN (w6 (x1.f_3 + (1 : Int))) rfl fun v3 => (kIfD (p := x0.f_3 < v3) (kN (w6 (x1.f_4 + (1 : Int))) rfl fun v4 => (kIfD (p := x0.f_4 < v4) (kN (w6 (x1.f_5 + (1 : Int))) rfl fun v5 => (kIfD (p := x0.f_5 < v5) (kEr (enc := Q7) (Q0.mk (w6 (w6 (x0.f_0 + (4294967296 : Int)) - v0)) (w6 (w6 (x0.f_1 + (4294967296 : Int)) - v1)) (w6 (w6 (x0.f_2 + (4294967296 : Int)) - v2)) (w6 (w6 (x0.f_3 + (4294967296 : Int)) - v3)) (w6 (w6 (x0.f_4 + (4294967296 : Int)) - v4)) (w6 (w6 (x0.f_5 + (4294967296 : Int)) - v5))))
 (kEr (enc := Q7) (Q0.mk (w6 (w6 (x0.f_0 + (4294967296 : Int)) - v0)) (w6 (w6 (x0.f_1 + (4294967296 : Int)) - v1)) (w6 (w6 (x0.f_2 + (4294967296 : Int)) - v2)) (w6 (w6 (x0.f_3 + (4294967296 : Int)) - v3)) (w6 (w6 (x0.f_4 + (4294967296 : Int)) - v4)) (w6 (x0.f_5 - v5))))))
 (kN (w6 (x1.f_5 + (0 : Int))) rfl fun v6 => (kIfD (p := x0.f_5 < v6) (kEr (enc := Q7) (Q0.mk (w6 (w6 (x0.f_0 + (4294967296 : Int)) - v0)) (w6 (w6 (x0.f_1 + (4294967296 : Int)) - v1)) (w6 (w6 (x0.f_2 + (4294967296 : Int)) - v2)) (w6 (w6 (x0.f_3 + (4294967296 : Int)) - v3)) (w6 (x0.f_4 - v4)) (w6 (w6 (x0.f_5 + (4294967296 : Int)) - v6))))
 (kEr (enc := Q7) (Q0.mk (w6 (w6 (x0.f_0 + (4294967296 : Int)) - v0)) (w6 (w6 (x0.f_1 + (4294967296 : Int)) - v1)) (w6 (w6 (x0.f_2 + (4294967296 : Int)) - v2)) (w6 (w6 (x0.f_3 + (4294967296 : Int)) - v3)) (w6 (x0.f_4 - v4)) (w6 (x0.f_5 - v6))))))))
 (kN (w6 (x1.f_4 + (0 : Int))) rfl fun v7 => (kIfD (p := x0.f_4 < v7) (kN (w6 (x1.f_5 + (1 : Int))) rfl fun v8 => (kIfD (p := x0.f_5 < v8) (kEr (enc := Q7) (Q0.mk (w6 (w6 (x0.f_0 + (4294967296 : Int)) - v0)) (w6 (w6 (x0.f_1 + (4294967296 : Int)) - v1)) (w6 (w6 (x0.f_2 + (4294967296 : Int)) - v2)) (w6 (x0.f_3 - v3)) (w6 (w6 (x0.f_4 + (4294967296 : Int)) - v7)) (w6 (w6 (x0.f_5 + (4294967296 : Int)) - v8))))
 (kEr (enc := Q7) (Q0.mk (w6 (w6 (x0.f_0 + (4294967296 : Int)) - v0)) (w6 (w6 (x0.f_1 + (4294967296 : Int)) - v1)) (w6 (w6 (x0.f_2 + (4294967296 : Int)) - v2)) (w6 (x0.f_3 - v3)) (w6 (w6 (x0.f_4 + (4294967296 : Int)) - v7)) (w6 (x0.f_5 - v8))))))
 (kN (w6 (x1.f_5 + (0 : Int))) rfl fun v9 => (kIfD (p := x0.f_5 < v9) (kEr (enc := Q7) (Q0.mk (w6 (w6 (x0.f_0 + (4294967296 : Int)) - v0)) (w6 (w6 (x0.f_1 + (4294967296 : Int)) - v1)) (w6 (w6 (x0.f_2 + (4294967296 : Int)) - v2)) (w6 (x0.f_3 - v3)) (w6 (x0.f_4 - v7)) (w6 (w6 (x0.f_5 + (4294967296 : Int)) - v9))))
 (kEr (enc := Q7) (Q0.mk (w6 (w6 (x0.f_0 + (4294967296 : Int)) - v0)) (w6 (w6 (x0.f_1 + (4294967296 : Int)) - v1)) (w6 (w6 (x0.f_2 + (4294967296 : Int)) - v2)) (w6 (x0.f_3 - v3)) (w6 (x0.f_4 - v7)) (w6 (x0.f_5 - v9))))))))))
 (kN (w6 (x1.f_3 + (0 : Int))) rfl fun v10 => (kIfD (p := x0.f_3 < v10) (kN (w6 (x1.f_4 + (1 : Int))) rfl fun v11 => (kIfD (p := x0.f_4 < v11) (kN (w6 (x1.f_5 + (1 : Int))) rfl fun v12 => (kIfD (p := x0.f_5 < v12) (kEr (enc := Q7) (Q0.mk (w6 (w6 (x0.f_0 + (4294967296 : Int)) - v0)) (w6 (w6 (x0.f_1 + (4294967296 : Int)) - v1)) (w6 (x0.f_2 - v2)) (w6 (w6 (x0.f_3 + (4294967296 : Int)) - v10)) (w6 (w6 (x0.f_4 + (4294967296 : Int)) - v11)) (w6 (w6 (x0.f_5 + (4294967296 : Int)) - v12))))
 (kEr (enc := Q7) (Q0.mk (w6 (w6 (x0.f_0 + (4294967296 : Int)) - v0)) (w6 (w6 (x0.f_1 + (4294967296 : Int)) - v1)) (w6 (x0.f_2 - v2)) (w6 (w6 (x0.f_3 + (4294967296 : Int)) - v10)) (w6 (w6 (x0.f_4 + (4294967296 : Int)) - v11)) (w6 (x0.f_5 - v12))))))
 (kN (w6 (x1.f_5 + (0 : Int))) rfl fun v13 => (kIfD (p := x0.f_5 < v13) (kEr (enc := Q7) (Q0.mk (w6 (w6 (x0.f_0 + (4294967296 : Int)) - v0)) (w6 (w6 (x0.f_1 + (4294967296 : Int)) - v1)) (w6 (x0.f_2 - v2)) (w6 (w6 (x0.f_3 + (4294967296 : Int)) - v10)) (w6 (x0.f_4 - v11)) (w6 (w6 (x0.f_5 + (4294967296 : Int)) - v13))))
 (kEr (enc := Q7) (Q0.mk (w6 (w6 (x0.f_0 + (4294967296 : Int)) - v0)) (w6 (w6 (x0.f_1 + (4294967296 : Int)) - v1)) (w6 (x0.f_2 - v2)) (w6 (w6 (x0.f_3 + (4294967296 : Int)) - v10)) (w6 (x0.f_4 - v11)) (w6 (x0.f_5 - v13))))))))
 (kN (w6 (x1.f_4 + (0 : Int))) rfl fun v14 => (kIfD (p := x0.f_4 < v14) (kN (w6 (x1.f_5 + (1 : Int))) rfl fun v15 => (kIfD (p := x0.f_5 < v15) (kEr (enc := Q7) (Q0.mk (w6 (w6 (x0.f_0 + (4294967296 : Int)) - v0)) (w6 (w6 (x0.f_1 + (4294967296 : Int)) - v1)) (w6 (x0.f_2 - v2)) (w6 (x0.f_3 - v10)) (w6 (w6 (x0.f_4 + (4294967296 : Int)) - v14)) (w6 (w6 (x0.f_5 + (4294967296 : Int)) - v15))))
 (kEr (enc := Q7) (Q0.mk (w6 (w6 (x0.f_0 + (4294967296 : Int)) - v0)) (w6 (w6 (x0.f_1 + (4294967296 : Int)) - v1)) (w6 (x0.f_2 - v2)) (w6 (x0.f_3 - v10)) (w6 (w6 (x0.f_4 + (4294967296 : Int)) - v14)) (w6 (x0.f_5 - v15))))))
 (kN (w6 (x1.f_5 + (0 : Int))) rfl fun v16 => (kIfD (p := x0.f_5 < v16) (kEr (enc := Q7) (Q0.mk (w6 (w6 (x0.f_0 + (4294967296 : Int)) - v0)) (w6 (w6 (x0.f_1 + (4294967296 : Int)) - v1)) (w6 (x0.f_2 - v2)) (w6 (x0.f_3 - v10)) (w6 (x0.f_4 - v14)) (w6 (w6 (x0.f_5 + (4294967296 : Int)) - v16))))
 (kEr (enc := Q7) (Q0.mk (w6 (w6 (x0.f_0 + (4294967296 : Int)) - v0)) (w6 (w6 (x0.f_1 + (4294967296 : Int)) - v1)) (w6 (x0.f_2 - v2)) (w6 (x0.f_3 - v10)) (w6 (x0.f_4 - v14)) (w6 (x0.f_5 - v16))))))))))))
 (kN (w6 (x1.f_2 + (0 : Int))) rfl fun v17 => (kIfD (p := x0.f_2 < v17) (kN (w6 (x1.f_3 + (1 : Int))) rfl fun v18 => (kIfD (p := x0.f_3 < v18) (kN (w6 (x1.f_4 + (1 : Int))) rfl fun v19 => (kIfD (p := x0.f_4 < v19) (kN (w6 (x1.f_5 + (1 : Int))) rfl fun v20 => (kIfD (p := x0.f_5 < v20) (kEr (enc := Q7) (Q0.mk (w6 (w6 (x0.f_0 + (4294967296 : Int)) - v0)) (w6 (x0.f_1 - v1)) (w6 (w6 (x0.f_2 + (4294967296 : Int)) - v17)) (w6 (w6 (x0.f_3 + (4294967296 : Int)) - v18)) (w6 (w6 (x0.f_4 + (4294967296 : Int)) - v19)) (w6 (w6 (x0.f_5 + (4294967296 : Int)) - v20))))
 (kEr (enc := Q7) (Q0.mk (w6 (w6 (x0.f_0 + (4294967296 : Int)) - v0)) (w6 (x0.f_1 - v1)) (w6 (w6 (x0.f_2 + (4294967296 : Int)) - v17)) (w6 (w6 (x0.f_3 + (4294967296 : Int)) - v18)) (w6 (w6 (x0.f_4 + (4294967296 : Int)) - v19)) (w6 (x0.f_5 - v20))))))
 (kN (w6 (x1.f_5 + (0 : Int))) rfl fun v21 => (kIfD (p := x0.f_5 < v21) (kEr (enc := Q7) (Q0.mk (w6 (w6 (x0.f_0 + (4294967296 : Int)) - v0)) (w6 (x0.f_1 - v1)) (w6 (w6 (x0.f_2 + (4294967296 : Int)) - v17)) (w6 (w6 (x0.f_3 + (4294967296 : Int)) - v18)) (w6 (x0.f_4 - v19)) (w6 (w6 (x0.f_5 + (4294967296 : Int)) - v21))))
 (kEr (enc := Q7) (Q0.mk (w6 (w6 (x0.f_0 + (4294967296 : Int)) - v0)) (w6 (x0.f_1 - v1)) (w6 (w6 (x0.f_2 + (4294967296 : Int)) - v17)) (w6 (w6 (x0.f_3 + (4294967296 : Int)) - v18)) (w6 (x0.f_4 - v19)) (w6 (x0.f_5 - v21))))))))
 (kN (w6 (x1.f_4 + (0 : Int))) rfl fun v22 => (kIfD (p := x0.f_4 < v22) (kN (w6 (x1.f_5 + (1 : Int))) rfl fun v23 => (kIfD (p := x0.f_5 < v23) (kEr (enc := Q7) (Q0.mk (w6 (w6 (x0.f_0 + (4294967296 : Int)) - v0)) (w6 (x0.f_1 - v1)) (w6 (w6 (x0.f_2 + (4294967296 : Int)) - v17)) (w6 (x0.f_3 - v18)) (w6 (w6 (x0.f_4 + (4294967296 : Int)) - v22)) (w6 (w6 (x0.f_5 + (4294967296 : Int)) - v23))))
 (kEr (enc := Q7) (Q0.mk (w6 (w6 (x0.f_0 + (4294967296 : Int)) - v0)) (w6 (x0.f_1 - v1)) (w6 (w6 (x0.f_2 + (4294967296 : Int)) - v17)) (w6 (x0.f_3 - v18)) (w6 (w6 (x0.f_4 + (4294967296 : Int)) - v22)) (w6 (x0.f_5 - v23))))))
 (kN (w6 (x1.f_5 + (0 : Int))) rfl fun v24 => (kIfD (p := x0.f_5 < v24) (kEr (enc := Q7) (Q0.mk (w6 (w6 (x0.f_0 + (4294967296 : Int)) - v0)) (w6 (x0.f_1 - v1)) (w6 (w6 (x0.f_2 + (4294967296 : Int)) - v17)) (w6 (x0.f_3 - v18)) (w6 (x0.f_4 - v22)) (w6 (w6 (x0.f_5 + (4294967296 : Int)) - v24))))
 (kEr (enc := Q7) (Q0.mk (w6 (w6 (x0.f_0 + (4294967296 : Int)) - v0)) (w6 (x0.f_1 - v1)) (w6 (w6 (x0.f_2 + (4294967296 : Int)) - v17)) (w6 (x0.f_3 - v18)) (w6 (x0.f_4 - v22)) (w6 (x0.f_5 - v24))))))))))
 (kN (w6 (x1.f_3 + (0 : Int))) rfl fun v25 => (kIfD (p := x0.f_3 < v25) (kN (w6 (x1.f_4 + (1 : Int))) rfl fun v26 => (kIfD (p := x0.f_4 < v26) (kN (w6 (x1.f_5 + (1 : Int))) rfl fun v27 => (kIfD (p := x0.f_5 < v27) (kEr (enc := Q7) (Q0.mk (w6 (w6 (x0.f_0 + (4294967296 : Int)) - v0)) (w6 (x0.f_1 - v1)) (w6 (x0.f_2 - v17)) (w6 (w6 (x0.f_3 + (4294967296 : Int)) - v25)) (w6 (w6 (x0.f_4 + (4294967296 : Int)) - v26)) (w6 (w6 (x0.f_5 + (4294967296 : Int)) - v27))))
 (kEr (enc := Q7) (Q0.mk (w6 (w6 (x0.f_0 + (4294967296 : Int)) - v0)) (w6 (x0.f_1 - v1)) (w6 (x0.f_2 - v17)) (w6 (w6 (x0.f_3 + (4294967296 : Int)) - v25)) (w6 (w6 (x0.f_4 + (4294967296 : Int)) - v26)) (w6 (x0.f_5 - v27))))))
 (kN (w6 (x1.f_5 + (0 : Int))) rfl fun v28 => (kIfD (p := x0.f_5 < v28) (kEr (enc := Q7) (Q0.mk (w6 (w6 (x0.f_0 + (4294967296 : Int)) - v0)) (w6 (x0.f_1 - v1)) (w6 (x0.f_2 - v17)) (w6 (w6 (x0.f_3 + (4294967296 : Int)) - v25)) (w6 (x0.f_4 - v26)) (w6 (w6 (x0.f_5 + (4294967296 : Int)) - v28))))
 (kEr (enc := Q7) (Q0.mk (w6 (w6 (x0.f_0 + (4294967296 : Int)) - v0)) (w6 (x0.f_1 - v1)) (w6 (x0.f_2 - v17)) (w6 (w6 (x0.f_3 + (4294967296 : Int)) - v25)) (w6 (x0.f_4 - v26)) (w6 (x0.f_5 - v28))))))))
 (kN (w6 (x1.f_4 + (0 : Int))) rfl fun v29 => (kIfD (p := x0.f_4 < v29) (kN (w6 (x1.f_5 + (1 : Int))) rfl fun v30 => (kIfD (p := x0.f_5 < v30) (kEr (enc := Q7) (Q0.mk (w6 (w6 (x0.f_0 + (4294967296 : Int)) - v0)) (w6 (x0.f_1 - v1)) (w6 (x0.f_2 - v17)) (w6 (x0.f_3 - v25)) (w6 (w6 (x0.f_4 + (4294967296 : Int)) - v29)) (w6 (w6 (x0.f_5 + (4294967296 : Int)) - v30))))
 (kEr (enc := Q7) (Q0.mk (w6 (w6 (x0.f_0 + (4294967296 : Int)) - v0)) (w6 (x0.f_1 - v1)) (w6 (x0.f_2 - v17)) (w6 (x0.f_3 - v25)) (w6 (w6 (x0.f_4 + (4294967296 : Int)) - v29)) (w6 (x0.f_5 - v30))))))
 (kN (w6 (x1.f_5 + (0 : Int))) rfl fun v31 => (kIfD (p := x0.f_5 < v31) (kEr (enc := Q7) (Q0.mk (w6 (w6 (x0.f_0 + (4294967296 : Int)) - v0)) (w6 (x0.f_1 - v1)) (w6 (x0.f_2 - v17)) (w6 (x0.f_3 - v25)) (w6 (x0.f_4 - v29)) (w6 (w6 (x0.f_5 + (4294967296 : Int)) - v31))))
 (kEr (enc := Q7) (Q0.mk (w6 (w6 (x0.f_0 + (4294967296 : Int)) - v0)) (w6 (x0.f_1 - v1)) (w6 (x0.f_2 - v17)) (w6 (x0.f_3 - v25)) (w6 (x0.f_4 - v29)) (w6 (x0.f_5 - v31))))))))))))))
 (kN (w6 (x1.f_1 + (0 : Int))) rfl fun v32 => (kIfD (p := x0.f_1 < v32) (kN (w6 (x1.f_2 + (1 : Int))) rfl fun v33 => (kIfD (p := x0.f_2 < v33) (kN (w6 (x1.f_3 + (1 : Int))) rfl fun v34 => (kIfD (p := x0.f_3 < v34) (kN (w6 (x1.f_4 + (1 : Int))) rfl fun v35 => (kIfD (p := x0.f_4 < v35) (kN (w6 (x1.f_5 + (1 : Int))) rfl fun v36 => (kIfD (p := x0.f_5 < v36) (kEr (enc := Q7) (Q0.mk (w6 (x0.f_0 - v0)) (w6 (w6 (x0.f_1 + (4294967296 : Int)) - v32)) (w6 (w6 (x0.f_2 + (4294967296 : Int)) - v33)) (w6 (w6 (x0.f_3 + (4294967296 : Int)) - v34)) (w6 (w6 (x0.f_4 + (4294967296 : Int)) - v35)) (w6 (w6 (x0.f_5 + (4294967296 : Int)) - v36))))
 (kEr (enc := Q7) (Q0.mk (w6 (x0.f_0 - v0)) (w6 (w6 (x0.f_1 + (4294967296 : Int)) - v32)) (w6 (w6 (x0.f_2 + (4294967296 : Int)) - v33)) (w6 (w6 (x0.f_3 + (4294967296 : Int)) - v34)) (w6 (w6 (x0.f_4 + (4294967296 : Int)) - v35)) (w6 (x0.f_5 - v36))))))
 (kN (w6 (x1.f_5 + (0 : Int))) rfl fun v37 => (kIfD (p := x0.f_5 < v37) (kEr (enc := Q7) (Q0.mk (w6 (x0.f_0 - v0)) (w6 (w6 (x0.f_1 + (4294967296 : Int)) - v32)) (w6 (w6 (x0.f_2 + (4294967296 : Int)) - v33)) (w6 (w6 (x0.f_3 + (4294967296 : Int)) - v34)) (w6 (x0.f_4 - v35)) (w6 (w6 (x0.f_5 + (4294967296 : Int)) - v37))))
 (kEr (enc := Q7) (Q0.mk (w6 (x0.f_0 - v0)) (w6 (w6 (x0.f_1 + (4294967296 : Int)) - v32)) (w6 (w6 (x0.f_2 + (4294967296 : Int)) - v33)) (w6 (w6 (x0.f_3 + (4294967296 : Int)) - v34)) (w6 (x0.f_4 - v35)) (w6 (x0.f_5 - v37))))))))
 (kN (w6 (x1.f_4 + (0 : Int))) rfl fun v38 => (kIfD (p := x0.f_4 < v38) (kN (w6 (x1.f_5 + (1 : Int))) rfl fun v39 => (kIfD (p := x0.f_5 < v39) (kEr (enc := Q7) (Q0.mk (w6 (x0.f_0 - v0)) (w6 (w6 (x0.f_1 + (4294967296 : Int)) - v32)) (w6 (w6 (x0.f_2 + (4294967296 : Int)) - v33)) (w6 (x0.f_3 - v34)) (w6 (w6 (x0.f_4 + (4294967296 : Int)) - v38)) (w6 (w6 (x0.f_5 + (4294967296 : Int)) - v39))))
 (kEr (enc := Q7) (Q0.mk (w6 (x0.f_0 - v0)) (w6 (w6 (x0.f_1 + (4294967296 : Int)) - v32)) (w6 (w6 (x0.f_2 + (4294967296 : Int)) - v33)) (w6 (x0.f_3 - v34)) (w6 (w6 (x0.f_4 + (4294967296 : Int)) - v38)) (w6 (x0.f_5 - v39))))))
 (kN (w6 (x1.f_5 + (0 : Int))) rfl fun v40 => (kIfD (p := x0.f_5 < v40) (kEr (enc := Q7) (Q0.mk (w6 (x0.f_0 - v0)) (w6 (w6 (x0.f_1 + (4294967296 : Int)) - v32)) (w6 (w6 (x0.f_2 + (4294967296 : Int)) - v33)) (w6 (x0.f_3 - v34)) (w6 (x0.f_4 - v38)) (w6 (w6 (x0.f_5 + (4294967296 : Int)) - v40))))
 (kEr (enc := Q7) (Q0.mk (w6 (x0.f_0 - v0)) (w6 (w6 (x0.f_1 + (4294967296 : Int)) - v32)) (w6 (w6 (x0.f_2 + (4294967296 : Int)) - v33)) (w6 (x0.f_3 - v34)) (w6 (x0.f_4 - v38)) (w6 (x0.f_5 - v40))))))))))
 (kN (w6 (x1.f_3 + (0 : Int))) rfl fun v41 => (kIfD (p := x0.f_3 < v41) (kN (w6 (x1.f_4 + (1 : Int))) rfl fun v42 => (kIfD (p := x0.f_4 < v42) (kN (w6 (x1.f_5 + (1 : Int))) rfl fun v43 => (kIfD (p := x0.f_5 < v43) (kEr (enc := Q7) (Q0.mk (w6 (x0.f_0 - v0)) (w6 (w6 (x0.f_1 + (4294967296 : Int)) - v32)) (w6 (x0.f_2 - v33)) (w6 (w6 (x0.f_3 + (4294967296 : Int)) - v41)) (w6 (w6 (x0.f_4 + (4294967296 : Int)) - v42)) (w6 (w6 (x0.f_5 + (4294967296 : Int)) - v43))))
 (kEr (enc := Q7) (Q0.mk (w6 (x0.f_0 - v0)) (w6 (w6 (x0.f_1 + (4294967296 : Int)) - v32)) (w6 (x0.f_2 - v33)) (w6 (w6 (x0.f_3 + (4294967296 : Int)) - v41)) (w6 (w6 (x0.f_4 + (4294967296 : Int)) - v42)) (w6 (x0.f_5 - v43))))))
 (kN (w6 (x1.f_5 + (0 : Int))) rfl fun v44 => (kIfD (p := x0.f_5 < v44) (kEr (enc := Q7) (Q0.mk (w6 (x0.f_0 - v0)) (w6 (w6 (x0.f_1 + (4294967296 : Int)) - v32)) (w6 (x0.f_2 - v33)) (w6 (w6 (x0.f_3 + (4294967296 : Int)) - v41)) (w6 (x0.f_4 - v42)) (w6 (w6 (x0.f_5 + (4294967296 : Int)) - v44))))
 (kEr (enc := Q7) (Q0.mk (w6 (x0.f_0 - v0)) (w6 (w6 (x0.f_1 + (4294967296 : Int)) - v32)) (w6 (x0.f_2 - v33)) (w6 (w6 (x0.f_3 + (4294967296 : Int)) - v41)) (w6 (x0.f_4 - v42)) (w6 (x0.f_5 - v44))))))))
 (kN (w6 (x1.f_4 + (0 : Int))) rfl fun v45 => (kIfD (p := x0.f_4 < v45) (kN (w6 (x1.f_5 + (1 : Int))) rfl fun v46 => (kIfD (p := x0.f_5 < v46) (kEr (enc := Q7) (Q0.mk (w6 (x0.f_0 - v0)) (w6 (w6 (x0.f_1 + (4294967296 : Int)) - v32)) (w6 (x0.f_2 - v33)) (w6 (x0.f_3 - v41)) (w6 (w6 (x0.f_4 + (4294967296 : Int)) - v45)) (w6 (w6 (x0.f_5 + (4294967296 : Int)) - v46))))
 (kEr (enc := Q7) (Q0.mk (w6 (x0.f_0 - v0)) (w6 (w6 (x0.f_1 + (4294967296 : Int)) - v32)) (w6 (x0.f_2 - v33)) (w6 (x0.f_3 - v41)) (w6 (w6 (x0.f_4 + (4294967296 : Int)) - v45)) (w6 (x0.f_5 - v46))))))
 (kN (w6 (x1.f_5 + (0 : Int))) rfl fun v47 => (kIfD (p := x0.f_5 < v47) (kEr (enc := Q7) (Q0.mk (w6 (x0.f_0 - v0)) (w6 (w6 (x0.f_1 + (4294967296 : Int)) - v32)) (w6 (x0.f_2 - v33)) (w6 (x0.f_3 - v41)) (w6 (x0.f_4 - v45)) (w6 (w6 (x0.f_5 + (4294967296 : Int)) - v47))))
 (kEr (enc := Q7) (Q0.mk (w6 (x0.f_0 - v0)) (w6 (w6 (x0.f_1 + (4294967296 : Int)) - v32)) (w6 (x0.f_2 - v33)) (w6 (x0.f_3 - v41)) (w6 (x0.f_4 - v45)) (w6 (x0.f_5 - v47))))))))))))
 (kN (w6 (x1.f_2 + (0 : Int))) rfl fun v48 => (kIfD (p := x0.f_2 < v48) (kN (w6 (x1.f_3 + (1 : Int))) rfl fun v49 => (kIfD (p := x0.f_3 < v49) (kN (w6 (x1.f_4 + (1 : Int))) rfl fun v50 => (kIfD (p := x0.f_4 < v50) (kN (w6 (x1.f_5 + (1 : Int))) rfl fun v51 => (kIfD (p := x0.f_5 < v51) (kEr (enc := Q7) (Q0.mk (w6 (x0.f_0 - v0)) (w6 (x0.f_1 - v32)) (w6 (w6 (x0.f_2 + (4294967296 : Int)) - v48)) (w6 (w6 (x0.f_3 + (4294967296 : Int)) - v49)) (w6 (w6 (x0.f_4 + (4294967296 : Int)) - v50)) (w6 (w6 (x0.f_5 + (4294967296 : Int)) - v51))))
 (kEr (enc := Q7) (Q0.mk (w6 (x0.f_0 - v0)) (w6 (x0.f_1 - v32)) (w6 (w6 (x0.f_2 + (4294967296 : Int)) - v48)) (w6 (w6 (x0.f_3 + (4294967296 : Int)) - v49)) (w6 (w6 (x0.f_4 + (4294967296 : Int)) - v50)) (w6 (x0.f_5 - v51))))))
 (kN (w6 (x1.f_5 + (0 : Int))) rfl fun v52 => (kIfD (p := x0.f_5 < v52) (kEr (enc := Q7) (Q0.mk (w6 (x0.f_0 - v0)) (w6 (x0.f_1 - v32)) (w6 (w6 (x0.f_2 + (4294967296 : Int)) - v48)) (w6 (w6 (x0.f_3 + (4294967296 : Int)) - v49)) (w6 (x0.f_4 - v50)) (w6 (w6 (x0.f_5 + (4294967296 : Int)) - v52))))
 (kEr (enc := Q7) (Q0.mk (w6 (x0.f_0 - v0)) (w6 (x0.f_1 - v32)) (w6 (w6 (x0.f_2 + (4294967296 : Int)) - v48)) (w6 (w6 (x0.f_3 + (4294967296 : Int)) - v49)) (w6 (x0.f_4 - v50)) (w6 (x0.f_5 - v52))))))))
 (kN (w6 (x1.f_4 + (0 : Int))) rfl fun v53 => (kIfD (p := x0.f_4 < v53) (kN (w6 (x1.f_5 + (1 : Int))) rfl fun v54 => (kIfD (p := x0.f_5 < v54) (kEr (enc := Q7) (Q0.mk (w6 (x0.f_0 - v0)) (w6 (x0.f_1 - v32)) (w6 (w6 (x0.f_2 + (4294967296 : Int)) - v48)) (w6 (x0.f_3 - v49)) (w6 (w6 (x0.f_4 + (4294967296 : Int)) - v53)) (w6 (w6 (x0.f_5 + (4294967296 : Int)) - v54))))
 (kEr (enc := Q7) (Q0.mk (w6 (x0.f_0 - v0)) (w6 (x0.f_1 - v32)) (w6 (w6 (x0.f_2 + (4294967296 : Int)) - v48)) (w6 (x0.f_3 - v49)) (w6 (w6 (x0.f_4 + (4294967296 : Int)) - v53)) (w6 (x0.f_5 - v54))))))
 (kN (w6 (x1.f_5 + (0 : Int))) rfl fun v55 => (kIfD (p := x0.f_5 < v55) (kEr (enc := Q7) (Q0.mk (w6 (x0.f_0 - v0)) (w6 (x0.f_1 - v32)) (w6 (w6 (x0.f_2 + (4294967296 : Int)) - v48)) (w6 (x0.f_3 - v49)) (w6 (x0.f_4 - v53)) (w6 (w6 (x0.f_5 + (4294967296 : Int)) - v55))))
 (kEr (enc := Q7) (Q0.mk (w6 (x0.f_0 - v0)) (w6 (x0.f_1 - v32)) (w6 (w6 (x0.f_2 + (4294967296 : Int)) - v48)) (w6 (x0.f_3 - v49)) (w6 (x0.f_4 - v53)) (w6 (x0.f_5 - v55))))))))))
 (kN (w6 (x1.f_3 + (0 : Int))) rfl fun v56 => (kIfD (p := x0.f_3 < v56) (kN (w6 (x1.f_4 + (1 : Int))) rfl fun v57 => (kIfD (p := x0.f_4 < v57) (kN (w6 (x1.f_5 + (1 : Int))) rfl fun v58 => (kIfD (p := x0.f_5 < v58) (kEr (enc := Q7) (Q0.mk (w6 (x0.f_0 - v0)) (w6 (x0.f_1 - v32)) (w6 (x0.f_2 - v48)) (w6 (w6 (x0.f_3 + (4294967296 : Int)) - v56)) (w6 (w6 (x0.f_4 + (4294967296 : Int)) - v57)) (w6 (w6 (x0.f_5 + (4294967296 : Int)) - v58))))
 (kEr (enc := Q7) (Q0.mk (w6 (x0.f_0 - v0)) (w6 (x0.f_1 - v32)) (w6 (x0.f_2 - v48)) (w6 (w6 (x0.f_3 + (4294967296 : Int)) - v56)) (w6 (w6 (x0.f_4 + (4294967296 : Int)) - v57)) (w6 (x0.f_5 - v58))))))
 (kN (w6 (x1.f_5 + (0 : Int))) rfl fun v59 => (kIfD (p := x0.f_5 < v59) (kEr (enc := Q7) (Q0.mk (w6 (x0.f_0 - v0)) (w6 (x0.f_1 - v32)) (w6 (x0.f_2 - v48)) (w6 (w6 (x0.f_3 + (4294967296 : Int)) - v56)) (w6 (x0.f_4 - v57)) (w6 (w6 (x0.f_5 + (4294967296 : Int)) - v59))))
 (kEr (enc := Q7) (Q0.mk (w6 (x0.f_0 - v0)) (w6 (x0.f_1 - v32)) (w6 (x0.f_2 - v48)) (w6 (w6 (x0.f_3 + (4294967296 : Int)) - v56)) (w6 (x0.f_4 - v57)) (w6 (x0.f_5 - v59))))))))
 (kN (w6 (x1.f_4 + (0 : Int))) rfl fun v60 => (kIfD (p := x0.f_4 < v60) (kN (w6 (x1.f_5 + (1 : Int))) rfl fun v61 => (kIfD (p := x0.f_5 < v61) (kEr (enc := Q7) (Q0.mk (w6 (x0.f_0 - v0)) (w6 (x0.f_1 - v32)) (w6 (x0.f_2 - v48)) (w6 (x0.f_3 - v56)) (w6 (w6 (x0.f_4 + (4294967296 : Int)) - v60)) (w6 (w6 (x0.f_5 + (4294967296 : Int)) - v61))))
 (kEr (enc := Q7) (Q0.mk (w6 (x0.f_0 - v0)) (w6 (x0.f_1 - v32)) (w6 (x0.f_2 - v48)) (w6 (x0.f_3 - v56)) (w6 (w6 (x0.f_4 + (4294967296 : Int)) - v60)) (w6 (x0.f_5 - v61))))))
 (kN (w6 (x1.f_5 + (0 : Int))) rfl fun v62 => (kIfD (p := x0.f_5 < v62) (kEr (enc := Q7) (Q0.mk (w6 (x0.f_0 - v0)) (w6 (x0.f_1 - v32)) (w6 (x0.f_2 - v48)) (w6 (x0.f_3 - v56)) (w6 (x0.f_4 - v60)) (w6 (w6 (x0.f_5 + (4294967296 : Int)) - v62))))
 (kEr (enc := Q7) (Q0.mk (w6 (x0.f_0 - v0)) (w6 (x0.f_1 - v32)) (w6 (x0.f_2 - v48)) (w6 (x0.f_3 - v56)) (w6 (x0.f_4 - v60)) (w6 (x0.f_5 - v62)))))))))))))))) h)
def KH (s : ((List Qd) × gLin)) (u : Unit) (o : (Q0 × Q0) ⊕ (Int × Int × Q0 × Q0)) : List Alt := [⟨fun (x : (Q0 × Q0)) => (Sum.inl x : (Q0 × Q0) ⊕ (Int × Int × Q0 × Q0)) = o, .exit 0, fun x => [.undef, .undef, .ptr 0 0 0, .ptr 1 0 0], fun x => [.cells 0 (Q7 x.1).cells, .cells 0 (Q7 x.2).cells]⟩, ⟨fun (x : (Int × Int × Q0 × Q0)) => (Sum.inr x : (Q0 × Q0) ⊕ (Int × Int × Q0 × Q0)) = o, .ret, fun x => [ii x.1, ii x.2.1, .ptr 0 0 0, .ptr 1 0 0], fun x => [.cells 0 (Q7 x.2.2.1).cells, .cells 0 (Q7 x.2.2.2).cells]⟩]
def Xw (x1 : List Qd) (x2 : gLin) (x6 : Q0) (x7 : Q0) (x8 : Int) : Option ((Q0 × Q0) ⊕ (Int × Int × Q0 × Q0)) :=
 some (List.length x2.fL : Int) >>= fun v0 =>
 if x8 < v0 then
 ix x2.fL x8 >>= fun v1 =>
 CY x1 v1.fName >>= fun v2 =>
 if v2.snd then
 ix x2.fL x8 >>= fun v3 =>
 if !decide (v2.fst < (0 : Int)) == decide (v3.fBy < (0 : Int)) then
 KO v2.fst >>= fun v4 =>
 ix x2.fL x8 >>= fun v5 =>
 KO v5.fBy >>= fun v6 =>
 Uw x7 v4 v6 >>= fun v7 =>
 Xw x1 x2 x6 v7 (wr (x8 + (1 : Int)))
 else
 KO v2.fst >>= fun v8 =>
 ix x2.fL x8 >>= fun v9 =>
 KO v9.fBy >>= fun v10 =>
 Uw x6 v8 v10 >>= fun v11 =>
 Xw x1 x2 v11 x7 (wr (x8 + (1 : Int)))
 else
 some (.inr ((0 : Int), (9 : Int), x6, x7))
 else
 some (.inl (x6, x7))
 partial_fixpoint
theorem Rm (x1 : List Qd) (x2 : gLin) (x6 : Q0) (x7 : Q0) (x8 : Int) (o : (Q0 × Q0) ⊕ (Int × Int × Q0 × Q0)) (h : Xw x1 x2 x6 x7 x8 = some o) : LO 133 8 155 [1, 2, 6, 7, 8] [.sl 2 (List.map Qe x1), .ptr 0 0 0, .ptr 1 0 0, .ptr 2 0 0, ii x8] [.cells 0 (Qj x2).cells, .cells 0 (Q7 x6).cells, .cells 0 (Q7 x7).cells] [4, 5, 6, 7] (KH (x1, x2) () o) :=
 Xw.partial_correctness x1 x2 (fun x6 x7 x8 o => LO 133 8 155 [1, 2, 6, 7, 8] [.sl 2 (List.map Qe x1), .ptr 0 0 0, .ptr 1 0 0, .ptr 2 0 0, ii x8] [.cells 0 (Qj x2).cells, .cells 0 (Q7 x6).cells, .cells 0 (Q7 x7).cells] [4, 5, 6, 7] (KH (x1, x2) () o))
 (fun Xw Q1w x6 x7 x8 o h  =>
 Lp2 (hs := [(34, .n eI 34 none), (35, .split), (43, .e Qf), (46, .c ZM), (49, .split), (56, .e Qf), (60, .split), (63, .c eU64), (67, .e Qf), (70, .c eU64), (71, .c Q7), (74, .c eU64), (78, .e Qf), (81, .c eU64), (82, .c Q7)]) (kb := [kk 2, kk 6, kk 7]) (kbx := [kk 6, kk 7]) ((kN _ (mLen (sh := Qf) x2.fL) fun v0 => (kIfD (p := x8 < v0) (kIx (enc := Qf) (l := x2.fL) (k := x8) fun v1 => (kC (sh := ZM) (AW x1 v1.fName) fun v2 => (kIf (c := v2.snd) (kIx (enc := Qf) (l := x2.fL) (k := x8) fun v3 => (kIf (c := !decide (v2.fst < (0 : Int)) == decide (v3.fBy < (0 : Int))) (kC (sh := eU64) (GQ v2.fst) fun v4 => (kIx (enc := Qf) (l := x2.fL) (k := x8) fun v5 => (kC (sh := eU64) (GQ v5.fBy) fun v6 => (kC (sh := Q7) (W9 x7 v4 v6) fun v7 => (kM0 (alts := KH (x1, x2) ()) (Q1w x6 v7 (wr (x8 + (1 : Int)))))))))
 (kC (sh := eU64) (GQ v2.fst) fun v8 => (kIx (enc := Qf) (l := x2.fL) (k := x8) fun v9 => (kC (sh := eU64) (GQ v9.fBy) fun v10 => (kC (sh := Q7) (W9 x6 v8 v10) fun v11 => (kM0 (alts := KH (x1, x2) ()) (Q1w v11 x7 (wr (x8 + (1 : Int)))))))))))
 (kX (alts := KH (x1, x2) ()) (.inr ((0 : Int), (9 : Int), x6, x7)) (.next (.here _ rfl (.refl _) (.refl _)))))))
 (kX (alts := KH (x1, x2) ()) (.inl (x6, x7)) (.here _ rfl (.refl _) (.refl _))))) h)) x6 x7 x8 o h
def GC (s : ((List Qd) × gLin)) (u : Unit) (o : (Q0 × Q0)) : List Alt := [⟨fun (x : (Q0 × Q0)) => x = o, .normal, fun x => [.sl 2 (List.map Qe (s.1)), .ptr 0 0 0, .ptr 1 0 0, .ptr 2 0 0], fun x => [.cells 0 (Qj (s.2)).cells, .cells 0 (Q7 (x.1)).cells, .cells 0 (Q7 (x.2)).cells]⟩]
def Xp (s : Unit) (u : Int) (o : Bool) : List Alt := jb o (fun b => [.int .u64 u, .bool b]) []
def Xq (s : Unit) (u : Int) (o : Bool) : List Alt := jb o (fun b => [.int .u64 u, .bool b]) []
def GM (x0 : gLin) (x1 : List Qd) : Option (Int × Int) :=
 Db x0 >>= fun v0 =>
 if v0 != (0 : Int) then
 some ((0 : Int), (1 : Int))
 else
 some () >>= fun v1 =>
 (if x0.fK < (0 : Int) then
 KO x0.fK >>= fun v3 =>
 Uw (Q0.mk (0 : Int) (0 : Int) (0 : Int) (0 : Int) (0 : Int) (0 : Int)) v3 (1 : Int) >>= fun v4 =>
 some ((Q0.mk (0 : Int) (0 : Int) (0 : Int) (0 : Int) (0 : Int) (0 : Int)), v4)
 else
 KO x0.fK >>= fun v5 =>
 Uw (Q0.mk (0 : Int) (0 : Int) (0 : Int) (0 : Int) (0 : Int) (0 : Int)) v5 (1 : Int) >>= fun v6 =>
 some (v6, (Q0.mk (0 : Int) (0 : Int) (0 : Int) (0 : Int) (0 : Int) (0 : Int)))) >>= fun v7 =>
 some () >>= fun v8 =>
 Xw x1 x0 v7.fst v7.snd (0 : Int) >>= fun v9 => (match v9 with
 | (.inl v10) =>
 CZ v10.fst v10.snd >>= fun v11 => if v11 then
 Dq v10.snd v10.fst >>= fun v12 =>
 some (w6 (v12.f_0 + w6 (v12.f_1 * (4294967296 : Int))) : Int) >>= fun v13 =>
 some v13 >>= fun v14 =>
 (if v12.f_2 != (0 : Int) then
 some true
 else
 if v12.f_3 != (0 : Int) then
 some true
 else
 if v12.f_4 != (0 : Int) then
 some true
 else
 if v12.f_5 != (0 : Int) then
 some true
 else
 if (9223372036854775808 : Int) < v13 then
 some true
 else
 some false) >>= fun v15 => if v15 then
 some ((0 : Int), (3 : Int))
 else
 some ((wr (wr ((0 : Int) - wr (w6 (v14 - (1 : Int)))) - (1 : Int))), (0 : Int))
 else
 Dq v10.fst v10.snd >>= fun v18 =>
 some (w6 (v18.f_0 + w6 (v18.f_1 * (4294967296 : Int))) : Int) >>= fun v19 =>
 some v19 >>= fun v20 =>
 (if v18.f_2 != (0 : Int) then
 some true
 else
 if v18.f_3 != (0 : Int) then
 some true
 else
 if v18.f_4 != (0 : Int) then
 some true
 else
 if v18.f_5 != (0 : Int) then
 some true
 else
 if (9223372036854775807 : Int) < v19 then
 some true
 else
 some false) >>= fun v21 => if v21 then
 some ((0 : Int), (3 : Int))
 else
 some ((wr v20), (0 : Int))
 | (.inr v24) =>
 some (v24.fst, v24.snd.fst))
theorem NO (x0 : gLin) (x1 : List Qd) (r : (Int × Int)) (h : GM x0 x1 = some r) : PU 133 [Qj x0, QP x1] (Xb r) :=
 Pu2 (hs := [(16, .c eI), (17, .split), (20, .split), (24, .c eU64), (25, .c Q7), (29, .c eU64), (30, .c Q7), (85, .cb), (88, .c Q7), (12, .n eU64 12 none), (97, .split), (101, .split), (106, .split), (111, .split), (115, .split), (124, .c Q7), (14, .n eU64 14 none), (133, .split), (137, .split), (142, .split), (147, .split), (151, .split), (3000009, .l [] [1, 2, 6, 7, 8] [kk 2, kk 6, kk 7] [4, 5, 6, 7] [kk 6, kk 7] (KH (x1, x0))), (6000006, .l [] [] [] [1, 2, 6, 7] [kk 2, kk 6, kk 7] (GC (x1, x0))), (5000019, .l [] [] [] [12, 116] [] (Xp ())), (5000024, .l [] [] [] [14, 152] [] (Xq ()))]) ((kC (sh := eI) (Eu x0) fun v0 => (kIf (c := v0 != (0 : Int)) (kEr (enc := Xb) ((0 : Int), (1 : Int)))
 (kJ1 (id := 6000006) () (fun v1 ev1 v2 => (kIfD (p := x0.fK < (0 : Int)) (kC (sh := eU64) (GQ x0.fK) fun v3 => (kC (sh := Q7) (W9 (Q0.mk (0 : Int) (0 : Int) (0 : Int) (0 : Int) (0 : Int) (0 : Int)) v3 (1 : Int)) fun v4 => (kXj (alts := GC (x1, x0)) ev1 ((Q0.mk (0 : Int) (0 : Int) (0 : Int) (0 : Int) (0 : Int) (0 : Int)), v4) (.here _ rfl (.refl _) (.refl _)))))
 (kC (sh := eU64) (GQ x0.fK) fun v5 => (kC (sh := Q7) (W9 (Q0.mk (0 : Int) (0 : Int) (0 : Int) (0 : Int) (0 : Int) (0 : Int)) v5 (1 : Int)) fun v6 => (kXj (alts := GC (x1, x0)) ev1 (v6, (Q0.mk (0 : Int) (0 : Int) (0 : Int) (0 : Int) (0 : Int) (0 : Int))) (.here _ rfl (.refl _) (.refl _)))))))
 (fun v1 v7 => (kL2 () (hL := (Rm x1 x0 v7.fst v7.snd (0 : Int))) (hA := fun v8 v10 => (kCb (AX v10.fst v10.snd) (kC (sh := Q7) (LC v10.snd v10.fst) fun v12 => (kN (w6 (v12.f_0 + w6 (v12.f_1 * (4294967296 : Int)))) rfl fun v13 => (kJb (id := 5000019) v13 (fun v14 ev14 v15 => (kIf (c := v12.f_2 != (0 : Int)) (kXj (alts := Xp ()) ev14 true (.here () rfl (.refl _) (.refl _)))
 (kIf (c := v12.f_3 != (0 : Int)) (kXj (alts := Xp ()) ev14 true (.here () rfl (.refl _) (.refl _)))
 (kIf (c := v12.f_4 != (0 : Int)) (kXj (alts := Xp ()) ev14 true (.here () rfl (.refl _) (.refl _)))
 (kIf (c := v12.f_5 != (0 : Int)) (kXj (alts := Xp ()) ev14 true (.here () rfl (.refl _) (.refl _)))
 (kIfD (p := (9223372036854775808 : Int) < v13) (kXj (alts := Xp ()) ev14 true (.here () rfl (.refl _) (.refl _)))
 (kXj (alts := Xp ()) ev14 false (.next (.here () rfl (.refl _) (.refl _))))))))))
 (fun v14 => (kEr (enc := Xb) ((0 : Int), (3 : Int))))
 (fun v14 => (kEr (enc := Xb) ((wr (wr ((0 : Int) - wr (w6 (v14 - (1 : Int)))) - (1 : Int))), (0 : Int)))))))
 (kC (sh := Q7) (LC v10.fst v10.snd) fun v18 => (kN (w6 (v18.f_0 + w6 (v18.f_1 * (4294967296 : Int)))) rfl fun v19 => (kJb (id := 5000024) v19 (fun v20 ev20 v21 => (kIf (c := v18.f_2 != (0 : Int)) (kXj (alts := Xq ()) ev20 true (.here () rfl (.refl _) (.refl _)))
 (kIf (c := v18.f_3 != (0 : Int)) (kXj (alts := Xq ()) ev20 true (.here () rfl (.refl _) (.refl _)))
 (kIf (c := v18.f_4 != (0 : Int)) (kXj (alts := Xq ()) ev20 true (.here () rfl (.refl _) (.refl _)))
 (kIf (c := v18.f_5 != (0 : Int)) (kXj (alts := Xq ()) ev20 true (.here () rfl (.refl _) (.refl _)))
 (kIfD (p := (9223372036854775807 : Int) < v19) (kXj (alts := Xq ()) ev20 true (.here () rfl (.refl _) (.refl _)))
 (kXj (alts := Xq ()) ev20 false (.next (.here () rfl (.refl _) (.refl _))))))))))
 (fun v20 => (kEr (enc := Xb) ((0 : Int), (3 : Int))))
 (fun v20 => (kEr (enc := Xb) ((wr v20), (0 : Int)))))))))
 (hB := fun v8 v24 => (kEr (enc := Xb) (v24.fst, v24.snd.fst)))))))) h)
def Jl (s : ((List XG) × Str)) (u : Unit) (o : QK ⊕ (QK × Bool)) : List Alt := [⟨fun (x : QK) => (Sum.inl x : QK ⊕ (QK × Bool)) = o, .exit 0, fun x => [.ptr 0 0 0, .undef], fun x => [.cells 0 (Zg x).cells]⟩, ⟨fun (x : (QK × Bool)) => (Sum.inr x : QK ⊕ (QK × Bool)) = o, .ret, fun x => [.ptr 0 0 0, .bool x.2], fun x => [.cells 0 (Zg x.1).cells]⟩]
def Jz (x0 : List XG) (x1 : Str) (x4 : QK) (x6 : Int) : Option (QK ⊕ (QK × Bool)) :=
 some (List.length x0 : Int) >>= fun v0 =>
 if x6 < v0 then
 ix x0 x6 >>= fun v1 =>
 if v1.fName == x1 then
 ix x0 x6 >>= fun v2 =>
 some (.inr (v2.fTensor, true))
 else
 Jz x0 x1 x4 (wr (x6 + (1 : Int)))
 else
 some (.inl x4)
 partial_fixpoint
theorem Rt (x0 : List XG) (x1 : Str) (x4 : QK) (x6 : Int) (o : QK ⊕ (QK × Bool)) (h : Jz x0 x1 x4 x6 = some o) : LO 160 2 26 [0, 1, 4, 6] [.sl 8 (List.map VD x0), .str x1, .ptr 0 0 0, ii x6] [.cells 0 (Zg x4).cells] [4, 5] (Jl (x0, x1) () o) :=
 Jz.partial_correctness x0 x1 x4 (fun x6 o => LO 160 2 26 [0, 1, 4, 6] [.sl 8 (List.map VD x0), .str x1, .ptr 0 0 0, ii x6] [.cells 0 (Zg x4).cells] [4, 5] (Jl (x0, x1) () o))
 (fun Jz Q2s x6 o h  =>
 Lp2 (hs := [(9, .n eI 9 none), (10, .split), (15, .e VD), (19, .split), (22, .e VD)]) (kb := [kk 4]) (kbx := [kk 4]) ((kN _ (mLen (sh := VD) x0) fun v0 => (kIfD (p := x6 < v0) (kIx (enc := VD) (l := x0) (k := x6) fun v1 => (kIf (c := v1.fName == x1) (kIx (enc := VD) (l := x0) (k := x6) fun v2 => (kX (alts := Jl (x0, x1) ()) (.inr (v2.fTensor, true)) (.next (.here _ rfl (.refl _) (.refl _)))))
 (kM0 (alts := Jl (x0, x1) ()) (Q2s (wr (x6 + (1 : Int)))))))
 (kX (alts := Jl (x0, x1) ()) (.inl x4) (.here _ rfl (.refl _) (.refl _))))) h)) x6 o h
def NN (x0 : List XG) (x1 : Str) : Option (QK × Bool) :=
 some () >>= fun v0 =>
 Jz x0 x1 (QK.mk (Qi.mk (0 : Int) (0 : Int) (0 : Int) (0 : Int) (0 : Int)) [] []) (0 : Int) >>= fun v1 => (match v1 with
 | (.inl v2) =>
 some ((QK.mk (Qi.mk (0 : Int) (0 : Int) (0 : Int) (0 : Int) (0 : Int)) [] [])) >>= fun v3 =>
 some (v3, false)
 | (.inr v4) =>
 some (v4.fst, v4.snd))
theorem F4 (x0 : List XG) (x1 : Str) (r : (QK × Bool)) (h : NN x0 x1 = some r) : PU 160 [UC x0, eS x1] (DN r) :=
 Pu2 (hs := [(25, .n Zg 25 none), (3000003, .l [] [0, 1, 4, 6] [kk 4] [4, 5] [kk 4] (Jl (x0, x1)))]) ((kL2 () (hL := (fun y hy => ZC.le (.cons (LeV.refl (AV.sl (8 : Nat) (List.map VD x0))) (.cons (LeV.refl (AV.str x1)) (.cons (LeV.refl (AV.ptr (0 : Nat) (0 : Nat) (0 : Nat))) (.cons (LeV.refl (ii (0 : Int))) .nil)))) (.cons (LeB.cells (0 : Nat) (.cons (LeV.refl (ii (0 : Int))) (.cons (LeV.refl (ii (0 : Int))) (.cons (LeV.refl (ii (0 : Int))) (.cons (LeV.refl (ii (0 : Int))) (.cons (LeV.refl (ii (0 : Int))) (.cons (LeV.nil 1) (.cons (LeV.nil 2) .nil)))))))) .nil) (Rt x0 x1 (QK.mk (Qi.mk (0 : Int) (0 : Int) (0 : Int) (0 : Int) (0 : Int)) [] []) (0 : Int) y hy))) (hA := fun v0 v2 => (kW (sh := Zg) (QK.mk (Qi.mk (0 : Int) (0 : Int) (0 : Int) (0 : Int) (0 : Int)) [] []) (LeV.agg (.cons (LeV.refl (ii (0 : Int))) (.cons (LeV.refl (ii (0 : Int))) (.cons (LeV.refl (ii (0 : Int))) (.cons (LeV.refl (ii (0 : Int))) (.cons (LeV.refl (ii (0 : Int))) (.cons (LeV.nil 1) (.cons (LeV.nil 2) .nil)))))))) fun v3 => (kEr (enc := DN) (v3, false))))
 (hB := fun v0 v4 => (kEr (enc := DN) (v4.fst, v4.snd)))) h)
def KT (s : List Int) (u : Unit) (o : Unit ⊕ Int) : List Alt := [⟨fun (x : Unit) => (Sum.inl x : Unit ⊕ Int) = o, .exit 2, fun x => [.undef], fun x => []⟩, ⟨fun (x : Int) => (Sum.inr x : Unit ⊕ Int) = o, .ret, fun x => [ii x], fun x => []⟩]
def JX (x0 : List Int) (x4 : Int) (x5 : Int) : Option (Unit ⊕ Int) :=
 some (List.length x0 : Int) >>= fun v0 =>
 if x5 < v0 then
 ix x0 x5 >>= fun v1 =>
 if x4 ≠ (0 : Int) then
 if wr (Int.tdiv (4096 : Int) x4) < v1 then
 some (.inr (2 : Int))
 else
 ix x0 x5 >>= fun v2 =>
 some (wr (x4 * v2) : Int) >>= fun v3 =>
 JX x0 v3 (wr (x5 + (1 : Int)))
 else none
 else
 some (.inl ())
 partial_fixpoint
theorem HD (x0 : List Int) (x4 : Int) (x5 : Int) (o : Unit ⊕ Int) (h : JX x0 x4 x5 = some o) : LO 166 10 39 [0, 4, 5] [.sl 1 (List.map eI x0), ii x4, ii x5] [] [2] (KT x0 () o) :=
 JX.partial_correctness x0 (fun x4 x5 o => LO 166 10 39 [0, 4, 5] [.sl 1 (List.map eI x0), ii x4, ii x5] [] [2] (KT x0 () o))
 (fun JX Q20 x4 x5 o h  =>
 Lp2 (hs := [(22, .n eI 22 none), (23, .split), (28, .e eI), (31, .s), (32, .split), (36, .e eI), (4, .n eI 4 none)]) (kb := []) (kbx := []) ((kN _ (mLen (sh := eI) x0) fun v0 => (kIfD (p := x5 < v0) (kIx (enc := eI) (l := x0) (k := x5) fun v1 => (kG (p := x4 ≠ (0 : Int)) (kIfD (p := wr (Int.tdiv (4096 : Int) x4) < v1) (kX (alts := KT x0 ()) (.inr (2 : Int)) (.next (.here _ rfl (.refl _) (.refl _))))
 (kIx (enc := eI) (l := x0) (k := x5) fun v2 => (kN (wr (x4 * v2)) rfl fun v3 => (kM0 (alts := KT x0 ()) (Q20 v3 (wr (x5 + (1 : Int))))))))))
 (kX (alts := KT x0 ()) (.inl ()) (.here _ rfl (.refl _) (.refl _))))) h)) x4 x5 o h
def Vm (s : List Int) (u : Unit) (o : Unit ⊕ Int) : List Alt := [⟨fun (x : Unit) => (Sum.inl x : Unit ⊕ Int) = o, .exit 0, fun x => [.sl 1 (List.map eI s), .undef], fun x => []⟩, ⟨fun (x : Int) => (Sum.inr x : Unit ⊕ Int) = o, .ret, fun x => [.sl 1 (List.map eI s), ii x], fun x => []⟩]
def Ux (x0 : List Int) (x3 : Int) : Option (Unit ⊕ Int) :=
 some (List.length x0 : Int) >>= fun v0 =>
 if x3 < v0 then
 ix x0 x3 >>= fun v1 =>
 if v1 < (1 : Int) then
 some (.inr (1 : Int))
 else
 Ux x0 (wr (x3 + (1 : Int)))
 else
 some (.inl ())
 partial_fixpoint
theorem Ew (x0 : List Int) (x3 : Int) (o : Unit ⊕ Int) (h : Ux x0 x3 = some o) : LO 166 4 39 [0, 3] [.sl 1 (List.map eI x0), ii x3] [] [0, 2] (Vm x0 () o) :=
 Ux.partial_correctness x0 (fun x3 o => LO 166 4 39 [0, 3] [.sl 1 (List.map eI x0), ii x3] [] [0, 2] (Vm x0 () o))
 (fun Ux Q21 x3 o h  =>
 Lp2 (hs := [(11, .n eI 11 none), (12, .split), (17, .e eI), (19, .split)]) (kb := []) (kbx := []) ((kN _ (mLen (sh := eI) x0) fun v0 => (kIfD (p := x3 < v0) (kIx (enc := eI) (l := x0) (k := x3) fun v1 => (kIfD (p := v1 < (1 : Int)) (kX (alts := Vm x0 ()) (.inr (1 : Int)) (.next (.here _ rfl (.refl _) (.refl _))))
 (kM0 (alts := Vm x0 ()) (Q21 (wr (x3 + (1 : Int)))))))
 (kX (alts := Vm x0 ()) (.inl ()) (.here _ rfl (.refl _) (.refl _))))) h)) x3 o h
def Ly (x0 : List Int) : Option Int :=
 some (List.length x0 : Int) >>= fun v0 =>
 if (6 : Int) < v0 then
 some (2 : Int)
 else
 some () >>= fun v1 =>
 Ux x0 (0 : Int) >>= fun v2 => (match v2 with
 | (.inl v3) =>
 some ((1 : Int) : Int) >>= fun v4 =>
 some () >>= fun v5 =>
 JX x0 v4 (0 : Int) >>= fun v6 => (match v6 with
 | (.inl v7) =>
 some (0 : Int)
 | (.inr v8) =>
 some v8)
 | (.inr v9) =>
 some v9)
theorem SR (x0 : List Int) (r : Int) (h : Ly x0 = some r) : PU 166 [eLI x0] (eI r) :=
 Pu2 (hs := [(7, .n eI 7 none), (8, .split), (4, .n eI 4 none), (3000011, .l [] [0, 4, 5] [] [2] [] (KT x0)), (3000005, .l [] [0, 3] [] [0, 2] [] (Vm x0))]) ((kN _ (mLen (sh := eI) x0) fun v0 => (kIfD (p := (6 : Int) < v0) (kEr (enc := eI) (2 : Int))
 (kL2 () (hL := (Ew x0 (0 : Int))) (hA := fun v1 v3 => (kN (1 : Int) rfl fun v4 => (kL2 () (hL := (HD x0 v4 (0 : Int))) (hA := fun v5 v7 => (kEr (enc := eI) (0 : Int)))
 (hB := fun v5 v8 => (kEr (enc := eI) v8)))))
 (hB := fun v1 v9 => (kEr (enc := eI) v9))))) h)
def UX (s : List Int) (u : Unit) (o : Int) : List Alt := [⟨fun (x : Int) => x = o, .exit 0, fun x => [ii x], fun x => []⟩]
def G6 (x0 : List Int) (x3 : Int) (x4 : Int) : Option Int :=
 some (List.length x0 : Int) >>= fun v0 =>
 if x4 < v0 then
 ix x0 x4 >>= fun v1 =>
 some (wr (x3 * v1) : Int) >>= fun v2 =>
 G6 x0 v2 (wr (x4 + (1 : Int)))
 else
 some x3
 partial_fixpoint
end Go.Proofs.YtokfigmmegifeaaGreat
end
