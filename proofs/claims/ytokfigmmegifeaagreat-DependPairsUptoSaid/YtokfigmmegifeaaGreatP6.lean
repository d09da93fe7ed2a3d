/- Proved in the last of these texts: for every input of bulk at most 1048576 the law returns true and its arguments read afterwards as they read before. This text: a part of the proof. -/
import Derived.Test.YtokfigmmegifeaaGreatP5
noncomputable section
namespace Go.Proofs.YtokfigmmegifeaaGreat
open Go HY
set_option maxRecDepth 1000000
set_option linter.unusedVariables false
def CY (x0 : Int) (x1 : Int) (x2 : Int) : Option (gVal × Int) :=
 some (wr ((0 : Int) - x1) : Int) >>= fun v0 =>
 if x0 == 4 then
 some (wr (x1 + x2) : Int) >>= fun v1 =>
 some ((gVal.mk (0 : Int) (0 : Int)), v1) >>= fun v2 =>
 (if 2147483647 < v1 then
 some true
 else
 if v1 < (-2147483647 : Int) then
 some true
 else
 some false) >>= fun v3 => if v3 then
 some ((gVal.mk (0 : Int) (0 : Int))) >>= fun v5 =>
 some (v5, (3 : Int))
 else
 some ((gVal.mk v2.snd (1 : Int))) >>= fun v7 =>
 some (v7, (0 : Int))
 else
 if x0 == 5 then
 some (wr (x1 - x2) : Int) >>= fun v8 =>
 some ((gVal.mk (0 : Int) (0 : Int)), v8) >>= fun v9 =>
 (if 2147483647 < v8 then
 some true
 else
 if v8 < (-2147483647 : Int) then
 some true
 else
 some false) >>= fun v10 => if v10 then
 some ((gVal.mk (0 : Int) (0 : Int))) >>= fun v12 =>
 some (v12, (3 : Int))
 else
 some ((gVal.mk v9.snd (1 : Int))) >>= fun v14 =>
 some (v14, (0 : Int))
 else
 if x0 == 6 then
 some (wr (x1 * x2) : Int) >>= fun v15 =>
 some ((gVal.mk (0 : Int) (0 : Int)), v15) >>= fun v16 =>
 (if 2147483647 < v15 then
 some true
 else
 if v15 < (-2147483647 : Int) then
 some true
 else
 some false) >>= fun v17 => if v17 then
 some ((gVal.mk (0 : Int) (0 : Int))) >>= fun v19 =>
 some (v19, (3 : Int))
 else
 some ((gVal.mk v16.snd (1 : Int))) >>= fun v21 =>
 some (v21, (0 : Int))
 else
 if x0 == 7 then
 if x2 == 0 then
 some ((gVal.mk (0 : Int) (0 : Int))) >>= fun v22 =>
 some (v22, (4 : Int))
 else
 some (gVal.mk (0 : Int) (0 : Int)) >>= fun v23 =>
 (if x2 < 0 then
 some (wr ((0 : Int) - x1) : Int) >>= fun v25 =>
 some (wr ((0 : Int) - x2) : Int) >>= fun v26 =>
 some (v25, v26)
 else
 some (x1, x2)) >>= fun v27 =>
 U1 v27.fst v27.snd >>= fun v28 =>
 some (v28 : Int) >>= fun v29 =>
 some (v23, v29) >>= fun v30 =>
 (if 2147483647 < v29 then
 some true
 else
 if v29 < (-2147483647 : Int) then
 some true
 else
 some false) >>= fun v31 => if v31 then
 some ((gVal.mk (0 : Int) (0 : Int))) >>= fun v33 =>
 some (v33, (3 : Int))
 else
 some ((gVal.mk v30.snd (1 : Int))) >>= fun v35 =>
 some (v35, (0 : Int))
 else
 some ((gVal.mk (0 : Int) (0 : Int)), v0) >>= fun v36 =>
 (if 2147483647 < v0 then
 some true
 else
 if v0 < (-2147483647 : Int) then
 some true
 else
 some false) >>= fun v37 => if v37 then
 some ((gVal.mk (0 : Int) (0 : Int))) >>= fun v39 =>
 some (v39, (3 : Int))
 else
 some ((gVal.mk v36.snd (1 : Int))) >>= fun v41 =>
 some (v41, (0 : Int))
theorem At (x0 : Int) (x1 : Int) (x2 : Int) (r : (gVal × Int)) (h : CY x0 x1 x2 = some r) : PU 142 [eI x0, eI x1, eI x2] (Qo r) :=
 Pu2 (hs := [(8, .n eI 8 none), (13, .split), (8, .n eI 8 none), (18, .split), (8, .n eI 8 none), (23, .split), (8, .n eI 8 none), (28, .split), (30, .split), (31, .n Qk 31 none), (33, .split), (1, .n eI 1 none), (2, .n eI 2 none), (40, .c eI), (42, .split), (45, .split), (47, .n Qk 47 none), (49, .n Qk 49 none), (6000014, .l [] [] [] [1, 2, 6] [kk 6] (GD ())), (5000016, .l [] [] [] [6, 8, 46] [kk 6] (QO ()))]) ((kN (wr ((0 : Int) - x1)) rfl fun v0 => (kIf (c := x0 == 4) (kN (wr (x1 + x2)) rfl fun v1 => (kJb (id := 5000016) ((gVal.mk (0 : Int) (0 : Int)), v1) (fun v2 ev2 v3 => (kIfD (p := 2147483647 < v1) (kXj (alts := QO ()) ev2 true (.here () rfl (.refl _) (.refl _)))
 (kIfD (p := v1 < (-2147483647 : Int)) (kXj (alts := QO ()) ev2 true (.here () rfl (.refl _) (.refl _)))
 (kXj (alts := QO ()) ev2 false (.next (.here () rfl (.refl _) (.refl _)))))))
 (fun v2 => (kW (sh := Qk) (gVal.mk (0 : Int) (0 : Int)) lr fun v5 => (kEr (enc := Qo) (v5, (3 : Int)))))
 (fun v2 => (kW (sh := Qk) (gVal.mk v2.snd (1 : Int)) lr fun v7 => (kEr (enc := Qo) (v7, (0 : Int)))))))
 (kIf (c := x0 == 5) (kN (wr (x1 - x2)) rfl fun v8 => (kJb (id := 5000016) ((gVal.mk (0 : Int) (0 : Int)), v8) (fun v9 ev9 v10 => (kIfD (p := 2147483647 < v8) (kXj (alts := QO ()) ev9 true (.here () rfl (.refl _) (.refl _)))
 (kIfD (p := v8 < (-2147483647 : Int)) (kXj (alts := QO ()) ev9 true (.here () rfl (.refl _) (.refl _)))
 (kXj (alts := QO ()) ev9 false (.next (.here () rfl (.refl _) (.refl _)))))))
 (fun v9 => (kW (sh := Qk) (gVal.mk (0 : Int) (0 : Int)) lr fun v12 => (kEr (enc := Qo) (v12, (3 : Int)))))
 (fun v9 => (kW (sh := Qk) (gVal.mk v9.snd (1 : Int)) lr fun v14 => (kEr (enc := Qo) (v14, (0 : Int)))))))
 (kIf (c := x0 == 6) (kN (wr (x1 * x2)) rfl fun v15 => (kJb (id := 5000016) ((gVal.mk (0 : Int) (0 : Int)), v15) (fun v16 ev16 v17 => (kIfD (p := 2147483647 < v15) (kXj (alts := QO ()) ev16 true (.here () rfl (.refl _) (.refl _)))
 (kIfD (p := v15 < (-2147483647 : Int)) (kXj (alts := QO ()) ev16 true (.here () rfl (.refl _) (.refl _)))
 (kXj (alts := QO ()) ev16 false (.next (.here () rfl (.refl _) (.refl _)))))))
 (fun v16 => (kW (sh := Qk) (gVal.mk (0 : Int) (0 : Int)) lr fun v19 => (kEr (enc := Qo) (v19, (3 : Int)))))
 (fun v16 => (kW (sh := Qk) (gVal.mk v16.snd (1 : Int)) lr fun v21 => (kEr (enc := Qo) (v21, (0 : Int)))))))
 (kIf (c := x0 == 7) (kIf (c := x2 == 0) (kW (sh := Qk) (gVal.mk (0 : Int) (0 : Int)) lr fun v22 => (kEr (enc := Qo) (v22, (4 : Int))))
 (kJ1 (id := 6000014) (gVal.mk (0 : Int) (0 : Int)) (fun v23 ev23 v24 => (kIfD (p := x2 < 0) (kN (wr ((0 : Int) - x1)) rfl fun v25 => (kN (wr ((0 : Int) - x2)) rfl fun v26 => (kXj (alts := GD ()) ev23 (v25, v26) (.here _ rfl (.refl _) (.refl _)))))
 (kXj (alts := GD ()) ev23 (x1, x2) (.here _ rfl (.refl _) (.refl _)))))
 (fun v23 v27 => (kC (sh := eI) (Wc v27.fst v27.snd) fun v28 => (kN v28 rfl fun v29 => (kJb (id := 5000016) (v23, v29) (fun v30 ev30 v31 => (kIfD (p := 2147483647 < v29) (kXj (alts := QO ()) ev30 true (.here () rfl (.refl _) (.refl _)))
 (kIfD (p := v29 < (-2147483647 : Int)) (kXj (alts := QO ()) ev30 true (.here () rfl (.refl _) (.refl _)))
 (kXj (alts := QO ()) ev30 false (.next (.here () rfl (.refl _) (.refl _)))))))
 (fun v30 => (kW (sh := Qk) (gVal.mk (0 : Int) (0 : Int)) lr fun v33 => (kEr (enc := Qo) (v33, (3 : Int)))))
 (fun v30 => (kW (sh := Qk) (gVal.mk v30.snd (1 : Int)) lr fun v35 => (kEr (enc := Qo) (v35, (0 : Int)))))))))))
 (kJb (id := 5000016) ((gVal.mk (0 : Int) (0 : Int)), v0) (fun v36 ev36 v37 => (kIfD (p := 2147483647 < v0) (kXj (alts := QO ()) ev36 true (.here () rfl (.refl _) (.refl _)))
 (kIfD (p := v0 < (-2147483647 : Int)) (kXj (alts := QO ()) ev36 true (.here () rfl (.refl _) (.refl _)))
 (kXj (alts := QO ()) ev36 false (.next (.here () rfl (.refl _) (.refl _)))))))
 (fun v36 => (kW (sh := Qk) (gVal.mk (0 : Int) (0 : Int)) lr fun v39 => (kEr (enc := Qo) (v39, (3 : Int)))))
 (fun v36 => (kW (sh := Qk) (gVal.mk v36.snd (1 : Int)) lr fun v41 => (kEr (enc := Qo) (v41, (0 : Int))))))))))) h)
def Uf (s : (gVal × gVal)) (u : gVal) (o : Bool) : List Alt := jb o (fun b => [.ptr 0 0 0, .ptr 1 0 0, .ptr 2 0 0, .bool b]) [.cells 0 (Qk (s.1)).cells, .cells 0 (Qk (s.2)).cells, .cells 0 (Qk u).cells]
def Nh (x0 : gVal) (x1 : gVal) : Option (gVal × Int) :=
 some (gVal.mk (0 : Int) (0 : Int)) >>= fun v0 =>
 (ZH x0 >>= fun v2 => if v2 then
 ZH x1 >>= fun v3 => if v3 then
 some false
 else
 some true
 else
 some true) >>= fun v1 => if v1 then
 some ((gVal.mk (0 : Int) (0 : Int))) >>= fun v5 =>
 some (v5, (1 : Int))
 else
 Uo (wr (wr (x0.fN * x1.fD) + wr (x1.fN * x0.fD))) (wr (x0.fD * x1.fD)) >>= fun v7 =>
 some (v7.fst, v7.snd)
theorem OA (x0 : gVal) (x1 : gVal) (r : (gVal × Int)) (h : Nh x0 x1 = some r) : PU 143 [Qk x0, Qk x1] (Qo r) :=
 Pu2 (hs := [(7, .cb), (11, .cb), (14, .n Qk 14 none), (31, .c Qo), (5000001, .l [] [] [] [2, 3, 4, 13] [kk 2, kk 3, kk 4] (Uf (x0, x1)))]) ((kJb (id := 5000001) (gVal.mk (0 : Int) (0 : Int)) (fun v0 ev0 v1 => (kCb (Y9 x0) (kCb (Y9 x1) (kXj (alts := Uf (x0, x1)) ev0 false (.next (.here () rfl (.refl _) (.refl _))))
 (kXj (alts := Uf (x0, x1)) ev0 true (.here () rfl (.refl _) (.refl _))))
 (kXj (alts := Uf (x0, x1)) ev0 true (.here () rfl (.refl _) (.refl _)))))
 (fun v0 => (kW (sh := Qk) (gVal.mk (0 : Int) (0 : Int)) lr fun v5 => (kEr (enc := Qo) (v5, (1 : Int)))))
 (fun v0 => (kC (sh := Qo) (CM (wr (wr (x0.fN * x1.fD) + wr (x1.fN * x0.fD))) (wr (x0.fD * x1.fD))) fun v7 => (kEr (enc := Qo) (v7.fst, v7.snd))))) h)
def Ui (s : (gVal × gVal)) (u : gVal) (o : Bool) : List Alt := jb o (fun b => [.ptr 0 0 0, .ptr 1 0 0, .ptr 2 0 0, .bool b]) [.cells 0 (Qk (s.1)).cells, .cells 0 (Qk (s.2)).cells, .cells 0 (Qk u).cells]
def Nl (x0 : gVal) (x1 : gVal) : Option (gVal × Int) :=
 some (gVal.mk (0 : Int) (0 : Int)) >>= fun v0 =>
 (ZH x0 >>= fun v2 => if v2 then
 ZH x1 >>= fun v3 => if v3 then
 some false
 else
 some true
 else
 some true) >>= fun v1 => if v1 then
 some ((gVal.mk (0 : Int) (0 : Int))) >>= fun v5 =>
 some (v5, (1 : Int))
 else
 Uo (wr (wr (x0.fN * x1.fD) - wr (x1.fN * x0.fD))) (wr (x0.fD * x1.fD)) >>= fun v7 =>
 some (v7.fst, v7.snd)
theorem OE (x0 : gVal) (x1 : gVal) (r : (gVal × Int)) (h : Nl x0 x1 = some r) : PU 144 [Qk x0, Qk x1] (Qo r) :=
 Pu2 (hs := [(7, .cb), (11, .cb), (14, .n Qk 14 none), (31, .c Qo), (5000001, .l [] [] [] [2, 3, 4, 13] [kk 2, kk 3, kk 4] (Ui (x0, x1)))]) ((kJb (id := 5000001) (gVal.mk (0 : Int) (0 : Int)) (fun v0 ev0 v1 => (kCb (Y9 x0) (kCb (Y9 x1) (kXj (alts := Ui (x0, x1)) ev0 false (.next (.here () rfl (.refl _) (.refl _))))
 (kXj (alts := Ui (x0, x1)) ev0 true (.here () rfl (.refl _) (.refl _))))
 (kXj (alts := Ui (x0, x1)) ev0 true (.here () rfl (.refl _) (.refl _)))))
 (fun v0 => (kW (sh := Qk) (gVal.mk (0 : Int) (0 : Int)) lr fun v5 => (kEr (enc := Qo) (v5, (1 : Int)))))
 (fun v0 => (kC (sh := Qo) (CM (wr (wr (x0.fN * x1.fD) - wr (x1.fN * x0.fD))) (wr (x0.fD * x1.fD))) fun v7 => (kEr (enc := Qo) (v7.fst, v7.snd))))) h)
def Uh (s : (gVal × gVal)) (u : gVal) (o : Bool) : List Alt := jb o (fun b => [.ptr 0 0 0, .ptr 1 0 0, .ptr 2 0 0, .bool b]) [.cells 0 (Qk (s.1)).cells, .cells 0 (Qk (s.2)).cells, .cells 0 (Qk u).cells]
def Nj (x0 : gVal) (x1 : gVal) : Option (gVal × Int) :=
 some (gVal.mk (0 : Int) (0 : Int)) >>= fun v0 =>
 (ZH x0 >>= fun v2 => if v2 then
 ZH x1 >>= fun v3 => if v3 then
 some false
 else
 some true
 else
 some true) >>= fun v1 => if v1 then
 some ((gVal.mk (0 : Int) (0 : Int))) >>= fun v5 =>
 some (v5, (1 : Int))
 else
 Uo (wr (x0.fN * x1.fN)) (wr (x0.fD * x1.fD)) >>= fun v7 =>
 some (v7.fst, v7.snd)
theorem OC (x0 : gVal) (x1 : gVal) (r : (gVal × Int)) (h : Nj x0 x1 = some r) : PU 145 [Qk x0, Qk x1] (Qo r) :=
 Pu2 (hs := [(7, .cb), (11, .cb), (14, .n Qk 14 none), (25, .c Qo), (5000001, .l [] [] [] [2, 3, 4, 13] [kk 2, kk 3, kk 4] (Uh (x0, x1)))]) ((kJb (id := 5000001) (gVal.mk (0 : Int) (0 : Int)) (fun v0 ev0 v1 => (kCb (Y9 x0) (kCb (Y9 x1) (kXj (alts := Uh (x0, x1)) ev0 false (.next (.here () rfl (.refl _) (.refl _))))
 (kXj (alts := Uh (x0, x1)) ev0 true (.here () rfl (.refl _) (.refl _))))
 (kXj (alts := Uh (x0, x1)) ev0 true (.here () rfl (.refl _) (.refl _)))))
 (fun v0 => (kW (sh := Qk) (gVal.mk (0 : Int) (0 : Int)) lr fun v5 => (kEr (enc := Qo) (v5, (1 : Int)))))
 (fun v0 => (kC (sh := Qo) (CM (wr (x0.fN * x1.fN)) (wr (x0.fD * x1.fD))) fun v7 => (kEr (enc := Qo) (v7.fst, v7.snd))))) h)
def Ug (s : (gVal × gVal)) (u : gVal) (o : Bool) : List Alt := jb o (fun b => [.ptr 0 0 0, .ptr 1 0 0, .ptr 2 0 0, .bool b]) [.cells 0 (Qk (s.1)).cells, .cells 0 (Qk (s.2)).cells, .cells 0 (Qk u).cells]
def Ni (x0 : gVal) (x1 : gVal) : Option (gVal × Int) :=
 some (gVal.mk (0 : Int) (0 : Int)) >>= fun v0 =>
 (ZH x0 >>= fun v2 => if v2 then
 ZH x1 >>= fun v3 => if v3 then
 some false
 else
 some true
 else
 some true) >>= fun v1 => if v1 then
 some ((gVal.mk (0 : Int) (0 : Int))) >>= fun v5 =>
 some (v5, (1 : Int))
 else
 Uo (wr (x0.fN * x1.fD)) (wr (x0.fD * x1.fN)) >>= fun v7 =>
 some (v7.fst, v7.snd)
theorem OB (x0 : gVal) (x1 : gVal) (r : (gVal × Int)) (h : Ni x0 x1 = some r) : PU 146 [Qk x0, Qk x1] (Qo r) :=
 Pu2 (hs := [(7, .cb), (11, .cb), (14, .n Qk 14 none), (25, .c Qo), (5000001, .l [] [] [] [2, 3, 4, 13] [kk 2, kk 3, kk 4] (Ug (x0, x1)))]) ((kJb (id := 5000001) (gVal.mk (0 : Int) (0 : Int)) (fun v0 ev0 v1 => (kCb (Y9 x0) (kCb (Y9 x1) (kXj (alts := Ug (x0, x1)) ev0 false (.next (.here () rfl (.refl _) (.refl _))))
 (kXj (alts := Ug (x0, x1)) ev0 true (.here () rfl (.refl _) (.refl _))))
 (kXj (alts := Ug (x0, x1)) ev0 true (.here () rfl (.refl _) (.refl _)))))
 (fun v0 => (kW (sh := Qk) (gVal.mk (0 : Int) (0 : Int)) lr fun v5 => (kEr (enc := Qo) (v5, (1 : Int)))))
 (fun v0 => (kC (sh := Qo) (CM (wr (x0.fN * x1.fD)) (wr (x0.fD * x1.fN))) fun v7 => (kEr (enc := Qo) (v7.fst, v7.snd))))) h)
def Nk (x0 : gVal) : Option gVal :=
 ZH x0 >>= fun v0 => if v0 then
 some ((gVal.mk (wr ((0 : Int) - x0.fN)) x0.fD)) >>= fun v1 =>
 some v1
 else
 some ((gVal.mk (0 : Int) (0 : Int))) >>= fun v2 =>
 some v2
theorem OD (x0 : gVal) (r : gVal) (h : Nk x0 = some r) : PU 147 [Qk x0] (Qk r) :=
 Pu2 (hs := [(4, .cb), (6, .n Qk 6 none), (12, .n Qk 12 none)]) ((kCb (Y9 x0) (kW (sh := Qk) (gVal.mk (wr ((0 : Int) - x0.fN)) x0.fD) lr fun v1 => (kEr (enc := Qk) v1))
 (kW (sh := Qk) (gVal.mk (0 : Int) (0 : Int)) lr fun v2 => (kEr (enc := Qk) v2))) h)
def VS (s : (Int × Qg × gVal × gVal)) (u : gVal) (o : Bool) : List Alt := jb o (fun b => [ii (s.1), .ptr 0 0 0, .ptr 1 0 0, .ptr 2 0 0, .ptr 3 0 0, .bool b]) [.cells 0 (Qy (s.2.1)).cells, .cells 0 (Qk (s.2.2.1)).cells, .cells 0 (Qk (s.2.2.2)).cells, .cells 0 (Qk u).cells]
def K7 (s : (Int × Qg × gVal × gVal)) (u : gVal) (o : Bool) : List Alt := jb o (fun b => [ii (s.1), .ptr 0 0 0, .ptr 1 0 0, .ptr 2 0 0, .ptr 3 0 0, .bool b]) [.cells 0 (Qy (s.2.1)).cells, .cells 0 (Qk (s.2.2.1)).cells, .cells 0 (Qk (s.2.2.2)).cells, .cells 0 (Qk u).cells]
def VT (s : (Int × Qg × gVal × gVal)) (u : gVal) (o : Bool) : List Alt := jb o (fun b => [ii (s.1), .ptr 0 0 0, .ptr 1 0 0, .ptr 2 0 0, .ptr 3 0 0, .bool b]) [.cells 0 (Qy (s.2.1)).cells, .cells 0 (Qk (s.2.2.1)).cells, .cells 0 (Qk (s.2.2.2)).cells, .cells 0 (Qk u).cells]
def CW (x0 : Int) (x1 : Qg) (x2 : gVal) (x3 : gVal) : Option (gVal × Int) :=
 some (gVal.mk (0 : Int) (0 : Int)) >>= fun v0 =>
 (if x0 < 4 then
 some true
 else
 if 10 < x0 then
 some true
 else
 some false) >>= fun v1 => if v1 then
 some ((gVal.mk (0 : Int) (0 : Int))) >>= fun v3 =>
 some (v3, (1 : Int))
 else
 XC x1 >>= fun v5 => if v5 then
 some v0 >>= fun v6 =>
 (Kl x1 x2 >>= fun v8 => if v8 then
 if x0 != 8 then
 Kl x1 x3 >>= fun v9 => if v9 then
 some false
 else
 some true
 else
 some false
 else
 some true) >>= fun v7 => if v7 then
 some ((gVal.mk (0 : Int) (0 : Int))) >>= fun v11 =>
 some (v11, (1 : Int))
 else
 some v6 >>= fun v13 =>
 (if x0 == 9 then
 some true
 else
 if x0 == 10 then
 some true
 else
 some false) >>= fun v14 => if v14 then
 Gp x1 x2 x3 >>= fun v16 =>
 if decide (0 < v16) == (x0 == 9) then
 some (x3, (0 : Int))
 else
 some (x2, (0 : Int))
 else
 if x1.fKind == 2 then
 Nn x0 x1 x2.fN x3.fN >>= fun v18 =>
 some (v18.fst, v18.snd)
 else
 if x1.fKind == 3 then
 CY x0 x2.fN x3.fN >>= fun v19 =>
 some (v19.fst, v19.snd)
 else
 if x0 == 4 then
 Nh x2 x3 >>= fun v20 =>
 some (v20.fst, v20.snd)
 else
 if x0 == 5 then
 Nl x2 x3 >>= fun v21 =>
 some (v21.fst, v21.snd)
 else
 if x0 == 6 then
 Nj x2 x3 >>= fun v22 =>
 some (v22.fst, v22.snd)
 else
 if x0 == 7 then
 Ni x2 x3 >>= fun v23 =>
 some (v23.fst, v23.snd)
 else
 Nk x2 >>= fun v24 =>
 some (v24, (0 : Int))
 else
 some ((gVal.mk (0 : Int) (0 : Int))) >>= fun v25 =>
 some (v25, (10 : Int))
theorem Ar (x0 : Int) (x1 : Qg) (x2 : gVal) (x3 : gVal) (r : (gVal × Int)) (h : CW x0 x1 x2 x3 = some r) : PU 122 [eI x0, Qy x1, Qk x2, Qk x3] (Qo r) :=
 Pu2 (hs := [(11, .split), (14, .split), (16, .n Qk 16 none), (18, .cb), (20, .n Qk 20 none), (23, .cb), (27, .split), (31, .cb), (35, .n Qk 35 none), (37, .split), (40, .split), (45, .c eI), (49, .split), (54, .split), (61, .c Qo), (66, .split), (72, .c Qo), (77, .split), (80, .c Qo), (84, .split), (87, .c Qo), (91, .split), (94, .c Qo), (98, .split), (101, .c Qo), (105, .c Qk), (5000001, .l [] [] [] [0, 5, 6, 7, 8, 15] [kk 5, kk 6, kk 7, kk 8] (VS (x0, x1, x2, x3))), (5000005, .l [] [] [] [0, 5, 6, 7, 8, 34] [kk 5, kk 6, kk 7, kk 8] (K7 (x0, x1, x2, x3))), (5000007, .l [] [] [] [0, 5, 6, 7, 8, 41] [kk 5, kk 6, kk 7, kk 8] (VT (x0, x1, x2, x3)))]) ((kJb (id := 5000001) (gVal.mk (0 : Int) (0 : Int)) (fun v0 ev0 v1 => (kIfD (p := x0 < 4) (kXj (alts := VS (x0, x1, x2, x3)) ev0 true (.here () rfl (.refl _) (.refl _)))
 (kIfD (p := 10 < x0) (kXj (alts := VS (x0, x1, x2, x3)) ev0 true (.here () rfl (.refl _) (.refl _)))
 (kXj (alts := VS (x0, x1, x2, x3)) ev0 false (.next (.here () rfl (.refl _) (.refl _)))))))
 (fun v0 => (kW (sh := Qk) (gVal.mk (0 : Int) (0 : Int)) lr fun v3 => (kEr (enc := Qo) (v3, (1 : Int)))))
 (fun v0 => (kCb (Up x1) (kJb (id := 5000005) v0 (fun v6 ev6 v7 => (kCb (DG x1 x2) (kIf (c := x0 != 8) (kCb (DG x1 x3) (kXj (alts := K7 (x0, x1, x2, x3)) ev6 false (.next (.here () rfl (.refl _) (.refl _))))
 (kXj (alts := K7 (x0, x1, x2, x3)) ev6 true (.here () rfl (.refl _) (.refl _))))
 (kXj (alts := K7 (x0, x1, x2, x3)) ev6 false (.next (.here () rfl (.refl _) (.refl _)))))
 (kXj (alts := K7 (x0, x1, x2, x3)) ev6 true (.here () rfl (.refl _) (.refl _)))))
 (fun v6 => (kW (sh := Qk) (gVal.mk (0 : Int) (0 : Int)) lr fun v11 => (kEr (enc := Qo) (v11, (1 : Int)))))
 (fun v6 => (kJb (id := 5000007) v6 (fun v13 ev13 v14 => (kIf (c := x0 == 9) (kXj (alts := VT (x0, x1, x2, x3)) ev13 true (.here () rfl (.refl _) (.refl _)))
 (kIf (c := x0 == 10) (kXj (alts := VT (x0, x1, x2, x3)) ev13 true (.here () rfl (.refl _) (.refl _)))
 (kXj (alts := VT (x0, x1, x2, x3)) ev13 false (.next (.here () rfl (.refl _) (.refl _)))))))
 (fun v13 => (kC (sh := eI) (MM x1 x2 x3) fun v16 => (kIf (c := decide (0 < v16) == (x0 == 9)) (kEr (enc := Qo) (x3, (0 : Int)))
 (kEr (enc := Qo) (x2, (0 : Int))))))
 (fun v13 => (kIf (c := x1.fKind == 2) (kC (sh := Qo) (OG x0 x1 x2.fN x3.fN) fun v18 => (kEr (enc := Qo) (v18.fst, v18.snd)))
 (kIf (c := x1.fKind == 3) (kC (sh := Qo) (At x0 x2.fN x3.fN) fun v19 => (kEr (enc := Qo) (v19.fst, v19.snd)))
 (kIf (c := x0 == 4) (kC (sh := Qo) (OA x2 x3) fun v20 => (kEr (enc := Qo) (v20.fst, v20.snd)))
 (kIf (c := x0 == 5) (kC (sh := Qo) (OE x2 x3) fun v21 => (kEr (enc := Qo) (v21.fst, v21.snd)))
 (kIf (c := x0 == 6) (kC (sh := Qo) (OC x2 x3) fun v22 => (kEr (enc := Qo) (v22.fst, v22.snd)))
 (kIf (c := x0 == 7) (kC (sh := Qo) (OB x2 x3) fun v23 => (kEr (enc := Qo) (v23.fst, v23.snd)))
 (kC (sh := Qk) (OD x2) fun v24 => (kEr (enc := Qo) (v24, (0 : Int))))))))))))))
 (kW (sh := Qk) (gVal.mk (0 : Int) (0 : Int)) lr fun v25 => (kEr (enc := Qo) (v25, (10 : Int))))))) h)
def VZ (s : ((List XN) × (List Qc) × Q1)) (u : (Bool × Int)) (o : Bool) : List Alt := jb o (fun b => [.sl 8 (List.map VO (s.1)), .sl 2 (List.map Qd (s.2.1)), .ptr 0 0 0, .bool (u.1), ii (u.2), .bool b]) [.cells 0 (Q6 (s.2.2)).cells]
def GH (s : Q1) (u : (QF × QF)) (o : QF) : List Alt := [⟨fun (x : QF) => x = o, .normal, fun x => [.ptr 0 0 0, .ptr 1 0 0, .ptr 2 0 0, .ptr 3 0 0], fun x => [.cells 0 (Q6 s).cells, .cells 0 (Qs (u.1)).cells, .cells 0 (Qs (u.2)).cells, .cells 0 (Qs x).cells]⟩]
mutual
def Xt (x0 : List XN) (x1 : List Qc) (x2 : Q1) : Option (Bool × Int) :=
 if 16 ≤ x2.fOp then
 Option.map Q9.f (ix x2.fArgs (0 : Int)) >>= fun v0 =>
 Xt x0 x1 v0 >>= fun v1 =>
 some (v1.fst, v1.snd) >>= fun v2 =>
 (if v1.snd != 0 then
 some true
 else
 if x2.fOp == 18 then
 some true
 else
 some false) >>= fun v3 => if v3 then
 if v2.snd == 0 then
 some ((!v2.fst), v2.snd)
 else
 some (false, v2.snd)
 else
 Option.map Q9.f (ix x2.fArgs (1 : Int)) >>= fun v6 =>
 Xt x0 x1 v6 >>= fun v7 =>
 if v7.snd != 0 then
 some (false, v7.snd)
 else
 if x2.fOp == 16 then
 if v2.fst then
 if v7.fst then
 some (true, (0 : Int))
 else
 if x2.fOp == 17 then
 if v2.fst then
 some (true, (0 : Int))
 else
 some (v7.fst, (0 : Int))
 else
 some (false, (0 : Int))
 else
 if x2.fOp == 17 then
 if v2.fst then
 some (true, (0 : Int))
 else
 some (v7.fst, (0 : Int))
 else
 some (false, (0 : Int))
 else
 if x2.fOp == 17 then
 if v2.fst then
 some (true, (0 : Int))
 else
 some (v7.fst, (0 : Int))
 else
 some (false, (0 : Int))
 else
 Option.map Q9.f (ix x2.fArgs (0 : Int)) >>= fun v8 =>
 Xu x0 x1 v8 >>= fun v9 =>
 if v9.fE != 0 then
 some (false, v9.fE)
 else
 Option.map Q9.f (ix x2.fArgs (1 : Int)) >>= fun v10 =>
 Xu x0 x1 v10 >>= fun v11 =>
 if v11.fE != 0 then
 some (false, v11.fE)
 else
 if !(v9.fT.fKind == v11.fT.fKind && (v9.fT.fBits == v11.fT.fBits && (v9.fT.fFrac == v11.fT.fFrac && (v9.fT.fRound == v11.fT.fRound && (v9.fT.fOver == v11.fT.fOver && true))))) then
 some (false, (10 : Int))
 else
 Gp v9.fT v9.fV v11.fV >>= fun v12 =>
 if v12 < 0 then
 if x2.fOp != 15 then
 some (true, (0 : Int))
 else
 if v12 == 0 then
 some ((x2.fOp != 13), (0 : Int))
 else
 some (false, (0 : Int))
 else
 if v12 == 0 then
 some ((x2.fOp != 13), (0 : Int))
 else
 some (false, (0 : Int))
 partial_fixpoint
def Xu (x0 : List XN) (x1 : List Qc) (x2 : Q1) : Option QF :=
 if x2.fOp ≤ 3 then
 Wz x0 x1 x2 >>= fun v0 =>
 some v0
 else
 if x2.fOp == 11 then
 Option.map Q9.f (ix x2.fArgs (0 : Int)) >>= fun v1 =>
 Xt x0 x1 v1 >>= fun v2 =>
 if v2.snd != 0 then
 some ((QF.mk (gVal.mk (0 : Int) (0 : Int)) (Qg.mk (0 : Int) (0 : Int) (0 : Int) (0 : Int) (0 : Int)) v2.snd)) >>= fun v3 =>
 some v3
 else
 if v2.fst then
 Option.map Q9.f (ix x2.fArgs (1 : Int)) >>= fun v4 =>
 Xu x0 x1 v4 >>= fun v5 =>
 some v5
 else
 Option.map Q9.f (ix x2.fArgs (2 : Int)) >>= fun v6 =>
 Xu x0 x1 v6 >>= fun v7 =>
 some v7
 else
 Option.map Q9.f (ix x2.fArgs (0 : Int)) >>= fun v8 =>
 Xu x0 x1 v8 >>= fun v9 =>
 if v9.fE != 0 then
 some v9
 else
 if x2.fOp == 12 then
 Wu v9.fT x2.fType v9.fV >>= fun v10 =>
 if v10.snd != 0 then
 some ((QF.mk (gVal.mk (0 : Int) (0 : Int)) (Qg.mk (0 : Int) (0 : Int) (0 : Int) (0 : Int) (0 : Int)) v10.snd)) >>= fun v11 =>
 some v11
 else
 some ((QF.mk v10.fst x2.fType (0 : Int))) >>= fun v12 =>
 some v12
 else
 some ((QF.mk (gVal.mk (0 : Int) (0 : Int)) (Qg.mk (0 : Int) (0 : Int) (0 : Int) (0 : Int) (0 : Int)) (0 : Int)), v9) >>= fun v13 =>
 (if x2.fOp != 8 then
 Option.map Q9.f (ix x2.fArgs (1 : Int)) >>= fun v15 =>
 Xu x0 x1 v15 >>= fun v16 =>
 some v16
 else
 some v9) >>= fun v17 =>
 if v17.fE != 0 then
 some v17
 else
 if !(v13.snd.fT.fKind == v17.fT.fKind && (v13.snd.fT.fBits == v17.fT.fBits && (v13.snd.fT.fFrac == v17.fT.fFrac && (v13.snd.fT.fRound == v17.fT.fRound && (v13.snd.fT.fOver == v17.fT.fOver && true))))) then
 some ((QF.mk (gVal.mk (0 : Int) (0 : Int)) (Qg.mk (0 : Int) (0 : Int) (0 : Int) (0 : Int) (0 : Int)) (10 : Int))) >>= fun v18 =>
 some v18
 else
 CW x2.fOp v13.snd.fT v13.snd.fV v17.fV >>= fun v19 =>
 if v19.snd != 0 then
 some ((QF.mk (gVal.mk (0 : Int) (0 : Int)) (Qg.mk (0 : Int) (0 : Int) (0 : Int) (0 : Int) (0 : Int)) v19.snd)) >>= fun v20 =>
 some v20
 else
 some ((QF.mk v19.fst v13.snd.fT (0 : Int))) >>= fun v21 =>
 some v21
 partial_fixpoint
end
theorem S0 (x0 : List XN) (x1 : List Qc) : (∀ (x2 : Q1) (r : (Bool × Int)), Xt x0 x1 x2 = some r → PU 82 [US x0, QW x1, Q6 x2] (Zd r)) ∧ (∀ (x2 : Q1) (r : QF), Xu x0 x1 x2 = some r → PU 101 [US x0, QW x1, Q6 x2] (Qs r)) :=
 Xt.mutual_partial_correctness x0 x1 (fun x2 r => PU 82 [US x0, QW x1, Q6 x2] (Zd r)) (fun x2 r => PU 101 [US x0, QW x1, Q6 x2] (Qs r))
 (fun Xt Xu Q4a Q4c x2 r h  =>
 Pu2 (hs := [(17, .split), (23, .e Q6), (25, .c Zd), (29, .split), (33, .split), (36, .split), (47, .e Q6), (49, .c Zd), (53, .split), (57, .split), (59, .split), (62, .split), (67, .split), (69, .split), (79, .e Q6), (81, .c Qs), (84, .split), (91, .e Q6), (93, .c Qs), (96, .split), (103, .split), (110, .c eI), (112, .split), (116, .split), (120, .split), (5000003, .l [] [] [] [0, 1, 5, 8, 9, 34] [kk 5] (VZ (x0, x1, x2)))]) ((kIfD (p := 16 ≤ x2.fOp) (kIxR (l := x2.fArgs) (k := (0 : Int)) QZ fun v0 => (kC (sh := Zd) (Q4a v0) fun v1 => (kJb (id := 5000003) (v1.fst, v1.snd) (fun v2 ev2 v3 => (kIf (c := v1.snd != 0) (kXj (alts := VZ (x0, x1, x2)) ev2 true (.here () rfl (.refl _) (.refl _)))
 (kIf (c := x2.fOp == 18) (kXj (alts := VZ (x0, x1, x2)) ev2 true (.here () rfl (.refl _) (.refl _)))
 (kXj (alts := VZ (x0, x1, x2)) ev2 false (.next (.here () rfl (.refl _) (.refl _)))))))
 (fun v2 => (kIf (c := v2.snd == 0) (kEr (enc := Zd) ((!v2.fst), v2.snd))
 (kEr (enc := Zd) (false, v2.snd))))
 (fun v2 => (kIxR (l := x2.fArgs) (k := (1 : Int)) QZ fun v6 => (kC (sh := Zd) (Q4a v6) fun v7 => (kIf (c := v7.snd != 0) (kEr (enc := Zd) (false, v7.snd))
 (kIf (c := x2.fOp == 16) (kIf (c := v2.fst) (kIf (c := v7.fst) (kEr (enc := Zd) (true, (0 : Int)))
 (kIf (c := x2.fOp == 17) (kIf (c := v2.fst) (kEr (enc := Zd) (true, (0 : Int)))
 (kEr (enc := Zd) (v7.fst, (0 : Int))))
 (kEr (enc := Zd) (false, (0 : Int)))))
 (kIf (c := x2.fOp == 17) (kIf (c := v2.fst) (kEr (enc := Zd) (true, (0 : Int)))
 (kEr (enc := Zd) (v7.fst, (0 : Int))))
 (kEr (enc := Zd) (false, (0 : Int)))))
 (kIf (c := x2.fOp == 17) (kIf (c := v2.fst) (kEr (enc := Zd) (true, (0 : Int)))
 (kEr (enc := Zd) (v7.fst, (0 : Int))))
 (kEr (enc := Zd) (false, (0 : Int))))))))))))
 (kIxR (l := x2.fArgs) (k := (0 : Int)) QZ fun v8 => (kC (sh := Qs) (Q4c v8) fun v9 => (kIf (c := v9.fE != 0) (kEr (enc := Zd) (false, v9.fE))
 (kIxR (l := x2.fArgs) (k := (1 : Int)) QZ fun v10 => (kC (sh := Qs) (Q4c v10) fun v11 => (kIf (c := v11.fE != 0) (kEr (enc := Zd) (false, v11.fE))
 (kIf (c := !(v9.fT.fKind == v11.fT.fKind && (v9.fT.fBits == v11.fT.fBits && (v9.fT.fFrac == v11.fT.fFrac && (v9.fT.fRound == v11.fT.fRound && (v9.fT.fOver == v11.fT.fOver && true)))))) (kEr (enc := Zd) (false, (10 : Int)))
 (kC (sh := eI) (MM v9.fT v9.fV v11.fV) fun v12 => (kIfD (p := v12 < 0) (kIf (c := x2.fOp != 15) (kEr (enc := Zd) (true, (0 : Int)))
 (kIf (c := v12 == 0) (kEr (enc := Zd) ((x2.fOp != 13), (0 : Int)))
 (kEr (enc := Zd) (false, (0 : Int)))))
 (kIf (c := v12 == 0) (kEr (enc := Zd) ((x2.fOp != 13), (0 : Int)))
 (kEr (enc := Zd) (false, (0 : Int)))))))))))))) h))
 (fun Xt Xu Q4a Q4c x2 r h  =>
 Pu2 (hs := [(17, .split), (21, .c Qs), (24, .split), (30, .e Q6), (32, .c Zd), (37, .split), (39, .n Qs 39 none), (41, .split), (46, .e Q6), (48, .c Qs), (53, .e Q6), (55, .c Qs), (60, .e Q6), (62, .c Qs), (65, .split), (69, .split), (77, .c Qo), (81, .split), (83, .n Qs 83 none), (87, .n Qs 87 none), (91, .split), (96, .e Q6), (98, .c Qs), (101, .split), (107, .split), (108, .n Qs 108 none), (118, .c Qo), (122, .split), (124, .n Qs 124 none), (128, .n Qs 128 none), (6000021, .l [] [] [] [5, 6, 9, 12] [kk 5, kk 6, kk 9, kk 12] (GH x2))]) ((kIfD (p := x2.fOp ≤ 3) (kC (sh := Qs) (FM x0 x1 x2) fun v0 => (kEr (enc := Qs) v0))
 (kIf (c := x2.fOp == 11) (kIxR (l := x2.fArgs) (k := (0 : Int)) QZ fun v1 => (kC (sh := Zd) (Q4a v1) fun v2 => (kIf (c := v2.snd != 0) (kW (sh := Qs) (QF.mk (gVal.mk (0 : Int) (0 : Int)) (Qg.mk (0 : Int) (0 : Int) (0 : Int) (0 : Int) (0 : Int)) v2.snd) lr fun v3 => (kEr (enc := Qs) v3))
 (kIf (c := v2.fst) (kIxR (l := x2.fArgs) (k := (1 : Int)) QZ fun v4 => (kC (sh := Qs) (Q4c v4) fun v5 => (kEr (enc := Qs) v5)))
 (kIxR (l := x2.fArgs) (k := (2 : Int)) QZ fun v6 => (kC (sh := Qs) (Q4c v6) fun v7 => (kEr (enc := Qs) v7)))))))
 (kIxR (l := x2.fArgs) (k := (0 : Int)) QZ fun v8 => (kC (sh := Qs) (Q4c v8) fun v9 => (kIf (c := v9.fE != 0) (kEr (enc := Qs) v9)
 (kIf (c := x2.fOp == 12) (kC (sh := Qo) (FC v9.fT x2.fType v9.fV) fun v10 => (kIf (c := v10.snd != 0) (kW (sh := Qs) (QF.mk (gVal.mk (0 : Int) (0 : Int)) (Qg.mk (0 : Int) (0 : Int) (0 : Int) (0 : Int) (0 : Int)) v10.snd) lr fun v11 => (kEr (enc := Qs) v11))
 (kW (sh := Qs) (QF.mk v10.fst x2.fType (0 : Int)) lr fun v12 => (kEr (enc := Qs) v12))))
 (kJ1 (id := 6000021) ((QF.mk (gVal.mk (0 : Int) (0 : Int)) (Qg.mk (0 : Int) (0 : Int) (0 : Int) (0 : Int) (0 : Int)) (0 : Int)), v9) (fun v13 ev13 v14 => (kIf (c := x2.fOp != 8) (kIxR (l := x2.fArgs) (k := (1 : Int)) QZ fun v15 => (kC (sh := Qs) (Q4c v15) fun v16 => (kXj (alts := GH x2) ev13 v16 (.here _ rfl (.refl _) (.refl _)))))
 (kXj (alts := GH x2) ev13 v9 (.here _ rfl (.refl _) (.refl _)))))
 (fun v13 v17 => (kIf (c := v17.fE != 0) (kEr (enc := Qs) v17)
 (kIf (c := !(v13.snd.fT.fKind == v17.fT.fKind && (v13.snd.fT.fBits == v17.fT.fBits && (v13.snd.fT.fFrac == v17.fT.fFrac && (v13.snd.fT.fRound == v17.fT.fRound && (v13.snd.fT.fOver == v17.fT.fOver && true)))))) (kW (sh := Qs) (QF.mk (gVal.mk (0 : Int) (0 : Int)) (Qg.mk (0 : Int) (0 : Int) (0 : Int) (0 : Int) (0 : Int)) (10 : Int)) lr fun v18 => (kEr (enc := Qs) v18))
 (kC (sh := Qo) (Ar x2.fOp v13.snd.fT v13.snd.fV v17.fV) fun v19 => (kIf (c := v19.snd != 0) (kW (sh := Qs) (QF.mk (gVal.mk (0 : Int) (0 : Int)) (Qg.mk (0 : Int) (0 : Int) (0 : Int) (0 : Int) (0 : Int)) v19.snd) lr fun v20 => (kEr (enc := Qs) v20))
 (kW (sh := Qs) (QF.mk v19.fst v13.snd.fT (0 : Int)) lr fun v21 => (kEr (enc := Qs) v21)))))))))))))) h))
theorem AC (x0 : List XN) (x1 : List Qc) (x2 : Q1) (r : (Bool × Int)) (h : Xt x0 x1 x2 = some r) : PU 82 [US x0, QW x1, Q6 x2] (Zd r) := (S0 x0 x1).1 x2 r h
def GR (x0 : List XN) (x1 : List Qc) (x2 : Q1) : Option (Bool × Int) :=
 UN x2 >>= fun v0 =>
 if v0 != 0 then
 some (false, v0)
 else
 Zu x2 >>= fun v1 => if v1 then
 Xt x0 x1 x2 >>= fun v2 =>
 some (v2.fst, v2.snd)
 else
 some (false, (10 : Int))
theorem Em (x0 : List XN) (x1 : List Qc) (x2 : Q1) (r : (Bool × Int)) (h : GR x0 x1 x2 = some r) : PU 52 [US x0, QW x1, Q6 x2] (Zd r) :=
 Pu2 (hs := [(10, .c eI), (12, .split), (15, .cb), (20, .c Zd)]) ((kC (sh := eI) (Mm x2) fun v0 => (kIf (c := v0 != 0) (kEr (enc := Zd) (false, v0))
 (kCb (K4 x2) (kC (sh := Zd) (AC x0 x1 x2) fun v2 => (kEr (enc := Zd) (v2.fst, v2.snd)))
 (kEr (enc := Zd) (false, (10 : Int)))))) h)
def D6 (s : Int) (u : (Bool × Int)) (o : Int) : List Alt := [⟨fun (x : Int) => x = o, .normal, fun x => [ii s, .bool (u.1), .int .u64 x, .int .u64 (u.2)], fun x => []⟩]
def D7 (s : Unit) (u : (Bool × Int)) (o : Int) : List Alt := [⟨fun (x : Int) => x = o, .normal, fun x => [.bool (u.1), .int .u64 (u.2), .int .u64 x], fun x => []⟩]
def Jx (s : Unit) (u : Unit) (o : (Int × Int)) : List Alt := [⟨fun (x : (Int × Int)) => x = o, .normal, fun x => [.int .u64 (x.1), .int .u64 (x.2)], fun x => []⟩]
def Wy (x0 : Int) (x1 : Int) : Option (Int × Int) :=
 some (w6 x0 : Int) >>= fun v0 =>
 some (w6 x1 : Int) >>= fun v1 =>
 some ((!decide (x0 < 0) == decide (x1 < 0)), v1) >>= fun v2 =>
 (if x0 < 0 then
 some (w6 ((0 : Int) - v0) : Int) >>= fun v4 =>
 some v4
 else
 some v0) >>= fun v5 =>
 some (v2.fst, v5) >>= fun v6 =>
 (if x1 < 0 then
 some (w6 ((0 : Int) - v2.snd) : Int) >>= fun v8 =>
 some v8
 else
 some v2.snd) >>= fun v9 =>
 if (0 : Int) ≤ 32 then
 if (0 : Int) ≤ 32 then
 some (v6.snd.fdiv ((2 : Int) ^ (32 : Nat)) : Int) >>= fun v10 =>
 some (w6 (↑(BitVec.ofInt (64 : Nat) v6.snd &&& BitVec.ofInt (64 : Nat) (4294967295 : Int)).toNat : Int) : Int) >>= fun v11 =>
 some (Int.fdiv v9 ((2 : Int) ^ (32 : Nat)) : Int) >>= fun v12 =>
 some (w6 (↑(BitVec.ofInt (64 : Nat) v9 &&& BitVec.ofInt (64 : Nat) (4294967295 : Int)).toNat : Int) : Int) >>= fun v13 =>
 some (w6 (v11 * v13) : Int) >>= fun v14 =>
 some (w6 (v10 * v13) : Int) >>= fun v15 =>
 some (w6 (v11 * v12) : Int) >>= fun v16 =>
 if (0 : Int) ≤ 32 then
 some (w6 (w6 (v14.fdiv ((2 : Int) ^ (32 : Nat)) + w6 (↑(BitVec.ofInt (64 : Nat) v15 &&& BitVec.ofInt (64 : Nat) (4294967295 : Int)).toNat : Int)) + w6 (↑(BitVec.ofInt (64 : Nat) v16 &&& BitVec.ofInt (64 : Nat) (4294967295 : Int)).toNat : Int)) : Int) >>= fun v17 =>
 if (0 : Int) ≤ 32 then
 some (w6 (↑(BitVec.ofInt (64 : Nat) (w6 (↑(BitVec.ofInt (64 : Nat) v14 &&& BitVec.ofInt (64 : Nat) (4294967295 : Int)).toNat : Int)) ||| BitVec.ofInt (64 : Nat) (w6 (v17 * (2 : Int) ^ (32 : Nat)))).toNat : Int) : Int) >>= fun v18 =>
 if (0 : Int) ≤ 32 then
 if (0 : Int) ≤ 32 then
 if (0 : Int) ≤ 32 then
 some (w6 (w6 (w6 (w6 (v10 * v12) + v15.fdiv ((2 : Int) ^ (32 : Nat))) + v16.fdiv ((2 : Int) ^ (32 : Nat))) + v17.fdiv ((2 : Int) ^ (32 : Nat))) : Int) >>= fun v19 =>
 some () >>= fun v20 =>
 (if v6.fst then
 some (w6 ((0 : Int) - v18) : Int) >>= fun v22 =>
 some (w6 (↑(BitVec.ofInt (64 : Nat) (if false = true then (-1 : Int) else IntKind.u64.max) ^^^ BitVec.ofInt (64 : Nat) v19).toNat : Int) : Int) >>= fun v23 =>
 if v22 == 0 then
 some (w6 (v23 + 1) : Int) >>= fun v24 =>
 some (v22, v24)
 else
 some (v22, v23)
 else
 some (v18, v19)) >>= fun v25 =>
 some ((wr v25.snd), v25.fst)
 else none
 else none
 else none
 else none
 else none
 else none
 else none
theorem FK (x0 : Int) (x1 : Int) (r : (Int × Int)) (h : Wy x0 x1 = some r) : PU 170 [eI x0, eI x1] (LJ r) :=
 Pu2 (hs := [(7, .n eU64 7 none), (8, .n eU64 8 none), (30, .split), (7, .n eU64 7 none), (34, .split), (8, .n eU64 8 none), (38, .s), (42, .s), (9, .n eU64 9 none), (10, .n eU64 10 none), (11, .n eU64 11 none), (12, .n eU64 12 none), (13, .n eU64 13 none), (14, .n eU64 14 none), (15, .n eU64 15 none), (58, .s), (17, .n eU64 17 none), (68, .s), (18, .n eU64 18 none), (72, .s), (75, .s), (78, .s), (19, .n eU64 19 none), (80, .split), (18, .n eU64 18 none), (86, .split), (6000005, .l [] [] [] [1, 6, 7, 8] [] (D6 x1)), (6000007, .l [] [] [] [6, 7, 8] [] (D7 ())), (6000014, .l [] [] [] [18, 19] [] (Jx ()))]) ((kN (w6 x0) rfl fun v0 => (kN (w6 x1) rfl fun v1 => (kJ1 (id := 6000005) ((!decide (x0 < 0) == decide (x1 < 0)), v1) (fun v2 ev2 v3 => (kIfD (p := x0 < 0) (kN (w6 ((0 : Int) - v0)) rfl fun v4 => (kXj (alts := D6 x1) ev2 v4 (.here _ rfl (.refl _) (.refl _))))
 (kXj (alts := D6 x1) ev2 v0 (.here _ rfl (.refl _) (.refl _)))))
 (fun v2 v5 => (kJ1 (id := 6000007) (v2.fst, v5) (fun v6 ev6 v7 => (kIfD (p := x1 < 0) (kN (w6 ((0 : Int) - v2.snd)) rfl fun v8 => (kXj (alts := D7 ()) ev6 v8 (.here _ rfl (.refl _) (.refl _))))
 (kXj (alts := D7 ()) ev6 v2.snd (.here _ rfl (.refl _) (.refl _)))))
 (fun v6 v9 => (kG (p := (0 : Int) ≤ 32) (kG (p := (0 : Int) ≤ 32) (kN (v6.snd.fdiv ((2 : Int) ^ (32 : Nat))) rfl fun v10 => (kN (w6 (↑(BitVec.ofInt (64 : Nat) v6.snd &&& BitVec.ofInt (64 : Nat) (4294967295 : Int)).toNat : Int)) rfl fun v11 => (kN (Int.fdiv v9 ((2 : Int) ^ (32 : Nat))) rfl fun v12 => (kN (w6 (↑(BitVec.ofInt (64 : Nat) v9 &&& BitVec.ofInt (64 : Nat) (4294967295 : Int)).toNat : Int)) rfl fun v13 => (kN (w6 (v11 * v13)) rfl fun v14 => (kN (w6 (v10 * v13)) rfl fun v15 => (kN (w6 (v11 * v12)) rfl fun v16 => (kG (p := (0 : Int) ≤ 32) (kN (w6 (w6 (v14.fdiv ((2 : Int) ^ (32 : Nat)) + w6 (↑(BitVec.ofInt (64 : Nat) v15 &&& BitVec.ofInt (64 : Nat) (4294967295 : Int)).toNat : Int)) + w6 (↑(BitVec.ofInt (64 : Nat) v16 &&& BitVec.ofInt (64 : Nat) (4294967295 : Int)).toNat : Int))) rfl fun v17 => (kG (p := (0 : Int) ≤ 32) (kN (w6 (↑(BitVec.ofInt (64 : Nat) (w6 (↑(BitVec.ofInt (64 : Nat) v14 &&& BitVec.ofInt (64 : Nat) (4294967295 : Int)).toNat : Int)) ||| BitVec.ofInt (64 : Nat) (w6 (v17 * (2 : Int) ^ (32 : Nat)))).toNat : Int)) rfl fun v18 => (kG (p := (0 : Int) ≤ 32) (kG (p := (0 : Int) ≤ 32) (kG (p := (0 : Int) ≤ 32) (kN (w6 (w6 (w6 (w6 (v10 * v12) + v15.fdiv ((2 : Int) ^ (32 : Nat))) + v16.fdiv ((2 : Int) ^ (32 : Nat))) + v17.fdiv ((2 : Int) ^ (32 : Nat)))) rfl fun v19 => (kJ1 (id := 6000014) () (fun v20 ev20 v21 => (kIf (c := v6.fst) (kN (w6 ((0 : Int) - v18)) rfl fun v22 => (kN (w6 (↑(BitVec.ofInt (64 : Nat) (if false = true then (-1 : Int) else IntKind.u64.max) ^^^ BitVec.ofInt (64 : Nat) v19).toNat : Int)) rfl fun v23 => (kIf (c := v22 == 0) (kN (w6 (v23 + 1)) rfl fun v24 => (kXj (alts := Jx ()) ev20 (v22, v24) (.here _ rfl (.refl _) (.refl _))))
 (kXj (alts := Jx ()) ev20 (v22, v23) (.here _ rfl (.refl _) (.refl _))))))
 (kXj (alts := Jx ()) ev20 (v18, v19) (.here _ rfl (.refl _) (.refl _)))))
 (fun v20 v25 => (kEr (enc := LJ) ((wr v25.snd), v25.fst))))))))))))))))))))))))))) h)
def D4 (s : Int) (u : (Int × Int)) (o : Int) : List Alt := [⟨fun (x : Int) => x = o, .normal, fun x => [ii s, ii (u.1), .int .u64 (u.2), ii x], fun x => []⟩]
def D5 (s : Unit) (u : Int) (o : Int) : List Alt := [⟨fun (x : Int) => x = o, .normal, fun x => [.int .u64 u, ii x], fun x => []⟩]
def UO (x0 : Int) (x1 : Int) (x2 : Int) : Option (Int × Bool) :=
 Wy x1 x2 >>= fun v0 =>
 some (w6 (v0.snd + w6 x0) : Int) >>= fun v1 =>
 some (v0.fst, v1) >>= fun v2 =>
 (if v1 < v0.snd then
 some (1 : Int)
 else
 some (0 : Int)) >>= fun v4 =>
 some (wr (v2.fst + v4) : Int) >>= fun v5 =>
 some v2.snd >>= fun v6 =>
 (if x0 < 0 then
 some (wr (v5 - (1 : Int)) : Int) >>= fun v8 =>
 some v8
 else
 some v5) >>= fun v9 =>
 some (wr v6 : Int) >>= fun v10 =>
 if v9 == 0 then
 if 0 ≤ v10 then
 some (v10, true)
 else
 if v9 == (-1 : Int) then
 some (v10, (decide (v10 < 0)))
 else
 some (v10, false)
 else
 if v9 == (-1 : Int) then
 some (v10, (decide (v10 < 0)))
 else
 some (v10, false)
theorem WK (x0 : Int) (x1 : Int) (x2 : Int) (r : (Int × Bool)) (h : UO x0 x1 x2 = some r) : PU 164 [eI x0, eI x1, eI x2] (ZU r) :=
 Pu2 (hs := [(17, .c LJ), (10, .n eU64 10 none), (26, .split), (12, .n eI 12 none), (31, .split), (13, .n eI 13 none), (38, .split), (41, .split), (45, .split), (6000006, .l [] [] [] [0, 8, 10, 11] [] (D4 x0)), (6000009, .l [] [] [] [10, 12] [] (D5 ()))]) ((kC (sh := LJ) (FK x1 x2) fun v0 => (kN (w6 (v0.snd + w6 x0)) rfl fun v1 => (kJ1 (id := 6000006) (v0.fst, v1) (fun v2 ev2 v3 => (kIfD (p := v1 < v0.snd) (kXj (alts := D4 x0) ev2 (1 : Int) (.here _ rfl (.refl _) (.refl _)))
 (kXj (alts := D4 x0) ev2 (0 : Int) (.here _ rfl (.refl _) (.refl _)))))
 (fun v2 v4 => (kN (wr (v2.fst + v4)) rfl fun v5 => (kJ1 (id := 6000009) v2.snd (fun v6 ev6 v7 => (kIfD (p := x0 < 0) (kN (wr (v5 - (1 : Int))) rfl fun v8 => (kXj (alts := D5 ()) ev6 v8 (.here _ rfl (.refl _) (.refl _))))
 (kXj (alts := D5 ()) ev6 v5 (.here _ rfl (.refl _) (.refl _)))))
 (fun v6 v9 => (kN (wr v6) rfl fun v10 => (kIf (c := v9 == 0) (kIfD (p := 0 ≤ v10) (kEr (enc := ZU) (v10, true))
 (kIf (c := v9 == (-1 : Int)) (kEr (enc := ZU) (v10, (decide (v10 < 0))))
 (kEr (enc := ZU) (v10, false))))
 (kIf (c := v9 == (-1 : Int)) (kEr (enc := ZU) (v10, (decide (v10 < 0))))
 (kEr (enc := ZU) (v10, false)))))))))))) h)
def V8 (s : (Int × gLin)) (u : Unit) (o : Unit ⊕ Bool) : List Alt := [⟨fun (x : Unit) => (Sum.inl x : Unit ⊕ Bool) = o, .exit 0, fun x => [.undef], fun x => []⟩, ⟨fun (x : Bool) => (Sum.inr x : Unit ⊕ Bool) = o, .ret, fun x => [.bool x], fun x => []⟩]
def Xo (x1 : Int) (x2 : gLin) (x7 : Int) : Option (Unit ⊕ Bool) :=
 some (List.length x2.fL : Int) >>= fun v0 =>
 if x7 < v0 then
 ix x2.fL x7 >>= fun v1 =>
 UO 0 v1.fBy x1 >>= fun v2 =>
 if v2.snd then
 Xo x1 x2 (wr (x7 + 1))
 else
 some (.inr false)
 else
 some (.inl ())
 partial_fixpoint
theorem El (x1 : Int) (x2 : gLin) (x7 : Int) (o : Unit ⊕ Bool) (h : Xo x1 x2 x7 = some o) : LO 150 5 39 [1, 2, 7] [ii x1, .ptr 0 0 0, ii x7] [.cells 0 (Qi x2).cells] [4] (V8 (x1, x2) () o) :=
 Xo.partial_correctness x1 x2 (fun x7 o => LO 150 5 39 [1, 2, 7] [ii x1, .ptr 0 0 0, ii x7] [.cells 0 (Qi x2).cells] [4] (V8 (x1, x2) () o))
 (fun Xo Q44 x7 o h  =>
 Lp2 (hs := [(22, .n eI 22 none), (23, .split), (30, .e Qe), (34, .c ZU), (37, .split)]) (kb := [kk 2]) (kbx := []) ((kN _ (mLen (sh := Qe) x2.fL) fun v0 => (kIfD (p := x7 < v0) (kIx (enc := Qe) (l := x2.fL) (k := x7) fun v1 => (kC (sh := ZU) (WK 0 v1.fBy x1) fun v2 => (kIf (c := v2.snd) (kM0 (alts := V8 (x1, x2) ()) (Q44 (wr (x7 + 1))))
 (kX (alts := V8 (x1, x2) ()) (.inr false) (.next (.here _ rfl (.refl _) (.refl _)))))))
 (kX (alts := V8 (x1, x2) ()) (.inl ()) (.here _ rfl (.refl _) (.refl _))))) h)) x7 o h
def Df (x0 : gLin) (x1 : Int) : Option Bool :=
 UO 0 x0.fK x1 >>= fun v0 =>
 if v0.snd then
 some () >>= fun v1 =>
 Xo x1 x0 0 >>= fun v2 => (match v2 with
 | (.inl v3) =>
 some true
 | (.inr v4) =>
 some v4)
 else
 some false
theorem Sb (x0 : gLin) (x1 : Int) (r : Bool) (h : Df x0 x1 = some r) : PU 150 [Qi x0, eI x1] (eB r) :=
 Pu2 (hs := [(14, .c ZU), (17, .split), (3000006, .l [] [1, 2, 7] [kk 2] [4] [] (V8 (x1, x0)))]) ((kC (sh := ZU) (WK 0 x0.fK x1) fun v0 => (kIf (c := v0.snd) (kL2 () (hL := (El x1 x0 0)) (hA := fun v1 v3 => (kEr (enc := eB) true))
 (hB := fun v1 v4 => (kEr (enc := eB) v4)))
 (kEr (enc := eB) false))) h)
def Ut (s : (Int × gLin × gLin)) (u : gLin) (o : (Bool × gLin)) : List Alt := [⟨fun (x : (Bool × gLin)) => x = o, .exit 0, fun x => [.ptr 0 0 0, .bool x.1, .ptr 1 0 0], fun x => [.cells 0 (Qi u).cells, .cells 0 [ii x.2.fK, .ow 2 0 2 (List.length x.2.fL)], .own 0 2 (List.map Qe x.2.fL)]⟩]
def Uj (s : (Int × gLin × gLin × gLin)) (u : (Bool × gLin × Int × Int)) (o : Bool) : List Alt := jb o (fun b => [ii (s.1), .ptr 0 0 0, .ptr 1 0 0, .ptr 2 0 0, .bool (u.1), .ptr 3 0 0, ii (u.2.2.1), ii (u.2.2.2), .bool b]) [.cells 0 (Qi (s.2.1)).cells, .cells 0 (Qi (s.2.2.1)).cells, .cells 0 (Qi (s.2.2.2)).cells, .cells 0 [ii (u.2.1).fK, .ow 4 0 2 (List.length ((u.2.1).fL))], .own 0 2 (List.map Qe (u.2.1).fL)]
def KU (s : (Int × gLin × gLin × gLin)) (u : (Bool × gLin × Int × Int × Int × Int)) (o : Bool) : List Alt := jb o (fun b => [ii (s.1), .ptr 0 0 0, .ptr 1 0 0, .ptr 2 0 0, .bool (u.1), .ptr 3 0 0, ii (u.2.2.1), ii (u.2.2.2.1), ii (u.2.2.2.2.1), ii (u.2.2.2.2.2), .bool b]) [.cells 0 (Qi (s.2.1)).cells, .cells 0 (Qi (s.2.2.1)).cells, .cells 0 (Qi (s.2.2.2)).cells, .cells 0 [ii (u.2.1).fK, .ow 4 0 2 (List.length ((u.2.1).fL))], .own 0 2 (List.map Qe (u.2.1).fL)]
def Dx (s : (Int × gLin × gLin × gLin)) (u : (Bool × gLin × Int × Int × Int)) (o : (Int × Str)) : List Alt := [⟨fun (x : (Int × Str)) => x = o, .normal, fun x => [ii (s.1), .ptr 0 0 0, .ptr 1 0 0, .ptr 2 0 0, .bool (u.1), .ptr 3 0 0, ii (u.2.2.1), ii (u.2.2.2.1), ii (x.1), ii (u.2.2.2.2), .str (x.2)], fun x => [.cells 0 (Qi (s.2.1)).cells, .cells 0 (Qi (s.2.2.1)).cells, .cells 0 (Qi (s.2.2.2)).cells, .cells 0 [ii (u.2.1).fK, .ow 4 0 2 (List.length ((u.2.1).fL))], .own 0 2 (List.map Qe (u.2.1).fL)]⟩]
def Uk (s : (Int × gLin × gLin × gLin)) (u : (Bool × gLin × Int × Int × Int × Int × Str)) (o : Bool) : List Alt := jb o (fun b => [ii (s.1), .ptr 0 0 0, .ptr 1 0 0, .ptr 2 0 0, .bool (u.1), .ptr 3 0 0, ii (u.2.2.1), ii (u.2.2.2.1), ii (u.2.2.2.2.1), ii (u.2.2.2.2.2.1), .str (u.2.2.2.2.2.2), .bool b]) [.cells 0 (Qi (s.2.1)).cells, .cells 0 (Qi (s.2.2.1)).cells, .cells 0 (Qi (s.2.2.2)).cells, .cells 0 [ii (u.2.1).fK, .ow 4 0 2 (List.length ((u.2.1).fL))], .own 0 2 (List.map Qe (u.2.1).fL)]
def Dy (s : (Int × gLin × gLin × gLin)) (u : (Bool × gLin × Int × Int × Str)) (o : (Int × Int)) : List Alt := [⟨fun (x : (Int × Int)) => x = o, .normal, fun x => [ii (s.1), .ptr 0 0 0, .ptr 1 0 0, .ptr 2 0 0, .bool (u.1), .ptr 3 0 0, ii (u.2.2.1), ii (x.1), ii (u.2.2.2.1), ii (x.2), .str (u.2.2.2.2)], fun x => [.cells 0 (Qi (s.2.1)).cells, .cells 0 (Qi (s.2.2.1)).cells, .cells 0 (Qi (s.2.2.2)).cells, .cells 0 [ii (u.2.1).fK, .ow 4 0 2 (List.length ((u.2.1).fL))], .own 0 2 (List.map Qe (u.2.1).fL)]⟩]
def Dz (s : (Int × gLin × gLin × gLin)) (u : (Bool × gLin × Int × Int × Int × Str)) (o : Int) : List Alt := [⟨fun (x : Int) => x = o, .normal, fun x => [ii (s.1), .ptr 0 0 0, .ptr 1 0 0, .ptr 2 0 0, .bool (u.1), .ptr 3 0 0, ii x, ii (u.2.2.1), ii (u.2.2.2.1), ii (u.2.2.2.2.1), .str (u.2.2.2.2.2)], fun x => [.cells 0 (Qi (s.2.1)).cells, .cells 0 (Qi (s.2.2.1)).cells, .cells 0 (Qi (s.2.2.2)).cells, .cells 0 [ii (u.2.1).fK, .ow 4 0 2 (List.length ((u.2.1).fL))], .own 0 2 (List.map Qe (u.2.1).fL)]⟩]
def Dw (s : (Int × gLin × gLin × gLin)) (u : (gLin × Int × Int × Str × Int)) (o : Bool) : List Alt := [⟨fun (x : Bool) => x = o, .normal, fun x => [ii (s.1), .ptr 0 0 0, .ptr 1 0 0, .ptr 2 0 0, .bool x, .ptr 3 0 0, ii (u.2.1), ii (u.2.2.1), .str (u.2.2.2.1), ii (u.2.2.2.2)], fun x => [.cells 0 (Qi (s.2.1)).cells, .cells 0 (Qi (s.2.2.1)).cells, .cells 0 (Qi (s.2.2.2)).cells, .cells 0 [ii (u.1).fK, .ow 4 0 2 (List.length ((u.1).fL))], .own 0 2 (List.map Qe (u.1).fL)]⟩]
def ZY (x2 : Int) (x3 : gLin) (x4 : gLin) (x9 : Bool) (x10 : gLin) (x11 : Int) (x12 : Int) : Option (Bool × gLin) :=
 some (x9, x10, x11, x12) >>= fun v0 =>
 (some (List.length x3.fL : Int) >>= fun v2 =>
 if x11 < v2 then
 some true
 else
 some (List.length x4.fL : Int) >>= fun v3 =>
 if x12 < v3 then
 some true
 else
 some false) >>= fun v1 => if v1 then
 some (v0.fst, v0.snd.fst, v0.snd.snd.fst, v0.snd.snd.snd, ((0 : Int))) >>= fun v5 =>
 (some (v0.fst, v0.snd.fst, v0.snd.snd.fst, v0.snd.snd.snd, (0 : Int), (0 : Int)) >>= fun v7 =>
 (if v0.snd.snd.snd == (↑(List.map Qe x4.fL).length : Int) then
 some (List.length x4.fL : Int) >>= fun v9 =>
 some true
 else
 if v0.snd.snd.fst < (↑(List.map Qe x3.fL).length : Int) then
 ix x3.fL v0.snd.snd.fst >>= fun v10 =>
 ix x4.fL v0.snd.snd.snd >>= fun v11 =>
 some (List.length x4.fL : Int) >>= fun v12 =>
 some (List.length x3.fL : Int) >>= fun v13 =>
 if Op.bytesLess v10.fName v11.fName || v10.fName == v11.fName then
 some true
 else
 some false
 else
 some (List.length x4.fL : Int) >>= fun v14 =>
 some (List.length x3.fL : Int) >>= fun v15 =>
 some false) >>= fun v8 => if v8 then
 ix x3.fL v7.snd.snd.fst >>= fun v17 =>
 ix x3.fL v7.snd.snd.fst >>= fun v18 =>
 some (v18.fBy, v17.fName)
 else
 ix x4.fL v7.snd.snd.snd.fst >>= fun v20 =>
 some (v7.snd.snd.snd.snd.fst, v20.fName)) >>= fun v21 =>
 some (v5.fst, v5.snd.fst, v5.snd.snd.fst, v21.fst, v21.snd) >>= fun v22 =>
 (some (v5.fst, v5.snd.fst, v5.snd.snd.fst, v5.snd.snd.snd.fst, v21.fst, v5.snd.snd.snd.snd, v21.snd) >>= fun v24 =>
 (some (List.length x4.fL : Int) >>= fun v26 =>
 if v5.snd.snd.snd.fst < v26 then
 ix x4.fL v5.snd.snd.snd.fst >>= fun v27 =>
 if v27.fName == v21.snd then
 some true
 else
 some false
 else
 some false) >>= fun v25 => if v25 then
 ix x4.fL v24.snd.snd.snd.fst >>= fun v29 =>
 some ((wr (v24.snd.snd.snd.fst + 1)), v29.fBy)
 else
 some (v24.snd.snd.snd.fst, v24.snd.snd.snd.snd.snd.fst)) >>= fun v31 =>
 some (v22.fst, v22.snd.fst, v31.fst, v22.snd.snd.snd.fst, v31.snd, v22.snd.snd.snd.snd) >>= fun v32 =>
 (if v22.snd.snd.snd.fst != 0 then
 some (wr (v22.snd.snd.fst + 1))
 else
 some v22.snd.snd.fst) >>= fun v34 =>
 UO v32.snd.snd.snd.fst v32.snd.snd.snd.snd.fst x2 >>= fun v35 =>
 some (v32.snd.fst, v34, v32.snd.snd.fst, v32.snd.snd.snd.snd.snd, v35.fst) >>= fun v36 =>
 (if v32.fst then
 some v35.snd
 else
 some false) >>= fun v38 =>
 if v36.snd.snd.snd.snd != 0 then
 some ((Cy.mk v36.snd.snd.snd.fst v36.snd.snd.snd.snd)) >>= fun v39 =>
 if (v36.fst.fL.length + (1 : Nat)) * (24 : Nat) ≤ (140737488355328 : Nat) ∧ v36.fst.fL.length + (1 : Nat) ≤ (9223372036854775807 : Nat) then
 some (v36.fst.fL ++ [v39]) >>= fun v40 =>
 ZY x2 x3 x4 v38 (gLin.mk v36.fst.fK v40) v36.snd.fst v36.snd.snd.fst
 else none
 else
 ZY x2 x3 x4 v38 v36.fst v36.snd.fst v36.snd.snd.fst
 else
 some (v0.fst, v0.snd.fst)
 partial_fixpoint
theorem Sc (x2 : Int) (x3 : gLin) (x4 : gLin) (x6 : gLin) (x9 : Bool) (x10 : gLin) (x11 : Int) (x12 : Int) (o : (Bool × gLin)) (h : ZY x2 x3 x4 x9 x10 x11 x12 = some o) : LO 151 4 138 [2, 3, 4, 6, 9, 10, 11, 12] [ii x2, .ptr 0 0 0, .ptr 1 0 0, .ptr 2 0 0, .bool x9, .ptr 3 0 0, ii x11, ii x12] [.cells 0 (Qi x3).cells, .cells 0 (Qi x4).cells, .cells 0 (Qi x6).cells, .cells 0 [ii x10.fK, .ow 4 0 2 (List.length x10.fL)], .own 0 2 (List.map Qe x10.fL)] [6, 9, 10] (Ut (x2, x3, x4) x6 o) :=
 ZY.partial_correctness x2 x3 x4 (fun x9 x10 x11 x12 o => ∀ (x6 : gLin), LO 151 4 138 [2, 3, 4, 6, 9, 10, 11, 12] [ii x2, .ptr 0 0 0, .ptr 1 0 0, .ptr 2 0 0, .bool x9, .ptr 3 0 0, ii x11, ii x12] [.cells 0 (Qi x3).cells, .cells 0 (Qi x4).cells, .cells 0 (Qi x6).cells, .cells 0 [ii x10.fK, .ow 4 0 2 (List.length x10.fL)], .own 0 2 (List.map Qe x10.fL)] [6, 9, 10] (Ut (x2, x3, x4) x6 o))
 (fun ZY Q47 x9 x10 x11 x12 o h x6 =>
 Lp2 (hs := [(32, .n eI 32 none), (33, .split), (38, .n eI 38 none), (39, .split), (44, .n eI 44 none), (45, .split), (50, .n eI 50 none), (51, .split), (56, .e Qe), (62, .e Qe), (65, .split), (71, .e Qe), (77, .e Qe), (83, .e Qe), (89, .n eI 89 none), (90, .split), (95, .e Qe), (99, .split), (104, .e Qe), (110, .split), (117, .c ZU), (120, .split), (125, .split), (130, .n Qe 130 none), (132, .z [{ slot := 127, own := 2 }] (some (.n Qe 132 (some .a)))), (5000004, .l [] [] [] [2, 3, 4, 6, 9, 10, 11, 12, 40] [kk 3, kk 4, kk 6, kk 10, { slot := 10, path := [1], own := 2 }] (Uj (x2, x3, x4, x6))), (5000006, .l [] [] [] [2, 3, 4, 6, 9, 10, 11, 12, 13, 14, 67] [kk 3, kk 4, kk 6, kk 10, { slot := 10, path := [1], own := 2 }] (KU (x2, x3, x4, x6))), (6000008, .l [] [] [] [2, 3, 4, 6, 9, 10, 11, 12, 13, 14, 15] [kk 3, kk 4, kk 6, kk 10, { slot := 10, path := [1], own := 2 }] (Dx (x2, x3, x4, x6))), (5000010, .l [] [] [] [2, 3, 4, 6, 9, 10, 11, 12, 13, 14, 15, 100] [kk 3, kk 4, kk 6, kk 10, { slot := 10, path := [1], own := 2 }] (Uk (x2, x3, x4, x6))), (6000012, .l [] [] [] [2, 3, 4, 6, 9, 10, 11, 12, 13, 14, 15] [kk 3, kk 4, kk 6, kk 10, { slot := 10, path := [1], own := 2 }] (Dy (x2, x3, x4, x6))), (6000015, .l [] [] [] [2, 3, 4, 6, 9, 10, 11, 12, 13, 14, 15] [kk 3, kk 4, kk 6, kk 10, { slot := 10, path := [1], own := 2 }] (Dz (x2, x3, x4, x6))), (5000016, .l [] [] [] [2, 3, 4, 6, 9, 10, 11, 12, 15, 16] [kk 3, kk 4, kk 6, kk 10, { slot := 10, path := [1], own := 2 }] (Dw (x2, x3, x4, x6)))]) (kb := [kk 3, kk 4, kk 6, kk 10, { slot := 10, path := [1], own := 2 }]) (kbx := [kk 6, kk 10, { slot := 10, path := [1], own := 2 }]) ((kJb (id := 5000004) (x9, x10, x11, x12) (fun v0 ev0 v1 => (kN _ (mLen (sh := Qe) x3.fL) fun v2 => (kIfD (p := x11 < v2) (kXj (alts := Uj (x2, x3, x4, x6)) ev0 true (.here () rfl (.refl _) (.refl _)))
 (kN _ (mLen (sh := Qe) x4.fL) fun v3 => (kIfD (p := x12 < v3) (kXj (alts := Uj (x2, x3, x4, x6)) ev0 true (.here () rfl (.refl _) (.refl _)))
 (kXj (alts := Uj (x2, x3, x4, x6)) ev0 false (.next (.here () rfl (.refl _) (.refl _)))))))))
 (fun v0 => (kJ1 (id := 6000008) (v0.fst, v0.snd.fst, v0.snd.snd.fst, v0.snd.snd.snd, ((0 : Int))) (fun v5 ev5 v6 => (kJbE (id := 5000006) (v0.fst, v0.snd.fst, v0.snd.snd.fst, v0.snd.snd.snd, (0 : Int), (0 : Int)) (fun v7 ev7 v8 => (kIf (c := v0.snd.snd.snd == (↑(List.map Qe x4.fL).length : Int)) (kN _ (mLen (sh := Qe) x4.fL) fun v9 => (kXj (alts := KU (x2, x3, x4, x6)) ev7 true (.here () rfl (.refl _) (.refl _))))
 (kIfD (p := v0.snd.snd.fst < (↑(List.map Qe x3.fL).length : Int)) (kIx (enc := Qe) (l := x3.fL) (k := v0.snd.snd.fst) fun v10 => (kIx (enc := Qe) (l := x4.fL) (k := v0.snd.snd.snd) fun v11 => (kN _ (mLen (sh := Qe) x4.fL) fun v12 => (kN _ (mLen (sh := Qe) x3.fL) fun v13 => (kIf (c := Op.bytesLess v10.fName v11.fName || v10.fName == v11.fName) (kXj (alts := KU (x2, x3, x4, x6)) ev7 true (.here () rfl (.refl _) (.refl _)))
 (kXj (alts := KU (x2, x3, x4, x6)) ev7 false (.next (.here () rfl (.refl _) (.refl _)))))))))
 (kN _ (mLen (sh := Qe) x4.fL) fun v14 => (kN _ (mLen (sh := Qe) x3.fL) fun v15 => (kXj (alts := KU (x2, x3, x4, x6)) ev7 false (.next (.here () rfl (.refl _) (.refl _)))))))))
 (fun v7 ev7 => (kIx (enc := Qe) (l := x3.fL) (k := v7.snd.snd.fst) fun v17 => (kIx (enc := Qe) (l := x3.fL) (k := v7.snd.snd.fst) fun v18 => (kXj (alts := Dx (x2, x3, x4, x6)) (u0 := (v7.fst, v7.snd.fst, v7.snd.snd.fst, v7.snd.snd.snd.fst, v7.snd.snd.snd.snd.snd)) (by subst ev7; exact ev5) (v18.fBy, v17.fName) (.here _ rfl (.refl _) (.refl _))))))
 (fun v7 ev7 => (kIx (enc := Qe) (l := x4.fL) (k := v7.snd.snd.snd.fst) fun v20 => (kXj (alts := Dx (x2, x3, x4, x6)) (u0 := (v7.fst, v7.snd.fst, v7.snd.snd.fst, v7.snd.snd.snd.fst, v7.snd.snd.snd.snd.snd)) (by subst ev7; exact ev5) (v7.snd.snd.snd.snd.fst, v20.fName) (.here _ rfl (.refl _) (.refl _)))))))
 (fun v5 v21 => (kJ1 (id := 6000012) (v5.fst, v5.snd.fst, v5.snd.snd.fst, v21.fst, v21.snd) (fun v22 ev22 v23 => (kJbE (id := 5000010) (v5.fst, v5.snd.fst, v5.snd.snd.fst, v5.snd.snd.snd.fst, v21.fst, v5.snd.snd.snd.snd, v21.snd) (fun v24 ev24 v25 => (kN _ (mLen (sh := Qe) x4.fL) fun v26 => (kIfD (p := v5.snd.snd.snd.fst < v26) (kIx (enc := Qe) (l := x4.fL) (k := v5.snd.snd.snd.fst) fun v27 => (kIf (c := v27.fName == v21.snd) (kXj (alts := Uk (x2, x3, x4, x6)) ev24 true (.here () rfl (.refl _) (.refl _)))
 (kXj (alts := Uk (x2, x3, x4, x6)) ev24 false (.next (.here () rfl (.refl _) (.refl _))))))
 (kXj (alts := Uk (x2, x3, x4, x6)) ev24 false (.next (.here () rfl (.refl _) (.refl _)))))))
 (fun v24 ev24 => (kIx (enc := Qe) (l := x4.fL) (k := v24.snd.snd.snd.fst) fun v29 => (kXj (alts := Dy (x2, x3, x4, x6)) (u0 := (v24.fst, v24.snd.fst, v24.snd.snd.fst, v24.snd.snd.snd.snd.fst, v24.snd.snd.snd.snd.snd.snd)) (by subst ev24; exact ev22) ((wr (v24.snd.snd.snd.fst + 1)), v29.fBy) (.here _ rfl (.refl _) (.refl _)))))
 (fun v24 ev24 => (kXj (alts := Dy (x2, x3, x4, x6)) (u0 := (v24.fst, v24.snd.fst, v24.snd.snd.fst, v24.snd.snd.snd.snd.fst, v24.snd.snd.snd.snd.snd.snd)) (by subst ev24; exact ev22) (v24.snd.snd.snd.fst, v24.snd.snd.snd.snd.snd.fst) (.here _ rfl (.refl _) (.refl _))))))
 (fun v22 v31 => (kJ1 (id := 6000015) (v22.fst, v22.snd.fst, v31.fst, v22.snd.snd.snd.fst, v31.snd, v22.snd.snd.snd.snd) (fun v32 ev32 v33 => (kIf (c := v22.snd.snd.snd.fst != 0) (kXj (alts := Dz (x2, x3, x4, x6)) ev32 (wr (v22.snd.snd.fst + 1)) (.here _ rfl (.refl _) (.refl _)))
 (kXj (alts := Dz (x2, x3, x4, x6)) ev32 v22.snd.snd.fst (.here _ rfl (.refl _) (.refl _)))))
 (fun v32 v34 => (kC (sh := ZU) (WK v32.snd.snd.snd.fst v32.snd.snd.snd.snd.fst x2) fun v35 => (kJ1 (id := 5000016) (v32.snd.fst, v34, v32.snd.snd.fst, v32.snd.snd.snd.snd.snd, v35.fst) (fun v36 ev36 v37 => (kIf (c := v32.fst) (kXj (alts := Dw (x2, x3, x4, x6)) ev36 v35.snd (.here _ rfl (.refl _) (.refl _)))
 (kXj (alts := Dw (x2, x3, x4, x6)) ev36 false (.here _ rfl (.refl _) (.refl _)))))
 (fun v36 v38 => (kIf (c := v36.snd.snd.snd.snd != 0) (kW (sh := Qe) (Cy.mk v36.snd.snd.snd.fst v36.snd.snd.snd.snd) lr fun v39 => (kA (q := (v36.fst.fL.length + (1 : Nat)) * (24 : Nat) ≤ (140737488355328 : Nat) ∧ v36.fst.fL.length + (1 : Nat) ≤ (9223372036854775807 : Nat)) (sh := Qe) (l := v36.fst.fL) (kO (sh := Qe) (v36.fst.fL ++ [v39]) (mA (sh := Qe) v36.fst.fL v39) (nA v36.fst.fL v39) fun v40 => (kM0 (alts := Ut (x2, x3, x4) x6) (fun y hy => Q47 v38 (gLin.mk v36.fst.fK v40) v36.snd.fst v36.snd.snd.fst y hy x6)))))
 (kM0 (alts := Ut (x2, x3, x4) x6) (fun y hy => Q47 v38 v36.fst v36.snd.fst v36.snd.snd.fst y hy x6)))))))))))))
 (fun v0 => (kX (alts := Ut (x2, x3, x4) x6) (v0.fst, v0.snd.fst) (.here _ rfl (.refl _) (.refl _))))) h)) x9 x10 x11 x12 o h x6
def CL (x0 : gLin) (x1 : gLin) (x2 : Int) : Option (gLin × Int) :=
 UO x0.fK x1.fK x2 >>= fun v0 =>
 some (gLin.mk (0 : Int) []) >>= fun v1 =>
 ZY x2 x0 x1 v0.snd (gLin.mk v0.fst []) 0 0 >>= fun v3 =>
 if v3.fst then
 some (v3.snd, (0 : Int))
 else
 some ((gLin.mk (0 : Int) [])) >>= fun v4 =>
 some (v4, (3 : Int))
theorem OH (x0 : gLin) (x1 : gLin) (x2 : Int) (r : (gLin × Int)) (h : CL x0 x1 x2 = some r) : PU 151 [Qi x0, Qi x1, eI x2] (Yi r) :=
 Pu2 (hs := [(24, .c ZU), (134, .split), (136, .n Qi 136 none), (3000005, .l [] [2, 3, 4, 6, 9, 10, 11, 12] [kk 3, kk 4, kk 6, kk 10, { slot := 10, path := [1], own := 2 }] [6, 9, 10] [kk 6, kk 10, { slot := 10, path := [1], own := 2 }] (Ut (x2, x0, x1)))]) ((kC (sh := ZU) (WK x0.fK x1.fK x2) fun v0 => (kL1 (gLin.mk (0 : Int) []) (fun y hy => ZI.le (.cons (LeV.refl (ii x2)) (.cons (LeV.refl (AV.ptr (0 : Nat) (0 : Nat) (0 : Nat))) (.cons (LeV.refl (AV.ptr (1 : Nat) (0 : Nat) (0 : Nat))) (.cons (LeV.refl (AV.ptr (2 : Nat) (0 : Nat) (0 : Nat))) (.cons (LeV.refl (AV.bool v0.snd)) (.cons (LeV.refl (AV.ptr (3 : Nat) (0 : Nat) (0 : Nat))) (.cons (LeV.refl (ii (0 : Int))) (.cons (LeV.refl (ii (0 : Int))) .nil)))))))) (.cons (LeB.refl (Box.cells (0 : Nat) [ii x0.fK, AV.sl (2 : Nat) (List.map Qe x0.fL)])) (.cons (LeB.refl (Box.cells (0 : Nat) [ii x1.fK, AV.sl (2 : Nat) (List.map Qe x1.fL)])) (.cons (LeB.cells (0 : Nat) (.cons (LeV.refl (ii (0 : Int))) (.cons (LeV.nil 2) .nil))) (.cons (LeB.refl (Box.cells (0 : Nat) [ii v0.fst, AV.ow (4 : Nat) (0 : Nat) (2 : Nat) (0 : Nat)])) (.cons (LeB.refl (Box.own (0 : Nat) (2 : Nat) [])) .nil))))) (Sc x2 x0 x1 (gLin.mk (0 : Int) []) v0.snd (gLin.mk v0.fst []) (0 : Int) (0 : Int) y hy)) fun v1 v3 => (kIf (c := v3.fst) (kT (nM (sh := Qe) v3.snd.fL) (kEr (enc := Yi) (v3.snd, (0 : Int))))
 (kW (sh := Qi) (gLin.mk (0 : Int) []) (LeV.agg (.cons (LeV.refl (ii (0 : Int))) (.cons (LeV.nil 2) .nil))) fun v4 => (kEr (enc := Yi) (v4, (3 : Int))))))) h)
def YA (s : (Str × gLin × gLin)) (u : gLin) (o : (Int × gLin)) : List Alt := [⟨fun (x : (Int × gLin)) => x = o, .exit 0, fun x => [.ptr 0 0 0, .ptr 1 0 0, .ptr 2 0 0, ii x.1, .ptr 3 0 0], fun x => [.cells 0 (Qi s.2.1).cells, .cells 0 (Qi s.2.2).cells, .cells 0 (Qi u).cells, .cells 0 [ii x.2.fK, .ow 4 0 2 (List.length x.2.fL)], .own 0 2 (List.map Qe x.2.fL)]⟩]
def KT (s : (Str × gLin × gLin × gLin)) (u : Int) (o : (Int × gLin)) : List Alt := [⟨fun (x : (Int × gLin)) => x = o, .normal, fun x => [.str (s.1), .ptr 0 0 0, .ptr 1 0 0, .ptr 2 0 0, ii (x.1), .ptr 3 0 0, ii u], fun x => [.cells 0 (Qi (s.2.1)).cells, .cells 0 (Qi (s.2.2.1)).cells, .cells 0 (Qi (s.2.2.2)).cells, .cells 0 [ii (x.2).fK, .ow 4 0 2 (List.length ((x.2).fL))], .own 0 2 (List.map Qe (x.2).fL)]⟩]
def QT (x1 : Str) (x3 : gLin) (x8 : Int) (x9 : gLin) (x10 : Int) : Option (Int × gLin) :=
 some (List.length x3.fL : Int) >>= fun v0 =>
 if x10 < v0 then
 some x10 >>= fun v1 =>
 (ix x3.fL x10 >>= fun v3 =>
 if v3.fName == x1 then
 ix x3.fL x10 >>= fun v4 =>
 some (v4.fBy, x9)
 else
 ix x3.fL x10 >>= fun v5 =>
 if (x9.fL.length + (1 : Nat)) * (24 : Nat) ≤ (140737488355328 : Nat) ∧ x9.fL.length + (1 : Nat) ≤ (9223372036854775807 : Nat) then
 some (x9.fL ++ [v5]) >>= fun v6 =>
 some (x8, (gLin.mk x9.fK v6))
 else none) >>= fun v7 =>
 QT x1 x3 v7.fst v7.snd (wr (v1 + 1))
 else
 some (x8, x9)
 partial_fixpoint
theorem Ml (x1 : Str) (x3 : gLin) (x5 : gLin) (x6 : gLin) (x8 : Int) (x9 : gLin) (x10 : Int) (o : (Int × gLin)) (h : QT x1 x3 x8 x9 x10 = some o) : LO 125 6 73 [1, 3, 5, 6, 8, 9, 10] [.str x1, .ptr 0 0 0, .ptr 1 0 0, .ptr 2 0 0, ii x8, .ptr 3 0 0, ii x10] [.cells 0 (Qi x3).cells, .cells 0 (Qi x5).cells, .cells 0 (Qi x6).cells, .cells 0 [ii x9.fK, .ow 4 0 2 (List.length x9.fL)], .own 0 2 (List.map Qe x9.fL)] [3, 5, 6, 8, 9] (YA (x1, x3, x5) x6 o) :=
 QT.partial_correctness x1 x3 (fun x8 x9 x10 o => ∀ (x5 : gLin) (x6 : gLin), LO 125 6 73 [1, 3, 5, 6, 8, 9, 10] [.str x1, .ptr 0 0 0, .ptr 1 0 0, .ptr 2 0 0, ii x8, .ptr 3 0 0, ii x10] [.cells 0 (Qi x3).cells, .cells 0 (Qi x5).cells, .cells 0 (Qi x6).cells, .cells 0 [ii x9.fK, .ow 4 0 2 (List.length x9.fL)], .own 0 2 (List.map Qe x9.fL)] [3, 5, 6, 8, 9] (YA (x1, x3, x5) x6 o))
 (fun QT Q3n x8 x9 x10 o h x5 x6 =>
 Lp2 (hs := [(31, .n eI 31 none), (32, .split), (38, .e Qe), (42, .split), (46, .e Qe), (54, .e Qe), (57, .z [{ slot := 50, own := 2 }] (some (.n Qe 57 (some .a)))), (7000001, .l [] [] [] [1, 3, 5, 6, 8, 9, 10] [kk 3, kk 5, kk 6, kk 9, { slot := 9, path := [1], own := 2 }] (KT (x1, x3, x5, x6)))]) (kb := [kk 3, kk 5, kk 6, kk 9, { slot := 9, path := [1], own := 2 }]) (kbx := [kk 3, kk 5, kk 6, kk 9, { slot := 9, path := [1], own := 2 }]) ((kN _ (mLen (sh := Qe) x3.fL) fun v0 => (kIfD (p := x10 < v0) (kJ1 (id := 7000001) x10 (fun v1 ev1 v2 => (kIx (enc := Qe) (l := x3.fL) (k := x10) fun v3 => (kIf (c := v3.fName == x1) (kIx (enc := Qe) (l := x3.fL) (k := x10) fun v4 => (kXj (alts := KT (x1, x3, x5, x6)) ev1 (v4.fBy, x9) (.here _ rfl (.refl _) (.refl _))))
 (kIx (enc := Qe) (l := x3.fL) (k := x10) fun v5 => (kA (q := (x9.fL.length + (1 : Nat)) * (24 : Nat) ≤ (140737488355328 : Nat) ∧ x9.fL.length + (1 : Nat) ≤ (9223372036854775807 : Nat)) (sh := Qe) (l := x9.fL) (kO (sh := Qe) (x9.fL ++ [v5]) (mA (sh := Qe) x9.fL v5) (nA x9.fL v5) fun v6 => (kXj (alts := KT (x1, x3, x5, x6)) ev1 (x8, (gLin.mk x9.fK v6)) (.here _ rfl (.refl _) (.refl _)))))))))
 (fun v1 v7 => (kM0 (alts := YA (x1, x3, x5) x6) (fun y hy => Q3n v7.fst v7.snd (wr (v1 + 1)) y hy x5 x6))))
 (kX (alts := YA (x1, x3, x5) x6) (x8, x9) (.here _ rfl (.refl _) (.refl _))))) h)) x8 x9 x10 o h x5 x6
def ZZ (s : (Str × gLin × gLin)) (u : gLin) (o : Bool) : List Alt := jb o (fun b => [.str (s.1), .ptr 0 0 0, .ptr 1 0 0, .ptr 2 0 0, .bool b]) [.cells 0 (Qi (s.2.1)).cells, .cells 0 (Qi (s.2.2)).cells, .cells 0 (Qi u).cells]
def Yy (x0 : gLin) (x1 : Str) (x2 : gLin) : Option (gLin × Int) :=
 some (gLin.mk (0 : Int) []) >>= fun v0 =>
 (ZG x0 >>= fun v2 => if v2 then
 ZG x2 >>= fun v3 => if v3 then
 J6 x1 >>= fun v4 => if v4 then
 some false
 else
 some true
 else
 some true
 else
 some true) >>= fun v1 => if v1 then
 some ((gLin.mk (0 : Int) [])) >>= fun v6 =>
 some (v6, (1 : Int))
 else
 some v0 >>= fun v8 =>
 QT x1 x0 0 (gLin.mk x0.fK []) 0 >>= fun v10 =>
 if v10.fst == 0 then
 some (x0, (0 : Int))
 else
 Df x2 v10.fst >>= fun v11 => if v11 then
 CL v10.snd x2 v10.fst >>= fun v12 =>
 some (v12.fst, v12.snd)
 else
 some ((gLin.mk (0 : Int) [])) >>= fun v13 =>
 some (v13, (3 : Int))
theorem Dj (x0 : gLin) (x1 : Str) (x2 : gLin) (r : (gLin × Int)) (h : Yy x0 x1 x2 = some r) : PU 125 [Qi x0, eS x1, Qi x2] (Yi r) :=
 Pu2 (hs := [(12, .cb), (16, .cb), (21, .cb), (24, .n Qi 24 none), (60, .split), (64, .cb), (66, .n Qi 66 none), (70, .z [{ slot := 67, path := [1], fz := true }] (some (.c Yi))), (3000007, .l [] [1, 3, 5, 6, 8, 9, 10] [kk 3, kk 5, kk 6, kk 9, { slot := 9, path := [1], own := 2 }] [3, 5, 6, 8, 9] [kk 3, kk 5, kk 6, kk 9, { slot := 9, path := [1], own := 2 }] (YA (x1, x0, x2))), (5000001, .l [] [] [] [1, 3, 5, 6, 23] [kk 3, kk 5, kk 6] (ZZ (x1, x0, x2)))]) ((kJb (id := 5000001) (gLin.mk (0 : Int) []) (fun v0 ev0 v1 => (kCb (V1 x0) (kCb (V1 x2) (kCb (DX x1) (kXj (alts := ZZ (x1, x0, x2)) ev0 false (.next (.here () rfl (.cons (LeV.refl (AV.str x1)) (.cons (LeV.refl (AV.ptr (0 : Nat) (0 : Nat) (0 : Nat))) (.cons (LeV.refl (AV.ptr (1 : Nat) (0 : Nat) (0 : Nat))) (.cons (LeV.refl (AV.ptr (2 : Nat) (0 : Nat) (0 : Nat))) (.cons (LeV.refl (AV.bool false)) .nil))))) (.cons (LeB.refl (Box.cells (0 : Nat) [ii x0.fK, AV.sl (2 : Nat) (List.map Qe x0.fL)])) (.cons (LeB.refl (Box.cells (0 : Nat) [ii x2.fK, AV.sl (2 : Nat) (List.map Qe x2.fL)])) (.cons (LeB.cells (0 : Nat) (.cons (LeV.refl (ii (0 : Int))) (.cons (LeV.nil 2) .nil))) .nil))))))
 (kXj (alts := ZZ (x1, x0, x2)) ev0 true (.here () rfl (.cons (LeV.refl (AV.str x1)) (.cons (LeV.refl (AV.ptr (0 : Nat) (0 : Nat) (0 : Nat))) (.cons (LeV.refl (AV.ptr (1 : Nat) (0 : Nat) (0 : Nat))) (.cons (LeV.refl (AV.ptr (2 : Nat) (0 : Nat) (0 : Nat))) (.cons (LeV.refl (AV.bool true)) .nil))))) (.cons (LeB.refl (Box.cells (0 : Nat) [ii x0.fK, AV.sl (2 : Nat) (List.map Qe x0.fL)])) (.cons (LeB.refl (Box.cells (0 : Nat) [ii x2.fK, AV.sl (2 : Nat) (List.map Qe x2.fL)])) (.cons (LeB.cells (0 : Nat) (.cons (LeV.refl (ii (0 : Int))) (.cons (LeV.nil 2) .nil))) .nil))))))
 (kXj (alts := ZZ (x1, x0, x2)) ev0 true (.here () rfl (.cons (LeV.refl (AV.str x1)) (.cons (LeV.refl (AV.ptr (0 : Nat) (0 : Nat) (0 : Nat))) (.cons (LeV.refl (AV.ptr (1 : Nat) (0 : Nat) (0 : Nat))) (.cons (LeV.refl (AV.ptr (2 : Nat) (0 : Nat) (0 : Nat))) (.cons (LeV.refl (AV.bool true)) .nil))))) (.cons (LeB.refl (Box.cells (0 : Nat) [ii x0.fK, AV.sl (2 : Nat) (List.map Qe x0.fL)])) (.cons (LeB.refl (Box.cells (0 : Nat) [ii x2.fK, AV.sl (2 : Nat) (List.map Qe x2.fL)])) (.cons (LeB.cells (0 : Nat) (.cons (LeV.refl (ii (0 : Int))) (.cons (LeV.nil 2) .nil))) .nil))))))
 (kXj (alts := ZZ (x1, x0, x2)) ev0 true (.here () rfl (.cons (LeV.refl (AV.str x1)) (.cons (LeV.refl (AV.ptr (0 : Nat) (0 : Nat) (0 : Nat))) (.cons (LeV.refl (AV.ptr (1 : Nat) (0 : Nat) (0 : Nat))) (.cons (LeV.refl (AV.ptr (2 : Nat) (0 : Nat) (0 : Nat))) (.cons (LeV.refl (AV.bool true)) .nil))))) (.cons (LeB.refl (Box.cells (0 : Nat) [ii x0.fK, AV.sl (2 : Nat) (List.map Qe x0.fL)])) (.cons (LeB.refl (Box.cells (0 : Nat) [ii x2.fK, AV.sl (2 : Nat) (List.map Qe x2.fL)])) (.cons (LeB.cells (0 : Nat) (.cons (LeV.refl (ii (0 : Int))) (.cons (LeV.nil 2) .nil))) .nil)))))))
 (fun v0 => (kW (sh := Qi) (gLin.mk (0 : Int) []) (LeV.agg (.cons (LeV.refl (ii (0 : Int))) (.cons (LeV.nil 2) .nil))) fun v6 => (kEr (enc := Yi) (v6, (1 : Int)))))
 (fun v0 => (kL1 v0 (Ml x1 x0 x2 v0 0 (gLin.mk x0.fK []) 0) fun v8 v10 => (kIf (c := v10.fst == 0) (kEr (enc := Yi) (x0, (0 : Int)))
 (kCb (Sb x2 v10.fst) (kT (nM (sh := Qe) v10.snd.fL) (kC (sh := Yi) (OH v10.snd x2 v10.fst) fun v12 => (kEr (enc := Yi) (v12.fst, v12.snd))))
 (kW (sh := Qi) (gLin.mk (0 : Int) []) (LeV.agg (.cons (LeV.refl (ii (0 : Int))) (.cons (LeV.nil 2) .nil))) fun v13 => (kEr (enc := Yi) (v13, (3 : Int))))))))) h)
def ZX (s : (Str × Q8 × gLin)) (u : Unit) (o : (Q8 × Q8) ⊕ (Q8 × Int × Q8)) : List Alt := [⟨fun (x : (Q8 × Q8)) => (Sum.inl x : (Q8 × Q8) ⊕ (Q8 × Int × Q8)) = o, .exit 0, fun x => [.ptr 0 0 0, .undef, .ptr 1 0 0], fun x => [.cells 0 (Q3 x.1).cells, .cells 0 [ii x.2.fLin.fK, .sl 2 (List.map Qe x.2.fLin.fL), .str x.2.fFrom, .ow 2 0 2 (List.length x.2.fAt)], .own 0 2 (List.map Qi x.2.fAt)]⟩, ⟨fun (x : (Q8 × Int × Q8)) => (Sum.inr x : (Q8 × Q8) ⊕ (Q8 × Int × Q8)) = o, .ret, fun x => [.ptr 0 0 0, ii x.2.1, .ptr 1 0 0], fun x => [.cells 0 (Q3 x.1).cells, .cells 0 [ii x.2.2.fLin.fK, .sl 2 (List.map Qe x.2.2.fLin.fL), .str x.2.2.fFrom, .ow 2 0 2 (List.length x.2.2.fAt)], .own 0 2 (List.map Qi x.2.2.fAt)]⟩]
def Z1 (x1 : Str) (x3 : Q8) (x5 : gLin) (x6 : Q8) (x10 : Q8) (x11 : Int) : Option ((Q8 × Q8) ⊕ (Q8 × Int × Q8)) :=
 some (List.length x3.fAt : Int) >>= fun v0 =>
 if x11 < v0 then
 ix x3.fAt x11 >>= fun v1 =>
 Yy v1 x1 x5 >>= fun v2 =>
 if v2.snd != 0 then
 some ((Q8.mk (gLin.mk (0 : Int) []) [] [])) >>= fun v3 =>
 some (.inr (v3, v2.snd, x10))
 else
 if (x10.fAt.length + (1 : Nat)) * (32 : Nat) ≤ (140737488355328 : Nat) ∧ x10.fAt.length + (1 : Nat) ≤ (9223372036854775807 : Nat) then
 some (x10.fAt ++ [v2.fst]) >>= fun v4 =>
 Z1 x1 x3 x5 x6 (Q8.mk x10.fLin x10.fFrom v4) (wr (x11 + 1))
 else none
 else
 some (.inl (x6, x10))
 partial_fixpoint
theorem NP (x1 : Str) (x3 : Q8) (x5 : gLin) (x6 : Q8) (x10 : Q8) (x11 : Int) (o : (Q8 × Q8) ⊕ (Q8 × Int × Q8)) (h : Z1 x1 x3 x5 x6 x10 x11 = some o) : LO 126 6 59 [1, 3, 5, 6, 10, 11] [.str x1, .ptr 0 0 0, .ptr 1 0 0, .ptr 2 0 0, .ptr 3 0 0, ii x11] [.cells 0 (Q3 x3).cells, .cells 0 (Qi x5).cells, .cells 0 (Q3 x6).cells, .cells 0 [ii x10.fLin.fK, .sl 2 (List.map Qe x10.fLin.fL), .str x10.fFrom, .ow 4 0 2 (List.length x10.fAt)], .own 0 2 (List.map Qi x10.fAt)] [6, 7, 10] (ZX (x1, x3, x5) () o) :=
 Z1.partial_correctness x1 x3 x5 x6 (fun x10 x11 o => LO 126 6 59 [1, 3, 5, 6, 10, 11] [.str x1, .ptr 0 0 0, .ptr 1 0 0, .ptr 2 0 0, .ptr 3 0 0, ii x11] [.cells 0 (Q3 x3).cells, .cells 0 (Qi x5).cells, .cells 0 (Q3 x6).cells, .cells 0 [ii x10.fLin.fK, .sl 2 (List.map Qe x10.fLin.fL), .str x10.fFrom, .ow 4 0 2 (List.length x10.fAt)], .own 0 2 (List.map Qi x10.fAt)] [6, 7, 10] (ZX (x1, x3, x5) () o))
 (fun Z1 Q3y x10 x11 o h  =>
 Lp2 (hs := [(33, .n eI 33 none), (34, .split), (41, .e Qi), (45, .c Yi), (49, .split), (50, .n Q3 50 none), (56, .z [{ slot := 53, own := 2 }] (some (.n Qi 56 (some .a))))]) (kb := [kk 3, kk 5, kk 6, kk 10, { slot := 10, path := [3], own := 2 }]) (kbx := [kk 6, kk 10, { slot := 10, path := [3], own := 2 }]) ((kN _ (mLen (sh := Qi) x3.fAt) fun v0 => (kIfD (p := x11 < v0) (kIx (enc := Qi) (l := x3.fAt) (k := x11) fun v1 => (kC (sh := Yi) (Dj v1 x1 x5) fun v2 => (kIf (c := v2.snd != 0) (kW (sh := Q3) (Q8.mk (gLin.mk (0 : Int) []) [] []) (LeV.agg (.cons (LeV.refl (ii (0 : Int))) (.cons (LeV.nil 2) (.cons (LeV.refl (AV.str [])) (.cons (LeV.nil 2) .nil))))) fun v3 => (kX (alts := ZX (x1, x3, x5) ()) (.inr (v3, v2.snd, x10)) (.next (.here _ rfl (.refl _) (.refl _)))))
 (kA (q := (x10.fAt.length + (1 : Nat)) * (32 : Nat) ≤ (140737488355328 : Nat) ∧ x10.fAt.length + (1 : Nat) ≤ (9223372036854775807 : Nat)) (sh := Qi) (l := x10.fAt) (kO (sh := Qi) (x10.fAt ++ [v2.fst]) (mA (sh := Qi) x10.fAt v2.fst) (nA x10.fAt v2.fst) fun v4 => (kM0 (alts := ZX (x1, x3, x5) ()) (Q3y (Q8.mk x10.fLin x10.fFrom v4) (wr (x11 + 1)))))))))
 (kX (alts := ZX (x1, x3, x5) ()) (.inl (x6, x10)) (.here _ rfl (.refl _) (.refl _))))) h)) x10 x11 o h
def Vt (x0 : Q8) (x1 : Str) (x2 : gLin) : Option (Q8 × Int) :=
 Yy x0.fLin x1 x2 >>= fun v0 =>
 if v0.snd != 0 then
 some ((Q8.mk (gLin.mk (0 : Int) []) [] [])) >>= fun v1 =>
 some (v1, v0.snd)
 else
 some () >>= fun v2 =>
 Z1 x1 x0 x2 (Q8.mk (gLin.mk (0 : Int) []) [] []) (Q8.mk v0.fst x0.fFrom []) (0 : Int) >>= fun v3 => (match v3 with
 | (.inl v4) =>
 some (v4.snd, (0 : Int))
 | (.inr v5) =>
 some (v5.fst, v5.snd.fst))
theorem ML (x0 : Q8) (x1 : Str) (x2 : gLin) (r : (Q8 × Int)) (h : Vt x0 x1 x2 = some r) : PU 126 [Q3 x0, eS x1, Qi x2] (DZ r) :=
 Pu2 (hs := [(19, .c Yi), (23, .split), (24, .n Q3 24 none), (3000007, .l [] [1, 3, 5, 6, 10, 11] [kk 3, kk 5, kk 6, kk 10, { slot := 10, path := [3], own := 2 }] [6, 7, 10] [kk 6, kk 10, { slot := 10, path := [3], own := 2 }] (ZX (x1, x0, x2)))]) ((kC (sh := Yi) (Dj x0.fLin x1 x2) fun v0 => (kIf (c := v0.snd != 0) (kW (sh := Q3) (Q8.mk (gLin.mk (0 : Int) []) [] []) (LeV.agg (.cons (LeV.refl (ii (0 : Int))) (.cons (LeV.nil 2) (.cons (LeV.refl (AV.str [])) (.cons (LeV.nil 2) .nil))))) fun v1 => (kEr (enc := DZ) (v1, v0.snd)))
 (kL2 () (hL := (fun y hy => ZI.le (.cons (LeV.refl (AV.str x1)) (.cons (LeV.refl (AV.ptr (0 : Nat) (0 : Nat) (0 : Nat))) (.cons (LeV.refl (AV.ptr (1 : Nat) (0 : Nat) (0 : Nat))) (.cons (LeV.refl (AV.ptr (2 : Nat) (0 : Nat) (0 : Nat))) (.cons (LeV.refl (AV.ptr (3 : Nat) (0 : Nat) (0 : Nat))) (.cons (LeV.refl (ii (0 : Int))) .nil)))))) (.cons (LeB.refl (Box.cells (0 : Nat) [ii x0.fLin.fK, AV.sl (2 : Nat) (List.map Qe x0.fLin.fL), AV.str x0.fFrom, AV.sl (2 : Nat) (List.map Qi x0.fAt)])) (.cons (LeB.refl (Box.cells (0 : Nat) [ii x2.fK, AV.sl (2 : Nat) (List.map Qe x2.fL)])) (.cons (LeB.cells (0 : Nat) (.cons (LeV.refl (ii (0 : Int))) (.cons (LeV.nil 2) (.cons (LeV.refl (AV.str [])) (.cons (LeV.nil 2) .nil))))) (.cons (LeB.refl (Box.cells (0 : Nat) [ii v0.fst.fK, AV.sl (2 : Nat) (List.map Qe v0.fst.fL), AV.str x0.fFrom, AV.ow (4 : Nat) (0 : Nat) (2 : Nat) (0 : Nat)])) (.cons (LeB.refl (Box.own (0 : Nat) (2 : Nat) [])) .nil))))) (NP x1 x0 x2 (Q8.mk (gLin.mk (0 : Int) []) [] []) (Q8.mk v0.fst x0.fFrom []) (0 : Int) y hy))) (hA := fun v2 v4 => (kT (nM (sh := Qi) v4.snd.fAt) (kEr (enc := DZ) (v4.snd, (0 : Int)))))
 (hB := fun v2 v5 => (kEr (enc := DZ) (v5.fst, v5.snd.fst)))))) h)
def Yx (s : (Str × Q1 × gLin)) (u : Unit) (o : (Q1 × Q1) ⊕ (Q1 × Int × Q1)) : List Alt := [⟨fun (x : (Q1 × Q1)) => (Sum.inl x : (Q1 × Q1) ⊕ (Q1 × Int × Q1)) = o, .exit 0, fun x => [.str s.1, .ptr 0 0 0, .ptr 1 0 0, .ptr 2 0 0, .undef, .ptr 3 0 0], fun x => [.cells 0 (Q6 s.2.1).cells, .cells 0 (Qi s.2.2).cells, .cells 0 (Q6 x.1).cells, .cells 0 [ii x.2.fOp, .str x.2.fName, ii x.2.fVal.fN, ii x.2.fVal.fD, ii x.2.fType.fKind, ii x.2.fType.fBits, ii x.2.fType.fFrac, ii x.2.fType.fRound, ii x.2.fType.fOver, ii x.2.fLin.fK, .sl 2 (List.map Qe x.2.fLin.fL), .ow 4 0 4 (List.length x.2.fIdx), .ow 5 0 13 (List.length x.2.fArgs)], .own 0 4 (List.map Q3 x.2.fIdx), .own 0 13 (List.map Ql x.2.fArgs)]⟩, ⟨fun (x : (Q1 × Int × Q1)) => (Sum.inr x : (Q1 × Q1) ⊕ (Q1 × Int × Q1)) = o, .ret, fun x => [.str s.1, .ptr 0 0 0, .ptr 1 0 0, .ptr 2 0 0, ii x.2.1, .ptr 3 0 0], fun x => [.cells 0 (Q6 s.2.1).cells, .cells 0 (Qi s.2.2).cells, .cells 0 (Q6 x.1).cells, .cells 0 [ii x.2.2.fOp, .str x.2.2.fName, ii x.2.2.fVal.fN, ii x.2.2.fVal.fD, ii x.2.2.fType.fKind, ii x.2.2.fType.fBits, ii x.2.2.fType.fFrac, ii x.2.2.fType.fRound, ii x.2.2.fType.fOver, ii x.2.2.fLin.fK, .sl 2 (List.map Qe x.2.2.fLin.fL), .ow 4 0 4 (List.length x.2.2.fIdx), .ow 5 0 13 (List.length x.2.2.fArgs)], .own 0 4 (List.map Q3 x.2.2.fIdx), .own 0 13 (List.map Ql x.2.2.fArgs)]⟩]
def Zr (x1 : Str) (x3 : Q1) (x5 : gLin) (x6 : Q1) (x8 : Q1) (x11 : Int) : Option ((Q1 × Q1) ⊕ (Q1 × Int × Q1)) :=
 some (List.length x3.fIdx : Int) >>= fun v0 =>
 if x11 < v0 then
 ix x3.fIdx x11 >>= fun v1 =>
 Vt v1 x1 x5 >>= fun v2 =>
 if v2.snd != 0 then
 some ((QV.mk (0 : Int) [] (gVal.mk (0 : Int) (0 : Int)) (Qg.mk (0 : Int) (0 : Int) (0 : Int) (0 : Int) (0 : Int)) (gLin.mk (0 : Int) []) [] [] : Q1)) >>= fun v3 =>
 some (.inr (v3, v2.snd, x8))
 else
 if (x8.fIdx.length + (1 : Nat)) * (72 : Nat) ≤ (140737488355328 : Nat) ∧ x8.fIdx.length + (1 : Nat) ≤ (9223372036854775807 : Nat) then
 some (x8.fIdx ++ [v2.fst]) >>= fun v4 =>
 Zr x1 x3 x5 x6 (QV.mk x8.fOp x8.fName x8.fVal x8.fType x8.fLin v4 x8.fArgs : Q1) (wr (x11 + 1))
 else none
 else
 some (.inl (x6, x8))
 partial_fixpoint
theorem Lk (x1 : Str) (x3 : Q1) (x5 : gLin) (x6 : Q1) (x8 : Q1) (x11 : Int) (o : (Q1 × Q1) ⊕ (Q1 × Int × Q1)) (h : Zr x1 x3 x5 x6 x8 x11 = some o) : LO 103 7 97 [1, 3, 5, 6, 8, 11] [.str x1, .ptr 0 0 0, .ptr 1 0 0, .ptr 2 0 0, .ptr 3 0 0, ii x11] [.cells 0 (Q6 x3).cells, .cells 0 (Qi x5).cells, .cells 0 (Q6 x6).cells, .cells 0 [ii x8.fOp, .str x8.fName, ii x8.fVal.fN, ii x8.fVal.fD, ii x8.fType.fKind, ii x8.fType.fBits, ii x8.fType.fFrac, ii x8.fType.fRound, ii x8.fType.fOver, ii x8.fLin.fK, .sl 2 (List.map Qe x8.fLin.fL), .ow 4 0 4 (List.length x8.fIdx), .ow 5 0 13 (List.length x8.fArgs)], .own 0 4 (List.map Q3 x8.fIdx), .own 0 13 (List.map Ql x8.fArgs)] [1, 3, 5, 6, 7, 8] (Yx (x1, x3, x5) () o) :=
 Zr.partial_correctness x1 x3 x5 x6 (fun x8 x11 o => LO 103 7 97 [1, 3, 5, 6, 8, 11] [.str x1, .ptr 0 0 0, .ptr 1 0 0, .ptr 2 0 0, .ptr 3 0 0, ii x11] [.cells 0 (Q6 x3).cells, .cells 0 (Qi x5).cells, .cells 0 (Q6 x6).cells, .cells 0 [ii x8.fOp, .str x8.fName, ii x8.fVal.fN, ii x8.fVal.fD, ii x8.fType.fKind, ii x8.fType.fBits, ii x8.fType.fFrac, ii x8.fType.fRound, ii x8.fType.fOver, ii x8.fLin.fK, .sl 2 (List.map Qe x8.fLin.fL), .ow 4 0 4 (List.length x8.fIdx), .ow 5 0 13 (List.length x8.fArgs)], .own 0 4 (List.map Q3 x8.fIdx), .own 0 13 (List.map Ql x8.fArgs)] [1, 3, 5, 6, 7, 8] (Yx (x1, x3, x5) () o))
 (fun Zr Q3s x8 x11 o h  =>
 Lp2 (hs := [(43, .n eI 43 none), (44, .split), (51, .e Q3), (55, .c DZ), (59, .split), (60, .n Q6 60 none), (66, .z [{ slot := 63, own := 4 }] (some (.n Q3 66 (some .a))))]) (kb := [kk 3, kk 5, kk 6, kk 8, { slot := 8, path := [11], own := 4 }, { slot := 8, path := [12], own := 13 }]) (kbx := [kk 3, kk 5, kk 6, kk 8, { slot := 8, path := [11], own := 4 }, { slot := 8, path := [12], own := 13 }]) ((kN _ (mLen (sh := Q3) x3.fIdx) fun v0 => (kIfD (p := x11 < v0) (kIx (enc := Q3) (l := x3.fIdx) (k := x11) fun v1 => (kC (sh := DZ) (ML v1 x1 x5) fun v2 => (kIf (c := v2.snd != 0) (kW (sh := Q6) (QV.mk (0 : Int) [] (gVal.mk (0 : Int) (0 : Int)) (Qg.mk (0 : Int) (0 : Int) (0 : Int) (0 : Int) (0 : Int)) (gLin.mk (0 : Int) []) [] [] : Q1) (LeV.agg (.cons (LeV.refl (ii (0 : Int))) (.cons (LeV.refl (AV.str [])) (.cons (LeV.refl (ii (0 : Int))) (.cons (LeV.refl (ii (0 : Int))) (.cons (LeV.refl (ii (0 : Int))) (.cons (LeV.refl (ii (0 : Int))) (.cons (LeV.refl (ii (0 : Int))) (.cons (LeV.refl (ii (0 : Int))) (.cons (LeV.refl (ii (0 : Int))) (.cons (LeV.refl (ii (0 : Int))) (.cons (LeV.nil 2) (.cons (LeV.nil 4) (.cons (LeV.nil 13) .nil)))))))))))))) fun v3 => (kX (alts := Yx (x1, x3, x5) ()) (.inr (v3, v2.snd, x8)) (.next (.here _ rfl (.refl _) (.refl _)))))
 (kA (q := (x8.fIdx.length + (1 : Nat)) * (72 : Nat) ≤ (140737488355328 : Nat) ∧ x8.fIdx.length + (1 : Nat) ≤ (9223372036854775807 : Nat)) (sh := Q3) (l := x8.fIdx) (kO (sh := Q3) (x8.fIdx ++ [v2.fst]) (mA (sh := Q3) x8.fIdx v2.fst) (nA x8.fIdx v2.fst) fun v4 => (kM0 (alts := Yx (x1, x3, x5) ()) (Q3s (QV.mk x8.fOp x8.fName x8.fVal x8.fType x8.fLin v4 x8.fArgs : Q1) (wr (x11 + 1)))))))))
 (kX (alts := Yx (x1, x3, x5) ()) (.inl (x6, x8)) (.here _ rfl (.refl _) (.refl _))))) h)) x8 x11 o h
def Yb (s : (Str × Q1 × gLin)) (u : Unit) (o : (Q1 × Q1) ⊕ (Q1 × Int × Q1)) : List Alt := [⟨fun (x : (Q1 × Q1)) => (Sum.inl x : (Q1 × Q1) ⊕ (Q1 × Int × Q1)) = o, .exit 2, fun x => [.ptr 0 0 0, .undef, .ptr 1 0 0], fun x => [.cells 0 (Q6 x.1).cells, .cells 0 [ii x.2.fOp, .str x.2.fName, ii x.2.fVal.fN, ii x.2.fVal.fD, ii x.2.fType.fKind, ii x.2.fType.fBits, ii x.2.fType.fFrac, ii x.2.fType.fRound, ii x.2.fType.fOver, ii x.2.fLin.fK, .sl 2 (List.map Qe x.2.fLin.fL), .ow 2 0 4 (List.length x.2.fIdx), .ow 3 0 13 (List.length x.2.fArgs)], .own 0 4 (List.map Q3 x.2.fIdx), .own 0 13 (List.map Ql x.2.fArgs)]⟩, ⟨fun (x : (Q1 × Int × Q1)) => (Sum.inr x : (Q1 × Q1) ⊕ (Q1 × Int × Q1)) = o, .ret, fun x => [.ptr 0 0 0, ii x.2.1, .ptr 1 0 0], fun x => [.cells 0 (Q6 x.1).cells, .cells 0 [ii x.2.2.fOp, .str x.2.2.fName, ii x.2.2.fVal.fN, ii x.2.2.fVal.fD, ii x.2.2.fType.fKind, ii x.2.2.fType.fBits, ii x.2.2.fType.fFrac, ii x.2.2.fType.fRound, ii x.2.2.fType.fOver, ii x.2.2.fLin.fK, .sl 2 (List.map Qe x.2.2.fLin.fL), .ow 2 0 4 (List.length x.2.2.fIdx), .ow 3 0 13 (List.length x.2.2.fArgs)], .own 0 4 (List.map Q3 x.2.2.fIdx), .own 0 13 (List.map Ql x.2.2.fArgs)]⟩]
mutual
def ZB (x0 : Q1) (x1 : Str) (x2 : gLin) : Option (Q1 × Int) :=
 Yy x0.fLin x1 x2 >>= fun v0 =>
 if v0.snd != 0 then
 some ((QV.mk (0 : Int) [] (gVal.mk (0 : Int) (0 : Int)) (Qg.mk (0 : Int) (0 : Int) (0 : Int) (0 : Int) (0 : Int)) (gLin.mk (0 : Int) []) [] [] : Q1)) >>= fun v1 =>
 some (v1, v0.snd)
 else
 some () >>= fun v2 =>
 Zr x1 x0 x2 (QV.mk (0 : Int) [] (gVal.mk (0 : Int) (0 : Int)) (Qg.mk (0 : Int) (0 : Int) (0 : Int) (0 : Int) (0 : Int)) (gLin.mk (0 : Int) []) [] [] : Q1) (QV.mk x0.fOp x0.fName x0.fVal x0.fType v0.fst [] [] : Q1) (0 : Int) >>= fun v3 => (match v3 with
 | (.inl v4) =>
 some () >>= fun v5 =>
 Zk x1 x0 x2 v4.fst v4.snd 0 >>= fun v6 => (match v6 with
 | (.inl v7) =>
 some (v7.snd, (0 : Int))
 | (.inr v8) =>
 some (v8.fst, v8.snd.fst))
 | (.inr v9) =>
 some (v9.fst, v9.snd.fst))
 partial_fixpoint
def Zk (x1 : Str) (x3 : Q1) (x5 : gLin) (x6 : Q1) (x8 : Q1) (x14 : Int) : Option ((Q1 × Q1) ⊕ (Q1 × Int × Q1)) :=
 some (List.length x3.fArgs : Int) >>= fun v0 =>
 if x14 < v0 then
 Option.map Q9.f (ix x3.fArgs x14) >>= fun v1 =>
 ZB v1 x1 x5 >>= fun v2 =>
 if v2.snd != 0 then
 some ((QV.mk (0 : Int) [] (gVal.mk (0 : Int) (0 : Int)) (Qg.mk (0 : Int) (0 : Int) (0 : Int) (0 : Int) (0 : Int)) (gLin.mk (0 : Int) []) [] [] : Q1)) >>= fun v3 =>
 some (.inr (v3, v2.snd, x8))
 else
 if (x8.fArgs.length + (1 : Nat)) * (160 : Nat) ≤ (140737488355328 : Nat) ∧ x8.fArgs.length + (1 : Nat) ≤ (9223372036854775807 : Nat) then
 some (x8.fArgs ++ [(Q9.mk v2.fst)]) >>= fun v4 =>
 Zk x1 x3 x5 x6 (QV.mk x8.fOp x8.fName x8.fVal x8.fType x8.fLin x8.fIdx v4 : Q1) (wr (x14 + 1))
 else none
 else
 some (.inl (x6, x8))
 partial_fixpoint
end
theorem Iu (x1 : Str) (x2 : gLin) : (∀ (x0 : Q1) (r : (Q1 × Int)), ZB x0 x1 x2 = some r → PU 103 [Q6 x0, eS x1, Qi x2] (YK r)) ∧ (∀ (x3 : Q1) (x6 : Q1) (x8 : Q1) (x14 : Int) (o : (Q1 × Q1) ⊕ (Q1 × Int × Q1)), Zk x1 x3 x2 x6 x8 x14 = some o → LO 103 14 97 [1, 3, 5, 6, 8, 14] [.str x1, .ptr 0 0 0, .ptr 1 0 0, .ptr 2 0 0, .ptr 3 0 0, ii x14] [.cells 0 (Q6 x3).cells, .cells 0 (Qi x2).cells, .cells 0 (Q6 x6).cells, .cells 0 [ii x8.fOp, .str x8.fName, ii x8.fVal.fN, ii x8.fVal.fD, ii x8.fType.fKind, ii x8.fType.fBits, ii x8.fType.fFrac, ii x8.fType.fRound, ii x8.fType.fOver, ii x8.fLin.fK, .sl 2 (List.map Qe x8.fLin.fL), .ow 4 0 4 (List.length x8.fIdx), .ow 5 0 13 (List.length x8.fArgs)], .own 0 4 (List.map Q3 x8.fIdx), .own 0 13 (List.map Ql x8.fArgs)] [6, 7, 8] (Yb (x1, x3, x2) () o)) :=
 ZB.mutual_partial_correctness x1 x2 (fun x0 r => PU 103 [Q6 x0, eS x1, Qi x2] (YK r)) (fun x3 x6 x8 x14 o => LO 103 14 97 [1, 3, 5, 6, 8, 14] [.str x1, .ptr 0 0 0, .ptr 1 0 0, .ptr 2 0 0, .ptr 3 0 0, ii x14] [.cells 0 (Q6 x3).cells, .cells 0 (Qi x2).cells, .cells 0 (Q6 x6).cells, .cells 0 [ii x8.fOp, .str x8.fName, ii x8.fVal.fN, ii x8.fVal.fD, ii x8.fType.fKind, ii x8.fType.fBits, ii x8.fType.fFrac, ii x8.fType.fRound, ii x8.fType.fOver, ii x8.fLin.fK, .sl 2 (List.map Qe x8.fLin.fL), .ow 4 0 4 (List.length x8.fIdx), .ow 5 0 13 (List.length x8.fArgs)], .own 0 4 (List.map Q3 x8.fIdx), .own 0 13 (List.map Ql x8.fArgs)] [6, 7, 8] (Yb (x1, x3, x2) () o))
 (fun Zk Q3r x0 r h  =>
 Pu2 (hs := [(31, .c Yi), (35, .split), (36, .n Q6 36 none), (3000015, .l [] [1, 3, 5, 6, 8, 14] [kk 3, kk 5, kk 6, kk 8, { slot := 8, path := [11], own := 4 }, { slot := 8, path := [12], own := 13 }] [6, 7, 8] [kk 6, kk 8, { slot := 8, path := [11], own := 4 }, { slot := 8, path := [12], own := 13 }] (Yb (x1, x0, x2))), (3000008, .l [] [1, 3, 5, 6, 8, 11] [kk 3, kk 5, kk 6, kk 8, { slot := 8, path := [11], own := 4 }, { slot := 8, path := [12], own := 13 }] [1, 3, 5, 6, 7, 8] [kk 3, kk 5, kk 6, kk 8, { slot := 8, path := [11], own := 4 }, { slot := 8, path := [12], own := 13 }] (Yx (x1, x0, x2)))]) ((kC (sh := Yi) (Dj x0.fLin x1 x2) fun v0 => (kIf (c := v0.snd != 0) (kW (sh := Q6) (QV.mk (0 : Int) [] (gVal.mk (0 : Int) (0 : Int)) (Qg.mk (0 : Int) (0 : Int) (0 : Int) (0 : Int) (0 : Int)) (gLin.mk (0 : Int) []) [] [] : Q1) (LeV.agg (.cons (LeV.refl (ii (0 : Int))) (.cons (LeV.refl (AV.str [])) (.cons (LeV.refl (ii (0 : Int))) (.cons (LeV.refl (ii (0 : Int))) (.cons (LeV.refl (ii (0 : Int))) (.cons (LeV.refl (ii (0 : Int))) (.cons (LeV.refl (ii (0 : Int))) (.cons (LeV.refl (ii (0 : Int))) (.cons (LeV.refl (ii (0 : Int))) (.cons (LeV.refl (ii (0 : Int))) (.cons (LeV.nil 2) (.cons (LeV.nil 4) (.cons (LeV.nil 13) .nil)))))))))))))) fun v1 => (kEr (enc := YK) (v1, v0.snd)))
 (kL2 () (hL := (fun y hy => ZI.le (.cons (LeV.refl (AV.str x1)) (.cons (LeV.refl (AV.ptr (0 : Nat) (0 : Nat) (0 : Nat))) (.cons (LeV.refl (AV.ptr (1 : Nat) (0 : Nat) (0 : Nat))) (.cons (LeV.refl (AV.ptr (2 : Nat) (0 : Nat) (0 : Nat))) (.cons (LeV.refl (AV.ptr (3 : Nat) (0 : Nat) (0 : Nat))) (.cons (LeV.refl (ii (0 : Int))) .nil)))))) (.cons (LeB.refl (Box.cells (0 : Nat) [ii x0.fOp, AV.str x0.fName, ii x0.fVal.fN, ii x0.fVal.fD, ii x0.fType.fKind, ii x0.fType.fBits, ii x0.fType.fFrac, ii x0.fType.fRound, ii x0.fType.fOver, ii x0.fLin.fK, AV.sl (2 : Nat) (List.map Qe x0.fLin.fL), AV.sl (4 : Nat) (List.map Q3 x0.fIdx), AV.sl (13 : Nat) (List.map Ql x0.fArgs)])) (.cons (LeB.refl (Box.cells (0 : Nat) [ii x2.fK, AV.sl (2 : Nat) (List.map Qe x2.fL)])) (.cons (LeB.cells (0 : Nat) (.cons (LeV.refl (ii (0 : Int))) (.cons (LeV.refl (AV.str [])) (.cons (LeV.refl (ii (0 : Int))) (.cons (LeV.refl (ii (0 : Int))) (.cons (LeV.refl (ii (0 : Int))) (.cons (LeV.refl (ii (0 : Int))) (.cons (LeV.refl (ii (0 : Int))) (.cons (LeV.refl (ii (0 : Int))) (.cons (LeV.refl (ii (0 : Int))) (.cons (LeV.refl (ii (0 : Int))) (.cons (LeV.nil 2) (.cons (LeV.nil 4) (.cons (LeV.nil 13) .nil)))))))))))))) (.cons (LeB.refl (Box.cells (0 : Nat) [ii x0.fOp, AV.str x0.fName, ii x0.fVal.fN, ii x0.fVal.fD, ii x0.fType.fKind, ii x0.fType.fBits, ii x0.fType.fFrac, ii x0.fType.fRound, ii x0.fType.fOver, ii v0.fst.fK, AV.sl (2 : Nat) (List.map Qe v0.fst.fL), AV.ow (4 : Nat) (0 : Nat) (4 : Nat) (0 : Nat), AV.ow (5 : Nat) (0 : Nat) (13 : Nat) (0 : Nat)])) (.cons (LeB.refl (Box.own (0 : Nat) (4 : Nat) [])) (.cons (LeB.refl (Box.own (0 : Nat) (13 : Nat) [])) .nil)))))) (Lk x1 x0 x2 (QV.mk (0 : Int) [] (gVal.mk (0 : Int) (0 : Int)) (Qg.mk (0 : Int) (0 : Int) (0 : Int) (0 : Int) (0 : Int)) (gLin.mk (0 : Int) []) [] [] : Q1) (QV.mk x0.fOp x0.fName x0.fVal x0.fType v0.fst [] [] : Q1) (0 : Int) y hy))) (hA := fun v2 v4 => (kL2 () (hL := (Q3r x0 v4.fst v4.snd 0)) (hA := fun v5 v7 => (kT (nM (sh := Q3) v7.snd.fIdx) (kT (nM (sh := Ql) v7.snd.fArgs) (kEr (enc := YK) (v7.snd, (0 : Int))))))
 (hB := fun v5 v8 => (kEr (enc := YK) (v8.fst, v8.snd.fst)))))
 (hB := fun v2 v9 => (kEr (enc := YK) (v9.fst, v9.snd.fst)))))) h))
 (fun ZB Zk Q3q Q3r x3 x6 x8 x14 o h  =>
 Lp2 (hs := [(71, .n eI 71 none), (72, .split), (79, .e Q6), (83, .c YK), (87, .split), (88, .n Q6 88 none), (94, .z [{ slot := 91, own := 13 }] (some (.n Ql 94 (some .a))))]) (kb := [kk 3, kk 5, kk 6, kk 8, { slot := 8, path := [11], own := 4 }, { slot := 8, path := [12], own := 13 }]) (kbx := [kk 6, kk 8, { slot := 8, path := [11], own := 4 }, { slot := 8, path := [12], own := 13 }]) ((kN _ (mLen (sh := Ql) x3.fArgs) fun v0 => (kIfD (p := x14 < v0) (kIxR (l := x3.fArgs) (k := x14) QZ fun v1 => (kC (sh := YK) (Q3q v1) fun v2 => (kIf (c := v2.snd != 0) (kW (sh := Q6) (QV.mk (0 : Int) [] (gVal.mk (0 : Int) (0 : Int)) (Qg.mk (0 : Int) (0 : Int) (0 : Int) (0 : Int) (0 : Int)) (gLin.mk (0 : Int) []) [] [] : Q1) (LeV.agg (.cons (LeV.refl (ii (0 : Int))) (.cons (LeV.refl (AV.str [])) (.cons (LeV.refl (ii (0 : Int))) (.cons (LeV.refl (ii (0 : Int))) (.cons (LeV.refl (ii (0 : Int))) (.cons (LeV.refl (ii (0 : Int))) (.cons (LeV.refl (ii (0 : Int))) (.cons (LeV.refl (ii (0 : Int))) (.cons (LeV.refl (ii (0 : Int))) (.cons (LeV.refl (ii (0 : Int))) (.cons (LeV.nil 2) (.cons (LeV.nil 4) (.cons (LeV.nil 13) .nil)))))))))))))) fun v3 => (kX (alts := Yb (x1, x3, x2) ()) (.inr (v3, v2.snd, x8)) (.next (.here _ rfl (.refl _) (.refl _)))))
 (kA (q := (x8.fArgs.length + (1 : Nat)) * (160 : Nat) ≤ (140737488355328 : Nat) ∧ x8.fArgs.length + (1 : Nat) ≤ (9223372036854775807 : Nat)) (sh := Ql) (l := x8.fArgs) (kO (sh := Ql) (x8.fArgs ++ [(Q9.mk v2.fst)]) (mAR ND x8.fArgs v2.fst) (nA x8.fArgs (Q9.mk v2.fst)) fun v4 => (kM0 (alts := Yb (x1, x3, x2) ()) (Q3r x3 x6 (QV.mk x8.fOp x8.fName x8.fVal x8.fType x8.fLin x8.fIdx v4 : Q1) (wr (x14 + 1)))))))))
 (kX (alts := Yb (x1, x3, x2) ()) (.inl (x6, x8)) (.here _ rfl (.refl _) (.refl _))))) h))
theorem NC (x0 : Q1) (x1 : Str) (x2 : gLin) (r : (Q1 × Int)) (h : ZB x0 x1 x2 = some r) : PU 103 [Q6 x0, eS x1, Qi x2] (YK r) := (Iu x1 x2).1 x0 r h
def ZP (s : ((List Q7) × Str × gLin)) (u : Unit) (o : (List Q7) ⊕ ((List Q7) × Int)) : List Alt := [⟨fun (x : List Q7) => (Sum.inl x : (List Q7) ⊕ ((List Q7) × Int)) = o, .exit 0, fun x => [.undef, .undef, .sl 20 (List.map Qr x)], fun x => []⟩, ⟨fun (x : ((List Q7) × Int)) => (Sum.inr x : (List Q7) ⊕ ((List Q7) × Int)) = o, .ret, fun x => [.sl 20 (List.map Qr x.1), ii x.2, .undef], fun x => []⟩]
mutual
def XL (x0 : List Q7) (x1 : Str) (x2 : gLin) : Option (List Q7 × Int) :=
 some () >>= fun v0 =>
 Zs x0 x1 x2 [] 0 >>= fun v1 => (match v1 with
 | (.inl v2) =>
 some (v2, (0 : Int))
 | (.inr v3) =>
 some (v3.fst, v3.snd))
 partial_fixpoint
def Zs (x0 : List Q7) (x1 : Str) (x5 : gLin) (x8 : List Q7) (x9 : Int) : Option ((List Q7) ⊕ ((List Q7) × Int)) :=
 some (List.length x0 : Int) >>= fun v0 =>
 if x9 < v0 then
 Option.map Q7.f (ix x0 x9) >>= fun v1 =>
 some ((QV.mk (3 : Int) [] (gVal.mk (0 : Int) (0 : Int)) (Qg.mk (0 : Int) (0 : Int) (0 : Int) (0 : Int) (0 : Int)) (gLin.mk (0 : Int) []) v1.fIdx [] : Q1)) >>= fun v2 =>
 ZB v2 x1 x5 >>= fun v3 =>
 if v3.snd != 0 then
 some (.inr ([], v3.snd))
 else
 ZB v1.fExpr x1 x5 >>= fun v4 =>
 if v4.snd != 0 then
 some (.inr ([], v4.snd))
 else
 XL v1.fBody x1 x5 >>= fun v5 =>
 if v5.snd != 0 then
 some (.inr ([], v5.snd))
 else
 if (x8.length + (1 : Nat)) * (256 : Nat) ≤ (140737488355328 : Nat) ∧ x8.length + (1 : Nat) ≤ (9223372036854775807 : Nat) then
 some (x8 ++ [(Q7.mk (Xh.mk v1.fOp v1.fName v1.fMany v1.fMark v1.fFold v3.fst.fIdx v4.fst v5.fst : Qa))]) >>= fun v6 =>
 Zs x0 x1 x5 v6 (wr (x9 + 1))
 else none
 else
 some (.inl x8)
 partial_fixpoint
end
theorem Iv (x1 : Str) (x2 : gLin) : (∀ (x0 : List Q7) (r : (List Q7 × Int)), XL x0 x1 x2 = some r → PU 83 [Zl x0, eS x1, Qi x2] (J8 r)) ∧ (∀ (x0 : List Q7) (x8 : List Q7) (x9 : Int) (o : (List Q7) ⊕ ((List Q7) × Int)), Zs x0 x1 x2 x8 x9 = some o → LO 83 3 73 [0, 1, 5, 8, 9] [.sl 20 (List.map Qr x0), .str x1, .ptr 0 0 0, .ow 1 0 20 (List.length x8), ii x9] [.cells 0 (Qi x2).cells, .own 0 20 (List.map Qr x8)] [6, 7, 8] (ZP (x0, x1, x2) () o)) :=
 XL.mutual_partial_correctness x1 x2 (fun x0 r => PU 83 [Zl x0, eS x1, Qi x2] (J8 r)) (fun x0 x8 x9 o => LO 83 3 73 [0, 1, 5, 8, 9] [.sl 20 (List.map Qr x0), .str x1, .ptr 0 0 0, .ow 1 0 20 (List.length x8), ii x9] [.cells 0 (Qi x2).cells, .own 0 20 (List.map Qr x8)] [6, 7, 8] (ZP (x0, x1, x2) () o))
 (fun Zs Q4j x0 r h  =>
 Pu2 (hs := [(3000004, .l [] [0, 1, 5, 8, 9] [kk 5, { slot := 8, own := 20 }] [6, 7, 8] [{ slot := 6, fz := true }, { slot := 8, fz := true }] (ZP (x0, x1, x2)))]) ((kL2 () (hL := (Q4j x0 [] 0)) (hA := fun v0 v2 => (kEr (enc := J8) (v2, (0 : Int))))
 (hB := fun v0 v3 => (kEr (enc := J8) (v3.fst, v3.snd)))) h))
 (fun XL Zs Q4i Q4j x0 x8 x9 o h  =>
 Lp2 (hs := [(19, .n eI 19 none), (20, .split), (25, .e Qm), (30, .n Q6 30 none), (33, .c YK), (37, .split), (44, .c YK), (48, .split), (55, .c J8), (59, .split), (71, .z [{ slot := 68, own := 20 }] (some (.n Qr 71 (some .a))))]) (kb := [kk 5, { slot := 8, own := 20 }]) (kbx := [{ slot := 6, fz := true }, { slot := 8, fz := true }]) ((kN _ (mLen (sh := Qr) x0) fun v0 => (kIfD (p := x9 < v0) (kIxR (l := x0) (k := x9) Z2 fun v1 => (kW (sh := Q6) (QV.mk (3 : Int) [] (gVal.mk (0 : Int) (0 : Int)) (Qg.mk (0 : Int) (0 : Int) (0 : Int) (0 : Int) (0 : Int)) (gLin.mk (0 : Int) []) v1.fIdx [] : Q1) (LeV.agg (.cons (LeV.refl (ii (3 : Int))) (.cons (LeV.refl (AV.str [])) (.cons (LeV.refl (ii (0 : Int))) (.cons (LeV.refl (ii (0 : Int))) (.cons (LeV.refl (ii (0 : Int))) (.cons (LeV.refl (ii (0 : Int))) (.cons (LeV.refl (ii (0 : Int))) (.cons (LeV.refl (ii (0 : Int))) (.cons (LeV.refl (ii (0 : Int))) (.cons (LeV.refl (ii (0 : Int))) (.cons (LeV.nil 2) (.cons (LeV.refl (AV.sl (4 : Nat) (List.map Q3 v1.fIdx))) (.cons (LeV.nil 13) .nil)))))))))))))) fun v2 => (kC (sh := YK) (NC v2 x1 x2) fun v3 => (kIf (c := v3.snd != 0) (kT (nM (sh := Qr) x8) (kX (alts := ZP (x0, x1, x2) ()) (.inr ([], v3.snd)) (.next (.here _ rfl (.cons (LeV.nil 20) (.cons (LeV.refl (ii v3.snd)) (.cons (LeV.undef (AV.sl (20 : Nat) (List.map Qr x8))) .nil))) (.refl _)))))
 (kC (sh := YK) (NC v1.fExpr x1 x2) fun v4 => (kIf (c := v4.snd != 0) (kT (nM (sh := Qr) x8) (kX (alts := ZP (x0, x1, x2) ()) (.inr ([], v4.snd)) (.next (.here _ rfl (.cons (LeV.nil 20) (.cons (LeV.refl (ii v4.snd)) (.cons (LeV.undef (AV.sl (20 : Nat) (List.map Qr x8))) .nil))) (.refl _)))))
 (kC (sh := J8) (Q4i v1.fBody) fun v5 => (kIf (c := v5.snd != 0) (kT (nM (sh := Qr) x8) (kX (alts := ZP (x0, x1, x2) ()) (.inr ([], v5.snd)) (.next (.here _ rfl (.cons (LeV.nil 20) (.cons (LeV.refl (ii v5.snd)) (.cons (LeV.undef (AV.sl (20 : Nat) (List.map Qr x8))) .nil))) (.refl _)))))
 (kA (q := (x8.length + (1 : Nat)) * (256 : Nat) ≤ (140737488355328 : Nat) ∧ x8.length + (1 : Nat) ≤ (9223372036854775807 : Nat)) (sh := Qr) (l := x8) (kO (sh := Qr) (x8 ++ [(Q7.mk (Xh.mk v1.fOp v1.fName v1.fMany v1.fMark v1.fFold v3.fst.fIdx v4.fst v5.fst : Qa))]) (mAR MQ x8 (Xh.mk v1.fOp v1.fName v1.fMany v1.fMark v1.fFold v3.fst.fIdx v4.fst v5.fst : Qa)) (nA x8 (Q7.mk (Xh.mk v1.fOp v1.fName v1.fMany v1.fMark v1.fFold v3.fst.fIdx v4.fst v5.fst : Qa))) fun v6 => (kM0 (alts := ZP (x0, x1, x2) ()) (Q4j x0 v6 (wr (x9 + 1))))))))))))))
 (kT (nM (sh := Qr) x8) (kX (alts := ZP (x0, x1, x2) ()) (.inl x8) (.here _ rfl (.refl _) (.refl _)))))) h))
theorem IU (x0 : List Q7) (x1 : Str) (x2 : gLin) (r : (List Q7 × Int)) (h : XL x0 x1 x2 = some r) : PU 83 [Zl x0, eS x1, Qi x2] (J8 r) := (Iv x1 x2).1 x0 r h
def K2 (s : List Qc) (u : Unit) (o : (Qa × (List Q7)) ⊕ (Qa × Int)) : List Alt := [⟨fun (x : (Qa × (List Q7))) => (Sum.inl x : (Qa × (List Q7)) ⊕ (Qa × Int)) = o, .exit 0, fun x => [.ptr 0 0 0, .undef, .sl 20 (List.map Qr x.2)], fun x => [.cells 0 (Qm x.1).cells]⟩, ⟨fun (x : (Qa × Int)) => (Sum.inr x : (Qa × (List Q7)) ⊕ (Qa × Int)) = o, .ret, fun x => [.ptr 0 0 0, ii x.2, .undef], fun x => [.cells 0 (Qm x.1).cells]⟩]
def ZM (x1 : List Qc) (x4 : Qa) (x6 : List Q7) (x7 : Int) : Option ((Qa × (List Q7)) ⊕ (Qa × Int)) :=
 some (List.length x1 : Int) >>= fun v0 =>
 if x7 < v0 then
 ix x1 x7 >>= fun v1 =>
 ix x1 x7 >>= fun v2 =>
 XL x6 v1.fName (gLin.mk v2.fVal []) >>= fun v3 =>
 some ((gLin.mk v2.fVal [])) >>= fun v4 =>
 if v3.snd != 0 then
 some ((Xh.mk (0 : Int) [] (0 : Int) (0 : Int) (0 : Int) [] (QV.mk (0 : Int) [] (gVal.mk (0 : Int) (0 : Int)) (Qg.mk (0 : Int) (0 : Int) (0 : Int) (0 : Int) (0 : Int)) (gLin.mk (0 : Int) []) [] [] : Q1) [] : Qa)) >>= fun v5 =>
 some (.inr (v5, v3.snd))
 else
 ZM x1 x4 v3.fst (wr (x7 + 1))
 else
 some (.inl (x4, x6))
 partial_fixpoint
theorem IC (x1 : List Qc) (x4 : Qa) (x6 : List Q7) (x7 : Int) (o : (Qa × (List Q7)) ⊕ (Qa × Int)) (h : ZM x1 x4 x6 x7 = some o) : LO 53 3 42 [1, 4, 6, 7] [.sl 2 (List.map Qd x1), .ptr 0 0 0, .sl 20 (List.map Qr x6), ii x7] [.cells 0 (Qm x4).cells] [4, 5, 6] (K2 x1 () o) :=
 ZM.partial_correctness x1 x4 (fun x6 x7 o => LO 53 3 42 [1, 4, 6, 7] [.sl 2 (List.map Qd x1), .ptr 0 0 0, .sl 20 (List.map Qr x6), ii x7] [.cells 0 (Qm x4).cells] [4, 5, 6] (K2 x1 () o))
 (fun ZM Q4x x6 x7 o h  =>
 Lp2 (hs := [(6, .z [{ slot := 11, own := 20 }, { slot := 11, fz := true }] none), (14, .n eI 14 none), (15, .split), (22, .e Qd), (27, .e Qd), (30, .n Qi 30 none), (31, .c J8), (35, .split), (36, .n Qm 36 none)]) (kb := [kk 4]) (kbx := [kk 4]) ((kN _ (mLen (sh := Qd) x1) fun v0 => (kIfD (p := x7 < v0) (kIx (enc := Qd) (l := x1) (k := x7) fun v1 => (kIx (enc := Qd) (l := x1) (k := x7) fun v2 => (kC (sh := J8) (fun y hy => Pu.le (IU x6 v1.fName (gLin.mk v2.fVal []) y hy) (.cons (LeT.refl (AV.sl (20 : Nat) (List.map Qr x6))) (.cons (LeT.refl (AV.str v1.fName)) (.cons (LeT.agg (.cons (LeT.refl (ii v2.fVal)) (.cons (LeT.nil 2) .nil))) .nil))) (LeT.refl _)) fun v3 => (kW (sh := Qi) (gLin.mk v2.fVal []) (LeV.agg (.cons (LeV.refl (ii v2.fVal)) (.cons (LeV.nil 2) .nil))) fun v4 => (kIf (c := v3.snd != 0) (kW (sh := Qm) (Xh.mk (0 : Int) [] (0 : Int) (0 : Int) (0 : Int) [] (QV.mk (0 : Int) [] (gVal.mk (0 : Int) (0 : Int)) (Qg.mk (0 : Int) (0 : Int) (0 : Int) (0 : Int) (0 : Int)) (gLin.mk (0 : Int) []) [] [] : Q1) [] : Qa) (LeV.agg (.cons (LeV.refl (ii (0 : Int))) (.cons (LeV.refl (AV.str [])) (.cons (LeV.refl (ii (0 : Int))) (.cons (LeV.refl (ii (0 : Int))) (.cons (LeV.refl (ii (0 : Int))) (.cons (LeV.nil 4) (.cons (LeV.refl (ii (0 : Int))) (.cons (LeV.refl (AV.str [])) (.cons (LeV.refl (ii (0 : Int))) (.cons (LeV.refl (ii (0 : Int))) (.cons (LeV.refl (ii (0 : Int))) (.cons (LeV.refl (ii (0 : Int))) (.cons (LeV.refl (ii (0 : Int))) (.cons (LeV.refl (ii (0 : Int))) (.cons (LeV.refl (ii (0 : Int))) (.cons (LeV.refl (ii (0 : Int))) (.cons (LeV.nil 2) (.cons (LeV.nil 4) (.cons (LeV.nil 13) (.cons (LeV.nil 20) .nil))))))))))))))))))))) fun v5 => (kX (alts := K2 x1 ()) (.inr (v5, v3.snd)) (.next (.here _ rfl (.cons (LeV.refl (AV.ptr (0 : Nat) (0 : Nat) (0 : Nat))) (.cons (LeV.refl (ii v3.snd)) (.cons (LeV.undef (AV.sl (20 : Nat) (List.map Qr x6))) .nil))) (.refl _)))))
 (kM0 (alts := K2 x1 ()) (Q4x v3.fst (wr (x7 + 1)))))))))
 (kX (alts := K2 x1 ()) (.inl (x4, x6)) (.here _ rfl (.refl _) (.refl _))))) h)) x6 x7 o h
def UQ (x0 : Qa) (x1 : List Qc) : Option (Qa × Int) :=
 some () >>= fun v0 =>
 ZM x1 (Xh.mk (0 : Int) [] (0 : Int) (0 : Int) (0 : Int) [] (QV.mk (0 : Int) [] (gVal.mk (0 : Int) (0 : Int)) (Qg.mk (0 : Int) (0 : Int) (0 : Int) (0 : Int) (0 : Int)) (gLin.mk (0 : Int) []) [] [] : Q1) [] : Qa) [(Q7.mk x0)] (0 : Int) >>= fun v1 => (match v1 with
 | (.inl v2) =>
 Option.map Q7.f (ix v2.snd (0 : Int)) >>= fun v3 =>
 some (v3, (0 : Int))
 | (.inr v4) =>
 some (v4.fst, v4.snd))
theorem Mn (x0 : Qa) (x1 : List Qc) (r : (Qa × Int)) (h : UQ x0 x1 = some r) : PU 53 [Qm x0, QW x1] (DI r) :=
 Pu2 (hs := [(6, .z [{ slot := 11, own := 20 }, { slot := 11, fz := true }] none), (40, .e Qm), (3000004, .l [] [1, 4, 6, 7] [kk 4] [4, 5, 6] [kk 4] (K2 x1))]) ((kT (rfl : (1 : Nat) = (1 : Nat)) (kL2 () (hL := (fun y hy => ZI.le (.cons (LeV.refl (AV.sl (2 : Nat) (List.map Qd x1))) (.cons (LeV.refl (AV.ptr (0 : Nat) (0 : Nat) (0 : Nat))) (.cons (LeV.sl (.cons (Bh x0) .nil)) (.cons (LeV.refl (ii (0 : Int))) .nil)))) (.cons (LeB.cells (0 : Nat) (.cons (LeV.refl (ii (0 : Int))) (.cons (LeV.refl (AV.str [])) (.cons (LeV.refl (ii (0 : Int))) (.cons (LeV.refl (ii (0 : Int))) (.cons (LeV.refl (ii (0 : Int))) (.cons (LeV.nil 4) (.cons (LeV.refl (ii (0 : Int))) (.cons (LeV.refl (AV.str [])) (.cons (LeV.refl (ii (0 : Int))) (.cons (LeV.refl (ii (0 : Int))) (.cons (LeV.refl (ii (0 : Int))) (.cons (LeV.refl (ii (0 : Int))) (.cons (LeV.refl (ii (0 : Int))) (.cons (LeV.refl (ii (0 : Int))) (.cons (LeV.refl (ii (0 : Int))) (.cons (LeV.refl (ii (0 : Int))) (.cons (LeV.nil 2) (.cons (LeV.nil 4) (.cons (LeV.nil 13) (.cons (LeV.nil 20) .nil))))))))))))))))))))) .nil) (IC x1 (Xh.mk (0 : Int) [] (0 : Int) (0 : Int) (0 : Int) [] (QV.mk (0 : Int) [] (gVal.mk (0 : Int) (0 : Int)) (Qg.mk (0 : Int) (0 : Int) (0 : Int) (0 : Int) (0 : Int)) (gLin.mk (0 : Int) []) [] [] : Q1) [] : Qa) [(Q7.mk x0)] (0 : Int) y hy))) (hA := fun v0 v2 => (kIxR (l := v2.snd) (k := (0 : Int)) Z2 fun v3 => (kEr (enc := DI) (v3, (0 : Int)))))
 (hB := fun v0 v4 => (kEr (enc := DI) (v4.fst, v4.snd))))) h)
def U7 (s : List Qc) (u : ((List Q9) × Q2 × Q2 × Qz)) (o : Qa) : List Alt := [⟨fun (x : Qa) => x = o, .exit 2, fun x => [.sl 2 (List.map Qd s), .ptr 0 0 0, .ptr 2 0 0, .ptr 4 0 0, .ptr 5 0 0], fun x => [.cells 0 [.ow 1 0 22 (List.length u.2.1.fL), ii u.2.1.fCount, ii u.2.1.fE], .own 0 22 (List.map Qj u.2.1.fL), .cells 0 [.ow 3 0 22 (List.length u.2.2.1.fL), ii u.2.2.1.fCount, ii u.2.2.1.fE], .own 0 22 (List.map Qj u.2.2.1.fL), .cells 0 (Qm x).cells, .cells 0 [ii u.2.2.2.fStmt, .ow 6 0 1 (List.length u.2.2.2.fAt), ii u.2.2.2.fOp.fOp, .str u.2.2.2.fOp.fName, ii u.2.2.2.fOp.fMany, ii u.2.2.2.fOp.fMark, ii u.2.2.2.fOp.fFold, .sl 4 (List.map Q3 u.2.2.2.fOp.fIdx), ii u.2.2.2.fOp.fExpr.fOp, .str u.2.2.2.fOp.fExpr.fName, ii u.2.2.2.fOp.fExpr.fVal.fN, ii u.2.2.2.fOp.fExpr.fVal.fD, ii u.2.2.2.fOp.fExpr.fType.fKind, ii u.2.2.2.fOp.fExpr.fType.fBits, ii u.2.2.2.fOp.fExpr.fType.fFrac, ii u.2.2.2.fOp.fExpr.fType.fRound, ii u.2.2.2.fOp.fExpr.fType.fOver, ii u.2.2.2.fOp.fExpr.fLin.fK, .sl 2 (List.map Qe u.2.2.2.fOp.fExpr.fLin.fL), .sl 4 (List.map Q3 u.2.2.2.fOp.fExpr.fIdx), .sl 13 (List.map Ql u.2.2.2.fOp.fExpr.fArgs), .sl 20 (List.map Qr u.2.2.2.fOp.fBody)], .own 0 1 (List.map eI u.2.2.2.fAt)]⟩]
def Yh (x4 : List Q9) (x11 : Qa) (x17 : Int) : Option Qa :=
 if 0 ≤ x17 then
 Option.map Q9.f (ix x4 x17) >>= fun v0 =>
 some ((Xh.mk (4 : Int) [] (0 : Int) (0 : Int) (0 : Int) [] v0 [(Q7.mk x11)] : Qa)) >>= fun v1 =>
 Yh x4 v1 (wr (x17 - (1 : Int)))
 else
 some x11
 partial_fixpoint
theorem Er (x3 : List Qc) (x4 : List Q9) (x5 : Q2) (x10 : Q2) (x11 : Qa) (x13 : Qz) (x17 : Int) (o : Qa) (h : Yh x4 x11 x17 = some o) : LO 32 13 100 [3, 4, 5, 10, 11, 13, 17] [.sl 2 (List.map Qd x3), .sl 13 (List.map Ql x4), .ptr 0 0 0, .ptr 2 0 0, .ptr 4 0 0, .ptr 5 0 0, ii x17] [.cells 0 [.ow 1 0 22 (List.length x5.fL), ii x5.fCount, ii x5.fE], .own 0 22 (List.map Qj x5.fL), .cells 0 [.ow 3 0 22 (List.length x10.fL), ii x10.fCount, ii x10.fE], .own 0 22 (List.map Qj x10.fL), .cells 0 (Qm x11).cells, .cells 0 [ii x13.fStmt, .ow 6 0 1 (List.length x13.fAt), ii x13.fOp.fOp, .str x13.fOp.fName, ii x13.fOp.fMany, ii x13.fOp.fMark, ii x13.fOp.fFold, .sl 4 (List.map Q3 x13.fOp.fIdx), ii x13.fOp.fExpr.fOp, .str x13.fOp.fExpr.fName, ii x13.fOp.fExpr.fVal.fN, ii x13.fOp.fExpr.fVal.fD, ii x13.fOp.fExpr.fType.fKind, ii x13.fOp.fExpr.fType.fBits, ii x13.fOp.fExpr.fType.fFrac, ii x13.fOp.fExpr.fType.fRound, ii x13.fOp.fExpr.fType.fOver, ii x13.fOp.fExpr.fLin.fK, .sl 2 (List.map Qe x13.fOp.fExpr.fLin.fL), .sl 4 (List.map Q3 x13.fOp.fExpr.fIdx), .sl 13 (List.map Ql x13.fOp.fExpr.fArgs), .sl 20 (List.map Qr x13.fOp.fBody)], .own 0 1 (List.map eI x13.fAt)] [3, 5, 10, 11, 13] (U7 x3 (x4, x5, x10, x13) o) :=
 Yh.partial_correctness x4 (fun x11 x17 o => ∀ (x3 : List Qc) (x5 : Q2) (x10 : Q2) (x13 : Qz), LO 32 13 100 [3, 4, 5, 10, 11, 13, 17] [.sl 2 (List.map Qd x3), .sl 13 (List.map Ql x4), .ptr 0 0 0, .ptr 2 0 0, .ptr 4 0 0, .ptr 5 0 0, ii x17] [.cells 0 [.ow 1 0 22 (List.length x5.fL), ii x5.fCount, ii x5.fE], .own 0 22 (List.map Qj x5.fL), .cells 0 [.ow 3 0 22 (List.length x10.fL), ii x10.fCount, ii x10.fE], .own 0 22 (List.map Qj x10.fL), .cells 0 (Qm x11).cells, .cells 0 [ii x13.fStmt, .ow 6 0 1 (List.length x13.fAt), ii x13.fOp.fOp, .str x13.fOp.fName, ii x13.fOp.fMany, ii x13.fOp.fMark, ii x13.fOp.fFold, .sl 4 (List.map Q3 x13.fOp.fIdx), ii x13.fOp.fExpr.fOp, .str x13.fOp.fExpr.fName, ii x13.fOp.fExpr.fVal.fN, ii x13.fOp.fExpr.fVal.fD, ii x13.fOp.fExpr.fType.fKind, ii x13.fOp.fExpr.fType.fBits, ii x13.fOp.fExpr.fType.fFrac, ii x13.fOp.fExpr.fType.fRound, ii x13.fOp.fExpr.fType.fOver, ii x13.fOp.fExpr.fLin.fK, .sl 2 (List.map Qe x13.fOp.fExpr.fLin.fL), .sl 4 (List.map Q3 x13.fOp.fExpr.fIdx), .sl 13 (List.map Ql x13.fOp.fExpr.fArgs), .sl 20 (List.map Qr x13.fOp.fBody)], .own 0 1 (List.map eI x13.fAt)] [3, 5, 10, 11, 13] (U7 x3 (x4, x5, x10, x13) o))
 (fun Yh Q5f x11 x17 o h x3 x5 x10 x13 =>
 Lp2 (hs := [(60, .split), (65, .e Q6), (69, .z [{ slot := 68, own := 20 }, { slot := 68, fz := true }] (some (.n Qm 69 none)))]) (kb := [{ slot := 4, fz := true }, kk 5, { slot := 5, path := [0], own := 22 }, kk 10, { slot := 10, path := [0], own := 22 }, kk 11, kk 13, { slot := 13, path := [1], own := 1 }]) (kbx := [kk 5, { slot := 5, path := [0], own := 22 }, kk 10, { slot := 10, path := [0], own := 22 }, kk 11, kk 13, { slot := 13, path := [1], own := 1 }]) ((kIfD (p := 0 ≤ x17) (kIxR (l := x4) (k := x17) QZ fun v0 => (kT (rfl : (1 : Nat) = (1 : Nat)) (kW (sh := Qm) (Xh.mk (4 : Int) [] (0 : Int) (0 : Int) (0 : Int) [] v0 [(Q7.mk x11)] : Qa) (LeV.agg (.cons (LeV.refl (ii (4 : Int))) (.cons (LeV.refl (AV.str [])) (.cons (LeV.refl (ii (0 : Int))) (.cons (LeV.refl (ii (0 : Int))) (.cons (LeV.refl (ii (0 : Int))) (.cons (LeV.nil 4) (.cons (LeV.refl (ii v0.fOp)) (.cons (LeV.refl (AV.str v0.fName)) (.cons (LeV.refl (ii v0.fVal.fN)) (.cons (LeV.refl (ii v0.fVal.fD)) (.cons (LeV.refl (ii v0.fType.fKind)) (.cons (LeV.refl (ii v0.fType.fBits)) (.cons (LeV.refl (ii v0.fType.fFrac)) (.cons (LeV.refl (ii v0.fType.fRound)) (.cons (LeV.refl (ii v0.fType.fOver)) (.cons (LeV.refl (ii v0.fLin.fK)) (.cons (LeV.refl (AV.sl (2 : Nat) (List.map Qe v0.fLin.fL))) (.cons (LeV.refl (AV.sl (4 : Nat) (List.map Q3 v0.fIdx))) (.cons (LeV.refl (AV.sl (13 : Nat) (List.map Ql v0.fArgs))) (.cons (LeV.sl (.cons (Bh x11) .nil)) .nil))))))))))))))))))))) fun v1 => (kM0 (alts := U7 x3 (x4, x5, x10, x13)) (fun y hy => Q5f v1 (wr (x17 - (1 : Int))) y hy x3 x5 x10 x13)))))
 (kX (alts := U7 x3 (x4, x5, x10, x13)) x11 (.here _ rfl (.refl _) (.refl _)))) h)) x11 x17 o h x3 x5 x10 x13
def U8 (s : List Qc) (u : (Q2 × Q2)) (o : Qz) : List Alt := [⟨fun (x : Qz) => x = o, .exit 4, fun x => [.ptr 0 0 0, .ptr 2 0 0, .ptr 4 0 0], fun x => [.cells 0 [.ow 1 0 22 (List.length u.1.fL), ii u.1.fCount, ii u.1.fE], .own 0 22 (List.map Qj u.1.fL), .cells 0 [.ow 3 0 22 (List.length u.2.fL), ii u.2.fCount, ii u.2.fE], .own 0 22 (List.map Qj u.2.fL), .cells 0 [ii x.fStmt, .ow 5 0 1 (List.length x.fAt), ii x.fOp.fOp, .str x.fOp.fName, ii x.fOp.fMany, ii x.fOp.fMark, ii x.fOp.fFold, .sl 4 (List.map Q3 x.fOp.fIdx), ii x.fOp.fExpr.fOp, .str x.fOp.fExpr.fName, ii x.fOp.fExpr.fVal.fN, ii x.fOp.fExpr.fVal.fD, ii x.fOp.fExpr.fType.fKind, ii x.fOp.fExpr.fType.fBits, ii x.fOp.fExpr.fType.fFrac, ii x.fOp.fExpr.fType.fRound, ii x.fOp.fExpr.fType.fOver, ii x.fOp.fExpr.fLin.fK, .sl 2 (List.map Qe x.fOp.fExpr.fLin.fL), .sl 4 (List.map Q3 x.fOp.fExpr.fIdx), .sl 13 (List.map Ql x.fOp.fExpr.fArgs), .sl 20 (List.map Qr x.fOp.fBody)], .own 0 1 (List.map eI x.fAt)]⟩]
def Xq (x3 : List Qc) (x13 : Qz) (x18 : Int) : Option Qz :=
 some (List.length x3 : Int) >>= fun v0 =>
 if x18 < v0 then
 ix x3 x18 >>= fun v1 =>
 if (x13.fAt.length + (1 : Nat)) * (8 : Nat) ≤ (140737488355328 : Nat) ∧ x13.fAt.length + (1 : Nat) ≤ (9223372036854775807 : Nat) then
 some (x13.fAt ++ [v1.fVal]) >>= fun v2 =>
 Xq x3 (Qz.mk x13.fStmt v2 x13.fOp) (wr (x18 + 1))
 else none
 else
 some x13
 partial_fixpoint
theorem Es (x3 : List Qc) (x5 : Q2) (x10 : Q2) (x13 : Qz) (x18 : Int) (o : Qz) (h : Xq x3 x13 x18 = some o) : LO 32 18 100 [3, 5, 10, 13, 18] [.sl 2 (List.map Qd x3), .ptr 0 0 0, .ptr 2 0 0, .ptr 4 0 0, ii x18] [.cells 0 [.ow 1 0 22 (List.length x5.fL), ii x5.fCount, ii x5.fE], .own 0 22 (List.map Qj x5.fL), .cells 0 [.ow 3 0 22 (List.length x10.fL), ii x10.fCount, ii x10.fE], .own 0 22 (List.map Qj x10.fL), .cells 0 [ii x13.fStmt, .ow 5 0 1 (List.length x13.fAt), ii x13.fOp.fOp, .str x13.fOp.fName, ii x13.fOp.fMany, ii x13.fOp.fMark, ii x13.fOp.fFold, .sl 4 (List.map Q3 x13.fOp.fIdx), ii x13.fOp.fExpr.fOp, .str x13.fOp.fExpr.fName, ii x13.fOp.fExpr.fVal.fN, ii x13.fOp.fExpr.fVal.fD, ii x13.fOp.fExpr.fType.fKind, ii x13.fOp.fExpr.fType.fBits, ii x13.fOp.fExpr.fType.fFrac, ii x13.fOp.fExpr.fType.fRound, ii x13.fOp.fExpr.fType.fOver, ii x13.fOp.fExpr.fLin.fK, .sl 2 (List.map Qe x13.fOp.fExpr.fLin.fL), .sl 4 (List.map Q3 x13.fOp.fExpr.fIdx), .sl 13 (List.map Ql x13.fOp.fExpr.fArgs), .sl 20 (List.map Qr x13.fOp.fBody)], .own 0 1 (List.map eI x13.fAt)] [5, 10, 13] (U8 x3 (x5, x10) o) :=
 Xq.partial_correctness x3 (fun x13 x18 o => ∀ (x5 : Q2) (x10 : Q2), LO 32 18 100 [3, 5, 10, 13, 18] [.sl 2 (List.map Qd x3), .ptr 0 0 0, .ptr 2 0 0, .ptr 4 0 0, ii x18] [.cells 0 [.ow 1 0 22 (List.length x5.fL), ii x5.fCount, ii x5.fE], .own 0 22 (List.map Qj x5.fL), .cells 0 [.ow 3 0 22 (List.length x10.fL), ii x10.fCount, ii x10.fE], .own 0 22 (List.map Qj x10.fL), .cells 0 [ii x13.fStmt, .ow 5 0 1 (List.length x13.fAt), ii x13.fOp.fOp, .str x13.fOp.fName, ii x13.fOp.fMany, ii x13.fOp.fMark, ii x13.fOp.fFold, .sl 4 (List.map Q3 x13.fOp.fIdx), ii x13.fOp.fExpr.fOp, .str x13.fOp.fExpr.fName, ii x13.fOp.fExpr.fVal.fN, ii x13.fOp.fExpr.fVal.fD, ii x13.fOp.fExpr.fType.fKind, ii x13.fOp.fExpr.fType.fBits, ii x13.fOp.fExpr.fType.fFrac, ii x13.fOp.fExpr.fType.fRound, ii x13.fOp.fExpr.fType.fOver, ii x13.fOp.fExpr.fLin.fK, .sl 2 (List.map Qe x13.fOp.fExpr.fLin.fL), .sl 4 (List.map Q3 x13.fOp.fExpr.fIdx), .sl 13 (List.map Ql x13.fOp.fExpr.fArgs), .sl 20 (List.map Qr x13.fOp.fBody)], .own 0 1 (List.map eI x13.fAt)] [5, 10, 13] (U8 x3 (x5, x10) o))
 (fun Xq Q5g x13 x18 o h x5 x10 =>
 Lp2 (hs := [(74, .n eI 74 none), (75, .split), (82, .e Qd), (86, .z [{ slot := 79, own := 1 }] (some (.n eI 86 (some .a))))]) (kb := [kk 5, { slot := 5, path := [0], own := 22 }, kk 10, { slot := 10, path := [0], own := 22 }, kk 13, { slot := 13, path := [1], own := 1 }]) (kbx := [kk 5, { slot := 5, path := [0], own := 22 }, kk 10, { slot := 10, path := [0], own := 22 }, kk 13, { slot := 13, path := [1], own := 1 }]) ((kN _ (mLen (sh := Qd) x3) fun v0 => (kIfD (p := x18 < v0) (kIx (enc := Qd) (l := x3) (k := x18) fun v1 => (kA (q := (x13.fAt.length + (1 : Nat)) * (8 : Nat) ≤ (140737488355328 : Nat) ∧ x13.fAt.length + (1 : Nat) ≤ (9223372036854775807 : Nat)) (sh := eI) (l := x13.fAt) (kO (sh := eI) (x13.fAt ++ [v1.fVal]) (mA (sh := eI) x13.fAt v1.fVal) (nA x13.fAt v1.fVal) fun v2 => (kM0 (alts := U8 x3 (x5, x10)) (fun y hy => Q5g (Qz.mk x13.fStmt v2 x13.fOp) (wr (x18 + 1)) y hy x5 x10)))))
 (kX (alts := U8 x3 (x5, x10)) x13 (.here _ rfl (.refl _) (.refl _))))) h)) x13 x18 o h x5 x10
def VF (s : List Qc) (u : (Q2 × Qa × Qz)) (o : ((List Q9) × Q2) ⊕ Q2) : List Alt := [⟨fun (x : ((List Q9) × Q2)) => (Sum.inl x : ((List Q9) × Q2) ⊕ Q2) = o, .exit 0, fun x => [.sl 2 (List.map Qd s), .sl 13 (List.map Ql x.1), .ptr 0 0 0, .ptr 2 0 0, .ptr 4 0 0, .ptr 5 0 0], fun x => [.cells 0 [.ow 1 0 22 (List.length u.1.fL), ii u.1.fCount, ii u.1.fE], .own 0 22 (List.map Qj u.1.fL), .cells 0 [.ow 3 0 22 (List.length x.2.fL), ii x.2.fCount, ii x.2.fE], .own 0 22 (List.map Qj x.2.fL), .cells 0 (Qm u.2.1).cells, .cells 0 [ii u.2.2.fStmt, .ow 6 0 1 (List.length u.2.2.fAt), ii u.2.2.fOp.fOp, .str u.2.2.fOp.fName, ii u.2.2.fOp.fMany, ii u.2.2.fOp.fMark, ii u.2.2.fOp.fFold, .sl 4 (List.map Q3 u.2.2.fOp.fIdx), ii u.2.2.fOp.fExpr.fOp, .str u.2.2.fOp.fExpr.fName, ii u.2.2.fOp.fExpr.fVal.fN, ii u.2.2.fOp.fExpr.fVal.fD, ii u.2.2.fOp.fExpr.fType.fKind, ii u.2.2.fOp.fExpr.fType.fBits, ii u.2.2.fOp.fExpr.fType.fFrac, ii u.2.2.fOp.fExpr.fType.fRound, ii u.2.2.fOp.fExpr.fType.fOver, ii u.2.2.fOp.fExpr.fLin.fK, .sl 2 (List.map Qe u.2.2.fOp.fExpr.fLin.fL), .sl 4 (List.map Q3 u.2.2.fOp.fExpr.fIdx), .sl 13 (List.map Ql u.2.2.fOp.fExpr.fArgs), .sl 20 (List.map Qr u.2.2.fOp.fBody)], .own 0 1 (List.map eI u.2.2.fAt)]⟩, ⟨fun (x : Q2) => (Sum.inr x : ((List Q9) × Q2) ⊕ Q2) = o, .ret, fun x => [.sl 2 (List.map Qd s), .undef, .ptr 0 0 0, .ptr 2 0 0, .ptr 4 0 0, .ptr 5 0 0], fun x => [.cells 0 [.ow 1 0 22 (List.length u.1.fL), ii u.1.fCount, ii u.1.fE], .own 0 22 (List.map Qj u.1.fL), .cells 0 [.ow 3 0 22 (List.length x.fL), ii x.fCount, ii x.fE], .own 0 22 (List.map Qj x.fL), .cells 0 (Qm u.2.1).cells, .cells 0 [ii u.2.2.fStmt, .ow 6 0 1 (List.length u.2.2.fAt), ii u.2.2.fOp.fOp, .str u.2.2.fOp.fName, ii u.2.2.fOp.fMany, ii u.2.2.fOp.fMark, ii u.2.2.fOp.fFold, .sl 4 (List.map Q3 u.2.2.fOp.fIdx), ii u.2.2.fOp.fExpr.fOp, .str u.2.2.fOp.fExpr.fName, ii u.2.2.fOp.fExpr.fVal.fN, ii u.2.2.fOp.fExpr.fVal.fD, ii u.2.2.fOp.fExpr.fType.fKind, ii u.2.2.fOp.fExpr.fType.fBits, ii u.2.2.fOp.fExpr.fType.fFrac, ii u.2.2.fOp.fExpr.fType.fRound, ii u.2.2.fOp.fExpr.fType.fOver, ii u.2.2.fOp.fExpr.fLin.fK, .sl 2 (List.map Qe u.2.2.fOp.fExpr.fLin.fL), .sl 4 (List.map Q3 u.2.2.fOp.fExpr.fIdx), .sl 13 (List.map Ql u.2.2.fOp.fExpr.fArgs), .sl 20 (List.map Qr u.2.2.fOp.fBody)], .own 0 1 (List.map eI u.2.2.fAt)]⟩]
def Y4 (x3 : List Qc) (x4 : List Q9) (x10 : Q2) (x14 : Int) : Option (((List Q9) × Q2) ⊕ Q2) :=
 if x14 < (↑x4.length : Int) then
 if 0 ≤ x14 ∧ x14 < (↑x4.length : Int) then
 Option.map Q9.f x4[x14.toNat]? >>= fun v0 =>
 some ((Xh.mk (4 : Int) [] (0 : Int) (0 : Int) (0 : Int) [] v0 [] : Qa)) >>= fun v1 =>
 UQ v1 x3 >>= fun v2 =>
 if v2.snd != 0 then
 some (.inr (Q2.mk [] (0 : Int) v2.snd))
 else
 if 0 ≤ x14 ∧ x14 < (↑x4.length : Int) then
 if x14.toNat < (List.map Ql x4).length then
 some (List.set x4 x14.toNat (Q9.mk v2.fst.fExpr)) >>= fun v3 =>
 Y4 x3 v3 x10 (wr (x14 + 1))
 else none
 else none
 else none
 else
 some (.inl (x4, x10))
 partial_fixpoint
theorem Rl (x3 : List Qc) (x4 : List Q9) (x5 : Q2) (x10 : Q2) (x11 : Qa) (x13 : Qz) (x14 : Int) (o : ((List Q9) × Q2) ⊕ Q2) (h : Y4 x3 x4 x10 x14 = some o) : LO 32 6 100 [3, 4, 5, 10, 11, 13, 14] [.sl 2 (List.map Qd x3), .ow 0 0 13 (List.length x4), .ptr 1 0 0, .ptr 3 0 0, .ptr 5 0 0, .ptr 6 0 0, ii x14] [.own 0 13 (List.map Ql x4), .cells 0 [.ow 2 0 22 (List.length x5.fL), ii x5.fCount, ii x5.fE], .own 0 22 (List.map Qj x5.fL), .cells 0 [.ow 4 0 22 (List.length x10.fL), ii x10.fCount, ii x10.fE], .own 0 22 (List.map Qj x10.fL), .cells 0 (Qm x11).cells, .cells 0 [ii x13.fStmt, .ow 7 0 1 (List.length x13.fAt), ii x13.fOp.fOp, .str x13.fOp.fName, ii x13.fOp.fMany, ii x13.fOp.fMark, ii x13.fOp.fFold, .sl 4 (List.map Q3 x13.fOp.fIdx), ii x13.fOp.fExpr.fOp, .str x13.fOp.fExpr.fName, ii x13.fOp.fExpr.fVal.fN, ii x13.fOp.fExpr.fVal.fD, ii x13.fOp.fExpr.fType.fKind, ii x13.fOp.fExpr.fType.fBits, ii x13.fOp.fExpr.fType.fFrac, ii x13.fOp.fExpr.fType.fRound, ii x13.fOp.fExpr.fType.fOver, ii x13.fOp.fExpr.fLin.fK, .sl 2 (List.map Qe x13.fOp.fExpr.fLin.fL), .sl 4 (List.map Q3 x13.fOp.fExpr.fIdx), .sl 13 (List.map Ql x13.fOp.fExpr.fArgs), .sl 20 (List.map Qr x13.fOp.fBody)], .own 0 1 (List.map eI x13.fAt)] [3, 4, 5, 10, 11, 13] (VF x3 (x5, x11, x13) o) :=
 Y4.partial_correctness x3 x10 (fun x4 x14 o => ∀ (x5 : Q2) (x11 : Qa) (x13 : Qz), LO 32 6 100 [3, 4, 5, 10, 11, 13, 14] [.sl 2 (List.map Qd x3), .ow 0 0 13 (List.length x4), .ptr 1 0 0, .ptr 3 0 0, .ptr 5 0 0, .ptr 6 0 0, ii x14] [.own 0 13 (List.map Ql x4), .cells 0 [.ow 2 0 22 (List.length x5.fL), ii x5.fCount, ii x5.fE], .own 0 22 (List.map Qj x5.fL), .cells 0 [.ow 4 0 22 (List.length x10.fL), ii x10.fCount, ii x10.fE], .own 0 22 (List.map Qj x10.fL), .cells 0 (Qm x11).cells, .cells 0 [ii x13.fStmt, .ow 7 0 1 (List.length x13.fAt), ii x13.fOp.fOp, .str x13.fOp.fName, ii x13.fOp.fMany, ii x13.fOp.fMark, ii x13.fOp.fFold, .sl 4 (List.map Q3 x13.fOp.fIdx), ii x13.fOp.fExpr.fOp, .str x13.fOp.fExpr.fName, ii x13.fOp.fExpr.fVal.fN, ii x13.fOp.fExpr.fVal.fD, ii x13.fOp.fExpr.fType.fKind, ii x13.fOp.fExpr.fType.fBits, ii x13.fOp.fExpr.fType.fFrac, ii x13.fOp.fExpr.fType.fRound, ii x13.fOp.fExpr.fType.fOver, ii x13.fOp.fExpr.fLin.fK, .sl 2 (List.map Qe x13.fOp.fExpr.fLin.fL), .sl 4 (List.map Q3 x13.fOp.fExpr.fIdx), .sl 13 (List.map Ql x13.fOp.fExpr.fArgs), .sl 20 (List.map Qr x13.fOp.fBody)], .own 0 1 (List.map eI x13.fAt)] [3, 4, 5, 10, 11, 13] (VF x3 (x5, x11, x13) o))
 (fun Y4 Q5h x4 x14 o h x5 x11 x13 =>
 Lp2 (hs := [(34, .split), (40, .s), (41, .e Q6), (42, .n Qm 42 none), (44, .c DI), (48, .split), (55, .s), (1000055, .n Ql 55 (some .s))]) (kb := [{ slot := 4, own := 13 }, kk 5, { slot := 5, path := [0], own := 22 }, kk 10, { slot := 10, path := [0], own := 22 }, kk 11, kk 13, { slot := 13, path := [1], own := 1 }]) (kbx := [{ slot := 4, fz := true }, kk 5, { slot := 5, path := [0], own := 22 }, kk 10, { slot := 10, path := [0], own := 22 }, kk 11, kk 13, { slot := 13, path := [1], own := 1 }]) ((kIfD (p := x14 < (↑x4.length : Int)) (kG (p := 0 ≤ x14 ∧ x14 < (↑x4.length : Int)) (kOxR (l := x4) (k := x14.toNat) QZ fun v0 => (kW (sh := Qm) (Xh.mk (4 : Int) [] (0 : Int) (0 : Int) (0 : Int) [] v0 [] : Qa) (LeV.agg (.cons (LeV.refl (ii (4 : Int))) (.cons (LeV.refl (AV.str [])) (.cons (LeV.refl (ii (0 : Int))) (.cons (LeV.refl (ii (0 : Int))) (.cons (LeV.refl (ii (0 : Int))) (.cons (LeV.nil 4) (.cons (LeV.refl (ii v0.fOp)) (.cons (LeV.refl (AV.str v0.fName)) (.cons (LeV.refl (ii v0.fVal.fN)) (.cons (LeV.refl (ii v0.fVal.fD)) (.cons (LeV.refl (ii v0.fType.fKind)) (.cons (LeV.refl (ii v0.fType.fBits)) (.cons (LeV.refl (ii v0.fType.fFrac)) (.cons (LeV.refl (ii v0.fType.fRound)) (.cons (LeV.refl (ii v0.fType.fOver)) (.cons (LeV.refl (ii v0.fLin.fK)) (.cons (LeV.refl (AV.sl (2 : Nat) (List.map Qe v0.fLin.fL))) (.cons (LeV.refl (AV.sl (4 : Nat) (List.map Q3 v0.fIdx))) (.cons (LeV.refl (AV.sl (13 : Nat) (List.map Ql v0.fArgs))) (.cons (LeV.nil 20) .nil))))))))))))))))))))) fun v1 => (kC (sh := DI) (Mn v1 x3) fun v2 => (kIf (c := v2.snd != 0) (kT (nM (sh := Ql) x4) (kX (alts := VF x3 (x5, x11, x13)) (.inr (Q2.mk [] (0 : Int) v2.snd)) (.next (.here _ rfl (.cons (LeV.refl (AV.sl (2 : Nat) (List.map Qd x3))) (.cons (LeV.undef (AV.sl (13 : Nat) (List.map Ql x4))) (.cons (LeV.refl (AV.ptr (0 : Nat) (0 : Nat) (0 : Nat))) (.cons (LeV.refl (AV.ptr (2 : Nat) (0 : Nat) (0 : Nat))) (.cons (LeV.refl (AV.ptr (4 : Nat) (0 : Nat) (0 : Nat))) (.cons (LeV.refl (AV.ptr (5 : Nat) (0 : Nat) (0 : Nat))) .nil)))))) (.refl _)))))
 (kG (p := 0 ≤ x14 ∧ x14 < (↑x4.length : Int)) (kG (p := x14.toNat < (List.map Ql x4).length) (kBE (sh := Ql) (List.set x4 x14.toNat (Q9.mk v2.fst.fExpr)) (mSR ND x4 x14.toNat v2.fst.fExpr) fun v3 ev3 => (kM (alts := VF x3 (x5, x11, x13)) (.cons (LeV.refl (AV.sl (2 : Nat) (List.map Qd x3))) (.cons (LeV.owl (by simp [ev3] : x4.length = List.length v3)) (.cons (LeV.refl (AV.ptr (1 : Nat) (0 : Nat) (0 : Nat))) (.cons (LeV.refl (AV.ptr (3 : Nat) (0 : Nat) (0 : Nat))) (.cons (LeV.refl (AV.ptr (5 : Nat) (0 : Nat) (0 : Nat))) (.cons (LeV.refl (AV.ptr (6 : Nat) (0 : Nat) (0 : Nat))) (.cons (LeV.refl (ii (wr (x14 + 1)))) .nil))))))) (.refl _) (fun y hy => Q5h v3 (wr (x14 + 1)) y hy x5 x11 x13))))))))))
 (kT (nM (sh := Ql) x4) (kX (alts := VF x3 (x5, x11, x13)) (.inl (x4, x10)) (.here _ rfl (.refl _) (.refl _))))) h)) x4 x14 o h x5 x11 x13
def Vj (r : Q2) : AV := .agg [.ow 0 0 22 (List.length r.fL), ii r.fCount, ii r.fE]
def Dc (r : Q2) : List Box := [.own 0 22 (List.map Qj r.fL)]
def NL (r : Q2) : List Box := [.own 0 22 (List.map Qj r.fL), .own 0 13 []]
def Wa (x0 : Q2) (x1 : Qa) (x2 : Int) (x3 : List Qc) (x4 : List Q9) : Option Q2 :=
 UQ x1 x3 >>= fun v0 =>
 if v0.snd != 0 then
 some (Q2.mk [] (0 : Int) v0.snd)
 else
 some (x0, v0.fst, (Qz.mk x2 [] (Xh.mk (0 : Int) [] (0 : Int) (0 : Int) (0 : Int) [] (QV.mk (0 : Int) [] (gVal.mk (0 : Int) (0 : Int)) (Qg.mk (0 : Int) (0 : Int) (0 : Int) (0 : Int) (0 : Int)) (gLin.mk (0 : Int) []) [] [] : Q1) [] : Qa))) >>= fun v1 =>
 Y4 x3 x4 (Q2.mk [] (0 : Int) (0 : Int)) (0 : Int) >>= fun v2 => (match v2 with
 | (.inl v3) =>
 some (List.length v3.fst : Int) >>= fun v4 =>
 some (v3.fst, v1.fst, v3.snd, v1.snd.snd) >>= fun v5 =>
 Yh v3.fst v1.snd.fst (wr (v4 - (1 : Int))) >>= fun v7 =>
 some (v5.snd.fst, v5.snd.snd.fst) >>= fun v8 =>
 Xq x3 (Qz.mk v5.snd.snd.snd.fStmt v5.snd.snd.snd.fAt v7) 0 >>= fun v10 =>
 some ((↑v8.fst.fL.length : Int) : Int) >>= fun v11 =>
 if 2048 ≤ v11 then
 some (Q2.mk [] (0 : Int) (2 : Int))
 else
 if (v8.fst.fL.length + (1 : Nat)) * (288 : Nat) ≤ (140737488355328 : Nat) ∧ v8.fst.fL.length + (1 : Nat) ≤ (9223372036854775807 : Nat) then
 some (v8.fst.fL ++ [v10]) >>= fun v12 =>
 some (Q2.mk v12 v8.fst.fCount v8.fst.fE)
 else none
 | (.inr v13) =>
 some v13)
theorem AJ (x0 : Q2) (x1 : Qa) (x2 : Int) (x3 : List Qc) (x4 : List Q9) (r : Q2) (h : Wa x0 x1 x2 x3 x4 = some r) : PH 32 [.agg [.ow 0 0 22 (List.length x0.fL), ii x0.fCount, ii x0.fE], Qm x1, eI x2, QW x3, .ow 1 0 13 (List.length x4)] [.own 0 22 (List.map Qj x0.fL), .own 0 13 (List.map Ql x4)] (Vj r) (NL r) :=
 ((show PH 32 [.agg [.ow 0 0 22 (List.length x0.fL), ii x0.fCount, ii x0.fE], Qm x1, eI x2, QW x3, .ow 1 0 13 (List.length x4)] [.own 0 22 (List.map Qj x0.fL), .own 0 13 (List.map Ql x4)] (Vj r) (Dc r) from PuH2 (hs := [(22, .c DI), (26, .split), (57, .n eI 57 none), (90, .n eI 90 none), (91, .split), (96, .z [{ slot := 95, path := [1], fz := true }] none), (97, .z [{ slot := 94, own := 22 }] (some (.n Qj 97 (some .a)))), (3000019, .l [] [3, 5, 10, 13, 18] [kk 5, { slot := 5, path := [0], own := 22 }, kk 10, { slot := 10, path := [0], own := 22 }, kk 13, { slot := 13, path := [1], own := 1 }] [5, 10, 13] [kk 5, { slot := 5, path := [0], own := 22 }, kk 10, { slot := 10, path := [0], own := 22 }, kk 13, { slot := 13, path := [1], own := 1 }] (U8 x3)), (3000014, .l [] [3, 4, 5, 10, 11, 13, 17] [{ slot := 4, fz := true }, kk 5, { slot := 5, path := [0], own := 22 }, kk 10, { slot := 10, path := [0], own := 22 }, kk 11, kk 13, { slot := 13, path := [1], own := 1 }] [3, 5, 10, 11, 13] [kk 5, { slot := 5, path := [0], own := 22 }, kk 10, { slot := 10, path := [0], own := 22 }, kk 11, kk 13, { slot := 13, path := [1], own := 1 }] (U7 x3)), (3000007, .l [] [3, 4, 5, 10, 11, 13, 14] [{ slot := 4, own := 13 }, kk 5, { slot := 5, path := [0], own := 22 }, kk 10, { slot := 10, path := [0], own := 22 }, kk 11, kk 13, { slot := 13, path := [1], own := 1 }] [3, 4, 5, 10, 11, 13] [{ slot := 4, fz := true }, kk 5, { slot := 5, path := [0], own := 22 }, kk 10, { slot := 10, path := [0], own := 22 }, kk 11, kk 13, { slot := 13, path := [1], own := 1 }] (VF x3))]) (kb := [{ slot := 0, path := [0], own := 22 }]) ((kC (sh := DI) (Mn x1 x3) fun v0 => (kIf (c := v0.snd != 0) (kEH (enc := Vj) (bt := Dc) (Q2.mk [] (0 : Int) v0.snd) ⟨.refl _, .refl _⟩)
 (kL2 (x0, v0.fst, (Qz.mk x2 [] (Xh.mk (0 : Int) [] (0 : Int) (0 : Int) (0 : Int) [] (QV.mk (0 : Int) [] (gVal.mk (0 : Int) (0 : Int)) (Qg.mk (0 : Int) (0 : Int) (0 : Int) (0 : Int) (0 : Int)) (gLin.mk (0 : Int) []) [] [] : Q1) [] : Qa))) (hL := (fun y hy => ZI.le (.cons (LeV.refl (AV.sl (2 : Nat) (List.map Qd x3))) (.cons (LeV.refl (AV.ow (0 : Nat) (0 : Nat) (13 : Nat) x4.length)) (.cons (LeV.refl (AV.ptr (1 : Nat) (0 : Nat) (0 : Nat))) (.cons (LeV.refl (AV.ptr (3 : Nat) (0 : Nat) (0 : Nat))) (.cons (LeV.refl (AV.ptr (5 : Nat) (0 : Nat) (0 : Nat))) (.cons (LeV.refl (AV.ptr (6 : Nat) (0 : Nat) (0 : Nat))) (.cons (LeV.refl (ii (0 : Int))) .nil))))))) (.cons (LeB.refl (Box.own (0 : Nat) (13 : Nat) (List.map Ql x4))) (.cons (LeB.refl (Box.cells (0 : Nat) [AV.ow (2 : Nat) (0 : Nat) (22 : Nat) x0.fL.length, ii x0.fCount, ii x0.fE])) (.cons (LeB.refl (Box.own (0 : Nat) (22 : Nat) (List.map Qj x0.fL))) (.cons (LeB.refl (Box.cells (0 : Nat) [AV.ow (4 : Nat) (0 : Nat) (22 : Nat) (0 : Nat), ii (0 : Int), ii (0 : Int)])) (.cons (LeB.refl (Box.own (0 : Nat) (22 : Nat) [])) (.cons (LeB.refl (Box.cells (0 : Nat) [ii v0.fst.fOp, AV.str v0.fst.fName, ii v0.fst.fMany, ii v0.fst.fMark, ii v0.fst.fFold, AV.sl (4 : Nat) (List.map Q3 v0.fst.fIdx), ii v0.fst.fExpr.fOp, AV.str v0.fst.fExpr.fName, ii v0.fst.fExpr.fVal.fN, ii v0.fst.fExpr.fVal.fD, ii v0.fst.fExpr.fType.fKind, ii v0.fst.fExpr.fType.fBits, ii v0.fst.fExpr.fType.fFrac, ii v0.fst.fExpr.fType.fRound, ii v0.fst.fExpr.fType.fOver, ii v0.fst.fExpr.fLin.fK, AV.sl (2 : Nat) (List.map Qe v0.fst.fExpr.fLin.fL), AV.sl (4 : Nat) (List.map Q3 v0.fst.fExpr.fIdx), AV.sl (13 : Nat) (List.map Ql v0.fst.fExpr.fArgs), AV.sl (20 : Nat) (List.map Qr v0.fst.fBody)])) (.cons (LeB.cells (0 : Nat) (.cons (LeV.refl (ii x2)) (.cons (LeV.refl (AV.ow (7 : Nat) (0 : Nat) (1 : Nat) (0 : Nat))) (.cons (LeV.refl (ii (0 : Int))) (.cons (LeV.refl (AV.str [])) (.cons (LeV.refl (ii (0 : Int))) (.cons (LeV.refl (ii (0 : Int))) (.cons (LeV.refl (ii (0 : Int))) (.cons (LeV.nil 4) (.cons (LeV.refl (ii (0 : Int))) (.cons (LeV.refl (AV.str [])) (.cons (LeV.refl (ii (0 : Int))) (.cons (LeV.refl (ii (0 : Int))) (.cons (LeV.refl (ii (0 : Int))) (.cons (LeV.refl (ii (0 : Int))) (.cons (LeV.refl (ii (0 : Int))) (.cons (LeV.refl (ii (0 : Int))) (.cons (LeV.refl (ii (0 : Int))) (.cons (LeV.refl (ii (0 : Int))) (.cons (LeV.nil 2) (.cons (LeV.nil 4) (.cons (LeV.nil 13) (.cons (LeV.nil 20) .nil))))))))))))))))))))))) (.cons (LeB.refl (Box.own (0 : Nat) (1 : Nat) [])) .nil)))))))) (Rl x3 x4 x0 (Q2.mk [] (0 : Int) (0 : Int)) v0.fst (Qz.mk x2 [] (Xh.mk (0 : Int) [] (0 : Int) (0 : Int) (0 : Int) [] (QV.mk (0 : Int) [] (gVal.mk (0 : Int) (0 : Int)) (Qg.mk (0 : Int) (0 : Int) (0 : Int) (0 : Int) (0 : Int)) (gLin.mk (0 : Int) []) [] [] : Q1) [] : Qa)) (0 : Int) y hy))) (hA := fun v1 v3 => (kN _ (mLen (sh := Ql) v3.fst) fun v4 => (kL1 (v3.fst, v1.fst, v3.snd, v1.snd.snd) (Er x3 v3.fst v1.fst v3.snd v1.snd.fst v1.snd.snd (wr (v4 - (1 : Int)))) fun v5 v7 => (kL1 (v5.snd.fst, v5.snd.snd.fst) (Es x3 v5.snd.fst v5.snd.snd.fst (Qz.mk v5.snd.snd.snd.fStmt v5.snd.snd.snd.fAt v7) 0) fun v8 v10 => (kN (↑v8.fst.fL.length : Int) rfl fun v11 => (kIfD (p := 2048 ≤ v11) (kEH (enc := Vj) (bt := Dc) (Q2.mk [] (0 : Int) (2 : Int)) ⟨.refl _, .refl _⟩)
 (kT (nM (sh := eI) v10.fAt) (kA (q := (v8.fst.fL.length + (1 : Nat)) * (288 : Nat) ≤ (140737488355328 : Nat) ∧ v8.fst.fL.length + (1 : Nat) ≤ (9223372036854775807 : Nat)) (sh := Qj) (l := v8.fst.fL) (kO (sh := Qj) (v8.fst.fL ++ [v10]) (mA (sh := Qj) v8.fst.fL v10) (nA v8.fst.fL v10) fun v12 => (kEH (enc := Vj) (bt := Dc) (Q2.mk v12 v8.fst.fCount v8.fst.fE) ⟨.refl _, .refl _⟩))))))))))
 (hB := fun v1 v13 => (kEH (enc := Vj) (bt := Dc) v13 ⟨.refl _, .refl _⟩))))) h))).pad 13 (by decide)
def XM (r : List (List Int)) : AV := .ow 0 0 1 (List.length r)
def XK (r : List (List Int)) : List Box := [.own 0 1 (List.map eLI r)]
def Kx (s : ((List Q7) × (List Int))) (u : Unit) (o : List (List Int)) : List Alt := [⟨fun (x : List (List Int)) => x = o, .exit 0, fun x => [.ow 0 0 1 (List.length x)], fun x => [.own 0 1 (List.map eLI x)]⟩]
def YS (s : ((List Q7) × (List Int))) (u : ((List (List Int)) × Int × (List Int))) (o : Bool) : List Alt := jb o (fun b => [.ow 0 0 1 (List.length (u.1)), .sl 20 (List.map Qr (s.1)), .sl 1 (List.map eI (s.2)), ii (u.2.1), .sl 1 (List.map eI (u.2.2)), .bool b]) [.own 0 1 (List.map eLI (u.1))]
def Jb (s : ((List Q7) × (List Int))) (u : (Int × (List Int))) (o : List (List Int)) : List Alt := [⟨fun (x : List (List Int)) => x = o, .normal, fun x => [.ow 0 0 1 (List.length x), .sl 20 (List.map Qr (s.1)), .sl 1 (List.map eI (s.2)), ii (u.1), .sl 1 (List.map eI (u.2))], fun x => [.own 0 1 (List.map eLI x)]⟩]
def Ds (s : ((List Q7) × (List Int))) (u : Int) (o : List (List Int)) : List Alt := [⟨fun (x : List (List Int)) => x = o, .normal, fun x => [.ow 0 0 1 (List.length x), .sl 20 (List.map Qr (s.1)), .sl 1 (List.map eI (s.2)), ii u], fun x => [.own 0 1 (List.map eLI x)]⟩]
mutual
def X3 (x0 : List (List Int)) (x1 : List Q7) (x2 : List Int) : Option (List (List Int)) :=
 some () >>= fun v0 =>
 Zf x0 x1 x2 0 >>= fun v2 =>
 some v2
 partial_fixpoint
def Zf (x0 : List (List Int)) (x1 : List Q7) (x2 : List Int) (x7 : Int) : Option (List (List Int)) :=
 some (List.length x1 : Int) >>= fun v0 =>
 if x7 < v0 then
 some x7 >>= fun v1 =>
 (if (0 : Nat) = (0 : Nat) ∧ ((0 : Nat) + (List.map eI x2).length) * (8 : Nat) ≤ (140737488355328 : Nat) ∧ (0 : Nat) + (List.map eI x2).length ≤ (9223372036854775807 : Nat) then
 some ([] ++ x2) >>= fun v3 =>
 if (v3.length + (1 : Nat)) * (8 : Nat) ≤ (140737488355328 : Nat) ∧ v3.length + (1 : Nat) ≤ (9223372036854775807 : Nat) then
 some (v3 ++ [x7]) >>= fun v4 =>
 some (x7, v4) >>= fun v5 =>
 (some (x0, x7, v4) >>= fun v7 =>
 (Option.map Q7.f (ix x1 x7) >>= fun v9 =>
 if v9.fOp == 2 then
 some true
 else
 Option.map Q7.f (ix x1 x7) >>= fun v10 =>
 if v10.fOp == 3 then
 some true
 else
 some false) >>= fun v8 => if v8 then
 if (v7.fst.length + (1 : Nat)) * (24 : Nat) ≤ (140737488355328 : Nat) ∧ v7.fst.length + (1 : Nat) ≤ (9223372036854775807 : Nat) then
 some (v7.fst ++ [v7.snd.snd]) >>= fun v12 =>
 some v12
 else none
 else
 some v7.fst) >>= fun v14 =>
 Option.map Q7.f (ix x1 v5.fst) >>= fun v15 =>
 X3 v14 v15.fBody v5.snd >>= fun v16 =>
 some v16
 else none
 else none) >>= fun v17 =>
 Zf v17 x1 x2 (wr (v1 + 1))
 else
 some x0
 partial_fixpoint
end
theorem Iw  : (∀ (x0 : List (List Int)) (x1 : List Q7) (x2 : List Int) (r : List (List Int)), X3 x0 x1 x2 = some r → PH 54 [.ow 0 0 1 (List.length x0), Zl x1, eLI x2] [.own 0 1 (List.map eLI x0)] (XM r) (XK r)) ∧ (∀ (x0 : List (List Int)) (x1 : List Q7) (x2 : List Int) (x7 : Int) (o : List (List Int)), Zf x0 x1 x2 x7 = some o → LO 54 2 49 [0, 1, 2, 7] [.ow 0 0 1 (List.length x0), .sl 20 (List.map Qr x1), .sl 1 (List.map eI x2), ii x7] [.own 0 1 (List.map eLI x0)] [0] (Kx (x1, x2) () o)) :=
 X3.mutual_partial_correctness  (fun x0 x1 x2 r => PH 54 [.ow 0 0 1 (List.length x0), Zl x1, eLI x2] [.own 0 1 (List.map eLI x0)] (XM r) (XK r)) (fun x0 x1 x2 x7 o => LO 54 2 49 [0, 1, 2, 7] [.ow 0 0 1 (List.length x0), .sl 20 (List.map Qr x1), .sl 1 (List.map eI x2), ii x7] [.own 0 1 (List.map eLI x0)] [0] (Kx (x1, x2) () o))
 (fun Zf Q5e x0 x1 x2 r h  =>
 PuH2 (hs := [(3000003, .l [] [0, 1, 2, 7] [{ slot := 0, own := 1 }] [0] [{ slot := 0, own := 1 }] (Kx (x1, x2)))]) (kb := [{ slot := 0, path := [], own := 1 }]) ((kL1 () (Q5e x0 x1 x2 0) fun v0 v2 => (kEH (enc := XM) (bt := XK) v2 ⟨.refl _, .refl _⟩)) h))
 (fun X3 Zf Q5d Q5e x0 x1 x2 x7 o h  =>
 Lp2 (hs := [(11, .n eI 11 none), (12, .split), (17, .z [{ slot := 15, own := 1 }] (some (.n eI 17 (some .a)))), (21, .z [{ slot := 18, own := 1 }] (some (.n eI 21 (some .a)))), (8, .z [{ slot := 21, fz := true }] none), (24, .e Qm), (27, .split), (31, .e Qm), (34, .split), (39, .z [{ slot := 36, own := 1 }] (some (.n eLI 39 (some .a)))), (43, .e Qm), (47, .h [{ slot := 0, own := 1 }] XM XK), (5000007, .l [] [] [] [0, 1, 2, 7, 8, 35] [{ slot := 0, own := 1 }, { slot := 8, fz := true }] (YS (x1, x2))), (6000009, .l [] [] [] [0, 1, 2, 7, 8] [{ slot := 0, own := 1 }, { slot := 8, fz := true }] (Jb (x1, x2))), (7000001, .l [] [] [] [0, 1, 2, 7] [{ slot := 0, own := 1 }] (Ds (x1, x2)))]) (kb := [{ slot := 0, own := 1 }]) (kbx := [{ slot := 0, own := 1 }]) ((kN _ (mLen (sh := Qr) x1) fun v0 => (kIfD (p := x7 < v0) (kJ1 (id := 7000001) x7 (fun v1 ev1 v2 => (kG (p := (0 : Nat) = (0 : Nat) ∧ ((0 : Nat) + (List.map eI x2).length) * (8 : Nat) ≤ (140737488355328 : Nat) ∧ (0 : Nat) + (List.map eI x2).length ≤ (9223372036854775807 : Nat)) (kO (sh := eI) ([] ++ x2) (mAA (sh := eI) [] x2) (nAA (sh := eI) [] x2) fun v3 => (kA (q := (v3.length + (1 : Nat)) * (8 : Nat) ≤ (140737488355328 : Nat) ∧ v3.length + (1 : Nat) ≤ (9223372036854775807 : Nat)) (sh := eI) (l := v3) (kO (sh := eI) (v3 ++ [x7]) (mA (sh := eI) v3 x7) (nA v3 x7) fun v4 => (kT (nM (sh := eI) v4) (kJ1E (id := 6000009) (x7, v4) (fun v5 ev5 v6 => (kJbE (id := 5000007) (x0, x7, v4) (fun v7 ev7 v8 => (kIxR (l := x1) (k := x7) Z2 fun v9 => (kIf (c := v9.fOp == 2) (kXj (alts := YS (x1, x2)) ev7 true (.here () rfl (.refl _) (.refl _)))
 (kIxR (l := x1) (k := x7) Z2 fun v10 => (kIf (c := v10.fOp == 3) (kXj (alts := YS (x1, x2)) ev7 true (.here () rfl (.refl _) (.refl _)))
 (kXj (alts := YS (x1, x2)) ev7 false (.next (.here () rfl (.refl _) (.refl _)))))))))
 (fun v7 ev7 => (kA (q := (v7.fst.length + (1 : Nat)) * (24 : Nat) ≤ (140737488355328 : Nat) ∧ v7.fst.length + (1 : Nat) ≤ (9223372036854775807 : Nat)) (sh := eLI) (l := v7.fst) (kO (sh := eLI) (v7.fst ++ [v7.snd.snd]) (mA (sh := eLI) v7.fst v7.snd.snd) (nA v7.fst v7.snd.snd) fun v12 => (kXj (alts := Jb (x1, x2)) (u0 := (v7.snd.fst, v7.snd.snd)) (by subst ev7; exact ev5) v12 (.here _ rfl (.refl _) (.refl _))))))
 (fun v7 ev7 => (kXj (alts := Jb (x1, x2)) (u0 := (v7.snd.fst, v7.snd.snd)) (by subst ev7; exact ev5) v7.fst (.here _ rfl (.refl _) (.refl _))))))
 (fun v5 ev5 v14 => (kIxR (l := x1) (k := v5.fst) Z2 fun v15 => (kH (sh := XM) (bt := XK) (Q5d v14 v15.fBody v5.snd) fun v16 => (kXj (alts := Ds (x1, x2)) (u0 := v5.fst) (by subst ev5; exact ev1) v16 (.here _ rfl (.refl _) (.refl _)))))))))))))
 (fun v1 v17 => (kM0 (alts := Kx (x1, x2) ()) (Q5e v17 x1 x2 (wr (v1 + 1))))))
 (kX (alts := Kx (x1, x2) ()) x0 (.here _ rfl (.refl _) (.refl _))))) h))
theorem IY (x0 : List (List Int)) (x1 : List Q7) (x2 : List Int) (r : List (List Int)) (h : X3 x0 x1 x2 = some r) : PH 54 [.ow 0 0 1 (List.length x0), Zl x1, eLI x2] [.own 0 1 (List.map eLI x0)] (XM r) (XK r) := (Iw ).1 x0 x1 x2 r h
def VI (x0 : List Q7) : Option Int :=
 X3 [] x0 [] >>= fun v0 =>
 some (↑v0.length : Int)
theorem N4 (x0 : List Q7) (r : Int) (h : VI x0 = some r) : PU 33 [Zl x0] (eI r) :=
 Pu2 (hs := [(4, .h [{ slot := 0, own := 1 }] XM XK)]) ((kH (sh := XM) (bt := XK) (fun y hy => PuH.le (IY [] x0 [] y hy) (.cons (LeV.refl (AV.ow (0 : Nat) (0 : Nat) (1 : Nat) (0 : Nat))) (.cons (LeV.refl (AV.sl (20 : Nat) (List.map Qr x0))) (.cons (LeV.nil 1) .nil))) (.refl _) (.refl _) (.refl _)) fun v0 => (kEr (enc := eI) (↑v0.length : Int))) h)
def XA (r : Q2) : AV := .agg [.ow 0 0 22 (List.length r.fL), ii r.fCount, ii r.fE]
def Xy (r : Q2) : List Box := [.own 0 22 (List.map Qj r.fL)]
def YI (r : Q2) : AV := .agg [.ow 0 0 22 (List.length r.fL), ii r.fCount, ii r.fE]
def YE (r : Q2) : List Box := [.own 0 22 (List.map Qj r.fL)]
def YT (s : ((List Q7) × (List Qc) × (List Q9))) (u : Unit) (o : (Q2 × Q2) ⊕ (Q2 × Q2)) : List Alt := [⟨fun (x : (Q2 × Q2)) => (Sum.inl x : (Q2 × Q2) ⊕ (Q2 × Q2)) = o, .exit 0, fun x => [.ptr 0 0 0, .ptr 2 0 0], fun x => [.cells 0 [.ow 1 0 22 (List.length x.1.fL), ii x.1.fCount, ii x.1.fE], .own 0 22 (List.map Qj x.1.fL), .cells 0 [.ow 3 0 22 (List.length x.2.fL), ii x.2.fCount, ii x.2.fE], .own 0 22 (List.map Qj x.2.fL)]⟩, ⟨fun (x : (Q2 × Q2)) => (Sum.inr x : (Q2 × Q2) ⊕ (Q2 × Q2)) = o, .ret, fun x => [.ptr 0 0 0, .ptr 2 0 0], fun x => [.cells 0 [.ow 1 0 22 (List.length x.1.fL), ii x.1.fCount, ii x.1.fE], .own 0 22 (List.map Qj x.1.fL), .cells 0 [.ow 3 0 22 (List.length x.2.fL), ii x.2.fCount, ii x.2.fE], .own 0 22 (List.map Qj x.2.fL)]⟩]
def VG (s : ((List Q7) × (List Qc) × (List Q9))) (u : (Int × Int × Qa)) (o : (Q2 × Q2) ⊕ (Q2 × Q2)) : List Alt := [⟨fun (x : (Q2 × Q2)) => (Sum.inl x : (Q2 × Q2) ⊕ (Q2 × Q2)) = o, .exit 3, fun x => [.sl 20 (List.map Qr s.1), ii u.1, .sl 2 (List.map Qd s.2.1), .sl 13 (List.map Ql s.2.2), .ptr 0 0 0, .ptr 2 0 0, ii u.2.1], fun x => [.cells 0 [.ow 1 0 22 (List.length x.1.fL), ii x.1.fCount, ii x.1.fE], .own 0 22 (List.map Qj x.1.fL), .cells 0 [.ow 3 0 22 (List.length x.2.fL), ii x.2.fCount, ii x.2.fE], .own 0 22 (List.map Qj x.2.fL)]⟩, ⟨fun (x : (Q2 × Q2)) => (Sum.inr x : (Q2 × Q2) ⊕ (Q2 × Q2)) = o, .ret, fun x => [.sl 20 (List.map Qr s.1), ii u.1, .sl 2 (List.map Qd s.2.1), .sl 13 (List.map Ql s.2.2), .ptr 0 0 0, .ptr 2 0 0, ii u.2.1], fun x => [.cells 0 [.ow 1 0 22 (List.length x.1.fL), ii x.1.fCount, ii x.1.fE], .own 0 22 (List.map Qj x.1.fL), .cells 0 [.ow 3 0 22 (List.length x.2.fL), ii x.2.fCount, ii x.2.fE], .own 0 22 (List.map Qj x.2.fL)]⟩]
def JG (s : ((List Q7) × (List Qc) × (List Q9))) (u : (Int × Q2 × Q2 × Int)) (o : Bool) : List Alt := jb o (fun b => [.sl 20 (List.map Qr (s.1)), ii (u.1), .sl 2 (List.map Qd (s.2.1)), .sl 13 (List.map Ql (s.2.2)), .ptr 0 0 0, .ptr 2 0 0, ii (u.2.2.2), .bool b]) [.cells 0 [.ow 1 0 22 (List.length ((u.2.1).fL)), ii (u.2.1).fCount, ii (u.2.1).fE], .own 0 22 (List.map Qj (u.2.1).fL), .cells 0 [.ow 3 0 22 (List.length ((u.2.2.1).fL)), ii (u.2.2.1).fCount, ii (u.2.2.1).fE], .own 0 22 (List.map Qj (u.2.2.1).fL)]
def JI (s : ((List Q7) × Int × (List Qc) × (List Q9) × Int × Qa)) (u : (Q2 × Q2 × Int)) (o : Bool) : List Alt := jb o (fun b => [.sl 20 (List.map Qr (s.1)), ii (s.2.1), .sl 2 (List.map Qd (s.2.2.1)), .sl 13 (List.map Ql (s.2.2.2.1)), .ptr 0 0 0, .ptr 2 0 0, ii (s.2.2.2.2.1), .ptr 4 0 0, ii (u.2.2), .bool b]) [.cells 0 [.ow 1 0 22 (List.length ((u.1).fL)), ii (u.1).fCount, ii (u.1).fE], .own 0 22 (List.map Qj (u.1).fL), .cells 0 [.ow 3 0 22 (List.length ((u.2.1).fL)), ii (u.2.1).fCount, ii (u.2.1).fE], .own 0 22 (List.map Qj (u.2.1).fL), .cells 0 (Qm (s.2.2.2.2.2)).cells]
def XQ (s : Unit) (u : (Q2 × Q2)) (o : Bool) : List Alt := jb o (fun b => [.ptr 0 0 0, .ptr 2 0 0, .bool b]) [.cells 0 [.ow 1 0 22 (List.length ((u.1).fL)), ii (u.1).fCount, ii (u.1).fE], .own 0 22 (List.map Qj (u.1).fL), .cells 0 [.ow 3 0 22 (List.length ((u.2).fL)), ii (u.2).fCount, ii (u.2).fE], .own 0 22 (List.map Qj (u.2).fL)]
mutual
def Y8 (x0 : Q2) (x1 : List Q7) (x2 : Int) (x3 : List Qc) (x4 : List Q9) : Option Q2 :=
 some () >>= fun v0 =>
 Zt x1 x2 x3 x4 x0 (Q2.mk [] (0 : Int) (0 : Int)) (0 : Int) >>= fun v1 => (match v1 with
 | (.inl v2) =>
 some v2.fst
 | (.inr v3) =>
 some v3.snd)
 partial_fixpoint
def Zt (x1 : List Q7) (x2 : Int) (x3 : List Qc) (x4 : List Q9) (x5 : Q2) (x10 : Q2) (x11 : Int) : Option ((Q2 × Q2) ⊕ (Q2 × Q2)) :=
 some (x2, x5, x10, x11) >>= fun v0 =>
 (some (List.length x1 : Int) >>= fun v2 =>
 if x11 < v2 then
 if x5.fE == 0 then
 some true
 else
 some false
 else
 some false) >>= fun v1 => if v1 then
 Option.map Q7.f (ix x1 v0.snd.snd.snd) >>= fun v4 =>
 if v4.fOp == 1 then
 some (v0.fst, v0.snd.snd.snd, v4) >>= fun v5 =>
 Xe v0.fst x3 x4 v0.snd.fst v0.snd.snd.fst v4 0 >>= fun v6 => (match v6 with
 | (.inl v7) =>
 if 0 ≤ v5.snd.fst ∧ v5.snd.fst ≤ wr (v5.snd.fst + 1) ∧ wr (v5.snd.fst + 1) ≤ (↑(List.map Qr x1).length : Int) then
 some ((List.drop v5.snd.fst.toNat (List.take ((wr (v5.snd.fst + 1)).toNat) x1)) : List Q7) >>= fun v8 =>
 VI v8 >>= fun v9 =>
 some (wr (v5.fst + v9) : Int) >>= fun v10 =>
 Zt x1 v10 x3 x4 v7.fst v7.snd (wr (v5.snd.fst + 1))
 else none
 | (.inr v11) =>
 some (.inr (v11.fst, v11.snd)))
 else
 if v4.fOp == 4 then
 Dh v0.snd.fst v4 v0.fst x3 x4 >>= fun v12 =>
 if 0 ≤ v0.snd.snd.snd ∧ v0.snd.snd.snd ≤ wr (v0.snd.snd.snd + 1) ∧ wr (v0.snd.snd.snd + 1) ≤ (↑(List.map Qr x1).length : Int) then
 some ((List.drop v0.snd.snd.snd.toNat (List.take ((wr (v0.snd.snd.snd + 1)).toNat) x1)) : List Q7) >>= fun v13 =>
 VI v13 >>= fun v14 =>
 some (wr (v0.fst + v14) : Int) >>= fun v15 =>
 Zt x1 v15 x3 x4 v12 v0.snd.snd.fst (wr (v0.snd.snd.snd + 1))
 else none
 else
 if (0 : Nat) = (0 : Nat) ∧ ((0 : Nat) + (List.map Ql x4).length) * (160 : Nat) ≤ (140737488355328 : Nat) ∧ (0 : Nat) + (List.map Ql x4).length ≤ (9223372036854775807 : Nat) then
 Wa v0.snd.fst v4 v0.fst x3 ([] ++ x4) >>= fun v16 =>
 if 0 ≤ v0.snd.snd.snd ∧ v0.snd.snd.snd ≤ wr (v0.snd.snd.snd + 1) ∧ wr (v0.snd.snd.snd + 1) ≤ (↑(List.map Qr x1).length : Int) then
 some ((List.drop v0.snd.snd.snd.toNat (List.take ((wr (v0.snd.snd.snd + 1)).toNat) x1)) : List Q7) >>= fun v17 =>
 VI v17 >>= fun v18 =>
 some (wr (v0.fst + v18) : Int) >>= fun v19 =>
 Zt x1 v19 x3 x4 v16 v0.snd.snd.fst (wr (v0.snd.snd.snd + 1))
 else none
 else none
 else
 some (.inl (v0.snd.fst, v0.snd.snd.fst))
 partial_fixpoint
def Dh (x0 : Q2) (x1 : Qa) (x2 : Int) (x3 : List Qc) (x4 : List Q9) : Option Q2 :=
 KD x1.fExpr >>= fun v0 => if v0 then
 GR [] x3 x1.fExpr >>= fun v1 =>
 if v1.snd != 0 then
 some (Q2.mk [] (0 : Int) v1.snd)
 else
 if v1.fst then
 Y8 x0 x1.fBody x2 x3 x4 >>= fun v2 =>
 some v2
 else
 some x0
 else
 if (0 : Nat) = (0 : Nat) ∧ ((0 : Nat) + (List.map Ql x4).length) * (160 : Nat) ≤ (140737488355328 : Nat) ∧ (0 : Nat) + (List.map Ql x4).length ≤ (9223372036854775807 : Nat) then
 some ([] ++ x4) >>= fun v3 =>
 some ((↑x0.fL.length : Int) : Int) >>= fun v4 =>
 if (v3.length + (1 : Nat)) * (160 : Nat) ≤ (140737488355328 : Nat) ∧ v3.length + (1 : Nat) ≤ (9223372036854775807 : Nat) then
 if v3.length + (1 : Nat) = (List.map Ql v3 ++ [AV.agg [ii x1.fExpr.fOp, AV.str x1.fExpr.fName, ii x1.fExpr.fVal.fN, ii x1.fExpr.fVal.fD, ii x1.fExpr.fType.fKind, ii x1.fExpr.fType.fBits, ii x1.fExpr.fType.fFrac, ii x1.fExpr.fType.fRound, ii x1.fExpr.fType.fOver, ii x1.fExpr.fLin.fK, AV.sl (2 : Nat) (List.map Qe x1.fExpr.fLin.fL), AV.sl (4 : Nat) (List.map Q3 x1.fExpr.fIdx), AV.sl (13 : Nat) (List.map Ql x1.fExpr.fArgs)]]).length then
 Y8 x0 x1.fBody x2 x3 (v3 ++ [(Q9.mk x1.fExpr)]) >>= fun v5 =>
 some (v5, (Q2.mk [] (0 : Int) (0 : Int))) >>= fun v6 =>
 (if v5.fE == 0 then
 if (↑v5.fL.length : Int) == v4 then
 some ((↑v5.fL.length : Int) : Int) >>= fun v8 =>
 some true
 else
 if 1 < wr ((↑v5.fL.length : Int) - v4) then
 W4 x1.fExpr >>= fun v9 =>
 some ((↑v5.fL.length : Int) : Int) >>= fun v10 =>
 some ((↑v5.fL.length : Int) : Int) >>= fun v11 =>
 XG x1.fBody v9 >>= fun v12 => if v12 then
 some true
 else
 some false
 else
 some ((↑v5.fL.length : Int) : Int) >>= fun v13 =>
 some ((↑v5.fL.length : Int) : Int) >>= fun v14 =>
 some false
 else
 some false) >>= fun v7 => if v7 then
 some (Q2.mk [] (0 : Int) (18 : Int))
 else
 some v6.fst
 else none
 else none
 else none
 partial_fixpoint
def Xe (x2 : Int) (x3 : List Qc) (x4 : List Q9) (x5 : Q2) (x10 : Q2) (x12 : Qa) (x13 : Int) : Option ((Q2 × Q2) ⊕ (Q2 × Q2)) :=
 some (x5, x10, x13) >>= fun v0 =>
 (if x13 < x12.fMany then
 if x5.fE == 0 then
 some true
 else
 some false
 else
 some false) >>= fun v1 => if v1 then
 if 65536 ≤ v0.fst.fCount then
 some (.inr (v0.fst, (Q2.mk [] (0 : Int) (2 : Int))))
 else
 if (0 : Nat) = (0 : Nat) ∧ ((0 : Nat) + (List.map Qd x3).length) * (24 : Nat) ≤ (140737488355328 : Nat) ∧ (0 : Nat) + (List.map Qd x3).length ≤ (9223372036854775807 : Nat) then
 some ([] ++ x3) >>= fun v3 =>
 if (v3.length + (1 : Nat)) * (24 : Nat) ≤ (140737488355328 : Nat) ∧ v3.length + (1 : Nat) ≤ (9223372036854775807 : Nat) then
 some ((Qc.mk x12.fName v0.snd.snd)) >>= fun v4 =>
 if v3.length + (1 : Nat) = (List.map Qd v3 ++ [AV.agg [AV.str x12.fName, ii v0.snd.snd]]).length then
 Y8 (Q2.mk v0.fst.fL (wr (v0.fst.fCount + 1)) v0.fst.fE) x12.fBody x2 (v3 ++ [(Qc.mk x12.fName v0.snd.snd)]) x4 >>= fun v5 =>
 Xe x2 x3 x4 v5 v0.snd.fst x12 (wr (v0.snd.snd + 1))
 else none
 else none
 else none
 else
 some (.inl (v0.fst, v0.snd.fst))
 partial_fixpoint
end
theorem Am  : (∀ (x0 : Q2) (x1 : List Q7) (x2 : Int) (x3 : List Qc) (x4 : List Q9) (r : Q2), Y8 x0 x1 x2 x3 x4 = some r → PH 15 [.agg [.ow 0 0 22 (List.length x0.fL), ii x0.fCount, ii x0.fE], Zl x1, eI x2, QW x3, YJ x4] [.own 0 22 (List.map Qj x0.fL)] (XA r) (Xy r)) ∧ (∀ (x1 : List Q7) (x2 : Int) (x3 : List Qc) (x4 : List Q9) (x5 : Q2) (x10 : Q2) (x11 : Int) (o : (Q2 × Q2) ⊕ (Q2 × Q2)), Zt x1 x2 x3 x4 x5 x10 x11 = some o → LO 15 2 95 [1, 2, 3, 4, 5, 10, 11] [.sl 20 (List.map Qr x1), ii x2, .sl 2 (List.map Qd x3), .sl 13 (List.map Ql x4), .ptr 0 0 0, .ptr 2 0 0, ii x11] [.cells 0 [.ow 1 0 22 (List.length x5.fL), ii x5.fCount, ii x5.fE], .own 0 22 (List.map Qj x5.fL), .cells 0 [.ow 3 0 22 (List.length x10.fL), ii x10.fCount, ii x10.fE], .own 0 22 (List.map Qj x10.fL)] [5, 10] (YT (x1, x3, x4) () o)) ∧ (∀ (x0 : Q2) (x1 : Qa) (x2 : Int) (x3 : List Qc) (x4 : List Q9) (r : Q2), Dh x0 x1 x2 x3 x4 = some r → PH 31 [.agg [.ow 0 0 22 (List.length x0.fL), ii x0.fCount, ii x0.fE], Qm x1, eI x2, QW x3, YJ x4] [.own 0 22 (List.map Qj x0.fL)] (YI r) (YE r)) ∧ (∀ (x2 : Int) (x3 : List Qc) (x4 : List Q9) (x5 : Q2) (x10 : Q2) (x12 : Qa) (x13 : Int) (o : (Q2 × Q2) ⊕ (Q2 × Q2)), Xe x2 x3 x4 x5 x10 x12 x13 = some o → ∀ (x1 : List Q7) (x11 : Int), LO 15 10 95 [1, 2, 3, 4, 5, 10, 11, 12, 13] [.sl 20 (List.map Qr x1), ii x2, .sl 2 (List.map Qd x3), .sl 13 (List.map Ql x4), .ptr 0 0 0, .ptr 2 0 0, ii x11, .ptr 4 0 0, ii x13] [.cells 0 [.ow 1 0 22 (List.length x5.fL), ii x5.fCount, ii x5.fE], .own 0 22 (List.map Qj x5.fL), .cells 0 [.ow 3 0 22 (List.length x10.fL), ii x10.fCount, ii x10.fE], .own 0 22 (List.map Qj x10.fL), .cells 0 (Qm x12).cells] [1, 2, 3, 4, 5, 10, 11] (VG (x1, x3, x4) (x2, x11, x12) o)) :=
 Y8.mutual_partial_correctness  (fun x0 x1 x2 x3 x4 r => PH 15 [.agg [.ow 0 0 22 (List.length x0.fL), ii x0.fCount, ii x0.fE], Zl x1, eI x2, QW x3, YJ x4] [.own 0 22 (List.map Qj x0.fL)] (XA r) (Xy r)) (fun x1 x2 x3 x4 x5 x10 x11 o => LO 15 2 95 [1, 2, 3, 4, 5, 10, 11] [.sl 20 (List.map Qr x1), ii x2, .sl 2 (List.map Qd x3), .sl 13 (List.map Ql x4), .ptr 0 0 0, .ptr 2 0 0, ii x11] [.cells 0 [.ow 1 0 22 (List.length x5.fL), ii x5.fCount, ii x5.fE], .own 0 22 (List.map Qj x5.fL), .cells 0 [.ow 3 0 22 (List.length x10.fL), ii x10.fCount, ii x10.fE], .own 0 22 (List.map Qj x10.fL)] [5, 10] (YT (x1, x3, x4) () o)) (fun x0 x1 x2 x3 x4 r => PH 31 [.agg [.ow 0 0 22 (List.length x0.fL), ii x0.fCount, ii x0.fE], Qm x1, eI x2, QW x3, YJ x4] [.own 0 22 (List.map Qj x0.fL)] (YI r) (YE r)) (fun x2 x3 x4 x5 x10 x12 x13 o => ∀ (x1 : List Q7) (x11 : Int), LO 15 10 95 [1, 2, 3, 4, 5, 10, 11, 12, 13] [.sl 20 (List.map Qr x1), ii x2, .sl 2 (List.map Qd x3), .sl 13 (List.map Ql x4), .ptr 0 0 0, .ptr 2 0 0, ii x11, .ptr 4 0 0, ii x13] [.cells 0 [.ow 1 0 22 (List.length x5.fL), ii x5.fCount, ii x5.fE], .own 0 22 (List.map Qj x5.fL), .cells 0 [.ow 3 0 22 (List.length x10.fL), ii x10.fCount, ii x10.fE], .own 0 22 (List.map Qj x10.fL), .cells 0 (Qm x12).cells] [1, 2, 3, 4, 5, 10, 11] (VG (x1, x3, x4) (x2, x11, x12) o))
 (fun Zt Q5k x0 x1 x2 x3 x4 r h  =>
 PuH2 (hs := [(3000003, .l [] [1, 2, 3, 4, 5, 10, 11] [kk 5, { slot := 5, path := [0], own := 22 }, kk 10, { slot := 10, path := [0], own := 22 }] [5, 10] [kk 5, { slot := 5, path := [0], own := 22 }, kk 10, { slot := 10, path := [0], own := 22 }] (YT (x1, x3, x4)))]) (kb := [{ slot := 0, path := [0], own := 22 }]) ((kL2 () (hL := (Q5k x1 x2 x3 x4 x0 (Q2.mk [] (0 : Int) (0 : Int)) (0 : Int))) (hA := fun v0 v2 => (kEH (enc := XA) (bt := Xy) v2.fst ⟨.refl _, .refl _⟩))
 (hB := fun v0 v3 => (kEH (enc := XA) (bt := Xy) v3.snd ⟨.refl _, .refl _⟩))) h))
 (fun Zt Dh Xe Q5k Q54 Q5j x1 x2 x3 x4 x5 x10 x11 o h  =>
 Lp2 (hs := [(18, .n eI 18 none), (19, .split), (23, .split), (29, .e Qm), (42, .split), (79, .split), (85, .h [{ slot := 0, path := [0], own := 22 }] YI YE), (39, .a), (40, .h [{ slot := 0, path := [0], own := 22 }, { slot := 4, own := 13 }] Vj NL), (91, .n Zl 91 (some .s)), (92, .c eI), (2, .n eI 2 none), (7500007, .z [{ slot := 15, own := 13 }] none), (3000011, .l [] [1, 2, 3, 4, 5, 10, 11, 12, 13] [kk 5, { slot := 5, path := [0], own := 22 }, kk 10, { slot := 10, path := [0], own := 22 }, kk 12] [1, 2, 3, 4, 5, 10, 11] [kk 5, { slot := 5, path := [0], own := 22 }, kk 10, { slot := 10, path := [0], own := 22 }] (VG (x1, x3, x4))), (5000002, .l [] [] [] [1, 2, 3, 4, 5, 10, 11, 24] [kk 5, { slot := 5, path := [0], own := 22 }, kk 10, { slot := 10, path := [0], own := 22 }] (JG (x1, x3, x4)))]) (kb := [kk 5, { slot := 5, path := [0], own := 22 }, kk 10, { slot := 10, path := [0], own := 22 }]) (kbx := [kk 5, { slot := 5, path := [0], own := 22 }, kk 10, { slot := 10, path := [0], own := 22 }]) ((kJb (id := 5000002) (x2, x5, x10, x11) (fun v0 ev0 v1 => (kN _ (mLen (sh := Qr) x1) fun v2 => (kIfD (p := x11 < v2) (kIf (c := x5.fE == 0) (kXj (alts := JG (x1, x3, x4)) ev0 true (.here () rfl (.refl _) (.refl _)))
 (kXj (alts := JG (x1, x3, x4)) ev0 false (.next (.here () rfl (.refl _) (.refl _)))))
 (kXj (alts := JG (x1, x3, x4)) ev0 false (.next (.here () rfl (.refl _) (.refl _)))))))
 (fun v0 => (kIxR (l := x1) (k := v0.snd.snd.snd) Z2 fun v4 => (kIf (c := v4.fOp == 1) (kL2 (v0.fst, v0.snd.snd.snd, v4) (hL := (fun y hy => Q5j v0.fst x3 x4 v0.snd.fst v0.snd.snd.fst v4 0 y hy x1 v0.snd.snd.snd)) (hA := fun v5 v7 => (kG (p := 0 ≤ v5.snd.fst ∧ v5.snd.fst ≤ wr (v5.snd.fst + 1) ∧ wr (v5.snd.fst + 1) ≤ (↑(List.map Qr x1).length : Int)) (kW (sh := Zl) (List.drop v5.snd.fst.toNat (List.take ((wr (v5.snd.fst + 1)).toNat) x1)) (leSl (mTD (sh := Qr) x1 ((wr (v5.snd.fst + 1)).toNat) v5.snd.fst.toNat)) fun v8 => (kC (sh := eI) (N4 v8) fun v9 => (kN (wr (v5.fst + v9)) rfl fun v10 => (kM0 (alts := YT (x1, x3, x4) ()) (Q5k x1 v10 x3 x4 v7.fst v7.snd (wr (v5.snd.fst + 1)))))))))
 (hB := fun v5 v11 => (kX (alts := YT (x1, x3, x4) ()) (.inr (v11.fst, v11.snd)) (.next (.here _ rfl (.refl _) (.refl _))))))
 (kIf (c := v4.fOp == 4) (kH (sh := YI) (bt := YE) (Q54 v0.snd.fst v4 v0.fst x3 x4) fun v12 => (kG (p := 0 ≤ v0.snd.snd.snd ∧ v0.snd.snd.snd ≤ wr (v0.snd.snd.snd + 1) ∧ wr (v0.snd.snd.snd + 1) ≤ (↑(List.map Qr x1).length : Int)) (kW (sh := Zl) (List.drop v0.snd.snd.snd.toNat (List.take ((wr (v0.snd.snd.snd + 1)).toNat) x1)) (leSl (mTD (sh := Qr) x1 ((wr (v0.snd.snd.snd + 1)).toNat) v0.snd.snd.snd.toNat)) fun v13 => (kC (sh := eI) (N4 v13) fun v14 => (kN (wr (v0.fst + v14)) rfl fun v15 => (kM0 (alts := YT (x1, x3, x4) ()) (Q5k x1 v15 x3 x4 v12 v0.snd.snd.fst (wr (v0.snd.snd.snd + 1)))))))))
 (kG (p := (0 : Nat) = (0 : Nat) ∧ ((0 : Nat) + (List.map Ql x4).length) * (160 : Nat) ≤ (140737488355328 : Nat) ∧ (0 : Nat) + (List.map Ql x4).length ≤ (9223372036854775807 : Nat)) (kH (sh := Vj) (bt := NL) (fun y hy => PuH.le (AJ v0.snd.fst v4 v0.fst x3 ([] ++ x4) y hy) (.cons (LeV.refl (AV.agg [AV.ow (0 : Nat) (0 : Nat) (22 : Nat) v0.snd.fst.fL.length, ii v0.snd.fst.fCount, ii v0.snd.fst.fE])) (.cons (LeV.refl (AV.agg [ii v4.fOp, AV.str v4.fName, ii v4.fMany, ii v4.fMark, ii v4.fFold, AV.sl (4 : Nat) (List.map Q3 v4.fIdx), ii v4.fExpr.fOp, AV.str v4.fExpr.fName, ii v4.fExpr.fVal.fN, ii v4.fExpr.fVal.fD, ii v4.fExpr.fType.fKind, ii v4.fExpr.fType.fBits, ii v4.fExpr.fType.fFrac, ii v4.fExpr.fType.fRound, ii v4.fExpr.fType.fOver, ii v4.fExpr.fLin.fK, AV.sl (2 : Nat) (List.map Qe v4.fExpr.fLin.fL), AV.sl (4 : Nat) (List.map Q3 v4.fExpr.fIdx), AV.sl (13 : Nat) (List.map Ql v4.fExpr.fArgs), AV.sl (20 : Nat) (List.map Qr v4.fBody)])) (.cons (LeV.refl (ii v0.fst)) (.cons (LeV.refl (AV.sl (2 : Nat) (List.map Qd x3))) (.cons (LeV.owl (by simp : (0 : Nat) + (List.map Ql x4).length = List.length ([] ++ x4))) .nil))))) (.cons (LeB.refl (Box.own (0 : Nat) (22 : Nat) (List.map Qj v0.snd.fst.fL))) (.cons (LeB.ownEq (mAA (sh := Ql) [] x4)) .nil)) (.refl _) (.refl _)) fun v16 => (kG (p := 0 ≤ v0.snd.snd.snd ∧ v0.snd.snd.snd ≤ wr (v0.snd.snd.snd + 1) ∧ wr (v0.snd.snd.snd + 1) ≤ (↑(List.map Qr x1).length : Int)) (kW (sh := Zl) (List.drop v0.snd.snd.snd.toNat (List.take ((wr (v0.snd.snd.snd + 1)).toNat) x1)) (leSl (mTD (sh := Qr) x1 ((wr (v0.snd.snd.snd + 1)).toNat) v0.snd.snd.snd.toNat)) fun v17 => (kC (sh := eI) (N4 v17) fun v18 => (kN (wr (v0.fst + v18)) rfl fun v19 => (kM0 (alts := YT (x1, x3, x4) ()) (Q5k x1 v19 x3 x4 v16 v0.snd.snd.fst (wr (v0.snd.snd.snd + 1))))))))))))))
 (fun v0 => (kX (alts := YT (x1, x3, x4) ()) (.inl (v0.snd.fst, v0.snd.snd.fst)) (.here _ rfl (.refl _) (.refl _))))) h))
 (fun Y8 Q5i x0 x1 x2 x3 x4 r h  =>
 PuH2 (hs := [(17, .cb), (21, .z [{ slot := 19, own := 13 }] (some (.n Ql 21 (some .a)))), (24, .n eI 24 none), (34, .a), (35, .h [{ slot := 0, path := [0], own := 22 }, { slot := 4, fz := true }] XA Xy), (38, .split), (42, .n eI 42 none), (44, .split), (48, .n eI 48 none), (51, .split), (57, .c eLS), (58, .cb), (68, .c Zd), (72, .split), (75, .split), (84, .h [{ slot := 0, path := [0], own := 22 }] XA Xy), (7500005, .z [{ slot := 11, own := 13 }] none), (5000006, .l [] [] [] [5, 10, 61] [kk 5, { slot := 5, path := [0], own := 22 }, kk 10, { slot := 10, path := [0], own := 22 }] (XQ ()))]) (kb := [{ slot := 0, path := [0], own := 22 }]) ((kCb (Sd x1.fExpr) (kC (sh := Zd) (fun y hy => Pu.le (Em [] x3 x1.fExpr y hy) (.cons (LeT.nil 8) (.cons (LeT.refl (AV.sl (2 : Nat) (List.map Qd x3))) (.cons (LeT.refl (AV.agg [ii x1.fExpr.fOp, AV.str x1.fExpr.fName, ii x1.fExpr.fVal.fN, ii x1.fExpr.fVal.fD, ii x1.fExpr.fType.fKind, ii x1.fExpr.fType.fBits, ii x1.fExpr.fType.fFrac, ii x1.fExpr.fType.fRound, ii x1.fExpr.fType.fOver, ii x1.fExpr.fLin.fK, AV.sl (2 : Nat) (List.map Qe x1.fExpr.fLin.fL), AV.sl (4 : Nat) (List.map Q3 x1.fExpr.fIdx), AV.sl (13 : Nat) (List.map Ql x1.fExpr.fArgs)])) .nil))) (LeT.refl _)) fun v1 => (kIf (c := v1.snd != 0) (kEH (enc := YI) (bt := YE) (Q2.mk [] (0 : Int) v1.snd) ⟨.refl _, .refl _⟩)
 (kIf (c := v1.fst) (kH (sh := XA) (bt := Xy) (Q5i x0 x1.fBody x2 x3 x4) fun v2 => (kEH (enc := YI) (bt := YE) v2 ⟨.refl _, .refl _⟩))
 (kEH (enc := YI) (bt := YE) x0 ⟨.refl _, .refl _⟩))))
 (kG (p := (0 : Nat) = (0 : Nat) ∧ ((0 : Nat) + (List.map Ql x4).length) * (160 : Nat) ≤ (140737488355328 : Nat) ∧ (0 : Nat) + (List.map Ql x4).length ≤ (9223372036854775807 : Nat)) (kO (sh := Ql) ([] ++ x4) (mAA (sh := Ql) [] x4) (nAA (sh := Ql) [] x4) fun v3 => (kN (↑x0.fL.length : Int) rfl fun v4 => (kA (q := (v3.length + (1 : Nat)) * (160 : Nat) ≤ (140737488355328 : Nat) ∧ v3.length + (1 : Nat) ≤ (9223372036854775807 : Nat)) (sh := Ql) (l := v3) (kG (p := v3.length + (1 : Nat) = (List.map Ql v3 ++ [AV.agg [ii x1.fExpr.fOp, AV.str x1.fExpr.fName, ii x1.fExpr.fVal.fN, ii x1.fExpr.fVal.fD, ii x1.fExpr.fType.fKind, ii x1.fExpr.fType.fBits, ii x1.fExpr.fType.fFrac, ii x1.fExpr.fType.fRound, ii x1.fExpr.fType.fOver, ii x1.fExpr.fLin.fK, AV.sl (2 : Nat) (List.map Qe x1.fExpr.fLin.fL), AV.sl (4 : Nat) (List.map Q3 x1.fExpr.fIdx), AV.sl (13 : Nat) (List.map Ql x1.fExpr.fArgs)]]).length) (kH (sh := XA) (bt := Xy) (fun y hy => PuH.le (Q5i x0 x1.fBody x2 x3 (v3 ++ [(Q9.mk x1.fExpr)]) y hy) (.cons (LeV.refl (AV.agg [AV.ow (0 : Nat) (0 : Nat) (22 : Nat) x0.fL.length, ii x0.fCount, ii x0.fE])) (.cons (LeV.refl (AV.sl (20 : Nat) (List.map Qr x1.fBody))) (.cons (LeV.refl (ii x2)) (.cons (LeV.refl (AV.sl (2 : Nat) (List.map Qd x3))) (.cons (leSl (mAR ND v3 x1.fExpr)) .nil))))) (.refl _) (.refl _) (.refl _)) fun v5 => (kJb (id := 5000006) (v5, (Q2.mk [] (0 : Int) (0 : Int))) (fun v6 ev6 v7 => (kIf (c := v5.fE == 0) (kIf (c := (↑v5.fL.length : Int) == v4) (kN (↑v5.fL.length : Int) rfl fun v8 => (kXj (alts := XQ ()) ev6 true (.here () rfl (.refl _) (.refl _))))
 (kIfD (p := 1 < wr ((↑v5.fL.length : Int) - v4)) (kC (sh := eLS) (Aw x1.fExpr) fun v9 => (kN (↑v5.fL.length : Int) rfl fun v10 => (kN (↑v5.fL.length : Int) rfl fun v11 => (kCb (Tc x1.fBody v9) (kXj (alts := XQ ()) ev6 true (.here () rfl (.refl _) (.refl _)))
 (kXj (alts := XQ ()) ev6 false (.next (.here () rfl (.refl _) (.refl _))))))))
 (kN (↑v5.fL.length : Int) rfl fun v13 => (kN (↑v5.fL.length : Int) rfl fun v14 => (kXj (alts := XQ ()) ev6 false (.next (.here () rfl (.refl _) (.refl _))))))))
 (kXj (alts := XQ ()) ev6 false (.next (.here () rfl (.refl _) (.refl _))))))
 (fun v6 => (kEH (enc := YI) (bt := YE) (Q2.mk [] (0 : Int) (18 : Int)) ⟨.refl _, .refl _⟩))
 (fun v6 => (kEH (enc := YI) (bt := YE) v6.fst ⟨.refl _, .refl _⟩)))))))))) h))
 (fun Y8 Xe Q5i Q5j x2 x3 x4 x5 x10 x12 x13 o h x1 x11 =>
 Lp2 (hs := [(46, .split), (50, .split), (56, .split), (64, .z [{ slot := 62, own := 2 }] (some (.n Qd 64 (some .a)))), (73, .n Qd 73 none), (75, .a), (77, .h [{ slot := 0, path := [0], own := 22 }, { slot := 3, fz := true }] XA Xy), (7500017, .z [{ slot := 14, own := 2 }] none), (5000010, .l [] [] [] [1, 2, 3, 4, 5, 10, 11, 12, 13, 51] [kk 5, { slot := 5, path := [0], own := 22 }, kk 10, { slot := 10, path := [0], own := 22 }, kk 12] (JI (x1, x2, x3, x4, x11, x12)))]) (kb := [kk 5, { slot := 5, path := [0], own := 22 }, kk 10, { slot := 10, path := [0], own := 22 }, kk 12]) (kbx := [kk 5, { slot := 5, path := [0], own := 22 }, kk 10, { slot := 10, path := [0], own := 22 }]) ((kJb (id := 5000010) (x5, x10, x13) (fun v0 ev0 v1 => (kIfD (p := x13 < x12.fMany) (kIf (c := x5.fE == 0) (kXj (alts := JI (x1, x2, x3, x4, x11, x12)) ev0 true (.here () rfl (.refl _) (.refl _)))
 (kXj (alts := JI (x1, x2, x3, x4, x11, x12)) ev0 false (.next (.here () rfl (.refl _) (.refl _)))))
 (kXj (alts := JI (x1, x2, x3, x4, x11, x12)) ev0 false (.next (.here () rfl (.refl _) (.refl _))))))
 (fun v0 => (kIfD (p := 65536 ≤ v0.fst.fCount) (kX (alts := VG (x1, x3, x4) (x2, x11, x12)) (.inr (v0.fst, (Q2.mk [] (0 : Int) (2 : Int)))) (.next (.here _ rfl (.refl _) (.refl _))))
 (kG (p := (0 : Nat) = (0 : Nat) ∧ ((0 : Nat) + (List.map Qd x3).length) * (24 : Nat) ≤ (140737488355328 : Nat) ∧ (0 : Nat) + (List.map Qd x3).length ≤ (9223372036854775807 : Nat)) (kO (sh := Qd) ([] ++ x3) (mAA (sh := Qd) [] x3) (nAA (sh := Qd) [] x3) fun v3 => (kA (q := (v3.length + (1 : Nat)) * (24 : Nat) ≤ (140737488355328 : Nat) ∧ v3.length + (1 : Nat) ≤ (9223372036854775807 : Nat)) (sh := Qd) (l := v3) (kW (sh := Qd) (Qc.mk x12.fName v0.snd.snd) lr fun v4 => (kG (p := v3.length + (1 : Nat) = (List.map Qd v3 ++ [AV.agg [AV.str x12.fName, ii v0.snd.snd]]).length) (kH (sh := XA) (bt := Xy) (fun y hy => PuH.le (Q5i (Q2.mk v0.fst.fL (wr (v0.fst.fCount + 1)) v0.fst.fE) x12.fBody x2 (v3 ++ [(Qc.mk x12.fName v0.snd.snd)]) x4 y hy) (.cons (LeV.refl (AV.agg [AV.ow (0 : Nat) (0 : Nat) (22 : Nat) v0.fst.fL.length, ii (wr (v0.fst.fCount + 1)), ii v0.fst.fE])) (.cons (LeV.refl (AV.sl (20 : Nat) (List.map Qr x12.fBody))) (.cons (LeV.refl (ii x2)) (.cons (leSl (mA (sh := Qd) v3 (Qc.mk x12.fName v0.snd.snd))) (.cons (LeV.refl (AV.sl (13 : Nat) (List.map Ql x4))) .nil))))) (.refl _) (.refl _) (.refl _)) fun v5 => (kM0 (alts := VG (x1, x3, x4) (x2, x11, x12)) (fun y hy => Q5j x2 x3 x4 v5 v0.snd.fst x12 (wr (v0.snd.snd + 1)) y hy x1 x11))))))))))
 (fun v0 => (kX (alts := VG (x1, x3, x4) (x2, x11, x12)) (.inl (v0.fst, v0.snd.fst)) (.here _ rfl (.refl _) (.refl _))))) h))
theorem FT (x0 : Q2) (x1 : List Q7) (x2 : Int) (x3 : List Qc) (x4 : List Q9) (r : Q2) (h : Y8 x0 x1 x2 x3 x4 = some r) : PH 15 [.agg [.ow 0 0 22 (List.length x0.fL), ii x0.fCount, ii x0.fE], Zl x1, eI x2, QW x3, YJ x4] [.own 0 22 (List.map Qj x0.fL)] (XA r) (Xy r) := (Am ).1 x0 x1 x2 x3 x4 r h
def Uc (x0 : Qb) : Option (List Qz × Int) :=
 DD x0 >>= fun v0 =>
 if v0.snd != 0 then
 some ([], v0.snd)
 else
 Y8 (Q2.mk [] (0 : Int) (0 : Int)) x0.fBody (0 : Int) [] [] >>= fun v1 =>
 if v1.fE != 0 then
 some ([], v1.fE)
 else
 some (v1.fL, (0 : Int))
theorem NT (x0 : Qb) (r : (List Qz × Int)) (h : Uc x0 = some r) : PU 7 [Qp x0] (YV r) :=
 Pu2 (hs := [(9, .c N6), (13, .split), (18, .h [{ slot := 0, path := [0], own := 22 }] XA Xy), (21, .split)]) ((kC (sh := N6) (Rf x0) fun v0 => (kIf (c := v0.snd != 0) (kE (enc := YV) ([], v0.snd) (LeT.tup (.cons (LeT.nil 22) (.cons (LeT.refl (ii v0.snd)) .nil))))
 (kH (sh := XA) (bt := Xy) (fun y hy => PuH.le (FT (Q2.mk [] (0 : Int) (0 : Int)) x0.fBody (0 : Int) [] [] y hy) (.cons (LeV.refl (AV.agg [AV.ow (0 : Nat) (0 : Nat) (22 : Nat) (0 : Nat), ii (0 : Int), ii (0 : Int)])) (.cons (LeV.refl (AV.sl (20 : Nat) (List.map Qr x0.fBody))) (.cons (LeV.refl (ii (0 : Int))) (.cons (LeV.nil 2) (.cons (LeV.nil 13) .nil))))) (.refl _) (.refl _) (.refl _)) fun v1 => (kIf (c := v1.fE != 0) (kE (enc := YV) ([], v1.fE) (LeT.tup (.cons (LeT.nil 22) (.cons (LeT.refl (ii v1.fE)) .nil))))
 (kT (nM (sh := Qj) v1.fL) (kEr (enc := YV) (v1.fL, (0 : Int)))))))) h)
def Vn (s : (Int × Qb)) (u : Unit) (o : Bool) : List Alt := jb o (fun b => [ii (s.1), .ptr 0 0 0, .bool b]) [.cells 0 (Qp (s.2)).cells]
def Cv (x0 : Qb) (x1 : Int) : Option Bool :=
 some () >>= fun v0 =>
 (some (List.length x0.fBufs : Int) >>= fun v2 =>
 if 20 < v2 then
 some true
 else
 Yg x0.fBody 300 >>= fun v3 =>
 if 300 < v3 then
 some true
 else
 some false) >>= fun v1 => if v1 then
 some false
 else
 Uc x0 >>= fun v6 =>
 if v6.snd != 0 then
 some true
 else
 some (List.length v6.fst : Int) >>= fun v7 =>
 some (decide (v7 ≤ x1))
theorem Sf (x0 : Qb) (x1 : Int) (r : Bool) (h : Cv x0 x1 = some r) : PU 12 [Qp x0, eI x1] (eB r) :=
 Pu2 (hs := [(9, .n eI 9 none), (10, .split), (14, .c eI), (15, .split), (19, .c YV), (23, .split), (26, .n eI 26 none), (5000001, .l [] [] [] [1, 2, 16] [kk 2] (Vn (x1, x0)))]) ((kJb (id := 5000001) () (fun v0 ev0 v1 => (kN _ (mLen (sh := Qx) x0.fBufs) fun v2 => (kIfD (p := 20 < v2) (kXj (alts := Vn (x1, x0)) ev0 true (.here () rfl (.refl _) (.refl _)))
 (kC (sh := eI) (Ec x0.fBody 300) fun v3 => (kIfD (p := 300 < v3) (kXj (alts := Vn (x1, x0)) ev0 true (.here () rfl (.refl _) (.refl _)))
 (kXj (alts := Vn (x1, x0)) ev0 false (.next (.here () rfl (.refl _) (.refl _)))))))))
 (fun v0 => (kEr (enc := eB) false))
 (fun v0 => (kC (sh := YV) (NT x0) fun v6 => (kIf (c := v6.snd != 0) (kEr (enc := eB) true)
 (kN _ (mLen (sh := Qj) v6.fst) fun v7 => (kEr (enc := eB) (decide (v7 ≤ x1)))))))) h)
def Np (x0 : Qb) : Option Bool :=
 Cv x0 120 >>= fun v0 =>
 some v0
theorem OJ (x0 : Qb) (r : Bool) (h : Np x0 = some r) : PU 5 [Qp x0] (eB r) :=
 Pu2 (hs := [(4, .c eB)]) ((kC (sh := eB) (Sf x0 120) fun v0 => (kEr (enc := eB) v0)) h)
def Yk (s : List Int) (u : Unit) (o : Int ⊕ (Int × Bool)) : List Alt := [⟨fun (x : Int) => (Sum.inl x : Int ⊕ (Int × Bool)) = o, .exit 0, fun x => [.sl 1 (List.map eI s), .undef, .undef, ii x], fun x => []⟩, ⟨fun (x : (Int × Bool)) => (Sum.inr x : Int ⊕ (Int × Bool)) = o, .ret, fun x => [.sl 1 (List.map eI s), ii x.1, .bool x.2, .undef], fun x => []⟩]
def KK (s : List Int) (u : (Int × Int)) (o : Bool) : List Alt := jb o (fun b => [.sl 1 (List.map eI s), ii (u.1), ii (u.2), .bool b]) []
def ZN (x0 : List Int) (x4 : Int) (x5 : Int) : Option (Int ⊕ (Int × Bool)) :=
 some (List.length x0 : Int) >>= fun v0 =>
 if x5 < v0 then
 some (x4, x5) >>= fun v1 =>
 (ix x0 x5 >>= fun v3 =>
 if v3 < 1 then
 some true
 else
 ix x0 x5 >>= fun v4 =>
 if 4096 < v4 then
 some true
 else
 some false) >>= fun v2 => if v2 then
 some (.inr ((0 : Int), false))
 else
 ix x0 v1.snd >>= fun v7 =>
 some (wr (v1.fst * v7) : Int) >>= fun v8 =>
 if 4096 < v8 then
 some (.inr ((0 : Int), false))
 else
 ZN x0 v8 (wr (v1.snd + 1))
 else
 some (.inl x4)
 partial_fixpoint
theorem ID (x0 : List Int) (x4 : Int) (x5 : Int) (o : Int ⊕ (Int × Bool)) (h : ZN x0 x4 x5 = some o) : LO 89 3 36 [0, 4, 5] [.sl 1 (List.map eI x0), ii x4, ii x5] [] [0, 2, 3, 4] (Yk x0 () o) :=
 ZN.partial_correctness x0 (fun x4 x5 o => LO 89 3 36 [0, 4, 5] [.sl 1 (List.map eI x0), ii x4, ii x5] [] [0, 2, 3, 4] (Yk x0 () o))
 (fun ZN Q57 x4 x5 o h  =>
 Lp2 (hs := [(8, .n eI 8 none), (9, .split), (14, .e eI), (16, .split), (20, .e eI), (22, .split), (27, .e eI), (4, .n eI 4 none), (31, .split), (5000005, .l [] [] [] [0, 4, 5, 23] [] (KK x0))]) (kb := []) (kbx := []) ((kN _ (mLen (sh := eI) x0) fun v0 => (kIfD (p := x5 < v0) (kJb (id := 5000005) (x4, x5) (fun v1 ev1 v2 => (kIx (enc := eI) (l := x0) (k := x5) fun v3 => (kIfD (p := v3 < 1) (kXj (alts := KK x0) ev1 true (.here () rfl (.refl _) (.refl _)))
 (kIx (enc := eI) (l := x0) (k := x5) fun v4 => (kIfD (p := 4096 < v4) (kXj (alts := KK x0) ev1 true (.here () rfl (.refl _) (.refl _)))
 (kXj (alts := KK x0) ev1 false (.next (.here () rfl (.refl _) (.refl _)))))))))
 (fun v1 => (kX (alts := Yk x0 ()) (.inr ((0 : Int), false)) (.next (.here _ rfl (.cons (LeV.refl (AV.sl (1 : Nat) (List.map eI x0))) (.cons (LeV.refl (ii (0 : Int))) (.cons (LeV.refl (AV.bool false)) (.cons (LeV.undef (ii v1.fst)) .nil)))) (.refl _)))))
 (fun v1 => (kIx (enc := eI) (l := x0) (k := v1.snd) fun v7 => (kN (wr (v1.fst * v7)) rfl fun v8 => (kIfD (p := 4096 < v8) (kX (alts := Yk x0 ()) (.inr ((0 : Int), false)) (.next (.here _ rfl (.cons (LeV.refl (AV.sl (1 : Nat) (List.map eI x0))) (.cons (LeV.refl (ii (0 : Int))) (.cons (LeV.refl (AV.bool false)) (.cons (LeV.undef (ii v8)) .nil)))) (.refl _))))
 (kM0 (alts := Yk x0 ()) (Q57 v8 (wr (v1.snd + 1)))))))))
 (kX (alts := Yk x0 ()) (.inl x4) (.here _ rfl (.refl _) (.refl _))))) h)) x4 x5 o h
def DE (x0 : List Int) : Option (Int × Bool) :=
 some ((1 : Int) : Int) >>= fun v0 =>
 some () >>= fun v1 =>
 ZN x0 v0 0 >>= fun v2 => (match v2 with
 | (.inl v3) =>
 some (List.length x0 : Int) >>= fun v4 =>
 some (v3, (decide (v4 ≤ 6)))
 | (.inr v5) =>
 some (v5.fst, v5.snd))
theorem Rk (x0 : List Int) (r : (Int × Bool)) (h : DE x0 = some r) : PU 89 [eLI x0] (ZU r) :=
 Pu2 (hs := [(4, .n eI 4 none), (34, .n eI 34 none), (3000004, .l [] [0, 4, 5] [] [0, 2, 3, 4] [] (Yk x0))]) ((kN (1 : Int) rfl fun v0 => (kL2 () (hL := (ID x0 v0 0)) (hA := fun v1 v3 => (kN _ (mLen (sh := eI) x0) fun v4 => (kEr (enc := ZU) (v3, (decide (v4 ≤ 6))))))
 (hB := fun v1 v5 => (kEr (enc := ZU) (v5.fst, v5.snd))))) h)
def U6 (s : (Str × (List Q8))) (u : (Qw × Int)) (o : (Int × Bool)) : List Alt := [⟨fun (x : (Int × Bool)) => x = o, .exit 0, fun x => [.str s.1, ii u.2, ii x.1, .bool x.2], fun x => []⟩]
def Vm (s : (Str × (List Q8) × Qw × Int)) (u : (Int × Bool × Int)) (o : Bool) : List Alt := jb o (fun b => [.str (s.1), .sl 4 (List.map Q3 (s.2.1)), .ptr 0 0 0, ii (s.2.2.2), ii (u.1), .bool (u.2.1), ii (u.2.2), .bool b]) [.cells 0 (Qx (s.2.2.1)).cells]
def XR (s : (Str × (List Q8) × Qw × Int)) (u : (Int × Bool × Int × Int)) (o : Bool) : List Alt := jb o (fun b => [.str (s.1), .sl 4 (List.map Q3 (s.2.1)), .ptr 0 0 0, ii (s.2.2.2), ii (u.1), .bool (u.2.1), ii (u.2.2.1), ii (u.2.2.2), .bool b]) [.cells 0 (Qx (s.2.2.1)).cells]
def UZ (s : (Str × (List Q8) × Qw × Int)) (u : Int) (o : (Int × Bool)) : List Alt := [⟨fun (x : (Int × Bool)) => x = o, .normal, fun x => [.str (s.1), .sl 4 (List.map Q3 (s.2.1)), .ptr 0 0 0, ii (s.2.2.2), ii (x.1), .bool (x.2), ii u], fun x => [.cells 0 (Qx (s.2.2.1)).cells]⟩]
def Zj (x2 : List Q8) (x7 : Qw) (x11 : Int) (x12 : Bool) (x13 : Int) : Option (Int × Bool) :=
 some (x11, x12, x13) >>= fun v0 =>
 (some (List.length x2 : Int) >>= fun v2 =>
 if x13 < v2 then
 if x12 then
 some true
 else
 some false
 else
 some false) >>= fun v1 => if v1 then
 some v0.snd.snd >>= fun v4 =>
 (ix x2 v0.snd.snd >>= fun v6 =>
 some (v0.fst, v0.snd.fst, v0.snd.snd, v6.fLin.fK) >>= fun v7 =>
 (ix x2 v0.snd.snd >>= fun v9 =>
 if !v9.fFrom == [] then
 some true
 else
 ix x2 v0.snd.snd >>= fun v10 =>
 some (List.length v10.fLin.fL : Int) >>= fun v11 =>
 if 0 < v11 then
 some true
 else
 if v6.fLin.fK < 0 then
 some true
 else
 ix x7.fDims v0.snd.snd >>= fun v12 =>
 if v12 ≤ v6.fLin.fK then
 some true
 else
 some false) >>= fun v8 => if v8 then
 some (v7.fst, false)
 else
 ix x7.fDims v7.snd.snd.fst >>= fun v15 =>
 some (wr (wr (v7.fst * v15) + v7.snd.snd.snd) : Int) >>= fun v16 =>
 some (v16, v7.snd.fst)) >>= fun v17 =>
 Zj x2 x7 v17.fst v17.snd (wr (v4 + 1))
 else
 some (v0.fst, v0.snd.fst)
 partial_fixpoint
theorem Ep (x1 : Str) (x2 : List Q8) (x7 : Qw) (x9 : Int) (x11 : Int) (x12 : Bool) (x13 : Int) (o : (Int × Bool)) (h : Zj x2 x7 x11 x12 x13 = some o) : LO 59 9 101 [1, 2, 7, 9, 11, 12, 13] [.str x1, .sl 4 (List.map Q3 x2), .ptr 0 0 0, ii x9, ii x11, .bool x12, ii x13] [.cells 0 (Qx x7).cells] [1, 9, 11, 12] (U6 (x1, x2) (x7, x9) o) :=
 Zj.partial_correctness x2 x7 (fun x11 x12 x13 o => ∀ (x1 : Str) (x9 : Int), LO 59 9 101 [1, 2, 7, 9, 11, 12, 13] [.str x1, .sl 4 (List.map Q3 x2), .ptr 0 0 0, ii x9, ii x11, .bool x12, ii x13] [.cells 0 (Qx x7).cells] [1, 9, 11, 12] (U6 (x1, x2) (x7, x9) o))
 (fun Zj Q5c x11 x12 x13 o h x1 x9 =>
 Lp2 (hs := [(39, .n eI 39 none), (40, .split), (42, .split), (48, .e Q3), (54, .e Q3), (57, .split), (61, .e Q3), (65, .n eI 65 none), (66, .split), (70, .split), (77, .e eI), (79, .split), (85, .e eI), (11, .n eI 11 none), (5000009, .l [] [] [] [1, 2, 7, 9, 11, 12, 13, 43] [kk 7] (Vm (x1, x2, x7, x9))), (5000012, .l [] [] [] [1, 2, 7, 9, 11, 12, 13, 14, 80] [kk 7] (XR (x1, x2, x7, x9))), (7000001, .l [] [] [] [1, 2, 7, 9, 11, 12, 13] [kk 7] (UZ (x1, x2, x7, x9)))]) (kb := [kk 7]) (kbx := []) ((kJb (id := 5000009) (x11, x12, x13) (fun v0 ev0 v1 => (kN _ (mLen (sh := Q3) x2) fun v2 => (kIfD (p := x13 < v2) (kIf (c := x12) (kXj (alts := Vm (x1, x2, x7, x9)) ev0 true (.here () rfl (.refl _) (.refl _)))
 (kXj (alts := Vm (x1, x2, x7, x9)) ev0 false (.next (.here () rfl (.refl _) (.refl _)))))
 (kXj (alts := Vm (x1, x2, x7, x9)) ev0 false (.next (.here () rfl (.refl _) (.refl _)))))))
 (fun v0 => (kJ1 (id := 7000001) v0.snd.snd (fun v4 ev4 v5 => (kIx (enc := Q3) (l := x2) (k := v0.snd.snd) fun v6 => (kJbE (id := 5000012) (v0.fst, v0.snd.fst, v0.snd.snd, v6.fLin.fK) (fun v7 ev7 v8 => (kIx (enc := Q3) (l := x2) (k := v0.snd.snd) fun v9 => (kIf (c := !v9.fFrom == []) (kXj (alts := XR (x1, x2, x7, x9)) ev7 true (.here () rfl (.refl _) (.refl _)))
 (kIx (enc := Q3) (l := x2) (k := v0.snd.snd) fun v10 => (kN _ (mLen (sh := Qe) v10.fLin.fL) fun v11 => (kIfD (p := 0 < v11) (kXj (alts := XR (x1, x2, x7, x9)) ev7 true (.here () rfl (.refl _) (.refl _)))
 (kIfD (p := v6.fLin.fK < 0) (kXj (alts := XR (x1, x2, x7, x9)) ev7 true (.here () rfl (.refl _) (.refl _)))
 (kIx (enc := eI) (l := x7.fDims) (k := v0.snd.snd) fun v12 => (kIfD (p := v12 ≤ v6.fLin.fK) (kXj (alts := XR (x1, x2, x7, x9)) ev7 true (.here () rfl (.refl _) (.refl _)))
 (kXj (alts := XR (x1, x2, x7, x9)) ev7 false (.next (.here () rfl (.refl _) (.refl _)))))))))))))
 (fun v7 ev7 => (kXj (alts := UZ (x1, x2, x7, x9)) (u0 := v7.snd.snd.fst) (by subst ev7; exact ev4) (v7.fst, false) (.here _ rfl (.refl _) (.refl _))))
 (fun v7 ev7 => (kIx (enc := eI) (l := x7.fDims) (k := v7.snd.snd.fst) fun v15 => (kN (wr (wr (v7.fst * v15) + v7.snd.snd.snd)) rfl fun v16 => (kXj (alts := UZ (x1, x2, x7, x9)) (u0 := v7.snd.snd.fst) (by subst ev7; exact ev4) (v16, v7.snd.fst) (.here _ rfl (.refl _) (.refl _)))))))))
 (fun v4 v17 => (kM0 (alts := U6 (x1, x2) (x7, x9)) (fun y hy => Q5c v17.fst v17.snd (wr (v4 + 1)) y hy x1 x9)))))
 (fun v0 => (kX (alts := U6 (x1, x2) (x7, x9)) (v0.fst, v0.snd.fst) (.here _ rfl (.refl _) (.refl _))))) h)) x11 x12 x13 o h x1 x9
def Uu (x0 : Qb) (x1 : Str) (x2 : List Q8) : Option (List Q5) :=
 Xz x0 x1 >>= fun v0 =>
 if v0.snd then
 DE v0.fst.fDims >>= fun v1 =>
 if v1.snd then
 some (List.length x2 : Int) >>= fun v2 =>
 some (List.length v0.fst.fDims : Int) >>= fun v3 =>
 some ((0 : Int) : Int) >>= fun v4 =>
 some (v0.fst, v1.fst) >>= fun v5 =>
 Zj x2 v0.fst v4 ((↑(List.map Q3 x2).length : Int) == (↑(List.map eI v0.fst.fDims).length : Int)) (0 : Int) >>= fun v7 =>
 if v7.snd then
 some ((Q5.mk x1 v7.fst (wr (v7.fst + 1)))) >>= fun v8 =>
 some [v8]
 else
 some ((Q5.mk x1 (0 : Int) v5.snd)) >>= fun v9 =>
 some [v9]
 else
 some []
 else
 some []
theorem N3 (x0 : Qb) (x1 : Str) (x2 : List Q8) (r : List Q5) (h : Uu x0 x1 x2 = some r) : PU 59 [Qp x0, eS x1, GM x2] (Qt r) :=
 Pu2 (hs := [(18, .c Z3), (21, .split), (26, .c ZU), (29, .split), (32, .n eI 32 none), (35, .n eI 35 none), (11, .n eI 11 none), (90, .split), (95, .n Q0 95 none), (6, .z [{ slot := 96, own := 3 }, { slot := 96, fz := true }] none), (99, .n Q0 99 none), (6, .z [{ slot := 100, own := 3 }, { slot := 100, fz := true }] none), (3000010, .l [] [1, 2, 7, 9, 11, 12, 13] [kk 7] [1, 9, 11, 12] [] (U6 (x1, x2)))]) ((kC (sh := Z3) (Uw x0 x1) fun v0 => (kIf (c := v0.snd) (kC (sh := ZU) (Rk v0.fst.fDims) fun v1 => (kIf (c := v1.snd) (kN _ (mLen (sh := Q3) x2) fun v2 => (kN _ (mLen (sh := eI) v0.fst.fDims) fun v3 => (kN (0 : Int) rfl fun v4 => (kL1 (v0.fst, v1.fst) (Ep x1 x2 v0.fst v1.fst v4 ((↑(List.map Q3 x2).length : Int) == (↑(List.map eI v0.fst.fDims).length : Int)) (0 : Int)) fun v5 v7 => (kIf (c := v7.snd) (kW (sh := Q0) (Q5.mk x1 v7.fst (wr (v7.fst + 1))) lr fun v8 => (kT (rfl : (1 : Nat) = (1 : Nat)) (kEr (enc := Qt) [v8])))
 (kW (sh := Q0) (Q5.mk x1 (0 : Int) v5.snd) lr fun v9 => (kEr (enc := Qt) [v9])))))))
 (kE (enc := Qt) [] (LeT.nil 3))))
 (kE (enc := Qt) [] (LeT.nil 3)))) h)
def U5 (s : (Qb × Qa)) (u : Unit) (o : List Q5) : List Alt := [⟨fun (x : List Q5) => x = o, .exit 0, fun x => [.sl 3 (List.map Q0 x)], fun x => []⟩]
def Vl (s : (Qb × Qa)) (u : Unit) (o : Bool) : List Alt := jb o (fun b => [.ptr 0 0 0, .ptr 1 0 0, .bool b]) [.cells 0 (Qp (s.1)).cells, .cells 0 (Qm (s.2)).cells]
def YM (s : (Qb × Qa)) (u : ((List Q5) × Int)) (o : Bool) : List Alt := jb o (fun b => [.ptr 0 0 0, .ptr 1 0 0, .ow 2 0 3 (List.length (u.1)), ii (u.2), .bool b]) [.cells 0 (Qp (s.1)).cells, .cells 0 (Qm (s.2)).cells, .own 0 3 (List.map Q0 (u.1))]
mutual
def KE (x0 : Qb) (x1 : Qa) : Option (List Q5) :=
 some () >>= fun v0 =>
 (if x1.fOp == 2 then
 some true
 else
 if x1.fOp == 3 then
 some true
 else
 some false) >>= fun v1 => if v1 then
 Uu x0 x1.fName x1.fIdx >>= fun v3 =>
 some v3
 else
 some () >>= fun v5 =>
 ZS x0 x1 [] 0 >>= fun v7 =>
 some v7
 partial_fixpoint
def ZS (x2 : Qb) (x3 : Qa) (x5 : List Q5) (x6 : Int) : Option (List Q5) :=
 some (x5, x6) >>= fun v0 =>
 (some (List.length x3.fBody : Int) >>= fun v2 =>
 if x6 < v2 then
 if x3.fOp == 1 then
 some true
 else
 if x3.fOp == 4 then
 some true
 else
 some false
 else
 some false) >>= fun v1 => if v1 then
 Option.map Q7.f (ix x3.fBody v0.snd) >>= fun v4 =>
 KE x2 v4 >>= fun v5 =>
 if (v0.fst.length + (List.map Q0 v5).length) * (32 : Nat) ≤ (140737488355328 : Nat) ∧ v0.fst.length + (List.map Q0 v5).length ≤ (9223372036854775807 : Nat) then
 some (v0.fst ++ v5) >>= fun v6 =>
 ZS x2 x3 v6 (wr (v0.snd + 1))
 else none
 else
 some v0.fst
 partial_fixpoint
end
theorem RT (x0 : Qb) : (∀ (x1 : Qa) (r : List Q5), KE x0 x1 = some r → PU 38 [Qp x0, Qm x1] (Qt r)) ∧ (∀ (x3 : Qa) (x5 : List Q5) (x6 : Int) (o : List Q5), ZS x0 x3 x5 x6 = some o → LO 38 5 48 [2, 3, 5, 6] [.ptr 0 0 0, .ptr 1 0 0, .ow 2 0 3 (List.length x5), ii x6] [.cells 0 (Qp x0).cells, .cells 0 (Qm x3).cells, .own 0 3 (List.map Q0 x5)] [5] (U5 (x0, x3) () o)) :=
 KE.mutual_partial_correctness x0 (fun x1 r => PU 38 [Qp x0, Qm x1] (Qt r)) (fun x3 x5 x6 o => LO 38 5 48 [2, 3, 5, 6] [.ptr 0 0 0, .ptr 1 0 0, .ow 2 0 3 (List.length x5), ii x6] [.cells 0 (Qp x0).cells, .cells 0 (Qm x3).cells, .own 0 3 (List.map Q0 x5)] [5] (U5 (x0, x3) () o))
 (fun ZS Q53 x1 r h  =>
 Pu2 (hs := [(9, .split), (13, .split), (20, .c Qt), (3000006, .l [] [2, 3, 5, 6] [kk 2, kk 3, { slot := 5, own := 3 }] [5] [{ slot := 5, fz := true }] (U5 (x0, x1))), (5000001, .l [] [] [] [2, 3, 14] [kk 2, kk 3] (Vl (x0, x1)))]) ((kJb (id := 5000001) () (fun v0 ev0 v1 => (kIf (c := x1.fOp == 2) (kXj (alts := Vl (x0, x1)) ev0 true (.here () rfl (.refl _) (.refl _)))
 (kIf (c := x1.fOp == 3) (kXj (alts := Vl (x0, x1)) ev0 true (.here () rfl (.refl _) (.refl _)))
 (kXj (alts := Vl (x0, x1)) ev0 false (.next (.here () rfl (.refl _) (.refl _)))))))
 (fun v0 => (kC (sh := Qt) (N3 x0 x1.fName x1.fIdx) fun v3 => (kEr (enc := Qt) v3)))
 (fun v0 => (kL1 () (Q53 x1 [] 0) fun v5 v7 => (kEr (enc := Qt) v7)))) h))
 (fun KE ZS Q52 Q53 x3 x5 x6 o h  =>
 Lp2 (hs := [(24, .n eI 24 none), (25, .split), (29, .split), (33, .split), (43, .e Qm), (45, .c Qt), (46, .z [{ slot := 38, own := 3 }] (some (.n Q0 46 (some .a)))), (5000005, .l [] [] [] [2, 3, 5, 6, 35] [kk 2, kk 3, { slot := 5, own := 3 }] (YM (x0, x3)))]) (kb := [kk 2, kk 3, { slot := 5, own := 3 }]) (kbx := [{ slot := 5, fz := true }]) ((kJb (id := 5000005) (x5, x6) (fun v0 ev0 v1 => (kN _ (mLen (sh := Qr) x3.fBody) fun v2 => (kIfD (p := x6 < v2) (kIf (c := x3.fOp == 1) (kXj (alts := YM (x0, x3)) ev0 true (.here () rfl (.refl _) (.refl _)))
 (kIf (c := x3.fOp == 4) (kXj (alts := YM (x0, x3)) ev0 true (.here () rfl (.refl _) (.refl _)))
 (kXj (alts := YM (x0, x3)) ev0 false (.next (.here () rfl (.refl _) (.refl _))))))
 (kXj (alts := YM (x0, x3)) ev0 false (.next (.here () rfl (.refl _) (.refl _)))))))
 (fun v0 => (kIxR (l := x3.fBody) (k := v0.snd) Z2 fun v4 => (kC (sh := Qt) (Q52 v4) fun v5 => (kA (q := (v0.fst.length + (List.map Q0 v5).length) * (32 : Nat) ≤ (140737488355328 : Nat) ∧ v0.fst.length + (List.map Q0 v5).length ≤ (9223372036854775807 : Nat)) (sh := Q0) (l := v0.fst) (kO (sh := Q0) (v0.fst ++ v5) (mAA (sh := Q0) v0.fst v5) (nAA (sh := Q0) v0.fst v5) fun v6 => (kM0 (alts := U5 (x0, x3) ()) (Q53 x3 v6 (wr (v0.snd + 1)))))))))
 (fun v0 => (kT (nM (sh := Q0) v0.fst) (kX (alts := U5 (x0, x3) ()) v0.fst (.here _ rfl (.refl _) (.refl _)))))) h))
theorem Se (x0 : Qb) (x1 : Qa) (r : List Q5) (h : KE x0 x1 = some r) : PU 38 [Qp x0, Qm x1] (Qt r) := (RT x0).1 x1 r h
def Ja (s : ((List Q8) × Qb)) (u : ((List Q5) × Int)) (o : List Q8) : List Alt := [⟨fun (x : List Q8) => x = o, .exit 2, fun x => [.sl 4 (List.map Q3 s.1), .ptr 0 0 0, .ow 1 0 3 (List.length u.1), ii u.2, .sl 4 (List.map Q3 x)], fun x => [.cells 0 (Qp s.2).cells, .own 0 3 (List.map Q0 u.1)]⟩]
def X2 (x1 : List Q8) (x6 : Int) (x7 : List Q8) (x8 : Int) : Option (List Q8) :=
 ix x1 x6 >>= fun v0 =>
 some (List.length v0.fAt : Int) >>= fun v1 =>
 if x8 < v1 then
 ix x1 x6 >>= fun v2 =>
 ix v2.fAt x8 >>= fun v3 =>
 some ((Q8.mk v3 [] [])) >>= fun v4 =>
 if (x7.length + (1 : Nat)) * (72 : Nat) ≤ (140737488355328 : Nat) ∧ x7.length + (1 : Nat) ≤ (9223372036854775807 : Nat) then
 some (x7 ++ [v4]) >>= fun v5 =>
 X2 x1 x6 v5 (wr (x8 + 1))
 else none
 else
 some x7
 partial_fixpoint
theorem IW (x1 : List Q8) (x2 : Qb) (x5 : List Q5) (x6 : Int) (x7 : List Q8) (x8 : Int) (o : List Q8) (h : X2 x1 x6 x7 x8 = some o) : LO 60 8 54 [1, 2, 5, 6, 7, 8] [.sl 4 (List.map Q3 x1), .ptr 0 0 0, .ow 1 0 3 (List.length x5), ii x6, .ow 2 0 4 (List.length x7), ii x8] [.cells 0 (Qp x2).cells, .own 0 3 (List.map Q0 x5), .own 0 4 (List.map Q3 x7)] [1, 2, 5, 6, 7] (Ja (x1, x2) (x5, x6) o) :=
 X2.partial_correctness x1 x6 (fun x7 x8 o => ∀ (x2 : Qb) (x5 : List Q5), LO 60 8 54 [1, 2, 5, 6, 7, 8] [.sl 4 (List.map Q3 x1), .ptr 0 0 0, .ow 1 0 3 (List.length x5), ii x6, .ow 2 0 4 (List.length x7), ii x8] [.cells 0 (Qp x2).cells, .own 0 3 (List.map Q0 x5), .own 0 4 (List.map Q3 x7)] [1, 2, 5, 6, 7] (Ja (x1, x2) (x5, x6) o))
 (fun X2 Q59 x7 x8 o h x2 x5 =>
 Lp2 (hs := [(24, .e Q3), (27, .n eI 27 none), (28, .split), (34, .e Q3), (38, .e Qi), (40, .n Q3 40 none), (42, .z [{ slot := 31, own := 4 }] (some (.n Q3 42 (some .a))))]) (kb := [kk 2, { slot := 5, own := 3 }, { slot := 7, own := 4 }]) (kbx := [kk 2, { slot := 5, own := 3 }, { slot := 7, fz := true }]) ((kIx (enc := Q3) (l := x1) (k := x6) fun v0 => (kN _ (mLen (sh := Qi) v0.fAt) fun v1 => (kIfD (p := x8 < v1) (kIx (enc := Q3) (l := x1) (k := x6) fun v2 => (kIx (enc := Qi) (l := v2.fAt) (k := x8) fun v3 => (kW (sh := Q3) (Q8.mk v3 [] []) (LeV.agg (.cons (LeV.refl (ii v3.fK)) (.cons (LeV.refl (AV.sl (2 : Nat) (List.map Qe v3.fL))) (.cons (LeV.refl (AV.str [])) (.cons (LeV.nil 2) .nil))))) fun v4 => (kA (q := (x7.length + (1 : Nat)) * (72 : Nat) ≤ (140737488355328 : Nat) ∧ x7.length + (1 : Nat) ≤ (9223372036854775807 : Nat)) (sh := Q3) (l := x7) (kO (sh := Q3) (x7 ++ [v4]) (mA (sh := Q3) x7 v4) (nA x7 v4) fun v5 => (kM0 (alts := Ja (x1, x2) (x5, x6)) (fun y hy => Q59 v5 (wr (x8 + 1)) y hy x2 x5)))))))
 (kT (nM (sh := Q3) x7) (kX (alts := Ja (x1, x2) (x5, x6)) x7 (.here _ rfl (.refl _) (.refl _))))))) h)) x7 x8 o h x2 x5
def Kw (s : ((List Q8) × Qb)) (u : Unit) (o : List Q5) : List Alt := [⟨fun (x : List Q5) => x = o, .exit 0, fun x => [.ow 0 0 3 (List.length x)], fun x => [.own 0 3 (List.map Q0 x)]⟩]
def ZC (x1 : List Q8) (x2 : Qb) (x5 : List Q5) (x6 : Int) : Option (List Q5) :=
 some (List.length x1 : Int) >>= fun v0 =>
 if x6 < v0 then
 ix x1 x6 >>= fun v1 =>
 if v1.fFrom == [] then
 ZC x1 x2 x5 (wr (x6 + 1))
 else
 some (x5, x6) >>= fun v2 =>
 X2 x1 x6 [] 0 >>= fun v4 =>
 ix x1 v2.snd >>= fun v5 =>
 Uu x2 v5.fFrom v4 >>= fun v6 =>
 if (v2.fst.length + (List.map Q0 v6).length) * (32 : Nat) ≤ (140737488355328 : Nat) ∧ v2.fst.length + (List.map Q0 v6).length ≤ (9223372036854775807 : Nat) then
 some (v2.fst ++ v6) >>= fun v7 =>
 ZC x1 x2 v7 (wr (v2.snd + 1))
 else none
 else
 some x5
 partial_fixpoint
theorem IV (x1 : List Q8) (x2 : Qb) (x5 : List Q5) (x6 : Int) (o : List Q5) (h : ZC x1 x2 x5 x6 = some o) : LO 60 3 54 [1, 2, 5, 6] [.sl 4 (List.map Q3 x1), .ptr 0 0 0, .ow 1 0 3 (List.length x5), ii x6] [.cells 0 (Qp x2).cells, .own 0 3 (List.map Q0 x5)] [5] (Kw (x1, x2) () o) :=
 ZC.partial_correctness x1 x2 (fun x5 x6 o => LO 60 3 54 [1, 2, 5, 6] [.sl 4 (List.map Q3 x1), .ptr 0 0 0, .ow 1 0 3 (List.length x5), ii x6] [.cells 0 (Qp x2).cells, .own 0 3 (List.map Q0 x5)] [5] (Kw (x1, x2) () o))
 (fun ZC Q58 x5 x6 o h  =>
 Lp2 (hs := [(11, .n eI 11 none), (12, .split), (17, .e Q3), (20, .split), (47, .e Q3), (51, .c Qt), (52, .z [{ slot := 43, own := 3 }] (some (.n Q0 52 (some .a)))), (3000009, .l [] [1, 2, 5, 6, 7, 8] [kk 2, { slot := 5, own := 3 }, { slot := 7, own := 4 }] [1, 2, 5, 6, 7] [kk 2, { slot := 5, own := 3 }, { slot := 7, fz := true }] (Ja (x1, x2)))]) (kb := [kk 2, { slot := 5, own := 3 }]) (kbx := [{ slot := 5, own := 3 }]) ((kN _ (mLen (sh := Q3) x1) fun v0 => (kIfD (p := x6 < v0) (kIx (enc := Q3) (l := x1) (k := x6) fun v1 => (kIf (c := v1.fFrom == []) (kM0 (alts := Kw (x1, x2) ()) (Q58 x5 (wr (x6 + 1))))
 (kL1 (x5, x6) (IW x1 x2 x5 x6 [] 0) fun v2 v4 => (kIx (enc := Q3) (l := x1) (k := v2.snd) fun v5 => (kC (sh := Qt) (N3 x2 v5.fFrom v4) fun v6 => (kA (q := (v2.fst.length + (List.map Q0 v6).length) * (32 : Nat) ≤ (140737488355328 : Nat) ∧ v2.fst.length + (List.map Q0 v6).length ≤ (9223372036854775807 : Nat)) (sh := Q0) (l := v2.fst) (kO (sh := Q0) (v2.fst ++ v6) (mAA (sh := Q0) v2.fst v6) (nAA (sh := Q0) v2.fst v6) fun v7 => (kM0 (alts := Kw (x1, x2) ()) (Q58 v7 (wr (v2.snd + 1)))))))))))
 (kX (alts := Kw (x1, x2) ()) x5 (.here _ rfl (.refl _) (.refl _))))) h)) x5 x6 o h
def JW (r : List Q5) : AV := .ow 0 0 3 (List.length r)
def JM (r : List Q5) : List Box := [.own 0 3 (List.map Q0 r)]
def Gr (x0 : Qb) (x1 : List Q8) : Option (List Q5) :=
 some () >>= fun v0 =>
 ZC x1 x0 [] 0 >>= fun v2 =>
 some v2
theorem MN (x0 : Qb) (x1 : List Q8) (r : List Q5) (h : Gr x0 x1 = some r) : PH 60 [Qp x0, GM x1] [] (JW r) (JM r) :=
 PuH2 (hs := [(3000004, .l [] [1, 2, 5, 6] [kk 2, { slot := 5, own := 3 }] [5] [{ slot := 5, own := 3 }] (Kw (x1, x0)))]) (kb := [{ slot := 0, path := [], own := 3 }]) ((kL1 () (IV x1 x0 [] 0) fun v0 v2 => (kEH (enc := JW) (bt := JM) v2 ⟨.refl _, .refl _⟩)) h)
def V2 (r : List Q5) : AV := .ow 0 0 3 (List.length r)
def KY (r : List Q5) : List Box := [.own 0 3 (List.map Q0 r)]
theorem FX {args : List AV} (r : List Q5) (h : PH 61 args [] (V2 r) (KY r)) : PU 61 args (Qt r) := PuT1 h (by kernel_rfl) (And.intro (nM (sh := Q0) r) (LeT.refl (Qt r)))
def Gl (s : (Qb × Q1)) (u : Unit) (o : List Q5) : List Alt := [⟨fun (x : List Q5) => x = o, .exit 0, fun x => [.ow 0 0 3 (List.length x)], fun x => [.own 0 3 (List.map Q0 x)]⟩]
def Da (s : (Qb × Q1)) (u : Unit) (o : List Q5) : List Alt := [⟨fun (x : List Q5) => x = o, .normal, fun x => [.ptr 0 0 0, .ptr 1 0 0, .ow 2 0 3 (List.length x)], fun x => [.cells 0 (Qp (s.1)).cells, .cells 0 (Q6 (s.2)).cells, .own 0 3 (List.map Q0 x)]⟩]
mutual
def Ke (x0 : Qb) (x1 : Q1) : Option (List Q5) :=
 some () >>= fun v0 =>
 (if x1.fOp == 3 then
 Gr x0 x1.fIdx >>= fun v2 =>
 if (0 : Nat) = (0 : Nat) ∧ ((0 : Nat) + (List.map Q0 v2).length) * (32 : Nat) ≤ (140737488355328 : Nat) ∧ (0 : Nat) + (List.map Q0 v2).length ≤ (9223372036854775807 : Nat) then
 some ([] ++ v2) >>= fun v3 =>
 Uu x0 x1.fName x1.fIdx >>= fun v4 =>
 if (v3.length + (List.map Q0 v4).length) * (32 : Nat) ≤ (140737488355328 : Nat) ∧ v3.length + (List.map Q0 v4).length ≤ (9223372036854775807 : Nat) then
 some (v3 ++ v4) >>= fun v5 =>
 some v5
 else none
 else none
 else
 some []) >>= fun v6 =>
 some () >>= fun v7 =>
 XH x0 x1 v6 0 >>= fun v9 =>
 some v9
 partial_fixpoint
def XH (x2 : Qb) (x3 : Q1) (x5 : List Q5) (x6 : Int) : Option (List Q5) :=
 some (List.length x3.fArgs : Int) >>= fun v0 =>
 if x6 < v0 then
 Option.map Q9.f (ix x3.fArgs x6) >>= fun v1 =>
 Ke x2 v1 >>= fun v2 =>
 if (x5.length + (List.map Q0 v2).length) * (32 : Nat) ≤ (140737488355328 : Nat) ∧ x5.length + (List.map Q0 v2).length ≤ (9223372036854775807 : Nat) then
 some (x5 ++ v2) >>= fun v3 =>
 XH x2 x3 v3 (wr (x6 + 1))
 else none
 else
 some x5
 partial_fixpoint
end
theorem Al (x0 : Qb) : (∀ (x1 : Q1) (r : List Q5), Ke x0 x1 = some r → PH 61 [Qp x0, Q6 x1] [] (V2 r) (KY r)) ∧ (∀ (x3 : Q1) (x5 : List Q5) (x6 : Int) (o : List Q5), XH x0 x3 x5 x6 = some o → LO 61 6 41 [2, 3, 5, 6] [.ptr 0 0 0, .ptr 1 0 0, .ow 2 0 3 (List.length x5), ii x6] [.cells 0 (Qp x0).cells, .cells 0 (Q6 x3).cells, .own 0 3 (List.map Q0 x5)] [5] (Gl (x0, x3) () o)) :=
 Ke.mutual_partial_correctness x0 (fun x1 r => PH 61 [Qp x0, Q6 x1] [] (V2 r) (KY r)) (fun x3 x5 x6 o => LO 61 6 41 [2, 3, 5, 6] [.ptr 0 0 0, .ptr 1 0 0, .ow 2 0 3 (List.length x5), ii x6] [.cells 0 (Qp x0).cells, .cells 0 (Q6 x3).cells, .own 0 3 (List.map Q0 x5)] [5] (Gl (x0, x3) () o))
 (fun XH Q5b x1 r h  =>
 PuH2 (hs := [(9, .split), (14, .h [] JW JM), (15, .z [{ slot := 10, own := 3 }, { slot := 14, fz := true }] (some (.n Q0 15 (some .a)))), (22, .c Qt), (23, .z [{ slot := 16, own := 3 }] (some (.n Q0 23 (some .a)))), (3000007, .l [] [2, 3, 5, 6] [kk 2, kk 3, { slot := 5, own := 3 }] [5] [{ slot := 5, own := 3 }] (Gl (x0, x1))), (6000004, .l [] [] [] [2, 3, 5] [kk 2, kk 3, { slot := 5, own := 3 }] (Da (x0, x1)))]) (kb := [{ slot := 0, path := [], own := 3 }]) ((kJ1 (id := 6000004) () (fun v0 ev0 v1 => (kIf (c := x1.fOp == 3) (kH (sh := JW) (bt := JM) (MN x0 x1.fIdx) fun v2 => (kT (nM (sh := Q0) v2) (kG (p := (0 : Nat) = (0 : Nat) ∧ ((0 : Nat) + (List.map Q0 v2).length) * (32 : Nat) ≤ (140737488355328 : Nat) ∧ (0 : Nat) + (List.map Q0 v2).length ≤ (9223372036854775807 : Nat)) (kO (sh := Q0) ([] ++ v2) (mAA (sh := Q0) [] v2) (nAA (sh := Q0) [] v2) fun v3 => (kC (sh := Qt) (N3 x0 x1.fName x1.fIdx) fun v4 => (kA (q := (v3.length + (List.map Q0 v4).length) * (32 : Nat) ≤ (140737488355328 : Nat) ∧ v3.length + (List.map Q0 v4).length ≤ (9223372036854775807 : Nat)) (sh := Q0) (l := v3) (kO (sh := Q0) (v3 ++ v4) (mAA (sh := Q0) v3 v4) (nAA (sh := Q0) v3 v4) fun v5 => (kXj (alts := Da (x0, x1)) ev0 v5 (.here _ rfl (.refl _) (.refl _))))))))))
 (kXj (alts := Da (x0, x1)) ev0 [] (.here _ rfl (.refl _) (.refl _)))))
 (fun v0 v6 => (kL1 () (Q5b x1 v6 0) fun v7 v9 => (kEH (enc := V2) (bt := KY) v9 ⟨.refl _, .refl _⟩)))) h))
 (fun Ke XH Q5a Q5b x3 x5 x6 o h  =>
 Lp2 (hs := [(27, .n eI 27 none), (28, .split), (36, .e Q6), (38, .c Qt), (39, .z [{ slot := 31, own := 3 }] (some (.n Q0 39 (some .a))))]) (kb := [kk 2, kk 3, { slot := 5, own := 3 }]) (kbx := [{ slot := 5, own := 3 }]) ((kN _ (mLen (sh := Ql) x3.fArgs) fun v0 => (kIfD (p := x6 < v0) (kIxR (l := x3.fArgs) (k := x6) QZ fun v1 => (kC (sh := Qt) ((fun y hy => FX y (Q5a v1 y hy))) fun v2 => (kA (q := (x5.length + (List.map Q0 v2).length) * (32 : Nat) ≤ (140737488355328 : Nat) ∧ x5.length + (List.map Q0 v2).length ≤ (9223372036854775807 : Nat)) (sh := Q0) (l := x5) (kO (sh := Q0) (x5 ++ v2) (mAA (sh := Q0) x5 v2) (nAA (sh := Q0) x5 v2) fun v3 => (kM0 (alts := Gl (x0, x3) ()) (Q5b x3 v3 (wr (x6 + 1))))))))
 (kX (alts := Gl (x0, x3) ()) x5 (.here _ rfl (.refl _) (.refl _))))) h))
theorem IX (x0 : Qb) (x1 : Q1) (r : List Q5) (h : Ke x0 x1 = some r) : PH 61 [Qp x0, Q6 x1] [] (V2 r) (KY r) := (Al x0).1 x1 r h
def UG (s : (Qb × Qa)) (u : Unit) (o : List Q5) : List Alt := [⟨fun (x : List Q5) => x = o, .exit 0, fun x => [.sl 3 (List.map Q0 x)], fun x => []⟩]
def J3 (s : (Qb × Qa)) (u : Unit) (o : Bool) : List Alt := jb o (fun b => [.ptr 0 0 0, .ptr 1 0 0, .bool b]) [.cells 0 (Qp (s.1)).cells, .cells 0 (Qm (s.2)).cells]
def GJ (s : (Qb × Qa)) (u : Unit) (o : List Q5) : List Alt := [⟨fun (x : List Q5) => x = o, .normal, fun x => [.ptr 0 0 0, .ptr 1 0 0, .ow 2 0 3 (List.length x)], fun x => [.cells 0 (Qp (s.1)).cells, .cells 0 (Qm (s.2)).cells, .own 0 3 (List.map Q0 x)]⟩]
def Kb (s : (Qb × Qa)) (u : ((List Q5) × Int)) (o : Bool) : List Alt := jb o (fun b => [.ptr 0 0 0, .ptr 1 0 0, .ow 2 0 3 (List.length (u.1)), ii (u.2), .bool b]) [.cells 0 (Qp (s.1)).cells, .cells 0 (Qm (s.2)).cells, .own 0 3 (List.map Q0 (u.1))]
mutual
def Vh (x0 : Qb) (x1 : Qa) : Option (List Q5) :=
 some () >>= fun v0 =>
 (if x1.fOp == 2 then
 some true
 else
 if x1.fOp == 3 then
 some true
 else
 some false) >>= fun v1 => if v1 then
 Gr x0 x1.fIdx >>= fun v3 =>
 Ke x0 x1.fExpr >>= fun v4 =>
 if (v3.length + (List.map Q0 v4).length) * (32 : Nat) ≤ (140737488355328 : Nat) ∧ v3.length + (List.map Q0 v4).length ≤ (9223372036854775807 : Nat) then
 some (v3 ++ v4) >>= fun v5 =>
 some v5
 else none
 else
 some () >>= fun v7 =>
 (if x1.fOp == 4 then
 Ke x0 x1.fExpr >>= fun v9 =>
 some v9
 else
 some []) >>= fun v10 =>
 some () >>= fun v11 =>
 Xd x0 x1 v10 0 >>= fun v13 =>
 some v13
 partial_fixpoint
def Xd (x2 : Qb) (x3 : Qa) (x5 : List Q5) (x6 : Int) : Option (List Q5) :=
 some (x5, x6) >>= fun v0 =>
 (some (List.length x3.fBody : Int) >>= fun v2 =>
 if x6 < v2 then
 if x3.fOp == 1 then
 some true
 else
 if x3.fOp == 4 then
 some true
 else
 some false
 else
 some false) >>= fun v1 => if v1 then
 Option.map Q7.f (ix x3.fBody v0.snd) >>= fun v4 =>
 Vh x2 v4 >>= fun v5 =>
 if (v0.fst.length + (List.map Q0 v5).length) * (32 : Nat) ≤ (140737488355328 : Nat) ∧ v0.fst.length + (List.map Q0 v5).length ≤ (9223372036854775807 : Nat) then
 some (v0.fst ++ v5) >>= fun v6 =>
 Xd x2 x3 v6 (wr (v0.snd + 1))
 else none
 else
 some v0.fst
 partial_fixpoint
end
theorem S2 (x0 : Qb) : (∀ (x1 : Qa) (r : List Q5), Vh x0 x1 = some r → PU 39 [Qp x0, Qm x1] (Qt r)) ∧ (∀ (x3 : Qa) (x5 : List Q5) (x6 : Int) (o : List Q5), Xd x0 x3 x5 x6 = some o → LO 39 7 58 [2, 3, 5, 6] [.ptr 0 0 0, .ptr 1 0 0, .ow 2 0 3 (List.length x5), ii x6] [.cells 0 (Qp x0).cells, .cells 0 (Qm x3).cells, .own 0 3 (List.map Q0 x5)] [5] (UG (x0, x3) () o)) :=
 Vh.mutual_partial_correctness x0 (fun x1 r => PU 39 [Qp x0, Qm x1] (Qt r)) (fun x3 x5 x6 o => LO 39 7 58 [2, 3, 5, 6] [.ptr 0 0 0, .ptr 1 0 0, .ow 2 0 3 (List.length x5), ii x6] [.cells 0 (Qp x0).cells, .cells 0 (Qm x3).cells, .own 0 3 (List.map Q0 x5)] [5] (UG (x0, x3) () o))
 (fun Xd Q4z x1 r h  =>
 Pu2 (hs := [(9, .split), (13, .split), (18, .h [] JW JM), (22, .h [] V2 KY), (23, .z [{ slot := 18, own := 3 }, { slot := 22, fz := true }] (some (.n Q0 23 (some .a)))), (26, .split), (30, .h [] V2 KY), (3000008, .l [] [2, 3, 5, 6] [kk 2, kk 3, { slot := 5, own := 3 }] [5] [{ slot := 5, fz := true }] (UG (x0, x1))), (5000001, .l [] [] [] [2, 3, 14] [kk 2, kk 3] (J3 (x0, x1))), (6000006, .l [] [] [] [2, 3, 5] [kk 2, kk 3, { slot := 5, own := 3 }] (GJ (x0, x1)))]) ((kJb (id := 5000001) () (fun v0 ev0 v1 => (kIf (c := x1.fOp == 2) (kXj (alts := J3 (x0, x1)) ev0 true (.here () rfl (.refl _) (.refl _)))
 (kIf (c := x1.fOp == 3) (kXj (alts := J3 (x0, x1)) ev0 true (.here () rfl (.refl _) (.refl _)))
 (kXj (alts := J3 (x0, x1)) ev0 false (.next (.here () rfl (.refl _) (.refl _)))))))
 (fun v0 => (kH (sh := JW) (bt := JM) (MN x0 x1.fIdx) fun v3 => (kH (sh := V2) (bt := KY) (IX x0 x1.fExpr) fun v4 => (kT (nM (sh := Q0) v4) (kA (q := (v3.length + (List.map Q0 v4).length) * (32 : Nat) ≤ (140737488355328 : Nat) ∧ v3.length + (List.map Q0 v4).length ≤ (9223372036854775807 : Nat)) (sh := Q0) (l := v3) (kO (sh := Q0) (v3 ++ v4) (mAA (sh := Q0) v3 v4) (nAA (sh := Q0) v3 v4) fun v5 => (kT (nM (sh := Q0) v5) (kEr (enc := Qt) v5))))))))
 (fun v0 => (kJ1 (id := 6000006) () (fun v7 ev7 v8 => (kIf (c := x1.fOp == 4) (kH (sh := V2) (bt := KY) (IX x0 x1.fExpr) fun v9 => (kXj (alts := GJ (x0, x1)) ev7 v9 (.here _ rfl (.refl _) (.refl _))))
 (kXj (alts := GJ (x0, x1)) ev7 [] (.here _ rfl (.refl _) (.refl _)))))
 (fun v7 v10 => (kL1 () (Q4z x1 v10 0) fun v11 v13 => (kEr (enc := Qt) v13)))))) h))
 (fun Vh Xd Q4y Q4z x3 x5 x6 o h  =>
 Lp2 (hs := [(34, .n eI 34 none), (35, .split), (39, .split), (43, .split), (53, .e Qm), (55, .c Qt), (56, .z [{ slot := 48, own := 3 }] (some (.n Q0 56 (some .a)))), (5000007, .l [] [] [] [2, 3, 5, 6, 45] [kk 2, kk 3, { slot := 5, own := 3 }] (Kb (x0, x3)))]) (kb := [kk 2, kk 3, { slot := 5, own := 3 }]) (kbx := [{ slot := 5, fz := true }]) ((kJb (id := 5000007) (x5, x6) (fun v0 ev0 v1 => (kN _ (mLen (sh := Qr) x3.fBody) fun v2 => (kIfD (p := x6 < v2) (kIf (c := x3.fOp == 1) (kXj (alts := Kb (x0, x3)) ev0 true (.here () rfl (.refl _) (.refl _)))
 (kIf (c := x3.fOp == 4) (kXj (alts := Kb (x0, x3)) ev0 true (.here () rfl (.refl _) (.refl _)))
 (kXj (alts := Kb (x0, x3)) ev0 false (.next (.here () rfl (.refl _) (.refl _))))))
 (kXj (alts := Kb (x0, x3)) ev0 false (.next (.here () rfl (.refl _) (.refl _)))))))
 (fun v0 => (kIxR (l := x3.fBody) (k := v0.snd) Z2 fun v4 => (kC (sh := Qt) (Q4y v4) fun v5 => (kA (q := (v0.fst.length + (List.map Q0 v5).length) * (32 : Nat) ≤ (140737488355328 : Nat) ∧ v0.fst.length + (List.map Q0 v5).length ≤ (9223372036854775807 : Nat)) (sh := Q0) (l := v0.fst) (kO (sh := Q0) (v0.fst ++ v5) (mAA (sh := Q0) v0.fst v5) (nAA (sh := Q0) v0.fst v5) fun v6 => (kM0 (alts := UG (x0, x3) ()) (Q4z x3 v6 (wr (v0.snd + 1)))))))))
 (fun v0 => (kT (nM (sh := Q0) v0.fst) (kX (alts := UG (x0, x3) ()) v0.fst (.here _ rfl (.refl _) (.refl _)))))) h))
theorem AI (x0 : Qb) (x1 : Qa) (r : List Q5) (h : Vh x0 x1 = some r) : PU 39 [Qp x0, Qm x1] (Qt r) := (S2 x0).1 x1 r h
def Gm (s : Unit) (u : Qa) (o : Qa) : List Alt := [⟨fun (x : Qa) => x = o, .exit 0, fun x => [.ptr 0 0 0, .ptr 1 0 0], fun x => [.cells 0 (Qm x).cells, .cells 0 (Qm u).cells]⟩]
def Ky (s : Qa) (u : (Qa × Int)) (o : Bool) : List Alt := jb o (fun b => [.ptr 0 0 0, .ptr 1 0 0, ii (u.2), .bool b]) [.cells 0 (Qm (u.1)).cells, .cells 0 (Qm s).cells]
def V0 (x1 : Qa) (x3 : Int) : Option Qa :=
 some (x1, x3) >>= fun v0 =>
 (if x3 ≤ 40 then
 if x1.fOp == 4 then
 some (List.length x1.fBody : Int) >>= fun v2 =>
 if v2 == 1 then
 some true
 else
 some false
 else
 some false
 else
 some false) >>= fun v1 => if v1 then
 Option.map Q7.f (ix v0.fst.fBody (0 : Int)) >>= fun v4 =>
 V0 v4 (wr (v0.snd + 1))
 else
 some v0.fst
 partial_fixpoint
theorem Td (x1 : Qa) (x2 : Qa) (x3 : Int) (o : Qa) (h : V0 x1 x3 = some o) : LO 40 2 24 [1, 2, 3] [.ptr 0 0 0, .ptr 1 0 0, ii x3] [.cells 0 (Qm x1).cells, .cells 0 (Qm x2).cells] [1, 2] (Gm () x2 o) :=
 V0.partial_correctness  (fun x1 x3 o => ∀ (x2 : Qa), LO 40 2 24 [1, 2, 3] [.ptr 0 0 0, .ptr 1 0 0, ii x3] [.cells 0 (Qm x1).cells, .cells 0 (Qm x2).cells] [1, 2] (Gm () x2 o))
 (fun V0 Q5l x1 x3 o h x2 =>
 Lp2 (hs := [(5, .split), (9, .split), (14, .n eI 14 none), (15, .split), (21, .e Qm), (5000002, .l [] [] [] [1, 2, 3, 16] [kk 1, kk 2] (Ky x2))]) (kb := [kk 1, kk 2]) (kbx := [kk 1, kk 2]) ((kJb (id := 5000002) (x1, x3) (fun v0 ev0 v1 => (kIfD (p := x3 ≤ 40) (kIf (c := x1.fOp == 4) (kN _ (mLen (sh := Qr) x1.fBody) fun v2 => (kIf (c := v2 == 1) (kXj (alts := Ky x2) ev0 true (.here () rfl (.refl _) (.refl _)))
 (kXj (alts := Ky x2) ev0 false (.next (.here () rfl (.refl _) (.refl _))))))
 (kXj (alts := Ky x2) ev0 false (.next (.here () rfl (.refl _) (.refl _)))))
 (kXj (alts := Ky x2) ev0 false (.next (.here () rfl (.refl _) (.refl _))))))
 (fun v0 => (kIxR (l := v0.fst.fBody) (k := (0 : Int)) Z2 fun v4 => (kM0 (alts := Gm () x2) (fun y hy => Q5l v4 (wr (v0.snd + 1)) y hy x2))))
 (fun v0 => (kX (alts := Gm () x2) v0.fst (.here _ rfl (.refl _) (.refl _))))) h)) x1 x3 o h x2
def WC (x0 : Qa) : Option Qa :=
 some (Xh.mk (0 : Int) [] (0 : Int) (0 : Int) (0 : Int) [] (QV.mk (0 : Int) [] (gVal.mk (0 : Int) (0 : Int)) (Qg.mk (0 : Int) (0 : Int) (0 : Int) (0 : Int) (0 : Int)) (gLin.mk (0 : Int) []) [] [] : Q1) [] : Qa) >>= fun v0 =>
 V0 x0 0 >>= fun v2 =>
 some v2
theorem FU (x0 : Qa) (r : Qa) (h : WC x0 = some r) : PU 40 [Qm x0] (Qm r) :=
 Pu2 (hs := [(3000003, .l [] [1, 2, 3] [kk 1, kk 2] [1, 2] [kk 1, kk 2] (Gm ()))]) ((kL1 (Xh.mk (0 : Int) [] (0 : Int) (0 : Int) (0 : Int) [] (QV.mk (0 : Int) [] (gVal.mk (0 : Int) (0 : Int)) (Qg.mk (0 : Int) (0 : Int) (0 : Int) (0 : Int) (0 : Int)) (gLin.mk (0 : Int) []) [] [] : Q1) [] : Qa) (fun y hy => ZI.le (.cons (LeV.refl (AV.ptr (0 : Nat) (0 : Nat) (0 : Nat))) (.cons (LeV.refl (AV.ptr (1 : Nat) (0 : Nat) (0 : Nat))) (.cons (LeV.refl (ii (0 : Int))) .nil))) (.cons (LeB.refl (Box.cells (0 : Nat) [ii x0.fOp, AV.str x0.fName, ii x0.fMany, ii x0.fMark, ii x0.fFold, AV.sl (4 : Nat) (List.map Q3 x0.fIdx), ii x0.fExpr.fOp, AV.str x0.fExpr.fName, ii x0.fExpr.fVal.fN, ii x0.fExpr.fVal.fD, ii x0.fExpr.fType.fKind, ii x0.fExpr.fType.fBits, ii x0.fExpr.fType.fFrac, ii x0.fExpr.fType.fRound, ii x0.fExpr.fType.fOver, ii x0.fExpr.fLin.fK, AV.sl (2 : Nat) (List.map Qe x0.fExpr.fLin.fL), AV.sl (4 : Nat) (List.map Q3 x0.fExpr.fIdx), AV.sl (13 : Nat) (List.map Ql x0.fExpr.fArgs), AV.sl (20 : Nat) (List.map Qr x0.fBody)])) (.cons (LeB.cells (0 : Nat) (.cons (LeV.refl (ii (0 : Int))) (.cons (LeV.refl (AV.str [])) (.cons (LeV.refl (ii (0 : Int))) (.cons (LeV.refl (ii (0 : Int))) (.cons (LeV.refl (ii (0 : Int))) (.cons (LeV.nil 4) (.cons (LeV.refl (ii (0 : Int))) (.cons (LeV.refl (AV.str [])) (.cons (LeV.refl (ii (0 : Int))) (.cons (LeV.refl (ii (0 : Int))) (.cons (LeV.refl (ii (0 : Int))) (.cons (LeV.refl (ii (0 : Int))) (.cons (LeV.refl (ii (0 : Int))) (.cons (LeV.refl (ii (0 : Int))) (.cons (LeV.refl (ii (0 : Int))) (.cons (LeV.refl (ii (0 : Int))) (.cons (LeV.nil 2) (.cons (LeV.nil 4) (.cons (LeV.nil 13) (.cons (LeV.nil 20) .nil))))))))))))))))))))) .nil)) (Td x0 (Xh.mk (0 : Int) [] (0 : Int) (0 : Int) (0 : Int) [] (QV.mk (0 : Int) [] (gVal.mk (0 : Int) (0 : Int)) (Qg.mk (0 : Int) (0 : Int) (0 : Int) (0 : Int) (0 : Int)) (gLin.mk (0 : Int) []) [] [] : Q1) [] : Qa) (0 : Int) y hy)) fun v0 v2 => (kEr (enc := Qm) v2)) h)
def DF (x0 : Qb) (x1 : Qa) : Option QM :=
 KE x0 x1 >>= fun v0 =>
 Vh x0 x1 >>= fun v1 =>
 WC x1 >>= fun v2 =>
 some ((QM.mk v0 v1 v2)) >>= fun v3 =>
 some v3
theorem BS (x0 : Qb) (x1 : Qa) (r : QM) (h : DF x0 x1 = some r) : PU 19 [Qp x0, Qm x1] (QL r) :=
 Pu2 (hs := [(7, .c Qt), (10, .c Qt), (12, .c Qm), (13, .n QL 13 none)]) ((kC (sh := Qt) (Se x0 x1) fun v0 => (kC (sh := Qt) (AI x0 x1) fun v1 => (kC (sh := Qm) (FU x1) fun v2 => (kW (sh := QL) (QM.mk v0 v1 v2) lr fun v3 => (kEr (enc := QL) v3))))) h)
def KA (s : ((List Q5) × (List Q5))) (u : Int) (o : Unit ⊕ Bool) : List Alt := [⟨fun (x : Unit) => (Sum.inl x : Unit ⊕ Bool) = o, .exit 2, fun x => [.sl 3 (List.map Q0 s.1), .sl 3 (List.map Q0 s.2), .undef, ii u], fun x => []⟩, ⟨fun (x : Bool) => (Sum.inr x : Unit ⊕ Bool) = o, .ret, fun x => [.sl 3 (List.map Q0 s.1), .sl 3 (List.map Q0 s.2), .bool x, ii u], fun x => []⟩]
def KX (s : ((List Q5) × (List Q5) × Int)) (u : Int) (o : Bool) : List Alt := jb o (fun b => [.sl 3 (List.map Q0 (s.1)), .sl 3 (List.map Q0 (s.2.1)), ii (s.2.2), ii u, .bool b]) []
def X5 (x0 : List Q5) (x1 : List Q5) (x5 : Int) (x6 : Int) : Option (Unit ⊕ Bool) :=
 some (List.length x1 : Int) >>= fun v0 =>
 if x6 < v0 then
 some x6 >>= fun v1 =>
 (ix x0 x5 >>= fun v3 =>
 ix x1 x6 >>= fun v4 =>
 if v3.fBuffer == v4.fBuffer then
 ix x0 x5 >>= fun v5 =>
 ix x1 x6 >>= fun v6 =>
 ix x0 x5 >>= fun v7 =>
 ix x1 x6 >>= fun v8 =>
 if (if true = true then max v5.fFrom v6.fFrom else min v5.fFrom v6.fFrom) < if false = true then max v7.fTo v8.fTo else min v7.fTo v8.fTo then
 some true
 else
 some false
 else
 some false) >>= fun v2 => if v2 then
 some (.inr true)
 else
 X5 x0 x1 x5 (wr (v1 + 1))
 else
 some (.inl ())
 partial_fixpoint
theorem H7 (x0 : List Q5) (x1 : List Q5) (x5 : Int) (x6 : Int) (o : Unit ⊕ Bool) (h : X5 x0 x1 x5 x6 = some o) : LO 37 5 55 [0, 1, 5, 6] [.sl 3 (List.map Q0 x0), .sl 3 (List.map Q0 x1), ii x5, ii x6] [] [0, 1, 4, 5] (KA (x0, x1) x5 o) :=
 X5.partial_correctness x0 x1 x5 (fun x6 o => LO 37 5 55 [0, 1, 5, 6] [.sl 3 (List.map Q0 x0), .sl 3 (List.map Q0 x1), ii x5, ii x6] [] [0, 1, 4, 5] (KA (x0, x1) x5 o))
 (fun X5 Q5n x6 o h  =>
 Lp2 (hs := [(15, .n eI 15 none), (16, .split), (21, .e Q0), (26, .e Q0), (29, .split), (33, .e Q0), (38, .e Q0), (44, .e Q0), (49, .e Q0), (53, .split), (5000007, .l [] [] [] [0, 1, 5, 6, 54] [] (KX (x0, x1, x5)))]) (kb := []) (kbx := []) ((kN _ (mLen (sh := Q0) x1) fun v0 => (kIfD (p := x6 < v0) (kJb (id := 5000007) x6 (fun v1 ev1 v2 => (kIx (enc := Q0) (l := x0) (k := x5) fun v3 => (kIx (enc := Q0) (l := x1) (k := x6) fun v4 => (kIf (c := v3.fBuffer == v4.fBuffer) (kIx (enc := Q0) (l := x0) (k := x5) fun v5 => (kIx (enc := Q0) (l := x1) (k := x6) fun v6 => (kIx (enc := Q0) (l := x0) (k := x5) fun v7 => (kIx (enc := Q0) (l := x1) (k := x6) fun v8 => (kIfD (p := (if true = true then max v5.fFrom v6.fFrom else min v5.fFrom v6.fFrom) < if false = true then max v7.fTo v8.fTo else min v7.fTo v8.fTo) (kXj (alts := KX (x0, x1, x5)) ev1 true (.here () rfl (.refl _) (.refl _)))
 (kXj (alts := KX (x0, x1, x5)) ev1 false (.next (.here () rfl (.refl _) (.refl _)))))))))
 (kXj (alts := KX (x0, x1, x5)) ev1 false (.next (.here () rfl (.refl _) (.refl _))))))))
 (fun v1 => (kX (alts := KA (x0, x1) x5) (.inr true) (.next (.here _ rfl (.refl _) (.refl _)))))
 (fun v1 => (kM0 (alts := KA (x0, x1) x5) (Q5n (wr (v1 + 1))))))
 (kX (alts := KA (x0, x1) x5) (.inl ()) (.here _ rfl (.refl _) (.refl _))))) h)) x6 o h
def Kz (s : ((List Q5) × (List Q5))) (u : Unit) (o : Unit ⊕ Bool) : List Alt := [⟨fun (x : Unit) => (Sum.inl x : Unit ⊕ Bool) = o, .exit 0, fun x => [.undef], fun x => []⟩, ⟨fun (x : Bool) => (Sum.inr x : Unit ⊕ Bool) = o, .ret, fun x => [.bool x], fun x => []⟩]
def X4 (x0 : List Q5) (x1 : List Q5) (x5 : Int) : Option (Unit ⊕ Bool) :=
 some (List.length x0 : Int) >>= fun v0 =>
 if x5 < v0 then
 some x5 >>= fun v1 =>
 X5 x0 x1 x5 0 >>= fun v2 => (match v2 with
 | (.inl v3) =>
 X4 x0 x1 (wr (v1 + 1))
 | (.inr v4) =>
 some (.inr v4))
 else
 some (.inl ())
 partial_fixpoint
theorem IZ (x0 : List Q5) (x1 : List Q5) (x5 : Int) (o : Unit ⊕ Bool) (h : X4 x0 x1 x5 = some o) : LO 37 2 55 [0, 1, 5] [.sl 3 (List.map Q0 x0), .sl 3 (List.map Q0 x1), ii x5] [] [4] (Kz (x0, x1) () o) :=
 X4.partial_correctness x0 x1 (fun x5 o => LO 37 2 55 [0, 1, 5] [.sl 3 (List.map Q0 x0), .sl 3 (List.map Q0 x1), ii x5] [] [4] (Kz (x0, x1) () o))
 (fun X4 Q5m x5 o h  =>
 Lp2 (hs := [(9, .n eI 9 none), (10, .split), (3000006, .l [] [0, 1, 5, 6] [] [0, 1, 4, 5] [] (KA (x0, x1)))]) (kb := []) (kbx := []) ((kN _ (mLen (sh := Q0) x0) fun v0 => (kIfD (p := x5 < v0) (kL2 x5 (hL := (H7 x0 x1 x5 0)) (hA := fun v1 v3 => (kM0 (alts := Kz (x0, x1) ()) (Q5m (wr (v1 + 1)))))
 (hB := fun v1 v4 => (kX (alts := Kz (x0, x1) ()) (.inr v4) (.next (.here _ rfl (.refl _) (.refl _))))))
 (kX (alts := Kz (x0, x1) ()) (.inl ()) (.here _ rfl (.refl _) (.refl _))))) h)) x5 o h
def JU (x0 : List Q5) (x1 : List Q5) : Option Bool :=
 some () >>= fun v0 =>
 X4 x0 x1 0 >>= fun v1 => (match v1 with
 | (.inl v2) =>
 some false
 | (.inr v3) =>
 some v3)
theorem WM (x0 : List Q5) (x1 : List Q5) (r : Bool) (h : JU x0 x1 = some r) : PU 37 [Qt x0, Qt x1] (eB r) :=
 Pu2 (hs := [(3000003, .l [] [0, 1, 5] [] [4] [] (Kz (x0, x1)))]) ((kL2 () (hL := (IZ x0 x1 0)) (hA := fun v0 v2 => (kEr (enc := eB) false))
 (hB := fun v0 v3 => (kEr (enc := eB) v3))) h)
def J4 (s : Unit) (u : Unit) (o : Bool) : List Alt := jb o (fun b => [.bool b]) []
def U2 (x0 : QM) (x1 : QM) : Option Int :=
 JU x0.fWrites x1.fReads >>= fun v0 => if v0 then
 some (1 : Int)
 else
 JU x0.fReads x1.fWrites >>= fun v1 => if v1 then
 some (2 : Int)
 else
 JU x0.fWrites x1.fWrites >>= fun v2 => if v2 then
 some () >>= fun v3 =>
 (if x0.fCore.fOp == 3 then
 if x1.fCore.fOp == 3 then
 some true
 else
 some false
 else
 some false) >>= fun v4 => if v4 then
 some (4 : Int)
 else
 some (3 : Int)
 else
 some (0 : Int)
theorem AL (x0 : QM) (x1 : QM) (r : Int) (h : U2 x0 x1 = some r) : PU 18 [QL x0, QL x1] (eI r) :=
 Pu2 (hs := [(9, .cb), (14, .cb), (19, .cb), (24, .split), (29, .split), (5000007, .l [] [] [] [30] [] (J4 ()))]) ((kCb (WM x0.fWrites x1.fReads) (kEr (enc := eI) (1 : Int))
 (kCb (WM x0.fReads x1.fWrites) (kEr (enc := eI) (2 : Int))
 (kCb (WM x0.fWrites x1.fWrites) (kJb (id := 5000007) () (fun v3 ev3 v4 => (kIf (c := x0.fCore.fOp == 3) (kIf (c := x1.fCore.fOp == 3) (kXj (alts := J4 ()) ev3 true (.here () rfl (.refl _) (.refl _)))
 (kXj (alts := J4 ()) ev3 false (.next (.here () rfl (.refl _) (.refl _)))))
 (kXj (alts := J4 ()) ev3 false (.next (.here () rfl (.refl _) (.refl _))))))
 (fun v3 => (kEr (enc := eI) (4 : Int)))
 (fun v3 => (kEr (enc := eI) (3 : Int))))
 (kEr (enc := eI) (0 : Int))))) h)
def Wh (x0 : Qb) (x1 : Qa) (x2 : Qa) : Option Int :=
 DF x0 x1 >>= fun v0 =>
 DF x0 x2 >>= fun v1 =>
 U2 v0 v1 >>= fun v2 =>
 some v2
def Db (s : ((List Qz) × Qb)) (u : Unit) (o : List QM) : List Alt := [⟨fun (x : List QM) => x = o, .exit 0, fun x => [.sl 22 (List.map QL x)], fun x => []⟩]
def KF (x1 : List Qz) (x2 : Qb) (x5 : List QM) (x6 : Int) : Option (List QM) :=
 some (List.length x1 : Int) >>= fun v0 =>
 if x6 < v0 then
 ix x1 x6 >>= fun v1 =>
 DF x2 v1.fOp >>= fun v2 =>
 if (x5.length + (1 : Nat)) * (304 : Nat) ≤ (140737488355328 : Nat) ∧ x5.length + (1 : Nat) ≤ (9223372036854775807 : Nat) then
 some (x5 ++ [v2]) >>= fun v3 =>
 KF x1 x2 v3 (wr (x6 + 1))
 else none
 else
 some x5
 partial_fixpoint
theorem Sg (x1 : List Qz) (x2 : Qb) (x5 : List QM) (x6 : Int) (o : List QM) (h : KF x1 x2 x5 x6 = some o) : LO 25 3 24 [1, 2, 5, 6] [.sl 22 (List.map Qj x1), .ptr 0 0 0, .ow 1 0 22 (List.length x5), ii x6] [.cells 0 (Qp x2).cells, .own 0 22 (List.map QL x5)] [5] (Db (x1, x2) () o) :=
 KF.partial_correctness x1 x2 (fun x5 x6 o => LO 25 3 24 [1, 2, 5, 6] [.sl 22 (List.map Qj x1), .ptr 0 0 0, .ow 1 0 22 (List.length x5), ii x6] [.cells 0 (Qp x2).cells, .own 0 22 (List.map QL x5)] [5] (Db (x1, x2) () o))
 (fun KF Q5q x5 x6 o h  =>
 Lp2 (hs := [(9, .n eI 9 none), (10, .split), (17, .e Qj), (20, .c QL), (22, .z [{ slot := 13, own := 22 }] (some (.n QL 22 (some .a))))]) (kb := [kk 2, { slot := 5, own := 22 }]) (kbx := [{ slot := 5, fz := true }]) ((kN _ (mLen (sh := Qj) x1) fun v0 => (kIfD (p := x6 < v0) (kIx (enc := Qj) (l := x1) (k := x6) fun v1 => (kC (sh := QL) (BS x2 v1.fOp) fun v2 => (kA (q := (x5.length + (1 : Nat)) * (304 : Nat) ≤ (140737488355328 : Nat) ∧ x5.length + (1 : Nat) ≤ (9223372036854775807 : Nat)) (sh := QL) (l := x5) (kO (sh := QL) (x5 ++ [v2]) (mA (sh := QL) x5 v2) (nA x5 v2) fun v3 => (kM0 (alts := Db (x1, x2) ()) (Q5q v3 (wr (x6 + 1))))))))
 (kT (nM (sh := QL) x5) (kX (alts := Db (x1, x2) ()) x5 (.here _ rfl (.refl _) (.refl _)))))) h)) x5 x6 o h
def Nq (x0 : Qb) (x1 : List Qz) : Option (List QM) :=
 some () >>= fun v0 =>
 KF x1 x0 [] 0 >>= fun v2 =>
 some v2
theorem OK (x0 : Qb) (x1 : List Qz) (r : List QM) (h : Nq x0 x1 = some r) : PU 25 [Qp x0, GN x1] (C8 r) :=
 Pu2 (hs := [(3000004, .l [] [1, 2, 5, 6] [kk 2, { slot := 5, own := 22 }] [5] [{ slot := 5, fz := true }] (Db (x1, x0)))]) ((kL1 () (Sg x1 x0 [] 0) fun v0 v2 => (kEr (enc := C8) v2)) h)
def UI (s : ((List Qz) × (List QM))) (u : Int) (o : List QA) : List Alt := [⟨fun (x : List QA) => x = o, .exit 2, fun x => [.sl 22 (List.map Qj s.1), .ow 0 0 2 (List.length x), .sl 22 (List.map QL s.2), ii u], fun x => [.own 0 2 (List.map QD x)]⟩]
def GK (s : ((List Qz) × (List QM) × Int)) (u : Int) (o : List QA) : List Alt := [⟨fun (x : List QA) => x = o, .normal, fun x => [.sl 22 (List.map Qj (s.1)), .ow 0 0 2 (List.length x), .sl 22 (List.map QL (s.2.1)), ii (s.2.2), ii u], fun x => [.own 0 2 (List.map QD x)]⟩]
def Y6 (x1 : List Qz) (x5 : List QA) (x6 : List QM) (x7 : Int) (x8 : Int) : Option (List QA) :=
 some (List.length x1 : Int) >>= fun v0 =>
 if x8 < v0 then
 some x8 >>= fun v1 =>
 (ix x6 x7 >>= fun v3 =>
 ix x6 x8 >>= fun v4 =>
 U2 v3 v4 >>= fun v5 =>
 if v5 != 0 then
 some ((QA.mk x7 x8)) >>= fun v6 =>
 if (x5.length + (1 : Nat)) * (16 : Nat) ≤ (140737488355328 : Nat) ∧ x5.length + (1 : Nat) ≤ (9223372036854775807 : Nat) then
 some (x5 ++ [v6]) >>= fun v7 =>
 some v7
 else none
 else
 some x5) >>= fun v8 =>
 Y6 x1 v8 x6 x7 (wr (v1 + 1))
 else
 some x5
 partial_fixpoint
theorem Rn (x1 : List Qz) (x5 : List QA) (x6 : List QM) (x7 : Int) (x8 : Int) (o : List QA) (h : Y6 x1 x5 x6 x7 x8 = some o) : LO 11 9 46 [1, 5, 6, 7, 8] [.sl 22 (List.map Qj x1), .ow 0 0 2 (List.length x5), .sl 22 (List.map QL x6), ii x7, ii x8] [.own 0 2 (List.map QD x5)] [1, 5, 6, 7] (UI (x1, x6) x7 o) :=
 Y6.partial_correctness x1 x6 x7 (fun x5 x8 o => LO 11 9 46 [1, 5, 6, 7, 8] [.sl 22 (List.map Qj x1), .ow 0 0 2 (List.length x5), .sl 22 (List.map QL x6), ii x7, ii x8] [.own 0 2 (List.map QD x5)] [1, 5, 6, 7] (UI (x1, x6) x7 o))
 (fun Y6 Q5p x5 x8 o h  =>
 Lp2 (hs := [(25, .n eI 25 none), (26, .split), (31, .e QL), (35, .e QL), (37, .c eI), (38, .split), (42, .n QD 42 none), (44, .z [{ slot := 39, own := 2 }] (some (.n QD 44 (some .a)))), (7000003, .l [] [] [] [1, 5, 6, 7, 8] [{ slot := 5, own := 2 }] (GK (x1, x6, x7)))]) (kb := [{ slot := 5, own := 2 }]) (kbx := [{ slot := 5, own := 2 }]) ((kN _ (mLen (sh := Qj) x1) fun v0 => (kIfD (p := x8 < v0) (kJ1 (id := 7000003) x8 (fun v1 ev1 v2 => (kIx (enc := QL) (l := x6) (k := x7) fun v3 => (kIx (enc := QL) (l := x6) (k := x8) fun v4 => (kC (sh := eI) (AL v3 v4) fun v5 => (kIf (c := v5 != 0) (kW (sh := QD) (QA.mk x7 x8) lr fun v6 => (kA (q := (x5.length + (1 : Nat)) * (16 : Nat) ≤ (140737488355328 : Nat) ∧ x5.length + (1 : Nat) ≤ (9223372036854775807 : Nat)) (sh := QD) (l := x5) (kO (sh := QD) (x5 ++ [v6]) (mA (sh := QD) x5 v6) (nA x5 v6) fun v7 => (kXj (alts := GK (x1, x6, x7)) ev1 v7 (.here _ rfl (.refl _) (.refl _))))))
 (kXj (alts := GK (x1, x6, x7)) ev1 x5 (.here _ rfl (.refl _) (.refl _))))))))
 (fun v1 v8 => (kM0 (alts := UI (x1, x6) x7) (Q5p v8 (wr (v1 + 1))))))
 (kX (alts := UI (x1, x6) x7) x5 (.here _ rfl (.refl _) (.refl _))))) h)) x5 x8 o h
def UH (s : List Qz) (u : List QM) (o : List QA) : List Alt := [⟨fun (x : List QA) => x = o, .exit 0, fun x => [.sl 2 (List.map QD x)], fun x => []⟩]
def Y5 (x1 : List Qz) (x5 : List QA) (x6 : List QM) (x7 : Int) : Option (List QA) :=
 some (List.length x1 : Int) >>= fun v0 =>
 if x7 < v0 then
 some x7 >>= fun v1 =>
 Y6 x1 x5 x6 x7 (wr (x7 + 1)) >>= fun v3 =>
 Y5 x1 v3 x6 (wr (v1 + 1))
 else
 some x5
 partial_fixpoint
theorem Rm (x1 : List Qz) (x5 : List QA) (x6 : List QM) (x7 : Int) (o : List QA) (h : Y5 x1 x5 x6 x7 = some o) : LO 11 6 46 [1, 5, 6, 7] [.sl 22 (List.map Qj x1), .ow 0 0 2 (List.length x5), .sl 22 (List.map QL x6), ii x7] [.own 0 2 (List.map QD x5)] [5] (UH x1 x6 o) :=
 Y5.partial_correctness x1 x6 (fun x5 x7 o => LO 11 6 46 [1, 5, 6, 7] [.sl 22 (List.map Qj x1), .ow 0 0 2 (List.length x5), .sl 22 (List.map QL x6), ii x7] [.own 0 2 (List.map QD x5)] [5] (UH x1 x6 o))
 (fun Y5 Q5o x5 x7 o h  =>
 Lp2 (hs := [(17, .n eI 17 none), (18, .split), (3000010, .l [] [1, 5, 6, 7, 8] [{ slot := 5, own := 2 }] [1, 5, 6, 7] [{ slot := 5, own := 2 }] (UI (x1, x6)))]) (kb := [{ slot := 5, own := 2 }]) (kbx := [{ slot := 5, fz := true }]) ((kN _ (mLen (sh := Qj) x1) fun v0 => (kIfD (p := x7 < v0) (kL1 x7 (Rn x1 x5 x6 x7 (wr (x7 + 1))) fun v1 v3 => (kM0 (alts := UH x1 x6) (Q5o v3 (wr (v1 + 1)))))
 (kT (nM (sh := QD) x5) (kX (alts := UH x1 x6) x5 (.here _ rfl (.refl _) (.refl _)))))) h)) x5 x7 o h
def Wb (x0 : Qb) (x1 : List Qz) : Option (List QA) :=
 some (List.length x1 : Int) >>= fun v0 =>
 if 2048 < v0 then
 some []
 else
 Nq x0 x1 >>= fun v1 =>
 some v1 >>= fun v2 =>
 Y5 x1 [] v1 0 >>= fun v4 =>
 some v4
theorem AK (x0 : Qb) (x1 : List Qz) (r : List QA) (h : Wb x0 x1 = some r) : PU 11 [Qp x0, GN x1] (UR r) :=
 Pu2 (hs := [(10, .n eI 10 none), (11, .split), (14, .c C8), (3000007, .l [] [1, 5, 6, 7] [{ slot := 5, own := 2 }] [5] [{ slot := 5, fz := true }] (UH x1))]) ((kN _ (mLen (sh := Qj) x1) fun v0 => (kIfD (p := 2048 < v0) (kE (enc := UR) [] (LeT.nil 2))
 (kC (sh := C8) (OK x0 x1) fun v1 => (kL1 v1 (Rm x1 [] v1 0) fun v2 v4 => (kEr (enc := UR) v4))))) h)
end Go.Proofs.YtokfigmmegifeaaGreat
end
