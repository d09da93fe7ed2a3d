/- Proved in the last of these texts: for every input the law returns true and its arguments read afterwards as they read before. This text: a part of the proof. -/
import Derived.Test.YtkgphhemcglgnaaGreatDoorP5
set_option linter.unusedVariables false
set_option linter.unusedSimpArgs false
set_option linter.unusedSectionVars false
noncomputable section
namespace Go.Proofs.YtkgphhemcglgnaaGreatDoor
open Go HY
set_option maxRecDepth 1000000
set_option linter.unusedVariables false
def DA (x0 : Int) : Option Int :=
 if x0 < 0 then
 some (w6 ((0 : Int) - w6 x0))
 else
 some (w6 x0)
theorem Nm (x0 r) (h : DA x0 = some r) : PU 220 [eI x0] (eU64 r) :=
 Pu2 (hs := [(4, .split)]) ((kIfD (p := x0 < 0) (kEr (enc := eU64) (w6 ((0 : Int) - w6 x0)))
 (kEr (enc := eU64) (w6 x0))) h)
def L5 (x0 : Int) (x1 : Int) : Option (Int × Int) :=
 if (0 : Int) ≤ 32 then
 if (0 : Int) ≤ 32 then
 some (w6 (w6 (x0.fdiv ((2 : Int) ^ (32 : Nat)) * w6 (↑(BitVec.ofInt (64 : Nat) x1 &&& BitVec.ofInt (64 : Nat) (4294967295 : Int)).toNat : Int)) + (w6 (w6 (↑(BitVec.ofInt (64 : Nat) x0 &&& BitVec.ofInt (64 : Nat) (4294967295 : Int)).toNat : Int) * w6 (↑(BitVec.ofInt (64 : Nat) x1 &&& BitVec.ofInt (64 : Nat) (4294967295 : Int)).toNat : Int))).fdiv ((2 : Int) ^ (32 : Nat))) : Int) >>= fun v0 =>
 if (0 : Int) ≤ 32 then
 if (0 : Int) ≤ 32 then
 if (0 : Int) ≤ 32 then
 if (0 : Int) ≤ 32 then
 if (0 : Int) ≤ 32 then
 some ((w6 (w6 (w6 (x0.fdiv ((2 : Int) ^ (32 : Nat)) * x1.fdiv ((2 : Int) ^ (32 : Nat))) + v0.fdiv ((2 : Int) ^ (32 : Nat))) + (w6 (w6 (w6 (↑(BitVec.ofInt (64 : Nat) x0 &&& BitVec.ofInt (64 : Nat) (4294967295 : Int)).toNat : Int) * x1.fdiv ((2 : Int) ^ (32 : Nat))) + w6 (↑(BitVec.ofInt (64 : Nat) v0 &&& BitVec.ofInt (64 : Nat) (4294967295 : Int)).toNat : Int))).fdiv ((2 : Int) ^ (32 : Nat)))), (w6 (x0 * x1)))
 else none
 else none
 else none
 else none
 else none
 else none
 else none
theorem RE (x0 x1 r) (h : L5 x0 x1 = some r) : PU 219 [eU64 x0, eU64 x1] (Wn r) :=
 Pu2 (hs := [(15, .s), (20, .s), (7, .n eU64 7 none), (25, .s), (31, .s), (33, .s), (36, .s), (39, .s)]) ((kG (p := (0 : Int) ≤ 32) (kG (p := (0 : Int) ≤ 32) (kN (w6 (w6 (x0.fdiv ((2 : Int) ^ (32 : Nat)) * w6 (↑(BitVec.ofInt (64 : Nat) x1 &&& BitVec.ofInt (64 : Nat) (4294967295 : Int)).toNat : Int)) + (w6 (w6 (↑(BitVec.ofInt (64 : Nat) x0 &&& BitVec.ofInt (64 : Nat) (4294967295 : Int)).toNat : Int) * w6 (↑(BitVec.ofInt (64 : Nat) x1 &&& BitVec.ofInt (64 : Nat) (4294967295 : Int)).toNat : Int))).fdiv ((2 : Int) ^ (32 : Nat)))) rfl fun v0 => (kG (p := (0 : Int) ≤ 32) (kG (p := (0 : Int) ≤ 32) (kG (p := (0 : Int) ≤ 32) (kG (p := (0 : Int) ≤ 32) (kG (p := (0 : Int) ≤ 32) (kEr (enc := Wn) ((w6 (w6 (w6 (x0.fdiv ((2 : Int) ^ (32 : Nat)) * x1.fdiv ((2 : Int) ^ (32 : Nat))) + v0.fdiv ((2 : Int) ^ (32 : Nat))) + (w6 (w6 (w6 (↑(BitVec.ofInt (64 : Nat) x0 &&& BitVec.ofInt (64 : Nat) (4294967295 : Int)).toNat : Int) * x1.fdiv ((2 : Int) ^ (32 : Nat))) + w6 (↑(BitVec.ofInt (64 : Nat) v0 &&& BitVec.ofInt (64 : Nat) (4294967295 : Int)).toNat : Int))).fdiv ((2 : Int) ^ (32 : Nat)))), (w6 (x0 * x1)))))))))))) h)
def Yy (s : Unit) (u : (Int × Bool)) (o : Bool) : List Alt := jb o (fun b => [.int .u64 (u.1), .bool (u.2), .bool b]) []
def NI (x0 : Int) (x1 : Int) : Option (Int × Bool) :=
 DA x0 >>= fun v0 =>
 DA x1 >>= fun v1 =>
 L5 v0 v1 >>= fun v2 =>
 some (v2.snd, (!decide (x0 < 0) == decide (x1 < 0))) >>= fun v3 =>
 (if v2.fst != 0 then
 some true
 else
 if 9223372036854775808 < v2.snd then
 some true
 else
 if v2.snd == 9223372036854775808 then
 if !decide (x0 < 0) == decide (x1 < 0) then
 some false
 else
 some true
 else
 some false) >>= fun v4 => if v4 then
 some ((0 : Int), false)
 else
 if v3.snd then
 some ((wr (w6 ((0 : Int) - v3.fst))), true)
 else
 some ((wr v3.fst), true)
theorem IE (x0 x1 r) (h : NI x0 x1 = some r) : PU 187 [eI x0, eI x1] (Jg r) :=
 Pu2 (hs := [(11, .c eU64), (13, .c eU64), (14, .c Wn), (24, .split), (27, .split), (31, .split), (33, .split), (38, .split), (5000003, .l [] [] [] [7, 8, 22] [] (Yy ()))]) ((kC (sh := eU64) (Nm x0) fun v0 => (kC (sh := eU64) (Nm x1) fun v1 => (kC (sh := Wn) (RE v0 v1) fun v2 => (kJb (id := 5000003) (v2.snd, (!decide (x0 < 0) == decide (x1 < 0))) (fun v3 ev3 v4 => (kIf (c := v2.fst != 0) (kXj (alts := Yy ()) ev3 true (.here () rfl (.refl _) (.refl _)))
 (kIfD (p := 9223372036854775808 < v2.snd) (kXj (alts := Yy ()) ev3 true (.here () rfl (.refl _) (.refl _)))
 (kIf (c := v2.snd == 9223372036854775808) (kIf (c := !decide (x0 < 0) == decide (x1 < 0)) (kXj (alts := Yy ()) ev3 false (.next (.here () rfl (.refl _) (.refl _))))
 (kXj (alts := Yy ()) ev3 true (.here () rfl (.refl _) (.refl _))))
 (kXj (alts := Yy ()) ev3 false (.next (.here () rfl (.refl _) (.refl _))))))))
 (fun v3 => (kEr (enc := Jg) ((0 : Int), false)))
 (fun v3 => (kIf (c := v3.snd) (kEr (enc := Jg) ((wr (w6 ((0 : Int) - v3.fst))), true))
 (kEr (enc := Jg) ((wr v3.fst), true)))))))) h)
def JM (s : Int) (u : (gLin × (List Qs) × Int)) (o : (Bool × gLin)) : List Alt := l1 o (.exit 0) (fun x => [.ptr 0 0 0, .bool x.1, .ptr 1 0 0]) (fun x => [.cells 0 (Qb u.1).cells, .cells 0 [ii x.2.fK, .ow 2 0 2 (List.length x.2.fL)], .own 0 2 (List.map Q4 x.2.fL)])
def U2 (s : (Int × gLin × (List Qs) × Int)) (u : (gLin × Qs × Int × Int)) (o : Bool) : List Alt := l1 o .normal (fun x => [ii (s.1), .ptr 0 0 0, .bool x, .ptr 1 0 0, .ptr 3 0 0, ii (u.2.2.1), .sl 2 (List.map Q4 (s.2.2.1)), ii (s.2.2.2), ii (u.2.2.2)]) (fun _ => [.cells 0 (Qb (s.2.1)).cells, .cells 0 [ii (u.1).fK, .ow 2 0 2 (List.length ((u.1).fL))], .own 0 2 (List.map Q4 (u.1).fL), .cells 0 (Q4 (u.2.1)).cells])
def JR (x1 : Int) (x7 : Bool) (x8 : gLin) (x30 : List Qs) (x31 : Int) (x32 : Int) : Option (Bool × gLin) :=
 if x32 < x31 then
 ix x30 x32 >>= fun v0 =>
 NI v0.fBy x1 >>= fun v1 =>
 some (x8, v0, v1.fst, x32) >>= fun v2 =>
 (if x7 then
 some v1.snd
 else
 some false) >>= fun v4 =>
 some ((Qs.mk v2.snd.fst.fb v2.snd.snd.fst)) >>= fun v5 =>
 if (v2.fst.fL.length + (1 : Nat)) * (24 : Nat) ≤ (140737488355328 : Nat) ∧ v2.fst.fL.length + (1 : Nat) ≤ (9223372036854775807 : Nat) then
 some (v2.fst.fL ++ [v5]) >>= fun v6 =>
 JR x1 v4 (gLin.mk v2.fst.fK v6) x30 x31 (wr (v2.snd.snd.snd + 1))
 else none
 else
 some (x7, x8)
 partial_fixpoint
theorem EH (x1 : Int) (x4 : gLin) (x7 : Bool) (x8 : gLin) (x30 : List Qs) (x31 : Int) (x32 : Int) (o : (Bool × gLin)) (h : JR x1 x7 x8 x30 x31 x32 = some o) : LO 148 8 61 [1, 4, 7, 8, 30, 31, 32] [ii x1, .ptr 0 0 0, .bool x7, .ptr 1 0 0, .sl 2 (List.map Q4 x30), ii x31, ii x32] [.cells 0 (Qb x4).cells, .cells 0 [ii x8.fK, .ow 2 0 2 (List.length x8.fL)], .own 0 2 (List.map Q4 x8.fL)] [4, 7, 8] (JM x1 (x4, x30, x31) o) :=
 JR.partial_correctness x1 x30 x31 (fun x7 x8 x32 o => ∀ (x4 : gLin), LO 148 8 61 [1, 4, 7, 8, 30, 31, 32] [ii x1, .ptr 0 0 0, .bool x7, .ptr 1 0 0, .sl 2 (List.map Q4 x30), ii x31, ii x32] [.cells 0 (Qb x4).cells, .cells 0 [ii x8.fK, .ow 2 0 2 (List.length x8.fL)], .own 0 2 (List.map Q4 x8.fL)] [4, 7, 8] (JM x1 (x4, x30, x31) o))
 (fun JR Oe x7 x8 x32 o h x4 =>
 Lp2 (hs := [(33, .split), (34, .e Q4), (40, .c Jg), (43, .split), (52, .n Q4 52 none), (54, .z [{ slot := 48, own := 2 }] (some (.n Q4 54 (some .a)))), (5000011, .l [] [] [] [1, 4, 7, 8, 10, 11, 30, 31, 32] [kk 4, kk 8, { slot := 8, path := [1], own := 2 }, kk 10] (U2 (x1, x4, x30, x31)))]) (kb := [kk 4, kk 8, { slot := 8, path := [1], own := 2 }]) (kbx := [kk 4, kk 8, { slot := 8, path := [1], own := 2 }]) ((kIfD (p := x32 < x31) (kIx (enc := Q4) (l := x30) (k := x32) fun v0 => (kC (sh := Jg) (IE v0.fBy x1) fun v1 => (kJ1 (id := 5000011) (x8, v0, v1.fst, x32) (fun v2 ev2 v3 => (kIf (c := x7) (kXj (alts := U2 (x1, x4, x30, x31)) ev2 v1.snd (.here _ rfl (.refl _) (.refl _)))
 (kXj (alts := U2 (x1, x4, x30, x31)) ev2 false (.here _ rfl (.refl _) (.refl _)))))
 (fun v2 v4 => (kW (sh := Q4) (Qs.mk v2.snd.fst.fb v2.snd.snd.fst) lr fun v5 => (kA (q := (v2.fst.fL.length + (1 : Nat)) * (24 : Nat) ≤ (140737488355328 : Nat) ∧ v2.fst.fL.length + (1 : Nat) ≤ (9223372036854775807 : Nat)) (sh := Q4) (l := v2.fst.fL) (kO (sh := Q4) (v2.fst.fL ++ [v5]) (mA (sh := Q4) v2.fst.fL v5) (nA v2.fst.fL v5) fun v6 => (kM0 (alts := JM x1 (x4, x30, x31)) (fun y hy => Oe v4 (gLin.mk v2.fst.fK v6) (wr (v2.snd.snd.snd + 1)) y hy x4)))))))))
 (kX (alts := JM x1 (x4, x30, x31)) (x7, x8) (.here _ rfl (.refl _) (.refl _)))) h)) x7 x8 x32 o h x4
def NH (x0 : gLin) (x1 : Int) : Option (gLin × Int) :=
 XL x0 >>= fun v0 =>
 if v0 != 0 then
 some ((gLin.mk (0 : Int) [])) >>= fun v1 =>
 some (v1, (1 : Int))
 else
 if x1 == 0 then
 some ((gLin.mk (0 : Int) [])) >>= fun v2 =>
 some (v2, (0 : Int))
 else
 NI x0.fK x1 >>= fun v3 =>
 some (List.length x0.fL : Int) >>= fun v4 =>
 some ((gLin.mk (0 : Int) []), x0.fL, v4) >>= fun v5 =>
 JR x1 v3.snd (gLin.mk v3.fst []) x0.fL v4 0 >>= fun v7 =>
 if v7.fst then
 some (v7.snd, (0 : Int))
 else
 some ((gLin.mk (0 : Int) [])) >>= fun v8 =>
 some (v8, (3 : Int))
theorem Su (x0 x1 r) (h : NH x0 x1 = some r) : PU 148 [Qb x0, eI x1] (Qx r) :=
 Pu2 (hs := [(14, .c eI), (15, .split), (16, .n Qb 16 none), (18, .split), (19, .n Qb 19 none), (24, .c Jg), (31, .n eI 31 none), (57, .split), (59, .n Qb 59 none), (3000009, .l [] [1, 4, 7, 8, 30, 31, 32] [kk 4, kk 8, { slot := 8, path := [1], own := 2 }] [4, 7, 8] [kk 4, kk 8, { slot := 8, path := [1], own := 2 }] (JM x1))]) ((kC (sh := eI) (VM x0) fun v0 => (kIf (c := v0 != 0) (kW (sh := Qb) (gLin.mk (0 : Int) []) (LeV.agg (.cons lr (.cons (LeV.nil 2) .nil))) fun v1 => (kEr (enc := Qx) (v1, (1 : Int))))
 (kIf (c := x1 == 0) (kW (sh := Qb) (gLin.mk (0 : Int) []) (LeV.agg (.cons lr (.cons (LeV.nil 2) .nil))) fun v2 => (kEr (enc := Qx) (v2, (0 : Int))))
 (kC (sh := Jg) (IE x0.fK x1) fun v3 => (kN _ (mLen (sh := Q4) x0.fL) fun v4 => (kL1 ((gLin.mk (0 : Int) []), x0.fL, v4) (fun y hy => Xt.le (.cons lr (.cons lr (.cons lr (.cons lr (.cons lr (.cons lr (.cons lr .nil))))))) (.cons (LeB.cells (0 : Nat) (.cons lr (.cons (LeV.nil 2) .nil))) (.cons (LeB.refl (Box.cells (0 : Nat) [ii v3.fst, AV.ow (2 : Nat) (0 : Nat) (2 : Nat) (0 : Nat)])) (.cons (LeB.refl (Box.own (0 : Nat) (2 : Nat) [])) .nil))) (EH x1 (gLin.mk (0 : Int) []) v3.snd (gLin.mk v3.fst []) x0.fL v4 (0 : Int) y hy)) fun v5 v7 => (kIf (c := v7.fst) (kT (nM (sh := Q4) v7.snd.fL) (kEr (enc := Qx) (v7.snd, (0 : Int))))
 (kW (sh := Qb) (gLin.mk (0 : Int) []) (LeV.agg (.cons lr (.cons (LeV.nil 2) .nil))) fun v8 => (kEr (enc := Qx) (v8, (3 : Int))))))))))) h)
def Wh (x0 : Int) (x1 : Int) : Option (Int × Bool) :=
 some (wr (x0 + x1) : Int) >>= fun v0 =>
 some (v0, (decide (x0 < v0) == decide (0 < x1)))
theorem HH (x0 x1 r) (h : Wh x0 x1 = some r) : PU 188 [eI x0, eI x1] (Jg r) :=
 Pu2 (hs := [(6, .n eI 6 none)]) ((kN (wr (x0 + x1)) rfl fun v0 => (kEr (enc := Jg) (v0, (decide (x0 < v0) == decide (0 < x1))))) h)
def V7 (r : (Bool × gLin)) : AV := .tup []
def V6 (r : (Bool × gLin)) : List Box := [.cells 0 [.bool r.1], .cells 0 [ii r.2.fK, .ow 2 0 2 (List.length r.2.fL)], .own 0 2 (List.map Q4 r.2.fL)]
def U1 (s : Str) (u : (gLin × Int)) (o : Bool) : List Alt := l1 o .normal (fun _ => [.str s, .ptr 0 0 0, .ptr 1 0 0, ii (u.2)]) (fun x => [.cells 0 [.bool x], .cells 0 [ii (u.1).fK, .ow 2 0 2 (List.length ((u.1).fL))], .own 0 2 (List.map Q4 (u.1).fL)])
def Cz (x0 : Str) (x1 : Int) (x2 : Int) (x3 : Bool) (x4 : gLin) : Option (Bool × gLin) :=
 Wh x1 x2 >>= fun v0 =>
 some (x4, v0.fst) >>= fun v1 =>
 (if x3 then
 some v0.snd
 else
 some false) >>= fun v3 =>
 if v1.snd != 0 then
 some ((Qs.mk x0 v1.snd)) >>= fun v4 =>
 if (v1.fst.fL.length + (1 : Nat)) * (24 : Nat) ≤ (140737488355328 : Nat) ∧ v1.fst.fL.length + (1 : Nat) ≤ (9223372036854775807 : Nat) then
 some (v1.fst.fL ++ [v4]) >>= fun v5 =>
 some (v3, (gLin.mk v1.fst.fK v5))
 else none
 else
 some (v3, v1.fst)
theorem NK (x0 x1 x2 x3 x4 r) (h : Cz x0 x1 x2 x3 x4 = some r) : PH 190 [eS x0, eI x1, eI x2, .ptr 0 0 0, .ptr 1 0 0] [.cells 0 [.bool x3], .cells 0 [ii x4.fK, .ow 2 0 2 (List.length x4.fL)], .own 0 2 (List.map Q4 x4.fL)] (V7 r) (V6 r) :=
 PuH2 (hs := [(13, .c Jg), (16, .split), (21, .split), (26, .n Q4 26 none), (28, .z [{ slot := 23, own := 2 }] (some (.n Q4 28 (some .a)))), (5000001, .l [] [] [] [0, 3, 4, 8] [kk 3, kk 4, { slot := 4, path := [1], own := 2 }] (U1 x0))]) (kb := [kk 1, kk 2, { slot := 2, path := [1], own := 2 }]) ((kC (sh := Jg) (HH x1 x2) fun v0 => (kJ1 (id := 5000001) (x4, v0.fst) (fun v1 ev1 v2 => (kIf (c := x3) (kXj (alts := U1 x0) ev1 v0.snd (.here _ rfl (.refl _) (.refl _)))
 (kXj (alts := U1 x0) ev1 false (.here _ rfl (.refl _) (.refl _)))))
 (fun v1 v3 => (kIf (c := v1.snd != 0) (kW (sh := Q4) (Qs.mk x0 v1.snd) lr fun v4 => (kA (q := (v1.fst.fL.length + (1 : Nat)) * (24 : Nat) ≤ (140737488355328 : Nat) ∧ v1.fst.fL.length + (1 : Nat) ≤ (9223372036854775807 : Nat)) (sh := Q4) (l := v1.fst.fL) (kO (sh := Q4) (v1.fst.fL ++ [v4]) (mA (sh := Q4) v1.fst.fL v4) (nA v1.fst.fL v4) fun v5 => (kEH (enc := V7) (bt := V6) (v3, (gLin.mk v1.fst.fK v5)) ⟨.refl _, .refl _⟩))))
 (kEH (enc := V7) (bt := V6) (v3, v1.fst) ⟨.refl _, .refl _⟩))))) h)
def Ya (s : Unit) (u : Unit) (o : (Bool × gLin)) : List Alt := l1 o (.exit 0) (fun _ => [.fn 190 [.ptr 0 0 0, .ptr 1 0 0]]) (fun x => [.cells 0 [.bool x.1], .cells 0 [ii x.2.fK, .ow 2 0 2 (List.length x.2.fL)], .own 0 2 (List.map Q4 x.2.fL)])
def Kr (s : Unit) (u : ((List Qs) × (List Qs) × (Bool × gLin))) (o : Bool) : List Alt := jb o (fun b => [.sl 2 (List.map Q4 (u.1)), .sl 2 (List.map Q4 (u.2.1)), .fn 190 [.ptr 0 0 0, .ptr 1 0 0], .bool b]) [.cells 0 [.bool (u.2.2).1], .cells 0 [ii (u.2.2).2.fK, .ow 2 0 2 (List.length ((u.2.2).2.fL))], .own 0 2 (List.map Q4 (u.2.2).2.fL)]
def Yg (s : Unit) (u : ((List Qs) × (List Qs) × (Bool × gLin))) (o : Bool) : List Alt := jb o (fun b => [.sl 2 (List.map Q4 (u.1)), .sl 2 (List.map Q4 (u.2.1)), .fn 190 [.ptr 0 0 0, .ptr 1 0 0], .bool b]) [.cells 0 [.bool (u.2.2).1], .cells 0 [ii (u.2.2).2.fK, .ow 2 0 2 (List.length ((u.2.2).2.fL))], .own 0 2 (List.map Q4 (u.2.2).2.fL)]
def Ks (s : Unit) (u : ((List Qs) × (List Qs) × (Bool × gLin))) (o : Bool) : List Alt := jb o (fun b => [.sl 2 (List.map Q4 (u.1)), .sl 2 (List.map Q4 (u.2.1)), .fn 190 [.ptr 0 0 0, .ptr 1 0 0], .bool b]) [.cells 0 [.bool (u.2.2).1], .cells 0 [ii (u.2.2).2.fK, .ow 2 0 2 (List.length ((u.2.2).2.fL))], .own 0 2 (List.map Q4 (u.2.2).2.fL)]
def XC (x0 : List Qs) (x1 : List Qs) (x2 : (Bool × gLin)) : Option (Bool × gLin) :=
 some (x0, x1, x2) >>= fun v0 =>
 (some (List.length x0 : Int) >>= fun v2 =>
 if 0 < v2 then
 some true
 else
 some (List.length x1 : Int) >>= fun v3 =>
 if 0 < v3 then
 some true
 else
 some false) >>= fun v1 => if v1 then
 some (v0.fst, v0.snd.fst, v0.snd.snd) >>= fun v5 =>
 (if (↑(List.map Q4 v0.snd.fst).length : Int) == 0 then
 some (List.length v0.snd.fst : Int) >>= fun v7 =>
 some true
 else
 if 0 < (↑(List.map Q4 v0.fst).length : Int) then
 ix v0.fst (0 : Int) >>= fun v8 =>
 ix v0.snd.fst (0 : Int) >>= fun v9 =>
 some (List.length v0.snd.fst : Int) >>= fun v10 =>
 some (List.length v0.fst : Int) >>= fun v11 =>
 if Op.bytesLess v8.fb v9.fb then
 some true
 else
 some false
 else
 some (List.length v0.snd.fst : Int) >>= fun v12 =>
 some (List.length v0.fst : Int) >>= fun v13 =>
 some false) >>= fun v6 => if v6 then
 ix v5.fst (0 : Int) >>= fun v15 =>
 ix v5.fst (0 : Int) >>= fun v16 =>
 Cz v15.fb v16.fBy 0 v5.snd.snd.fst v5.snd.snd.snd >>= fun v17 =>
 if (0 : Int) ≤ 1 ∧ 1 ≤ (↑(List.map Q4 v5.fst).length : Int) then
 some ((List.drop (1 : Nat) v5.fst) : List Qs) >>= fun v18 =>
 XC v18 v5.snd.fst v17
 else none
 else
 some (v5.fst, v5.snd.fst, v5.snd.snd) >>= fun v20 =>
 (if (↑(List.map Q4 v5.fst).length : Int) == 0 then
 some (List.length v5.fst : Int) >>= fun v22 =>
 some true
 else
 ix v5.snd.fst (0 : Int) >>= fun v23 =>
 ix v5.fst (0 : Int) >>= fun v24 =>
 some (List.length v5.fst : Int) >>= fun v25 =>
 if Op.bytesLess v23.fb v24.fb then
 some true
 else
 some false) >>= fun v21 => if v21 then
 ix v20.snd.fst (0 : Int) >>= fun v27 =>
 ix v20.snd.fst (0 : Int) >>= fun v28 =>
 Cz v27.fb 0 v28.fBy v20.snd.snd.fst v20.snd.snd.snd >>= fun v29 =>
 if (0 : Int) ≤ 1 ∧ 1 ≤ (↑(List.map Q4 v20.snd.fst).length : Int) then
 some ((List.drop (1 : Nat) v20.snd.fst) : List Qs) >>= fun v30 =>
 XC v20.fst v30 v29
 else none
 else
 ix v20.fst (0 : Int) >>= fun v32 =>
 ix v20.fst (0 : Int) >>= fun v33 =>
 ix v20.snd.fst (0 : Int) >>= fun v34 =>
 Cz v32.fb v33.fBy v34.fBy v20.snd.snd.fst v20.snd.snd.snd >>= fun v35 =>
 if (0 : Int) ≤ 1 ∧ 1 ≤ (↑(List.map Q4 v20.fst).length : Int) then
 if (0 : Int) ≤ 1 ∧ 1 ≤ (↑(List.map Q4 v20.snd.fst).length : Int) then
 some ((List.drop (1 : Nat) v20.fst) : List Qs) >>= fun v36 =>
 some ((List.drop (1 : Nat) v20.snd.fst) : List Qs) >>= fun v37 =>
 XC (List.drop (1 : Nat) v20.fst) v37 v35
 else none
 else none
 else
 some v0.snd.snd
 partial_fixpoint
theorem Lj (x0 x1 x2 o) (h : XC x0 x1 x2 = some o) : LOp [.ptr 0 0 0, .ptr 1 0 0] 189 0 91 [0, 1, 2] [.sl 2 (List.map Q4 x0), .sl 2 (List.map Q4 x1), .fn 190 [.ptr 0 0 0, .ptr 1 0 0]] [.cells 0 [.bool x2.1], .cells 0 [ii x2.2.fK, .ow 2 0 2 (List.length x2.2.fL)], .own 0 2 (List.map Q4 x2.2.fL)] [2] (Ya () () o) :=
 XC.partial_correctness  (fun x0 x1 x2 o => LOp [.ptr 0 0 0, .ptr 1 0 0] 189 0 91 [0, 1, 2] [.sl 2 (List.map Q4 x0), .sl 2 (List.map Q4 x1), .fn 190 [.ptr 0 0 0, .ptr 1 0 0]] [.cells 0 [.bool x2.1], .cells 0 [ii x2.2.fK, .ow 2 0 2 (List.length x2.2.fL)], .own 0 2 (List.map Q4 x2.2.fL)] [2] (Ya () () o))
 (fun XC Oi x0 x1 x2 o h  =>
 Lp1p (hs := [(7, .n eI 7 none), (8, .split), (11, .n eI 11 none), (12, .split), (34, .n eI 34 none), (35, .split), (38, .n eI 38 none), (39, .split), (42, .e Q4), (46, .e Q4), (49, .split), (54, .e Q4), (58, .e Q4), (61, .h [kk 3, kk 4, { slot := 4, path := [1], own := 2 }] V7 V6), (63, .n YY 63 (some .s)), (66, .n eI 66 none), (67, .split), (70, .e Q4), (74, .e Q4), (77, .split), (81, .e Q4), (85, .e Q4), (88, .h [kk 3, kk 4, { slot := 4, path := [1], own := 2 }] V7 V6), (90, .n YY 90 (some .s)), (16, .e Q4), (20, .e Q4), (24, .e Q4), (27, .h [kk 3, kk 4, { slot := 4, path := [1], own := 2 }] V7 V6), (29, .n YY 29 (some .s)), (31, .n YY 31 (some .s)), (5000000, .l [] [] [] [0, 1, 2, 13] [{ slot := 2, path := [0] }, { slot := 2, path := [1] }, { slot := 2, path := [1, 1], own := 2 }] (Kr ())), (5000003, .l [] [] [] [0, 1, 2, 32] [{ slot := 2, path := [0] }, { slot := 2, path := [1] }, { slot := 2, path := [1, 1], own := 2 }] (Yg ())), (5000006, .l [] [] [] [0, 1, 2, 64] [{ slot := 2, path := [0] }, { slot := 2, path := [1] }, { slot := 2, path := [1, 1], own := 2 }] (Ks ()))]) (kb := [{ slot := 2, path := [0] }, { slot := 2, path := [1] }, { slot := 2, path := [1, 1], own := 2 }]) (kbx := [{ slot := 2, path := [0] }, { slot := 2, path := [1] }, { slot := 2, path := [1, 1], own := 2 }]) (by kernel_rfl) (by kernel_rfl) ((kJb (id := 5000000) (x0, x1, x2) (fun v0 ev0 v1 => (kN _ (mLen (sh := Q4) x0) fun v2 => (kIfD (p := 0 < v2) (kXj (alts := Kr ()) ev0 true (.here () rfl (.refl _) (.refl _)))
 (kN _ (mLen (sh := Q4) x1) fun v3 => (kIfD (p := 0 < v3) (kXj (alts := Kr ()) ev0 true (.here () rfl (.refl _) (.refl _)))
 (kXj (alts := Kr ()) ev0 false (.next (.here () rfl (.refl _) (.refl _)))))))))
 (fun v0 => (kJb (id := 5000003) (v0.fst, v0.snd.fst, v0.snd.snd) (fun v5 ev5 v6 => (kIf (c := (↑(List.map Q4 v0.snd.fst).length : Int) == 0) (kN _ (mLen (sh := Q4) v0.snd.fst) fun v7 => (kXj (alts := Yg ()) ev5 true (.here () rfl (.refl _) (.refl _))))
 (kIfD (p := 0 < (↑(List.map Q4 v0.fst).length : Int)) (kIx (enc := Q4) (l := v0.fst) (k := (0 : Int)) fun v8 => (kIx (enc := Q4) (l := v0.snd.fst) (k := (0 : Int)) fun v9 => (kN _ (mLen (sh := Q4) v0.snd.fst) fun v10 => (kN _ (mLen (sh := Q4) v0.fst) fun v11 => (kIf (c := Op.bytesLess v8.fb v9.fb) (kXj (alts := Yg ()) ev5 true (.here () rfl (.refl _) (.refl _)))
 (kXj (alts := Yg ()) ev5 false (.next (.here () rfl (.refl _) (.refl _)))))))))
 (kN _ (mLen (sh := Q4) v0.snd.fst) fun v12 => (kN _ (mLen (sh := Q4) v0.fst) fun v13 => (kXj (alts := Yg ()) ev5 false (.next (.here () rfl (.refl _) (.refl _)))))))))
 (fun v5 => (kIx (enc := Q4) (l := v5.fst) (k := (0 : Int)) fun v15 => (kIx (enc := Q4) (l := v5.fst) (k := (0 : Int)) fun v16 => (kH (sh := V7) (bt := V6) (NK v15.fb v16.fBy 0 v5.snd.snd.fst v5.snd.snd.snd) fun v17 => (kG (p := (0 : Int) ≤ 1 ∧ 1 ≤ (↑(List.map Q4 v5.fst).length : Int)) (kW (sh := YY) (List.drop (1 : Nat) v5.fst) (leSl (mD (sh := Q4) v5.fst (1 : Nat))) fun v18 => (kM0 (alts := Ya () ()) (Oi v18 v5.snd.fst v17))))))))
 (fun v5 => (kJb (id := 5000006) (v5.fst, v5.snd.fst, v5.snd.snd) (fun v20 ev20 v21 => (kIf (c := (↑(List.map Q4 v5.fst).length : Int) == 0) (kN _ (mLen (sh := Q4) v5.fst) fun v22 => (kXj (alts := Ks ()) ev20 true (.here () rfl (.refl _) (.refl _))))
 (kIx (enc := Q4) (l := v5.snd.fst) (k := (0 : Int)) fun v23 => (kIx (enc := Q4) (l := v5.fst) (k := (0 : Int)) fun v24 => (kN _ (mLen (sh := Q4) v5.fst) fun v25 => (kIf (c := Op.bytesLess v23.fb v24.fb) (kXj (alts := Ks ()) ev20 true (.here () rfl (.refl _) (.refl _)))
 (kXj (alts := Ks ()) ev20 false (.next (.here () rfl (.refl _) (.refl _))))))))))
 (fun v20 => (kIx (enc := Q4) (l := v20.snd.fst) (k := (0 : Int)) fun v27 => (kIx (enc := Q4) (l := v20.snd.fst) (k := (0 : Int)) fun v28 => (kH (sh := V7) (bt := V6) (NK v27.fb 0 v28.fBy v20.snd.snd.fst v20.snd.snd.snd) fun v29 => (kG (p := (0 : Int) ≤ 1 ∧ 1 ≤ (↑(List.map Q4 v20.snd.fst).length : Int)) (kW (sh := YY) (List.drop (1 : Nat) v20.snd.fst) (leSl (mD (sh := Q4) v20.snd.fst (1 : Nat))) fun v30 => (kM0 (alts := Ya () ()) (Oi v20.fst v30 v29))))))))
 (fun v20 => (kIx (enc := Q4) (l := v20.fst) (k := (0 : Int)) fun v32 => (kIx (enc := Q4) (l := v20.fst) (k := (0 : Int)) fun v33 => (kIx (enc := Q4) (l := v20.snd.fst) (k := (0 : Int)) fun v34 => (kH (sh := V7) (bt := V6) (NK v32.fb v33.fBy v34.fBy v20.snd.snd.fst v20.snd.snd.snd) fun v35 => (kG (p := (0 : Int) ≤ 1 ∧ 1 ≤ (↑(List.map Q4 v20.fst).length : Int)) (kG (p := (0 : Int) ≤ 1 ∧ 1 ≤ (↑(List.map Q4 v20.snd.fst).length : Int)) (kW (sh := YY) (List.drop (1 : Nat) v20.fst) (leSl (mD (sh := Q4) v20.fst (1 : Nat))) fun v36 => (kW (sh := YY) (List.drop (1 : Nat) v20.snd.fst) (leSl (mD (sh := Q4) v20.snd.fst (1 : Nat))) fun v37 => (kM (alts := Ya () ()) (.cons (leSl (mD (sh := Q4) v20.fst (1 : Nat))) (.cons lr (.cons lr .nil))) (.refl _) (Oi (List.drop (1 : Nat) v20.fst) v37 v35)))))))))))))))
 (fun v0 => (kX (alts := Ya () ()) v0.snd.snd (.here _ rfl (.refl _) (.refl _))))) h)) x0 x1 x2 o h
def U9 (r : (Bool × gLin)) : AV := .tup []
def U3 (r : (Bool × gLin)) : List Box := [.cells 0 [.bool r.1], .cells 0 [ii r.2.fK, .ow 2 0 2 (List.length r.2.fL)], .own 0 2 (List.map Q4 r.2.fL)]
def D9 (x0 : List Qs) (x1 : List Qs) (x2 : (Bool × gLin)) : Option (Bool × gLin) :=
 some () >>= fun v0 =>
 XC x0 x1 x2 >>= fun v2 =>
 some (v2.fst, v2.snd)
theorem H7 (x0 x1 x2 r) (h : D9 x0 x1 x2 = some r) : PH 189 [YY x0, YY x1, .fn 190 [.ptr 0 0 0, .ptr 1 0 0]] [.cells 0 [.bool x2.1], .cells 0 [ii x2.2.fK, .ow 2 0 2 (List.length x2.2.fL)], .own 0 2 (List.map Q4 x2.2.fL)] (U9 r) (U3 r) :=
 PuH2 (hs := [(3000001, .l [] [0, 1, 2] [{ slot := 2, path := [0] }, { slot := 2, path := [1] }, { slot := 2, path := [1, 1], own := 2 }] [2] [{ slot := 2, path := [0] }, { slot := 2, path := [1] }, { slot := 2, path := [1, 1], own := 2 }] (Ya ()))]) (kb := [kk 1, kk 2, { slot := 2, path := [1], own := 2 }]) ((kL1 () (Lj x0 x1 x2) fun v0 v2 => (kEH (enc := U9) (bt := U3) (v2.fst, v2.snd) ⟨.refl _, .refl _⟩)) h)
def J9 (s : (gLin × gLin)) (u : gLin) (o : Bool) : List Alt := jb o (fun b => [.ptr 0 0 0, .ptr 1 0 0, .ptr 2 0 0, .bool b]) [.cells 0 (Qb (s.1)).cells, .cells 0 (Qb (s.2)).cells, .cells 0 (Qb u).cells]
def Lq (x0 : gLin) (x1 : gLin) : Option (gLin × Int) :=
 some (gLin.mk (0 : Int) []) >>= fun v0 =>
 (XL x0 >>= fun v2 =>
 if v2 != 0 then
 some true
 else
 XL x1 >>= fun v3 =>
 if v3 != 0 then
 some true
 else
 some false) >>= fun v1 => if v1 then
 some ((gLin.mk (0 : Int) [])) >>= fun v5 =>
 some (v5, (1 : Int))
 else
 Wh x0.fK x1.fK >>= fun v7 =>
 D9 x0.fL x1.fL (v7.snd, (gLin.mk v7.fst [])) >>= fun v8 =>
 if v8.fst then
 some (v8.snd, (0 : Int))
 else
 some ((gLin.mk (0 : Int) [])) >>= fun v9 =>
 some (v9, (3 : Int))
theorem F4 (x0 x1 r) (h : Lq x0 x1 = some r) : PU 149 [Qb x0, Qb x1] (Qx r) :=
 Pu2 (hs := [(9, .c eI), (10, .split), (13, .c eI), (14, .split), (16, .n Qb 16 none), (22, .c Jg), (31, .h [{ slot := 2, path := [0] }, { slot := 2, path := [1] }, { slot := 2, path := [1, 1], own := 2 }] U9 U3), (32, .split), (34, .n Qb 34 none), (5000001, .l [] [] [] [2, 3, 4, 15] [kk 2, kk 3, kk 4] (J9 (x0, x1)))]) ((kJb (id := 5000001) (gLin.mk (0 : Int) []) (fun v0 ev0 v1 => (kC (sh := eI) (VM x0) fun v2 => (kIf (c := v2 != 0) (kXj (alts := J9 (x0, x1)) ev0 true (.here () rfl (.cons lr (.cons lr (.cons lr (.cons lr .nil)))) (.cons (LeB.refl (Box.cells (0 : Nat) [ii x0.fK, AV.sl (2 : Nat) (List.map Q4 x0.fL)])) (.cons (LeB.refl (Box.cells (0 : Nat) [ii x1.fK, AV.sl (2 : Nat) (List.map Q4 x1.fL)])) (.cons (LeB.cells (0 : Nat) (.cons lr (.cons (LeV.nil 2) .nil))) .nil)))))
 (kC (sh := eI) (VM x1) fun v3 => (kIf (c := v3 != 0) (kXj (alts := J9 (x0, x1)) ev0 true (.here () rfl (.cons lr (.cons lr (.cons lr (.cons lr .nil)))) (.cons (LeB.refl (Box.cells (0 : Nat) [ii x0.fK, AV.sl (2 : Nat) (List.map Q4 x0.fL)])) (.cons (LeB.refl (Box.cells (0 : Nat) [ii x1.fK, AV.sl (2 : Nat) (List.map Q4 x1.fL)])) (.cons (LeB.cells (0 : Nat) (.cons lr (.cons (LeV.nil 2) .nil))) .nil)))))
 (kXj (alts := J9 (x0, x1)) ev0 false (.next (.here () rfl (.cons lr (.cons lr (.cons lr (.cons lr .nil)))) (.cons (LeB.refl (Box.cells (0 : Nat) [ii x0.fK, AV.sl (2 : Nat) (List.map Q4 x0.fL)])) (.cons (LeB.refl (Box.cells (0 : Nat) [ii x1.fK, AV.sl (2 : Nat) (List.map Q4 x1.fL)])) (.cons (LeB.cells (0 : Nat) (.cons lr (.cons (LeV.nil 2) .nil))) .nil)))))))))))
 (fun v0 => (kW (sh := Qb) (gLin.mk (0 : Int) []) (LeV.agg (.cons lr (.cons (LeV.nil 2) .nil))) fun v5 => (kEr (enc := Qx) (v5, (1 : Int)))))
 (fun v0 => (kC (sh := Jg) (HH x0.fK x1.fK) fun v7 => (kH (sh := U9) (bt := U3) (H7 x0.fL x1.fL (v7.snd, (gLin.mk v7.fst []))) fun v8 => (kIf (c := v8.fst) (kT (nM (sh := Q4) v8.snd.fL) (kEr (enc := Qx) (v8.snd, (0 : Int))))
 (kW (sh := Qb) (gLin.mk (0 : Int) []) (LeV.agg (.cons lr (.cons (LeV.nil 2) .nil))) fun v9 => (kEr (enc := Qx) (v9, (3 : Int))))))))) h)
def KQ (s : (Str × gLin)) (u : (gLin × (List Qs) × Int)) (o : (gLin × Int)) : List Alt := l1 o (.exit 0) (fun x => [.ptr 0 0 0, .ptr 1 0 0, .ptr 2 0 0, ii x.2]) (fun x => [.cells 0 (Qb s.2).cells, .cells 0 (Qb u.1).cells, .cells 0 [ii x.1.fK, .ow 3 0 2 (List.length x.1.fL)], .own 0 2 (List.map Q4 x.1.fL)])
def VA (s : (Str × gLin × gLin × (List Qs) × Int)) (u : Int) (o : (gLin × Int)) : List Alt := l1 o .normal (fun x => [.str (s.1), .ptr 0 0 0, .ptr 1 0 0, .ptr 2 0 0, ii (x.2), .sl 2 (List.map Q4 (s.2.2.2.1)), ii (s.2.2.2.2), ii u]) (fun x => [.cells 0 (Qb (s.2.1)).cells, .cells 0 (Qb (s.2.2.1)).cells, .cells 0 [ii (x.1).fK, .ow 3 0 2 (List.length ((x.1).fL))], .own 0 2 (List.map Q4 (x.1).fL)])
def YW (x1 : Str) (x8 : gLin) (x9 : Int) (x32 : List Qs) (x33 : Int) (x34 : Int) : Option (gLin × Int) :=
 if x34 < x33 then
 some x34 >>= fun v0 =>
 (ix x32 x34 >>= fun v2 =>
 if v2.fb == x1 then
 some (x8, v2.fBy)
 else
 if (x8.fL.length + (1 : Nat)) * (24 : Nat) ≤ (140737488355328 : Nat) ∧ x8.fL.length + (1 : Nat) ≤ (9223372036854775807 : Nat) then
 some (x8.fL ++ [v2]) >>= fun v3 =>
 some ((gLin.mk x8.fK v3), x9)
 else none) >>= fun v4 =>
 YW x1 v4.fst v4.snd x32 x33 (wr (v0 + 1))
 else
 some (x8, x9)
 partial_fixpoint
theorem Lh (x1 : Str) (x5 : gLin) (x6 : gLin) (x8 : gLin) (x9 : Int) (x32 : List Qs) (x33 : Int) (x34 : Int) (o : (gLin × Int)) (h : YW x1 x8 x9 x32 x33 x34 = some o) : LO 107 6 66 [1, 5, 6, 8, 9, 32, 33, 34] [.str x1, .ptr 0 0 0, .ptr 1 0 0, .ptr 2 0 0, ii x9, .sl 2 (List.map Q4 x32), ii x33, ii x34] [.cells 0 (Qb x5).cells, .cells 0 (Qb x6).cells, .cells 0 [ii x8.fK, .ow 3 0 2 (List.length x8.fL)], .own 0 2 (List.map Q4 x8.fL)] [5, 6, 8, 9] (KQ (x1, x5) (x6, x32, x33) o) :=
 YW.partial_correctness x1 x32 x33 (fun x8 x9 x34 o => ∀ (x5 : gLin) (x6 : gLin), LO 107 6 66 [1, 5, 6, 8, 9, 32, 33, 34] [.str x1, .ptr 0 0 0, .ptr 1 0 0, .ptr 2 0 0, ii x9, .sl 2 (List.map Q4 x32), ii x33, ii x34] [.cells 0 (Qb x5).cells, .cells 0 (Qb x6).cells, .cells 0 [ii x8.fK, .ow 3 0 2 (List.length x8.fL)], .own 0 2 (List.map Q4 x8.fL)] [5, 6, 8, 9] (KQ (x1, x5) (x6, x32, x33) o))
 (fun YW Of x8 x9 x34 o h x5 x6 =>
 Lp2 (hs := [(35, .split), (36, .e Q4), (41, .split), (48, .z [{ slot := 45, own := 2 }] (some (.n Q4 48 (some .a)))), (7000001, .l [] [] [] [1, 5, 6, 8, 9, 32, 33, 34] [kk 5, kk 6, kk 8, { slot := 8, path := [1], own := 2 }] (VA (x1, x5, x6, x32, x33)))]) (kb := [kk 5, kk 6, kk 8, { slot := 8, path := [1], own := 2 }]) (kbx := [kk 5, kk 6, kk 8, { slot := 8, path := [1], own := 2 }]) ((kIfD (p := x34 < x33) (kJ1 (id := 7000001) x34 (fun v0 ev0 v1 => (kIx (enc := Q4) (l := x32) (k := x34) fun v2 => (kIf (c := v2.fb == x1) (kXj (alts := VA (x1, x5, x6, x32, x33)) ev0 (x8, v2.fBy) (.here _ rfl (.refl _) (.refl _)))
 (kA (q := (x8.fL.length + (1 : Nat)) * (24 : Nat) ≤ (140737488355328 : Nat) ∧ x8.fL.length + (1 : Nat) ≤ (9223372036854775807 : Nat)) (sh := Q4) (l := x8.fL) (kO (sh := Q4) (x8.fL ++ [v2]) (mA (sh := Q4) x8.fL v2) (nA x8.fL v2) fun v3 => (kXj (alts := VA (x1, x5, x6, x32, x33)) ev0 ((gLin.mk x8.fK v3), x9) (.here _ rfl (.refl _) (.refl _))))))))
 (fun v0 v4 => (kM0 (alts := KQ (x1, x5) (x6, x32, x33)) (fun y hy => Of v4.fst v4.snd (wr (v0 + 1)) y hy x5 x6))))
 (kX (alts := KQ (x1, x5) (x6, x32, x33)) (x8, x9) (.here _ rfl (.refl _) (.refl _)))) h)) x8 x9 x34 o h x5 x6
def Yf (s : (Str × gLin × gLin)) (u : gLin) (o : Bool) : List Alt := jb o (fun b => [.str (s.1), .ptr 0 0 0, .ptr 1 0 0, .ptr 2 0 0, .bool b]) [.cells 0 (Qb (s.2.1)).cells, .cells 0 (Qb (s.2.2)).cells, .cells 0 (Qb u).cells]
def U5 (x0 : gLin) (x1 : Str) (x2 : gLin) : Option (gLin × Int) :=
 some (gLin.mk (0 : Int) []) >>= fun v0 =>
 (XL x0 >>= fun v2 =>
 if v2 != 0 then
 some true
 else
 KZ x1 >>= fun v3 => if v3 then
 XL x2 >>= fun v4 =>
 if v4 != 0 then
 some true
 else
 some false
 else
 some true) >>= fun v1 => if v1 then
 some ((gLin.mk (0 : Int) [])) >>= fun v6 =>
 some (v6, (1 : Int))
 else
 some (List.length x0.fL : Int) >>= fun v8 =>
 some (v0, x0.fL, v8) >>= fun v9 =>
 YW x1 (gLin.mk x0.fK []) 0 x0.fL v8 0 >>= fun v11 =>
 NH x2 v11.snd >>= fun v12 =>
 if v12.snd != 0 then
 some ((gLin.mk (0 : Int) [])) >>= fun v13 =>
 some (v13, v12.snd)
 else
 Lq v11.fst v12.fst >>= fun v14 =>
 some (v14.fst, v14.snd)
theorem IZ (x0 x1 x2 r) (h : U5 x0 x1 x2 = some r) : PU 107 [Qb x0, eS x1, Qb x2] (Qx r) :=
 Pu2 (hs := [(15, .c eI), (16, .split), (19, .cb), (24, .c eI), (25, .split), (27, .n Qb 27 none), (33, .n eI 33 none), (54, .c Qx), (58, .split), (59, .n Qb 59 none), (63, .z [{ slot := 61, path := [1], fz := true }] (some (.c Qx))), (3000007, .l [] [1, 5, 6, 8, 9, 32, 33, 34] [kk 5, kk 6, kk 8, { slot := 8, path := [1], own := 2 }] [5, 6, 8, 9] [kk 5, kk 6, kk 8, { slot := 8, path := [1], own := 2 }] (KQ (x1, x2))), (5000001, .l [] [] [] [1, 3, 5, 6, 26] [kk 3, kk 5, kk 6] (Yf (x1, x0, x2)))]) ((kJb (id := 5000001) (gLin.mk (0 : Int) []) (fun v0 ev0 v1 => (kC (sh := eI) (VM x0) fun v2 => (kIf (c := v2 != 0) (kXj (alts := Yf (x1, x0, x2)) ev0 true (.here () rfl (.cons lr (.cons lr (.cons lr (.cons lr (.cons lr .nil))))) (.cons (LeB.refl (Box.cells (0 : Nat) [ii x0.fK, AV.sl (2 : Nat) (List.map Q4 x0.fL)])) (.cons (LeB.refl (Box.cells (0 : Nat) [ii x2.fK, AV.sl (2 : Nat) (List.map Q4 x2.fL)])) (.cons (LeB.cells (0 : Nat) (.cons lr (.cons (LeV.nil 2) .nil))) .nil)))))
 (kCb (WK x1) (kC (sh := eI) (VM x2) fun v4 => (kIf (c := v4 != 0) (kXj (alts := Yf (x1, x0, x2)) ev0 true (.here () rfl (.cons lr (.cons lr (.cons lr (.cons lr (.cons lr .nil))))) (.cons (LeB.refl (Box.cells (0 : Nat) [ii x0.fK, AV.sl (2 : Nat) (List.map Q4 x0.fL)])) (.cons (LeB.refl (Box.cells (0 : Nat) [ii x2.fK, AV.sl (2 : Nat) (List.map Q4 x2.fL)])) (.cons (LeB.cells (0 : Nat) (.cons lr (.cons (LeV.nil 2) .nil))) .nil)))))
 (kXj (alts := Yf (x1, x0, x2)) ev0 false (.next (.here () rfl (.cons lr (.cons lr (.cons lr (.cons lr (.cons lr .nil))))) (.cons (LeB.refl (Box.cells (0 : Nat) [ii x0.fK, AV.sl (2 : Nat) (List.map Q4 x0.fL)])) (.cons (LeB.refl (Box.cells (0 : Nat) [ii x2.fK, AV.sl (2 : Nat) (List.map Q4 x2.fL)])) (.cons (LeB.cells (0 : Nat) (.cons lr (.cons (LeV.nil 2) .nil))) .nil))))))))
 (kXj (alts := Yf (x1, x0, x2)) ev0 true (.here () rfl (.cons lr (.cons lr (.cons lr (.cons lr (.cons lr .nil))))) (.cons (LeB.refl (Box.cells (0 : Nat) [ii x0.fK, AV.sl (2 : Nat) (List.map Q4 x0.fL)])) (.cons (LeB.refl (Box.cells (0 : Nat) [ii x2.fK, AV.sl (2 : Nat) (List.map Q4 x2.fL)])) (.cons (LeB.cells (0 : Nat) (.cons lr (.cons (LeV.nil 2) .nil))) .nil)))))))))
 (fun v0 => (kW (sh := Qb) (gLin.mk (0 : Int) []) (LeV.agg (.cons lr (.cons (LeV.nil 2) .nil))) fun v6 => (kEr (enc := Qx) (v6, (1 : Int)))))
 (fun v0 => (kN _ (mLen (sh := Q4) x0.fL) fun v8 => (kL1 (v0, x0.fL, v8) (Lh x1 x2 v0 (gLin.mk x0.fK []) 0 x0.fL v8 0) fun v9 v11 => (kC (sh := Qx) (Su x2 v11.snd) fun v12 => (kIf (c := v12.snd != 0) (kW (sh := Qb) (gLin.mk (0 : Int) []) (LeV.agg (.cons lr (.cons (LeV.nil 2) .nil))) fun v13 => (kEr (enc := Qx) (v13, v12.snd)))
 (kT (nM (sh := Q4) v11.fst.fL) (kC (sh := Qx) (F4 v11.fst v12.fst) fun v14 => (kEr (enc := Qx) (v14.fst, v14.snd)))))))))) h)
def YK (x0 : gLin) (x1 : Str) (x2 : gLin) : Option (gLin × Int) :=
 U5 x0 x1 x2 >>= fun v0 =>
 some (v0.fst, v0.snd)
theorem J1 (x0 x1 x2 r) (h : YK x0 x1 x2 = some r) : PU 210 [Qb x0, .ip 1 [.agg [.str x1]] 0 0, .ip 2 [.agg [ii x2.fK, .sl 2 (List.map Q4 x2.fL)]] 0 0] (Qx r) :=
 Pu2 (hs := [(9, .c Qx)]) ((kC (sh := Qx) (IZ x0 x1 x2) fun v0 => (kEr (enc := Qx) (v0.fst, v0.snd))) h)
def ZD (s : ((List Q6) × (Str × gLin) × Int)) (u : (Int × Int × Int)) (o : (List Q6 × List gLin) ⊕ ((List Q6) × Int × (List Q6))) : List Alt := lp o (.exit 2) (fun x => [.sl 4 (List.map Q1 s.1), .fn 210 [.ip 1 [.agg [.str s.2.1.1]] 0 0, .ip 2 [.agg [ii s.2.1.2.fK, .sl 2 (List.map Q4 s.2.1.2.fL)]] 0 0], .undef, .undef, .ow 0 0 4 (List.length x.1), ii s.2.2, ii u.2.1]) (fun x => [.hol 0 4 (List.map Q1 x.1) (Int.toNat u.1) 3 (.ow 1 0 2 (List.length x.2)), .own 0 2 (List.map Qb x.2)]) .ret (fun x => [.sl 4 (List.map Q1 s.1), .fn 210 [.ip 1 [.agg [.str s.2.1.1]] 0 0, .ip 2 [.agg [ii s.2.1.2.fK, .sl 2 (List.map Q4 s.2.1.2.fL)]] 0 0], .sl 4 (List.map Q1 x.1), ii x.2.1, .ow 0 0 4 (List.length x.2.2), ii s.2.2, ii u.2.1]) (fun x => [.own 0 4 (List.map Q1 x.2.2)])
def ZF (x0 : List Q6) (x1 : (Str × gLin)) (x6 : (List Q6 × List gLin)) (x8 : Int) (x49 : Int) (x50 : Int) : Option ((List Q6 × List gLin) ⊕ ((List Q6) × Int × (List Q6))) :=
 if x50 < x49 then
 if 0 ≤ x8 ∧ x8 < (↑x6.fst.length : Int) then
 ix x0 x8 >>= fun v0 =>
 ix v0.fAt x50 >>= fun v1 =>
 YK v1 x1.fst x1.snd >>= fun v2 =>
 if 0 ≤ x50 ∧ x50 < (↑x6.snd.length : Int) then
 if x50.toNat < (List.map Qb x6.snd).length then
 some (List.set x6.snd x50.toNat v2.fst) >>= fun v3 =>
 if v2.snd != 0 then
 if x6.snd.length = (List.map Qb v3).length then
 x6.fst[x8.toNat]? >>= fun v4 =>
 some (List.set x6.fst x8.toNat (Q6.mk v4.fo v4.fH v3)) >>= fun v5 =>
 some (.inr ([], v2.snd, v5))
 else none
 else
 ZF x0 x1 (x6.fst, v3) x8 x49 (wr (x50 + 1))
 else none
 else none
 else none
 else
 some (.inl x6)
 partial_fixpoint
theorem DG (x0 : List Q6) (x1 : (Str × gLin)) (x6 : (List Q6 × List gLin)) (x8 : Int) (x13 : Int) (x14 : Int) (x49 : Int) (x50 : Int) (o : (List Q6 × List gLin) ⊕ ((List Q6) × Int × (List Q6))) (h : ZF x0 x1 x6 x8 x49 x50 = some o) : LO 151 11 79 [0, 1, 6, 8, 13, 14, 49, 50] [.sl 4 (List.map Q1 x0), .fn 210 [.ip 1 [.agg [.str x1.1]] 0 0, .ip 2 [.agg [ii x1.2.fK, .sl 2 (List.map Q4 x1.2.fL)]] 0 0], .ow 0 0 4 (List.length x6.1), ii x8, ii x13, ii x14, ii x49, ii x50] [.hol 0 4 (List.map Q1 x6.1) (Int.toNat x8) 3 (.ow 1 0 2 (List.length x6.2)), .own 0 2 (List.map Qb x6.2)] [0, 1, 4, 5, 6, 13, 14] (ZD (x0, x1, x13) (x8, x14, x49) o) :=
 ZF.partial_correctness x0 x1 x8 x49 (fun x6 x50 o => ∀ (x13 : Int) (x14 : Int), LO 151 11 79 [0, 1, 6, 8, 13, 14, 49, 50] [.sl 4 (List.map Q1 x0), .fn 210 [.ip 1 [.agg [.str x1.1]] 0 0, .ip 2 [.agg [ii x1.2.fK, .sl 2 (List.map Q4 x1.2.fL)]] 0 0], .ow 0 0 4 (List.length x6.1), ii x8, ii x13, ii x14, ii x49, ii x50] [.hol 0 4 (List.map Q1 x6.1) (Int.toNat x8) 3 (.ow 1 0 2 (List.length x6.2)), .own 0 2 (List.map Qb x6.2)] [0, 1, 4, 5, 6, 13, 14] (ZD (x0, x1, x13) (x8, x14, x49) o))
 (fun ZF OE x6 x50 o h x13 x14 =>
 Lp2 (hs := [(51, .split), (56, .s), (58, .s), (63, .e Q1), (67, .e Qb), (69, .c Qx), (72, .s), (1000072, .n Qb 72 (some .s)), (74, .split), (75, .fl Q1 6 none)]) (kb := [kk 6, { slot := 6, path := [0] }]) (kbx := [{ slot := 4, fz := true }, kk 6, { slot := 6, path := [0] }]) ((kIfD (p := x50 < x49) (kG (p := 0 ≤ x8 ∧ x8 < (↑x6.fst.length : Int)) (kT (rfl : x8.toNat = x8.toNat) (kIx (enc := Q1) (l := x0) (k := x8) fun v0 => (kIx (enc := Qb) (l := v0.fAt) (k := x50) fun v1 => (kC (sh := Qx) (J1 v1 x1.fst x1.snd) fun v2 => (kG (p := 0 ≤ x50 ∧ x50 < (↑x6.snd.length : Int)) (kG (p := x50.toNat < (List.map Qb x6.snd).length) (kBE (sh := Qb) (List.set x6.snd x50.toNat v2.fst) (mS (sh := Qb) x6.snd x50.toNat v2.fst) fun v3 ev3 => (kIf (c := v2.snd != 0) (kG (p := x6.snd.length = (List.map Qb v3).length) (kOx (enc := Q1) (l := x6.fst) (k := x8.toNat) fun v4 => (kBE (sh := Q1) (List.set x6.fst x8.toNat (Q6.mk v4.fo v4.fH v3)) (mS (sh := Q1) x6.fst x8.toNat (Q6.mk v4.fo v4.fH v3)) fun v5 ev5 => (kX (alts := ZD (x0, x1, x13) (x8, x14, x49)) (.inr ([], v2.snd, v5)) (.next (.here _ rfl (.cons lr (.cons lr (.cons (LeV.nil 4) (.cons lr (.cons (LeV.owl (by simp [ev5, ev3] : x6.fst.length = List.length v5)) (.cons lr (.cons lr .nil))))))) (.refl _)))))))
 (kM (alts := ZD (x0, x1, x13) (x8, x14, x49)) (.cons lr (.cons lr (.cons lr (.cons lr (.cons lr (.cons lr (.cons lr (.cons lr .nil)))))))) (.cons (LeB.hol (0 : Nat) (4 : Nat) (List.map Q1 x6.fst) x8.toNat (3 : Nat) (LeV.owl (by simp [ev3] : x6.snd.length = List.length v3))) (.cons (LeB.refl (Box.own (0 : Nat) (2 : Nat) (List.map Qb v3))) .nil)) (fun y hy => OE (x6.fst, v3) (wr (x50 + 1)) y hy x13 x14)))))))))))
 (kX (alts := ZD (x0, x1, x13) (x8, x14, x49)) (.inl x6) (.here _ rfl (.refl _) (.refl _)))) h)) x6 x50 o h x13 x14
def Zp (s : ((List Q6) × (Str × gLin))) (u : Int) (o : (List Q6) ⊕ ((List Q6) × Int)) : List Alt := lp o (.exit 0) (fun x => [.undef, .undef, .sl 4 (List.map Q1 x)]) (fun _ => []) .ret (fun x => [.sl 4 (List.map Q1 x.1), ii x.2, .undef]) (fun _ => [])
def ZN (x0 : List Q6) (x1 : (Str × gLin)) (x6 : List Q6) (x13 : Int) (x14 : Int) : Option ((List Q6) ⊕ ((List Q6) × Int)) :=
 if x14 < x13 then
 ix x0 x14 >>= fun v0 =>
 YK v0.fo x1.fst x1.snd >>= fun v1 =>
 if 0 ≤ x14 ∧ x14 < (↑x6.length : Int) then
 x6[x14.toNat]? >>= fun v2 =>
 some (List.set x6 x14.toNat (Q6.mk v1.fst v2.fH v2.fAt)) >>= fun v3 =>
 if v1.snd != 0 then
 if x6.length = (List.map Q1 v3).length then
 some (.inr ([], v1.snd))
 else none
 else
 ix x0 x14 >>= fun v4 =>
 Y6 v4.fAt >>= fun v5 =>
 if 0 ≤ x14 ∧ x14 < (↑x6.length : Int) then
 if x14.toNat < (List.map Q1 v3).length then
 ix x0 x14 >>= fun v6 =>
 some (List.length v6.fAt : Int) >>= fun v7 =>
 some (x14, x14, v7) >>= fun v8 =>
 ZF x0 x1 (v3, v5) x14 v7 0 >>= fun v9 => (match v9 with
 | (.inl v10) =>
 v10.fst[v8.fst.toNat]? >>= fun v11 =>
 some (List.set v10.fst v8.fst.toNat (Q6.mk v11.fo v11.fH v10.snd)) >>= fun v12 =>
 ZN x0 x1 v12 x13 (wr (v8.snd.fst + 1))
 | (.inr v13) =>
 some (.inr (v13.fst, v13.snd.fst)))
 else none
 else none
 else none
 else
 some (.inl x6)
 partial_fixpoint
theorem C4 (x0 x1 x6 x13 x14 o) (h : ZN x0 x1 x6 x13 x14 = some o) : LO 151 4 79 [0, 1, 6, 13, 14] [.sl 4 (List.map Q1 x0), .fn 210 [.ip 1 [.agg [.str x1.1]] 0 0, .ip 2 [.agg [ii x1.2.fK, .sl 2 (List.map Q4 x1.2.fL)]] 0 0], .ow 0 0 4 (List.length x6), ii x13, ii x14] [.own 0 4 (List.map Q1 x6)] [4, 5, 6] (Zp (x0, x1) x13 o) :=
 ZN.partial_correctness x0 x1 x13 (fun x6 x14 o => LO 151 4 79 [0, 1, 6, 13, 14] [.sl 4 (List.map Q1 x0), .fn 210 [.ip 1 [.agg [.str x1.1]] 0 0, .ip 2 [.agg [ii x1.2.fK, .sl 2 (List.map Q4 x1.2.fL)]] 0 0], .ow 0 0 4 (List.length x6), ii x13, ii x14] [.own 0 4 (List.map Q1 x6)] [4, 5, 6] (Zp (x0, x1) x13 o))
 (fun ZN OF x6 x14 o h  =>
 Lp2 (hs := [(15, .split), (23, .e Q1), (26, .c Qx), (29, .s), (1000030, .n Q1 30 (some (.e Q1))), (32, .split), (38, .e Q1), (41, .h [] K5 K0), (42, .s), (1000043, .s), (46, .e Q1), (49, .n eI 49 none), (77, .fl Q1 6 none), (3000012, .l [] [0, 1, 6, 8, 13, 14, 49, 50] [kk 6, { slot := 6, path := [0] }] [0, 1, 4, 5, 6, 13, 14] [{ slot := 4, fz := true }, kk 6, { slot := 6, path := [0] }] (ZD (x0, x1, x13)))]) (kb := [{ slot := 6, own := 4 }]) (kbx := [{ slot := 4, fz := true }, { slot := 6, fz := true }]) ((kIfD (p := x14 < x13) (kIx (enc := Q1) (l := x0) (k := x14) fun v0 => (kC (sh := Qx) (J1 v0.fo x1.fst x1.snd) fun v1 => (kG (p := 0 ≤ x14 ∧ x14 < (↑x6.length : Int)) (kOx (enc := Q1) (l := x6) (k := x14.toNat) fun v2 => (kBE (sh := Q1) (List.set x6 x14.toNat (Q6.mk v1.fst v2.fH v2.fAt)) (mS (sh := Q1) x6 x14.toNat (Q6.mk v1.fst v2.fH v2.fAt)) fun v3 ev3 => (kIf (c := v1.snd != 0) (kG (p := x6.length = (List.map Q1 v3).length) (kX (alts := Zp (x0, x1) x13) (.inr ([], v1.snd)) (.next (.here _ rfl (.cons (LeV.nil 4) (.cons lr (.cons (LeV.undef (AV.sl (4 : Nat) (List.map Q1 v3))) .nil))) (.refl _)))))
 (kIx (enc := Q1) (l := x0) (k := x14) fun v4 => (kH (sh := K5) (bt := K0) (GH v4.fAt) fun v5 => (kG (p := 0 ≤ x14 ∧ x14 < (↑x6.length : Int)) (kG (p := x14.toNat < (List.map Q1 v3).length) (kIx (enc := Q1) (l := x0) (k := x14) fun v6 => (kN _ (mLen (sh := Qb) v6.fAt) fun v7 => (kL2 (x14, x14, v7) (hL := (fun y hy => Xt.le (.cons lr (.cons lr (.cons (LeV.owl (by simp [ev3] : x6.length = List.length v3)) (.cons lr (.cons lr (.cons lr (.cons lr (.cons lr .nil)))))))) (.refl _) (DG x0 x1 (v3, v5) x14 x13 x14 v7 0 y hy))) (hA := fun v8 v10 => (kT (nM (sh := Qb) v10.snd) (kOx (enc := Q1) (l := v10.fst) (k := v8.fst.toNat) fun v11 => (kBE (sh := Q1) (List.set v10.fst v8.fst.toNat (Q6.mk v11.fo v11.fH v10.snd)) (mS (sh := Q1) v10.fst v8.fst.toNat (Q6.mk v11.fo v11.fH v10.snd)) fun v12 ev12 => (kM (alts := Zp (x0, x1) x13) (.cons lr (.cons lr (.cons (LeV.owl (by simp [ev12, ev3] : v10.fst.length = List.length v12)) (.cons lr (.cons lr .nil))))) (.refl _) (OF v12 (wr (v8.snd.fst + 1))))))))
 (hB := fun v8 v13 => (kT (nM (sh := Q1) v13.snd.snd) (kX (alts := Zp (x0, x1) x13) (.inr (v13.fst, v13.snd.fst)) (.next (.here _ rfl (.cons lr (.cons lr (.cons (LeV.undef (AV.sl (4 : Nat) (List.map Q1 v13.snd.snd))) .nil))) (.refl _)))))))))))))))))))
 (kT (nM (sh := Q1) x6) (kX (alts := Zp (x0, x1) x13) (.inl x6) (.here _ rfl (.refl _) (.refl _))))) h)) x6 x14 o h
def Kg (x0 : List Q6) (x1 : (Str × gLin)) : Option (List Q6 × Int) :=
 XM x0 >>= fun v0 =>
 some (List.length x0 : Int) >>= fun v1 =>
 some v1 >>= fun v2 =>
 ZN x0 x1 v0 v1 0 >>= fun v3 => (match v3 with
 | (.inl v4) =>
 some (v4, (0 : Int))
 | (.inr v5) =>
 some (v5.fst, v5.snd))
theorem Ug (x0 x1 r) (h : Kg x0 x1 = some r) : PU 151 [KA x0, .fn 210 [.ip 1 [.agg [.str x1.1]] 0 0, .ip 2 [.agg [ii x1.2.fK, .sl 2 (List.map Q4 x1.2.fL)]] 0 0]] (Xv r) :=
 Pu2 (hs := [(11, .h [] Yw Yu), (13, .n eI 13 none), (3000005, .l [] [0, 1, 6, 13, 14] [{ slot := 6, own := 4 }] [4, 5, 6] [{ slot := 4, fz := true }, { slot := 6, fz := true }] (Zp (x0, x1)))]) ((kH (sh := Yw) (bt := Yu) (UM x0) fun v0 => (kN _ (mLen (sh := Q1) x0) fun v1 => (kL2 v1 (hL := (C4 x0 x1 v0 v1 0)) (hA := fun v2 v4 => (kEr (enc := Xv) (v4, (0 : Int))))
 (hB := fun v2 v5 => (kEr (enc := Xv) (v5.fst, v5.snd)))))) h)
def X9 (s : ((Str × gLin) × Q3)) (u : Int) (o : (Q3 × Q3) ⊕ (Q3 × Int × Q3)) : List Alt := lp o (.exit 0) (fun _ => [.ptr 0 0 0, .undef, .ptr 1 0 0]) (fun x => [.cells 0 (Qa x.1).cells, .cells 0 [ii x.2.fOp, .str x.2.fb, ii x.2.fy.fN, ii x.2.fy.fD, ii x.2.fa.fv, ii x.2.fa.fx, ii x.2.fa.fB, ii x.2.fa.fw, ii x.2.fa.fC, ii x.2.fo.fK, .sl 2 (List.map Q4 x.2.fo.fL), .sl 4 (List.map Q1 x.2.fi), .ow 2 0 13 (List.length x.2.ff)], .own 0 13 (List.map Qd x.2.ff)]) .ret (fun x => [.ptr 0 0 0, ii x.2.1, .ptr 1 0 0]) (fun x => [.cells 0 (Qa x.1).cells, .cells 0 [ii x.2.2.fOp, .str x.2.2.fb, ii x.2.2.fy.fN, ii x.2.2.fy.fD, ii x.2.2.fa.fv, ii x.2.2.fa.fx, ii x.2.2.fa.fB, ii x.2.2.fa.fw, ii x.2.2.fa.fC, ii x.2.2.fo.fK, .sl 2 (List.map Q4 x.2.2.fo.fL), .sl 4 (List.map Q1 x.2.2.fi), .ow 2 0 13 (List.length x.2.2.ff)], .own 0 13 (List.map Qd x.2.2.ff)])
mutual
def Xi (x0 : Q3) (x1 : (Str × gLin)) : Option (Q3 × Int) :=
 YK x0.fo x1.fst x1.snd >>= fun v0 =>
 if v0.snd != 0 then
 some ((Qv.mk (0 : Int) [] (gVal.mk (0 : Int) (0 : Int)) (Qg.mk (0 : Int) (0 : Int) (0 : Int) (0 : Int) (0 : Int)) (gLin.mk (0 : Int) []) [] [] : Q3)) >>= fun v1 =>
 some (v1, v0.snd)
 else
 Kg x0.fi x1 >>= fun v2 =>
 if v2.snd != 0 then
 some ((Qv.mk (0 : Int) [] (gVal.mk (0 : Int) (0 : Int)) (Qg.mk (0 : Int) (0 : Int) (0 : Int) (0 : Int) (0 : Int)) (gLin.mk (0 : Int) []) [] [] : Q3)) >>= fun v3 =>
 some (v3, v2.snd)
 else
 XX x0.ff >>= fun v4 =>
 some (List.length x0.ff : Int) >>= fun v5 =>
 some v5 >>= fun v6 =>
 Xb x1 x0 (Qv.mk (0 : Int) [] (gVal.mk (0 : Int) (0 : Int)) (Qg.mk (0 : Int) (0 : Int) (0 : Int) (0 : Int) (0 : Int)) (gLin.mk (0 : Int) []) [] [] : Q3) (Qv.mk x0.fOp x0.fb x0.fy x0.fa v0.fst v2.fst v4 : Q3) v5 (0 : Int) >>= fun v7 => (match v7 with
 | (.inl v8) =>
 some (v8.snd, (0 : Int))
 | (.inr v9) =>
 some (v9.fst, v9.snd.fst))
 partial_fixpoint
def Xb (x1 : (Str × gLin)) (x2 : Q3) (x4 : Q3) (x6 : Q3) (x40 : Int) (x41 : Int) : Option ((Q3 × Q3) ⊕ (Q3 × Int × Q3)) :=
 if x41 < x40 then
 Option.map Qf.f (ix x2.ff x41) >>= fun v0 =>
 Xi v0 x1 >>= fun v1 =>
 if 0 ≤ x41 ∧ x41 < (↑x6.ff.length : Int) then
 if x41.toNat < (List.map Qd x6.ff).length then
 some (List.set x6.ff x41.toNat (Qf.mk v1.fst)) >>= fun v2 =>
 if v1.snd != 0 then
 some ((Qv.mk (0 : Int) [] (gVal.mk (0 : Int) (0 : Int)) (Qg.mk (0 : Int) (0 : Int) (0 : Int) (0 : Int) (0 : Int)) (gLin.mk (0 : Int) []) [] [] : Q3)) >>= fun v3 =>
 some (.inr (v3, v1.snd, (Qv.mk x6.fOp x6.fb x6.fy x6.fa x6.fo x6.fi v2 : Q3)))
 else
 Xb x1 x2 x4 (Qv.mk x6.fOp x6.fb x6.fy x6.fa x6.fo x6.fi v2 : Q3) x40 (wr (x41 + 1))
 else none
 else none
 else
 some (.inl (x4, x6))
 partial_fixpoint
end
theorem WE (x1 : (Str × gLin)) : (∀ (x0 : Q3) (r : (Q3 × Int)), Xi x0 x1 = some r → PU 152 [Qa x0, .fn 210 [.ip 1 [.agg [.str x1.1]] 0 0, .ip 2 [.agg [ii x1.2.fK, .sl 2 (List.map Q4 x1.2.fL)]] 0 0]] (Zt r)) ∧ (∀ (x2 : Q3) (x4 : Q3) (x6 : Q3) (x40 : Int) (x41 : Int) (o : (Q3 × Q3) ⊕ (Q3 × Int × Q3)), Xb x1 x2 x4 x6 x40 x41 = some o → LO 152 11 64 [1, 2, 4, 6, 40, 41] [.fn 210 [.ip 1 [.agg [.str x1.1]] 0 0, .ip 2 [.agg [ii x1.2.fK, .sl 2 (List.map Q4 x1.2.fL)]] 0 0], .ptr 0 0 0, .ptr 1 0 0, .ptr 2 0 0, ii x40, ii x41] [.cells 0 (Qa x2).cells, .cells 0 (Qa x4).cells, .cells 0 [ii x6.fOp, .str x6.fb, ii x6.fy.fN, ii x6.fy.fD, ii x6.fa.fv, ii x6.fa.fx, ii x6.fa.fB, ii x6.fa.fw, ii x6.fa.fC, ii x6.fo.fK, .sl 2 (List.map Q4 x6.fo.fL), .sl 4 (List.map Q1 x6.fi), .ow 3 0 13 (List.length x6.ff)], .own 0 13 (List.map Qd x6.ff)] [4, 5, 6] (X9 (x1, x2) x40 o)) :=
 Xi.mutual_partial_correctness x1 _ _
 (fun Xb OB x0 r h  =>
 Pu2 (hs := [(14, .c Qx), (19, .split), (20, .n Qa 20 none), (26, .c Xv), (31, .split), (32, .n Qa 32 none), (36, .h [] YM YI), (40, .n eI 40 none), (3000012, .l [] [1, 2, 4, 6, 40, 41] [kk 2, kk 4, kk 6, { slot := 6, path := [12], own := 13 }] [4, 5, 6] [kk 4, kk 6, { slot := 6, path := [12], own := 13 }] (X9 (x1, x0)))]) ((kC (sh := Qx) (J1 x0.fo x1.fst x1.snd) fun v0 => (kIf (c := v0.snd != 0) (kW (sh := Qa) (Qv.mk (0 : Int) [] (gVal.mk (0 : Int) (0 : Int)) (Qg.mk (0 : Int) (0 : Int) (0 : Int) (0 : Int) (0 : Int)) (gLin.mk (0 : Int) []) [] [] : Q3) (LeV.agg (.cons lr (.cons lr (.cons lr (.cons lr (.cons lr (.cons lr (.cons lr (.cons lr (.cons lr (.cons lr (.cons (LeV.nil 2) (.cons (LeV.nil 4) (.cons (LeV.nil 13) .nil)))))))))))))) fun v1 => (kEr (enc := Zt) (v1, v0.snd)))
 (kC (sh := Xv) (Ug x0.fi x1) fun v2 => (kIf (c := v2.snd != 0) (kW (sh := Qa) (Qv.mk (0 : Int) [] (gVal.mk (0 : Int) (0 : Int)) (Qg.mk (0 : Int) (0 : Int) (0 : Int) (0 : Int) (0 : Int)) (gLin.mk (0 : Int) []) [] [] : Q3) (LeV.agg (.cons lr (.cons lr (.cons lr (.cons lr (.cons lr (.cons lr (.cons lr (.cons lr (.cons lr (.cons lr (.cons (LeV.nil 2) (.cons (LeV.nil 4) (.cons (LeV.nil 13) .nil)))))))))))))) fun v3 => (kEr (enc := Zt) (v3, v2.snd)))
 (kH (sh := YM) (bt := YI) (Gs x0.ff) fun v4 => (kN _ (mLen (sh := Qd) x0.ff) fun v5 => (kL2 v5 (hL := (fun y hy => Xt.le (.cons lr (.cons lr (.cons lr (.cons lr (.cons lr (.cons lr .nil)))))) (.cons (LeB.refl (Box.cells (0 : Nat) [ii x0.fOp, AV.str x0.fb, ii x0.fy.fN, ii x0.fy.fD, ii x0.fa.fv, ii x0.fa.fx, ii x0.fa.fB, ii x0.fa.fw, ii x0.fa.fC, ii x0.fo.fK, AV.sl (2 : Nat) (List.map Q4 x0.fo.fL), AV.sl (4 : Nat) (List.map Q1 x0.fi), AV.sl (13 : Nat) (List.map Qd x0.ff)])) (.cons (LeB.cells (0 : Nat) (.cons lr (.cons lr (.cons lr (.cons lr (.cons lr (.cons lr (.cons lr (.cons lr (.cons lr (.cons lr (.cons (LeV.nil 2) (.cons (LeV.nil 4) (.cons (LeV.nil 13) .nil)))))))))))))) (.cons (LeB.refl (Box.cells (0 : Nat) [ii x0.fOp, AV.str x0.fb, ii x0.fy.fN, ii x0.fy.fD, ii x0.fa.fv, ii x0.fa.fx, ii x0.fa.fB, ii x0.fa.fw, ii x0.fa.fC, ii v0.fst.fK, AV.sl (2 : Nat) (List.map Q4 v0.fst.fL), AV.sl (4 : Nat) (List.map Q1 v2.fst), AV.ow (3 : Nat) (0 : Nat) (13 : Nat) v4.length])) (.cons (LeB.refl (Box.own (0 : Nat) (13 : Nat) (List.map Qd v4))) .nil)))) (OB x0 (Qv.mk (0 : Int) [] (gVal.mk (0 : Int) (0 : Int)) (Qg.mk (0 : Int) (0 : Int) (0 : Int) (0 : Int) (0 : Int)) (gLin.mk (0 : Int) []) [] [] : Q3) (Qv.mk x0.fOp x0.fb x0.fy x0.fa v0.fst v2.fst v4 : Q3) v5 (0 : Int) y hy))) (hA := fun v6 v8 => (kT (nM (sh := Qd) v8.snd.ff) (kEr (enc := Zt) (v8.snd, (0 : Int)))))
 (hB := fun v6 v9 => (kEr (enc := Zt) (v9.fst, v9.snd.fst)))))))))) h))
 (fun Xi Xb OA OB x2 x4 x6 x40 x41 o h  =>
 Lp2 (hs := [(42, .split), (51, .e Qa), (54, .c Zt), (57, .s), (1000057, .n Qd 57 (some .s)), (59, .split), (60, .n Qa 60 none)]) (kb := [kk 2, kk 4, kk 6, { slot := 6, path := [12], own := 13 }]) (kbx := [kk 4, kk 6, { slot := 6, path := [12], own := 13 }]) ((kIfD (p := x41 < x40) (kIxR (l := x2.ff) (k := x41) Ju fun v0 => (kC (sh := Zt) (OA v0) fun v1 => (kG (p := 0 ≤ x41 ∧ x41 < (↑x6.ff.length : Int)) (kG (p := x41.toNat < (List.map Qd x6.ff).length) (kBE (sh := Qd) (List.set x6.ff x41.toNat (Qf.mk v1.fst)) (mSR R8 x6.ff x41.toNat v1.fst) fun v2 ev2 => (kIf (c := v1.snd != 0) (kW (sh := Qa) (Qv.mk (0 : Int) [] (gVal.mk (0 : Int) (0 : Int)) (Qg.mk (0 : Int) (0 : Int) (0 : Int) (0 : Int) (0 : Int)) (gLin.mk (0 : Int) []) [] [] : Q3) (LeV.agg (.cons lr (.cons lr (.cons lr (.cons lr (.cons lr (.cons lr (.cons lr (.cons lr (.cons lr (.cons lr (.cons (LeV.nil 2) (.cons (LeV.nil 4) (.cons (LeV.nil 13) .nil)))))))))))))) fun v3 => (kX (alts := X9 (x1, x2) x40) (.inr (v3, v1.snd, (Qv.mk x6.fOp x6.fb x6.fy x6.fa x6.fo x6.fi v2 : Q3))) (.next (.here _ rfl (.cons lr (.cons lr (.cons lr .nil))) (.cons (LeB.refl (Box.cells (0 : Nat) [ii v3.fOp, AV.str v3.fb, ii v3.fy.fN, ii v3.fy.fD, ii v3.fa.fv, ii v3.fa.fx, ii v3.fa.fB, ii v3.fa.fw, ii v3.fa.fC, ii v3.fo.fK, AV.sl (2 : Nat) (List.map Q4 v3.fo.fL), AV.sl (4 : Nat) (List.map Q1 v3.fi), AV.sl (13 : Nat) (List.map Qd v3.ff)])) (.cons (LeB.cells (0 : Nat) (.cons lr (.cons lr (.cons lr (.cons lr (.cons lr (.cons lr (.cons lr (.cons lr (.cons lr (.cons lr (.cons lr (.cons lr (.cons (LeV.owl (by simp [ev2] : x6.ff.length = List.length v2)) .nil)))))))))))))) (.cons (LeB.refl (Box.own (0 : Nat) (13 : Nat) (List.map Qd v2))) .nil)))))))
 (kM (alts := X9 (x1, x2) x40) (.cons lr (.cons lr (.cons lr (.cons lr (.cons lr (.cons lr .nil)))))) (.cons (LeB.refl (Box.cells (0 : Nat) [ii x2.fOp, AV.str x2.fb, ii x2.fy.fN, ii x2.fy.fD, ii x2.fa.fv, ii x2.fa.fx, ii x2.fa.fB, ii x2.fa.fw, ii x2.fa.fC, ii x2.fo.fK, AV.sl (2 : Nat) (List.map Q4 x2.fo.fL), AV.sl (4 : Nat) (List.map Q1 x2.fi), AV.sl (13 : Nat) (List.map Qd x2.ff)])) (.cons (LeB.refl (Box.cells (0 : Nat) [ii x4.fOp, AV.str x4.fb, ii x4.fy.fN, ii x4.fy.fD, ii x4.fa.fv, ii x4.fa.fx, ii x4.fa.fB, ii x4.fa.fw, ii x4.fa.fC, ii x4.fo.fK, AV.sl (2 : Nat) (List.map Q4 x4.fo.fL), AV.sl (4 : Nat) (List.map Q1 x4.fi), AV.sl (13 : Nat) (List.map Qd x4.ff)])) (.cons (LeB.cells (0 : Nat) (.cons lr (.cons lr (.cons lr (.cons lr (.cons lr (.cons lr (.cons lr (.cons lr (.cons lr (.cons lr (.cons lr (.cons lr (.cons (LeV.owl (by simp [ev2] : x6.ff.length = List.length v2)) .nil)))))))))))))) (.cons (LeB.refl (Box.own (0 : Nat) (13 : Nat) (List.map Qd v2))) .nil)))) (OB x2 x4 (Qv.mk x6.fOp x6.fb x6.fy x6.fa x6.fo x6.fi v2 : Q3) x40 (wr (x41 + 1))))))))))
 (kX (alts := X9 (x1, x2) x40) (.inl (x4, x6)) (.here _ rfl (.refl _) (.refl _)))) h))
theorem Nh (x0 x1 r) (h : Xi x0 x1 = some r) : PU 152 [Qa x0, .fn 210 [.ip 1 [.agg [.str x1.1]] 0 0, .ip 2 [.agg [ii x1.2.fK, .sl 2 (List.map Q4 x1.2.fL)]] 0 0]] (Zt r) := (WE x1).1 x0 r h
def QO (s : ((List Q7) × (Str × gLin))) (u : Int) (o : (List Q7) ⊕ ((List Q7) × Int)) : List Alt := lp o (.exit 0) (fun x => [.undef, .undef, .sl 20 (List.map Q9 x)]) (fun _ => []) .ret (fun x => [.sl 20 (List.map Q9 x.1), ii x.2, .undef]) (fun _ => [])
def Yd (s : ((List Q7) × (Str × gLin) × Int)) (u : (Int × Int)) (o : List Q7) : List Alt := l1 o .normal (fun x => [.sl 20 (List.map Q9 (s.1)), .fn 210 [.ip 1 [.agg [.str ((s.2.1).1)]] 0 0, .ip 2 [.agg [ii ((s.2.1).2).fK, .sl 2 (List.map Q4 ((s.2.1).2).fL)]] 0 0], .fn 113 [], .ow 0 0 20 (List.length x), ii (u.1), ii (s.2.2), ii (u.2)]) (fun x => [.own 0 20 (List.map Q9 x)])
mutual
def Zr (x0 : List Q7) (x1 : (Str × gLin)) : Option (List Q7 × Int) :=
 XY x0 >>= fun v0 =>
 some (List.length x0 : Int) >>= fun v1 =>
 some v1 >>= fun v2 =>
 Zx x0 x1 v0 v1 0 >>= fun v3 => (match v3 with
 | (.inl v4) =>
 some (v4, (0 : Int))
 | (.inr v5) =>
 some (v5.fst, v5.snd))
 partial_fixpoint
def Zx (x0 : List Q7) (x1 : (Str × gLin)) (x8 : List Q7) (x14 : Int) (x15 : Int) : Option ((List Q7) ⊕ ((List Q7) × Int)) :=
 if x15 < x14 then
 some (x15, x15) >>= fun v0 =>
 (Option.map Q7.f (ix x0 x15) >>= fun v2 =>
 if v2.fOp == 1 then
 Option.map Q7.f (ix x0 x15) >>= fun v3 =>
 Uz v3.fb >>= fun v4 =>
 if 0 ≤ x15 ∧ x15 < (↑x8.length : Int) then
 Option.map Q7.f x8[x15.toNat]? >>= fun v5 =>
 some (List.set x8 x15.toNat (Q7.mk (QC.mk v5.fOp v4 v5.fE v5.fG v5.fF v5.fi v5.fq v5.fd : Qe))) >>= fun v6 =>
 some v6
 else none
 else
 some x8) >>= fun v7 =>
 Option.map Q7.f (ix x0 v0.fst) >>= fun v8 =>
 Kg v8.fi x1 >>= fun v9 =>
 if 0 ≤ v0.fst ∧ v0.fst < (↑(List.length v7) : Int) then
 Option.map Q7.f v7[v0.fst.toNat]? >>= fun v10 =>
 some (List.set v7 v0.fst.toNat (Q7.mk (QC.mk v10.fOp v10.fb v10.fE v10.fG v10.fF v9.fst v10.fq v10.fd : Qe))) >>= fun v11 =>
 if v9.snd != 0 then
 if List.length v7 = (List.map Q9 v11).length then
 some (.inr ([], v9.snd))
 else none
 else
 Option.map Q7.f (ix x0 v0.fst) >>= fun v12 =>
 Xi v12.fq x1 >>= fun v13 =>
 if 0 ≤ v0.fst ∧ v0.fst < (↑(List.length v7) : Int) then
 Option.map Q7.f v11[v0.fst.toNat]? >>= fun v14 =>
 some (List.set v11 v0.fst.toNat (Q7.mk (QC.mk v14.fOp v14.fb v14.fE v14.fG v14.fF v14.fi v13.fst v14.fd : Qe))) >>= fun v15 =>
 if v13.snd != 0 then
 if List.length v7 = (List.map Q9 v15).length then
 some (.inr ([], v13.snd))
 else none
 else
 Option.map Q7.f (ix x0 v0.fst) >>= fun v16 =>
 Zr v16.fd x1 >>= fun v17 =>
 if 0 ≤ v0.fst ∧ v0.fst < (↑(List.length v7) : Int) then
 Option.map Q7.f v15[v0.fst.toNat]? >>= fun v18 =>
 some (List.set v15 v0.fst.toNat (Q7.mk (QC.mk v18.fOp v18.fb v18.fE v18.fG v18.fF v18.fi v18.fq v17.fst : Qe))) >>= fun v19 =>
 if v17.snd != 0 then
 if List.length v7 = (List.map Q9 v19).length then
 some (.inr ([], v17.snd))
 else none
 else
 Zx x0 x1 v19 x14 (wr (v0.snd + 1))
 else none
 else none
 else none
 else
 some (.inl x8)
 partial_fixpoint
end
theorem DD (x1 : (Str × gLin)) : (∀ (x0 : List Q7) (r : (List Q7 × Int)), Zr x0 x1 = some r → PU 110 [ZG x0, .fn 210 [.ip 1 [.agg [.str x1.1]] 0 0, .ip 2 [.agg [ii x1.2.fK, .sl 2 (List.map Q4 x1.2.fL)]] 0 0], .fn 113 []] (Zd r)) ∧ (∀ (x0 : List Q7) (x8 : List Q7) (x14 : Int) (x15 : Int) (o : (List Q7) ⊕ ((List Q7) × Int)), Zx x0 x1 x8 x14 x15 = some o → LO 110 4 89 [0, 1, 2, 8, 14, 15] [.sl 20 (List.map Q9 x0), .fn 210 [.ip 1 [.agg [.str x1.1]] 0 0, .ip 2 [.agg [ii x1.2.fK, .sl 2 (List.map Q4 x1.2.fL)]] 0 0], .fn 113 [], .ow 0 0 20 (List.length x8), ii x14, ii x15] [.own 0 20 (List.map Q9 x8)] [6, 7, 8] (QO (x0, x1) x14 o)) :=
 Zr.mutual_partial_correctness x1 _ _
 (fun Zx OJ x0 r h  =>
 Pu2 (hs := [(12, .h [] YN YJ), (14, .n eI 14 none), (3000005, .l [] [0, 1, 2, 8, 14, 15] [{ slot := 8, own := 20 }] [6, 7, 8] [{ slot := 6, fz := true }, { slot := 8, fz := true }] (QO (x0, x1)))]) ((kH (sh := YN) (bt := YJ) (Gt x0) fun v0 => (kN _ (mLen (sh := Q9) x0) fun v1 => (kL2 v1 (hL := (OJ x0 v0 v1 0)) (hA := fun v2 v4 => (kEr (enc := Zd) (v4, (0 : Int))))
 (hB := fun v2 v5 => (kEr (enc := Zd) (v5.fst, v5.snd)))))) h))
 (fun Zr Zx OI OJ x0 x8 x14 x15 o h  =>
 Lp2 (hs := [(16, .split), (20, .e Qm), (23, .split), (29, .e Qm), (32, .c eS), (33, .s), (1000034, .n Q9 34 (some (.e Qm))), (40, .e Qm), (44, .c Xv), (47, .s), (1000048, .n Q9 48 (some (.e Qm))), (50, .split), (57, .e Qm), (61, .c Zt), (64, .s), (1000065, .n Q9 65 (some (.e Qm))), (67, .split), (74, .e Qm), (79, .c Zd), (82, .s), (1000083, .n Q9 83 (some (.e Qm))), (85, .split), (6000008, .l [] [] [] [0, 1, 2, 8, 10, 14, 15] [{ slot := 8, own := 20 }] (Yd (x0, x1, x14)))]) (kb := [{ slot := 8, own := 20 }]) (kbx := [{ slot := 6, fz := true }, { slot := 8, fz := true }]) ((kIfD (p := x15 < x14) (kJ1 (id := 6000008) (x15, x15) (fun v0 ev0 v1 => (kIxR (l := x0) (k := x15) Zy fun v2 => (kIf (c := v2.fOp == 1) (kIxR (l := x0) (k := x15) Zy fun v3 => (kC (sh := eS) (Nn v3.fb) fun v4 => (kG (p := 0 ≤ x15 ∧ x15 < (↑x8.length : Int)) (kOxR (l := x8) (k := x15.toNat) Zy fun v5 => (kBE (sh := Q9) (List.set x8 x15.toNat (Q7.mk (QC.mk v5.fOp v4 v5.fE v5.fG v5.fF v5.fi v5.fq v5.fd : Qe))) (mSR Jh x8 x15.toNat (QC.mk v5.fOp v4 v5.fE v5.fG v5.fF v5.fi v5.fq v5.fd : Qe)) fun v6 ev6 => (kXj (alts := Yd (x0, x1, x14)) ev0 v6 (.here _ rfl (.cons lr (.cons lr (.cons lr (.cons (LeV.owl (by simp [ev6] : x8.length = List.length v6)) (.cons lr (.cons lr (.cons lr .nil))))))) (.refl _))))))))
 (kXj (alts := Yd (x0, x1, x14)) ev0 x8 (.here _ rfl (.refl _) (.refl _))))))
 (fun v0 v7 => (kIxR (l := x0) (k := v0.fst) Zy fun v8 => (kC (sh := Xv) (Ug v8.fi x1) fun v9 => (kG (p := 0 ≤ v0.fst ∧ v0.fst < (↑(List.length v7) : Int)) (kOxR (l := v7) (k := v0.fst.toNat) Zy fun v10 => (kBE (sh := Q9) (List.set v7 v0.fst.toNat (Q7.mk (QC.mk v10.fOp v10.fb v10.fE v10.fG v10.fF v9.fst v10.fq v10.fd : Qe))) (mSR Jh v7 v0.fst.toNat (QC.mk v10.fOp v10.fb v10.fE v10.fG v10.fF v9.fst v10.fq v10.fd : Qe)) fun v11 ev11 => (kIf (c := v9.snd != 0) (kG (p := List.length v7 = (List.map Q9 v11).length) (kX (alts := QO (x0, x1) x14) (.inr ([], v9.snd)) (.next (.here _ rfl (.cons (LeV.nil 20) (.cons lr (.cons (LeV.undef (AV.sl (20 : Nat) (List.map Q9 v11))) .nil))) (.refl _)))))
 (kIxR (l := x0) (k := v0.fst) Zy fun v12 => (kC (sh := Zt) (Nh v12.fq x1) fun v13 => (kG (p := 0 ≤ v0.fst ∧ v0.fst < (↑(List.length v7) : Int)) (kOxR (l := v11) (k := v0.fst.toNat) Zy fun v14 => (kBE (sh := Q9) (List.set v11 v0.fst.toNat (Q7.mk (QC.mk v14.fOp v14.fb v14.fE v14.fG v14.fF v14.fi v13.fst v14.fd : Qe))) (mSR Jh v11 v0.fst.toNat (QC.mk v14.fOp v14.fb v14.fE v14.fG v14.fF v14.fi v13.fst v14.fd : Qe)) fun v15 ev15 => (kIf (c := v13.snd != 0) (kG (p := List.length v7 = (List.map Q9 v15).length) (kX (alts := QO (x0, x1) x14) (.inr ([], v13.snd)) (.next (.here _ rfl (.cons (LeV.nil 20) (.cons lr (.cons (LeV.undef (AV.sl (20 : Nat) (List.map Q9 v15))) .nil))) (.refl _)))))
 (kIxR (l := x0) (k := v0.fst) Zy fun v16 => (kC (sh := Zd) (OI v16.fd) fun v17 => (kG (p := 0 ≤ v0.fst ∧ v0.fst < (↑(List.length v7) : Int)) (kOxR (l := v15) (k := v0.fst.toNat) Zy fun v18 => (kBE (sh := Q9) (List.set v15 v0.fst.toNat (Q7.mk (QC.mk v18.fOp v18.fb v18.fE v18.fG v18.fF v18.fi v18.fq v17.fst : Qe))) (mSR Jh v15 v0.fst.toNat (QC.mk v18.fOp v18.fb v18.fE v18.fG v18.fF v18.fi v18.fq v17.fst : Qe)) fun v19 ev19 => (kIf (c := v17.snd != 0) (kG (p := List.length v7 = (List.map Q9 v19).length) (kX (alts := QO (x0, x1) x14) (.inr ([], v17.snd)) (.next (.here _ rfl (.cons (LeV.nil 20) (.cons lr (.cons (LeV.undef (AV.sl (20 : Nat) (List.map Q9 v19))) .nil))) (.refl _)))))
 (kM (alts := QO (x0, x1) x14) (.cons lr (.cons lr (.cons lr (.cons (LeV.owl (by simp [ev19, ev15, ev11] : List.length v7 = List.length v19)) (.cons lr (.cons lr .nil)))))) (.refl _) (OJ x0 v19 x14 (wr (v0.snd + 1))))))))))))))))))))))))
 (kT (nM (sh := Q9) x8) (kX (alts := QO (x0, x1) x14) (.inl x8) (.here _ rfl (.refl _) (.refl _))))) h))
theorem C6 (x0 x1 r) (h : Zr x0 x1 = some r) : PU 110 [ZG x0, .fn 210 [.ip 1 [.agg [.str x1.1]] 0 0, .ip 2 [.agg [ii x1.2.fK, .sl 2 (List.map Q4 x1.2.fL)]] 0 0], .fn 113 []] (Zd r) := (DD x1).1 x0 r h
def Vo (x0 : List Q7) (x1 : Str) (x2 : gLin) : Option (List Q7 × Int) :=
 Zr x0 (x1, x2) >>= fun v0 =>
 some (v0.fst, v0.snd)
theorem NZ (x0 x1 x2 r) (h : Vo x0 x1 x2 = some r) : PU 176 [ZG x0, eS x1, Qb x2] (Zd r) :=
 Pu2 (hs := [(9, .z [{ slot := 4, fz := true }, { slot := 5, fz := true }] none), (10, .c Zd)]) ((kC (sh := Zd) (C6 x0 (x1, x2)) fun v0 => (kEr (enc := Zd) (v0.fst, v0.snd))) h)
def NG (x0 : Int) : Option gLin :=
 some ((gLin.mk x0 [])) >>= fun v0 =>
 some v0
theorem Ss (x0 r) (h : NG x0 = some r) : PU 177 [eI x0] (Qb r) :=
 Pu2 (hs := [(4, .n Qb 4 none)]) ((kW (sh := Qb) (gLin.mk x0 []) (LeV.agg (.cons lr (.cons (LeV.nil 2) .nil))) fun v0 => (kEr (enc := Qb) v0)) h)
end Go.Proofs.YtkgphhemcglgnaaGreatDoor
end
noncomputable section
namespace Go.Proofs.YtkgphhemcglgnaaGreatDoor
open Go HY
set_option maxRecDepth 1000000
set_option linter.unusedVariables false
def Va (s : Qq) (u : (Qq × Int)) (o : Qq) : List Alt := l1 o (.exit 0) (fun _ => [.ptr 0 0 0, .ptr 1 0 0]) (fun x => [.cells 0 (Xf u.1).cells, .cells 0 [.ow 2 0 8 (List.length x.fk), .sl 20 (List.map Q9 x.fd)], .own 0 8 (List.map Qc x.fk)])
def Km (x1 : Qq) (x3 : Qq) (x11 : Int) (x12 : Int) : Option Qq :=
 if x12 < x11 then
 ix x1.fk x12 >>= fun v0 =>
 Kn v0 >>= fun v1 =>
 if (x3.fk.length + (1 : Nat)) * (88 : Nat) ≤ (140737488355328 : Nat) ∧ x3.fk.length + (1 : Nat) ≤ (9223372036854775807 : Nat) then
 some (x3.fk ++ [v1]) >>= fun v2 =>
 Km x1 (Qq.mk v2 x3.fd) x11 (wr (x12 + 1))
 else none
 else
 some x3
 partial_fixpoint
theorem Lu (x1 : Qq) (x2 : Qq) (x3 : Qq) (x11 : Int) (x12 : Int) (o : Qq) (h : Km x1 x3 x11 x12 = some o) : LO 28 3 28 [1, 2, 3, 11, 12] [.ptr 0 0 0, .ptr 1 0 0, .ptr 2 0 0, ii x11, ii x12] [.cells 0 (Xf x1).cells, .cells 0 (Xf x2).cells, .cells 0 [.ow 3 0 8 (List.length x3.fk), .sl 20 (List.map Q9 x3.fd)], .own 0 8 (List.map Qc x3.fk)] [2, 3] (Va x1 (x2, x11) o) :=
 Km.partial_correctness x1 x11 (fun x3 x12 o => ∀ (x2 : Qq), LO 28 3 28 [1, 2, 3, 11, 12] [.ptr 0 0 0, .ptr 1 0 0, .ptr 2 0 0, ii x11, ii x12] [.cells 0 (Xf x1).cells, .cells 0 (Xf x2).cells, .cells 0 [.ow 3 0 8 (List.length x3.fk), .sl 20 (List.map Q9 x3.fd)], .own 0 8 (List.map Qc x3.fk)] [2, 3] (Va x1 (x2, x11) o))
 (fun Km Ol x3 x12 o h x2 =>
 Lp2 (hs := [(13, .split), (20, .e Qc), (22, .c Qc), (24, .z [{ slot := 16, own := 8 }] (some (.n Qc 24 (some .a))))]) (kb := [kk 1, kk 2, kk 3, { slot := 3, path := [0], own := 8 }]) (kbx := [kk 2, kk 3, { slot := 3, path := [0], own := 8 }]) ((kIfD (p := x12 < x11) (kIx (enc := Qc) (l := x1.fk) (k := x12) fun v0 => (kC (sh := Qc) (Dl v0) fun v1 => (kA (q := (x3.fk.length + (1 : Nat)) * (88 : Nat) ≤ (140737488355328 : Nat) ∧ x3.fk.length + (1 : Nat) ≤ (9223372036854775807 : Nat)) (sh := Qc) (l := x3.fk) (kO (sh := Qc) (x3.fk ++ [v1]) (mA (sh := Qc) x3.fk v1) (nA x3.fk v1) fun v2 => (kM0 (alts := Va x1 (x2, x11)) (fun y hy => Ol (Qq.mk v2 x3.fd) (wr (x12 + 1)) y hy x2))))))
 (kX (alts := Va x1 (x2, x11)) x3 (.here _ rfl (.refl _) (.refl _)))) h)) x3 x12 o h x2
def Uy (x0 : Qq) : Option Qq :=
 U6 x0.fd >>= fun v0 =>
 some (List.length x0.fk : Int) >>= fun v1 =>
 some ((Qq.mk [] []), v1) >>= fun v2 =>
 Km x0 (Qq.mk [] v0) v1 0 >>= fun v4 =>
 some v4
theorem HI (x0 r) (h : Uy x0 = some r) : PU 28 [Xf x0] (Xf r) :=
 Pu2 (hs := [(7, .c ZG), (11, .n eI 11 none), (3000004, .l [] [1, 2, 3, 11, 12] [kk 1, kk 2, kk 3, { slot := 3, path := [0], own := 8 }] [2, 3] [kk 2, kk 3, { slot := 3, path := [0], own := 8 }] (Va x0))]) ((kC (sh := ZG) (Mm x0.fd) fun v0 => (kN _ (mLen (sh := Qc) x0.fk) fun v1 => (kL1 ((Qq.mk [] []), v1) (fun y hy => Xt.le (.cons lr (.cons lr (.cons lr (.cons lr (.cons lr .nil))))) (.cons (LeB.refl (Box.cells (0 : Nat) [AV.sl (8 : Nat) (List.map Qc x0.fk), AV.sl (20 : Nat) (List.map Q9 x0.fd)])) (.cons (LeB.cells (0 : Nat) (.cons (LeV.nil 8) (.cons (LeV.nil 20) .nil))) (.cons (LeB.refl (Box.cells (0 : Nat) [AV.ow (3 : Nat) (0 : Nat) (8 : Nat) (0 : Nat), AV.sl (20 : Nat) (List.map Q9 v0)])) (.cons (LeB.refl (Box.own (0 : Nat) (8 : Nat) [])) .nil)))) (Lu x0 (Qq.mk [] []) (Qq.mk [] v0) v1 0 y hy)) fun v2 v4 => (kT (nM (sh := Qc) v4.fk) (kEr (enc := Xf) v4))))) h)
def YV (s : Unit) (u : ((List Xk) × Int)) (o : (Qe × (List Q7)) ⊕ (Qe × Int)) : List Alt := lp o (.exit 0) (fun x => [.ptr 0 0 0, .undef, .sl 20 (List.map Q9 x.2)]) (fun x => [.cells 0 (Qm x.1).cells]) .ret (fun x => [.ptr 0 0 0, ii x.2, .undef]) (fun x => [.cells 0 (Qm x.1).cells])
def YX (x4 : Qe) (x6 : List Q7) (x16 : List Xk) (x17 : Int) (x18 : Int) : Option ((Qe × (List Q7)) ⊕ (Qe × Int)) :=
 if x18 < x17 then
 ix x16 x18 >>= fun v0 =>
 NG v0.fy >>= fun v1 =>
 Vo x6 v0.fb v1 >>= fun v2 =>
 if v2.snd != 0 then
 some ((QC.mk (0 : Int) [] (0 : Int) (0 : Int) (0 : Int) [] (Qv.mk (0 : Int) [] (gVal.mk (0 : Int) (0 : Int)) (Qg.mk (0 : Int) (0 : Int) (0 : Int) (0 : Int) (0 : Int)) (gLin.mk (0 : Int) []) [] [] : Q3) [] : Qe)) >>= fun v3 =>
 some (.inr (v3, v2.snd))
 else
 YX x4 v2.fst x16 x17 (wr (x18 + 1))
 else
 some (.inl (x4, x6))
 partial_fixpoint
theorem Lm (x4 x6 x16 x17 x18 o) (h : YX x4 x6 x16 x17 x18 = some o) : LO 132 3 41 [4, 6, 16, 17, 18] [.ptr 0 0 0, .sl 20 (List.map Q9 x6), .sl 2 (List.map Qh x16), ii x17, ii x18] [.cells 0 (Qm x4).cells] [4, 5, 6] (YV () (x16, x17) o) :=
 YX.partial_correctness x4 x16 x17 (fun x6 x18 o => LO 132 3 41 [4, 6, 16, 17, 18] [.ptr 0 0 0, .sl 20 (List.map Q9 x6), .sl 2 (List.map Qh x16), ii x17, ii x18] [.cells 0 (Qm x4).cells] [4, 5, 6] (YV () (x16, x17) o))
 (fun YX B4 x6 x18 o h  =>
 Lp2 (hs := [(19, .split), (20, .e Qh), (28, .c Qb), (29, .c Zd), (33, .split), (34, .n Qm 34 none)]) (kb := [kk 4]) (kbx := [kk 4]) ((kIfD (p := x18 < x17) (kIx (enc := Qh) (l := x16) (k := x18) fun v0 => (kC (sh := Qb) (Ss v0.fy) fun v1 => (kC (sh := Zd) (NZ x6 v0.fb v1) fun v2 => (kIf (c := v2.snd != 0) (kW (sh := Qm) (QC.mk (0 : Int) [] (0 : Int) (0 : Int) (0 : Int) [] (Qv.mk (0 : Int) [] (gVal.mk (0 : Int) (0 : Int)) (Qg.mk (0 : Int) (0 : Int) (0 : Int) (0 : Int) (0 : Int)) (gLin.mk (0 : Int) []) [] [] : Q3) [] : Qe) (LeV.agg (.cons lr (.cons lr (.cons lr (.cons lr (.cons lr (.cons (LeV.nil 4) (.cons lr (.cons lr (.cons lr (.cons lr (.cons lr (.cons lr (.cons lr (.cons lr (.cons lr (.cons lr (.cons (LeV.nil 2) (.cons (LeV.nil 4) (.cons (LeV.nil 13) (.cons (LeV.nil 20) .nil))))))))))))))))))))) fun v3 => (kX (alts := YV () (x16, x17)) (.inr (v3, v2.snd)) (.next (.here _ rfl (.cons lr (.cons lr (.cons (LeV.undef (AV.sl (20 : Nat) (List.map Q9 x6))) .nil))) (.refl _)))))
 (kM0 (alts := YV () (x16, x17)) (B4 v2.fst (wr (x18 + 1))))))))
 (kX (alts := YV () (x16, x17)) (.inl (x4, x6)) (.here _ rfl (.refl _) (.refl _)))) h)) x6 x18 o h
def U8 (x0 : Qe) (x1 : List Xk) : Option (Qe × Int) :=
 some ((Qq.mk [] [(Q7.mk x0)])) >>= fun v0 =>
 Uy v0 >>= fun v1 =>
 some (List.length x1 : Int) >>= fun v2 =>
 some (x1, v2) >>= fun v3 =>
 YX (QC.mk (0 : Int) [] (0 : Int) (0 : Int) (0 : Int) [] (Qv.mk (0 : Int) [] (gVal.mk (0 : Int) (0 : Int)) (Qg.mk (0 : Int) (0 : Int) (0 : Int) (0 : Int) (0 : Int)) (gLin.mk (0 : Int) []) [] [] : Q3) [] : Qe) v1.fd x1 v2 (0 : Int) >>= fun v4 => (match v4 with
 | (.inl v5) =>
 Option.map Q7.f (ix v5.snd (0 : Int)) >>= fun v6 =>
 some (v6, (0 : Int))
 | (.inr v7) =>
 some (v7.fst, v7.snd))
theorem H9 (x0 x1 r) (h : U8 x0 x1 = some r) : PU 132 [Qm x0, HQ x1] (My r) :=
 Pu2 (hs := [(13, .z [{ slot := 12, own := 20 }, { slot := 12, fz := true }] (some (.n Xf 13 none))), (14, .c Xf), (17, .n eI 17 none), (39, .e Qm), (3000004, .l [] [4, 6, 16, 17, 18] [kk 4] [4, 5, 6] [kk 4] (YV ()))]) ((kT (rfl : (1 : Nat) = (1 : Nat)) (kW (sh := Xf) (Qq.mk [] [(Q7.mk x0)]) (LeV.agg (.cons (LeV.nil 8) (.cons (LeV.sl (.cons (Ww x0) .nil)) .nil))) fun v0 => (kC (sh := Xf) (HI v0) fun v1 => (kN _ (mLen (sh := Qh) x1) fun v2 => (kL2 (x1, v2) (hL := (fun y hy => Xt.le (.cons lr (.cons lr (.cons lr (.cons lr (.cons lr .nil))))) (.cons (LeB.cells (0 : Nat) (.cons lr (.cons lr (.cons lr (.cons lr (.cons lr (.cons (LeV.nil 4) (.cons lr (.cons lr (.cons lr (.cons lr (.cons lr (.cons lr (.cons lr (.cons lr (.cons lr (.cons lr (.cons (LeV.nil 2) (.cons (LeV.nil 4) (.cons (LeV.nil 13) (.cons (LeV.nil 20) .nil))))))))))))))))))))) .nil) (Lm (QC.mk (0 : Int) [] (0 : Int) (0 : Int) (0 : Int) [] (Qv.mk (0 : Int) [] (gVal.mk (0 : Int) (0 : Int)) (Qg.mk (0 : Int) (0 : Int) (0 : Int) (0 : Int) (0 : Int)) (gLin.mk (0 : Int) []) [] [] : Q3) [] : Qe) v1.fd x1 v2 (0 : Int) y hy))) (hA := fun v3 v5 => (kIxR (l := v5.snd) (k := (0 : Int)) Zy fun v6 => (kEr (enc := My) (v6, (0 : Int)))))
 (hB := fun v3 v7 => (kEr (enc := My) (v7.fst, v7.snd)))))))) h)
end Go.Proofs.YtkgphhemcglgnaaGreatDoor
end
section
namespace Go.Proofs.YtkgphhemcglgnaaGreatDoor
open Go HY
def De (x : Unit × Int) : AV := .tup [eO20 x.1, eI x.2]
noncomputable def Ko (x0 : Qe) (x1 : List Xk) : Option (Unit × Int) := U8 x0 x1 >>= fun r => some ((), r.2)
theorem Jd (x0 : Qe) (x1 : List Xk) (r : Unit × Int) (h : Ko x0 x1 = some r) : PU 132 [Qm x0, HQ x1] (De r) := by
 unfold Ko at h
 cases hc : U8 x0 x1 with
 | none => rw [hc] at h; cases h
 | some q =>
  rw [hc] at h
  cases h
  refine Pu.le (H9 x0 x1 q hc) (.cons (.refl _) (.cons (.refl _) .nil)) (LeT.tup (.cons (LeT.agg ?_) (.cons (.refl _) .nil)))
  exact .cons (.undef _) (.cons (.undef _) (.cons (.undef _) (.cons (.undef _) (.cons (.undef _) (.cons (.undef _) (.cons (.undef _) (.cons (.undef _) (.cons (.undef _) (.cons (.undef _) (.cons (.undef _) (.cons (.undef _) (.cons (.undef _) (.cons (.undef _) (.cons (.undef _) (.cons (.undef _) (.cons (.undef _) (.cons (.undef _) (.cons (.undef _) (.cons (.undef _) (.nil))))))))))))))))))))
end Go.Proofs.YtkgphhemcglgnaaGreatDoor
end
noncomputable section
namespace Go.Proofs.YtkgphhemcglgnaaGreatDoor
open Go HY
set_option maxRecDepth 1000000
set_option linter.unusedVariables false
def XS (s : Unit) (u : (Q2 × Int)) (o : QY) : List Alt := l1 o (.exit 4) (fun _ => [.ptr 0 0 0, .ptr 5 0 0]) (fun x => [.cells 0 [.mp 1, ii u.1.fe, .ow 2 0 2 (List.length u.1.fm), .ow 3 0 13 (List.length u.1.fc), .ow 4 0 22 (List.length u.1.fj)], .mapI u.1.fA, .own 0 2 (List.map Qh u.1.fm), .own 0 13 (List.map Qd u.1.fc), .own 0 22 (List.map Qn u.1.fj), .cells 0 [ii x.fM, .ow 6 0 1 (List.length x.fAt), .undef, .undef, .undef, .undef, .undef, .undef, .undef, .undef, .undef, .undef, .undef, .undef, .undef, .undef, .undef, .undef, .undef, .undef, .undef, .undef], .own 0 1 (List.map eI x.fAt)])
def Xc (x0 : Q2) (x16 : QY) (x85 : Int) (x86 : Int) : Option QY :=
 if x86 < x85 then
 if 0 ≤ x86 ∧ x86 < (↑x0.fm.length : Int) then
 x0.fm[x86.toNat]? >>= fun v0 =>
 if (x16.fAt.length + (1 : Nat)) * (8 : Nat) ≤ (140737488355328 : Nat) ∧ x16.fAt.length + (1 : Nat) ≤ (9223372036854775807 : Nat) then
 some (x16.fAt ++ [v0.fy]) >>= fun v1 =>
 Xc x0 (QY.mk x16.fM v1) x85 (wr (x86 + 1))
 else none
 else none
 else
 some (QY.mk x16.fM x16.fAt)
 partial_fixpoint
theorem JY (x0 x16 x85 x86 o) (h : Xc x0 x16 x85 x86 = some o) : LOp [.ptr 0 0 0, .mp 1] 93 21 108 [0, 16, 84, 85, 86] [.ptr 0 0 0, .ptr 5 0 0, .ow 2 0 2 (List.length x0.fm), ii x85, ii x86] [.cells 0 [.mp 1, ii x0.fe, .ow 2 0 2 (List.length x0.fm), .ow 3 0 13 (List.length x0.fc), .ow 4 0 22 (List.length x0.fj)], .mapI x0.fA, .own 0 2 (List.map Qh x0.fm), .own 0 13 (List.map Qd x0.fc), .own 0 22 (List.map Qn x0.fj), .cells 0 [ii x16.fM, .ow 6 0 1 (List.length x16.fAt), .undef, .undef, .undef, .undef, .undef, .undef, .undef, .undef, .undef, .undef, .undef, .undef, .undef, .undef, .undef, .undef, .undef, .undef, .undef, .undef], .own 0 1 (List.map eI x16.fAt)] [0, 16] (XS () (x0, x85) o) :=
 Xc.partial_correctness x0 x85 (fun x16 x86 o => LOp [.ptr 0 0 0, .mp 1] 93 21 108 [0, 16, 84, 85, 86] [.ptr 0 0 0, .ptr 5 0 0, .ow 2 0 2 (List.length x0.fm), ii x85, ii x86] [.cells 0 [.mp 1, ii x0.fe, .ow 2 0 2 (List.length x0.fm), .ow 3 0 13 (List.length x0.fc), .ow 4 0 22 (List.length x0.fj)], .mapI x0.fA, .own 0 2 (List.map Qh x0.fm), .own 0 13 (List.map Qd x0.fc), .own 0 22 (List.map Qn x0.fj), .cells 0 [ii x16.fM, .ow 6 0 1 (List.length x16.fAt), .undef, .undef, .undef, .undef, .undef, .undef, .undef, .undef, .undef, .undef, .undef, .undef, .undef, .undef, .undef, .undef, .undef, .undef, .undef, .undef], .own 0 1 (List.map eI x16.fAt)] [0, 16] (XS () (x0, x85) o))
 (fun Xc Bd x16 x86 o h  =>
 Lp1p (hs := [(87, .split), (88, .s), (89, .e Qh), (95, .z [{ slot := 91, own := 1 }] (some (.n eI 95 (some .a))))]) (kb := [kk 0, { slot := 0, path := [0] }, { slot := 0, path := [2], own := 2 }, { slot := 0, path := [3], own := 13 }, { slot := 0, path := [4], own := 22 }, kk 16, { slot := 16, path := [1], own := 1 }]) (kbx := [kk 0, { slot := 0, path := [0] }, { slot := 0, path := [2], own := 2 }, { slot := 0, path := [3], own := 13 }, { slot := 0, path := [4], own := 22 }, kk 16, { slot := 16, path := [1], own := 1 }]) (by kernel_rfl) (by kernel_rfl) ((kIfD (p := x86 < x85) (kG (p := 0 ≤ x86 ∧ x86 < (↑x0.fm.length : Int)) (kOx (enc := Qh) (l := x0.fm) (k := x86.toNat) fun v0 => (kA (q := (x16.fAt.length + (1 : Nat)) * (8 : Nat) ≤ (140737488355328 : Nat) ∧ x16.fAt.length + (1 : Nat) ≤ (9223372036854775807 : Nat)) (sh := eI) (l := x16.fAt) (kO (sh := eI) (x16.fAt ++ [v0.fy]) (mA (sh := eI) x16.fAt v0.fy) (nA x16.fAt v0.fy) fun v1 => (kM0 (alts := XS () (x0, x85)) (Bd (QY.mk x16.fM v1) (wr (x86 + 1))))))))
 (kX (alts := XS () (x0, x85)) (QY.mk x16.fM x16.fAt) (.here _ rfl (.refl _) (.refl _)))) h)) x16 x86 o h
def Zn (s : List Int) (u : (Q2 × Int)) (o : (List Unit) ⊕ Int) : List Alt := lp o (.exit 0) (fun x => [.ptr 0 0 0, .sl 1 (List.map eI s), .undef, .ptr 5 0 0, .sl 20 (List.map eO20 x)]) (fun _ => [.cells 0 [.mp 1, ii u.1.fe, .ow 2 0 2 (List.length u.1.fm), .ow 3 0 13 (List.length u.1.fc), .ow 4 0 22 (List.length u.1.fj)], .mapI u.1.fA, .own 0 2 (List.map Qh u.1.fm), .own 0 13 (List.map Qd u.1.fc), .own 0 22 (List.map Qn u.1.fj), .cells 0 (eO20 ()).cells]) .ret (fun x => [.ptr 0 0 0, .sl 1 (List.map eI s), ii x, .ptr 5 0 0, .undef]) (fun _ => [.cells 0 [.mp 1, ii u.1.fe, .ow 2 0 2 (List.length u.1.fm), .ow 3 0 13 (List.length u.1.fc), .ow 4 0 22 (List.length u.1.fj)], .mapI u.1.fA, .own 0 2 (List.map Qh u.1.fm), .own 0 13 (List.map Qd u.1.fc), .own 0 22 (List.map Qn u.1.fj), .cells 0 (eO20 ()).cells])
def Xm (x0 : Q2) (x9 : List Unit) (x35 : Int) (x36 : Int) : Option ((List Unit) ⊕ Int) :=
 if x36 < x35 then
 if 0 ≤ x36 ∧ x36 < (↑x0.fc.length : Int) then
 Option.map Qf.f x0.fc[x36.toNat]? >>= fun v0 =>
 some ((QC.mk (4 : Int) [] (0 : Int) (0 : Int) (0 : Int) [] v0 [] : Qe)) >>= fun v1 =>
 Ko v1 x0.fm >>= fun v2 =>
 if v2.snd != 0 then
 some (.inr v2.snd)
 else
 if (x9.length + (1 : Nat)) * (256 : Nat) ≤ (140737488355328 : Nat) ∧ x9.length + (1 : Nat) ≤ (9223372036854775807 : Nat) then
 some (x9 ++ [()]) >>= fun v3 =>
 Xm x0 v3 x35 (wr (x36 + 1))
 else none
 else none
 else
 some (.inl x9)
 partial_fixpoint
theorem Ui (x0 : Q2) (x2 : List Int) (x9 : List Unit) (x35 : Int) (x36 : Int) (o : (List Unit) ⊕ Int) (h : Xm x0 x9 x35 x36 = some o) : LOp [.ptr 0 0 0, .mp 1] 93 6 108 [0, 2, 7, 9, 34, 35, 36] [.ptr 0 0 0, .sl 1 (List.map eI x2), .ptr 5 0 0, .ow 6 0 20 (List.length x9), .ow 3 0 13 (List.length x0.fc), ii x35, ii x36] [.cells 0 [.mp 1, ii x0.fe, .ow 2 0 2 (List.length x0.fm), .ow 3 0 13 (List.length x0.fc), .ow 4 0 22 (List.length x0.fj)], .mapI x0.fA, .own 0 2 (List.map Qh x0.fm), .own 0 13 (List.map Qd x0.fc), .own 0 22 (List.map Qn x0.fj), .cells 0 (eO20 ()).cells, .own 0 20 (List.map eO20 x9)] [0, 2, 6, 7, 9] (Zn x2 (x0, x35) o) :=
 Xm.partial_correctness x0 x35 (fun x9 x36 o => ∀ (x2 : List Int), LOp [.ptr 0 0 0, .mp 1] 93 6 108 [0, 2, 7, 9, 34, 35, 36] [.ptr 0 0 0, .sl 1 (List.map eI x2), .ptr 5 0 0, .ow 6 0 20 (List.length x9), .ow 3 0 13 (List.length x0.fc), ii x35, ii x36] [.cells 0 [.mp 1, ii x0.fe, .ow 2 0 2 (List.length x0.fm), .ow 3 0 13 (List.length x0.fc), .ow 4 0 22 (List.length x0.fj)], .mapI x0.fA, .own 0 2 (List.map Qh x0.fm), .own 0 13 (List.map Qd x0.fc), .own 0 22 (List.map Qn x0.fj), .cells 0 (eO20 ()).cells, .own 0 20 (List.map eO20 x9)] [0, 2, 6, 7, 9] (Zn x2 (x0, x35) o))
 (fun Xm Be x9 x36 o h x2 =>
 Lp1p (hs := [(37, .split), (38, .s), (39, .e Qa), (42, .n Qm 42 none), (47, .c De), (51, .split), (56, .z [{ slot := 53, own := 20 }] (some (.n eO20 56 (some .a)))), (7600008, .z [kk 6, kk 10] none)]) (kb := [kk 0, { slot := 0, path := [0] }, { slot := 0, path := [2], own := 2 }, { slot := 0, path := [3], own := 13 }, { slot := 0, path := [4], own := 22 }, kk 7, { slot := 9, own := 20 }]) (kbx := [kk 0, { slot := 0, path := [0] }, { slot := 0, path := [2], own := 2 }, { slot := 0, path := [3], own := 13 }, { slot := 0, path := [4], own := 22 }, kk 7, { slot := 9, fz := true }]) (by kernel_rfl) (by kernel_rfl) ((kIfD (p := x36 < x35) (kG (p := 0 ≤ x36 ∧ x36 < (↑x0.fc.length : Int)) (kOxR (l := x0.fc) (k := x36.toNat) Ju fun v0 => (kBoth (kW (sh := Qm) (QC.mk (4 : Int) [] (0 : Int) (0 : Int) (0 : Int) [] v0 [] : Qe) (LeV.agg (.cons lr (.cons lr (.cons lr (.cons lr (.cons lr (.cons (LeV.nil 4) (.cons lr (.cons lr (.cons lr (.cons lr (.cons lr (.cons lr (.cons lr (.cons lr (.cons lr (.cons lr (.cons lr (.cons lr (.cons lr (.cons (LeV.nil 20) .nil))))))))))))))))))))) fun v1 => (kT (nM (sh := Qh) x0.fm) (kC (sh := De) (Jd v1 x0.fm) fun v2 => (kIf (c := v2.snd != 0) (kT (nM (sh := eO20) x9) (kX (alts := Zn x2 (x0, x35)) (.inr v2.snd) (.next (.here _ rfl (.cons lr (.cons lr (.cons lr (.cons lr (.cons (LeV.undef (AV.sl (20 : Nat) (List.map eO20 x9))) .nil))))) (.refl _)))))
 (kA (q := (x9.length + (1 : Nat)) * (256 : Nat) ≤ (140737488355328 : Nat) ∧ x9.length + (1 : Nat) ≤ (9223372036854775807 : Nat)) (sh := eO20) (l := x9) (kO (sh := eO20) (x9 ++ [()]) (mA (sh := eO20) x9 ()) (nA x9 ()) fun v3 => (kM0 (alts := Zn x2 (x0, x35)) (fun y hy => Be v3 (wr (x36 + 1)) y hy x2))))))))
 (kW (sh := Qm) (QC.mk (4 : Int) [] (0 : Int) (0 : Int) (0 : Int) [] v0 [] : Qe) (LeV.agg (.cons lr (.cons lr (.cons lr (.cons lr (.cons lr (.cons (LeV.nil 4) (.cons lr (.cons lr (.cons lr (.cons lr (.cons lr (.cons lr (.cons lr (.cons lr (.cons lr (.cons lr (.cons lr (.cons lr (.cons lr (.cons (LeV.nil 20) .nil))))))))))))))))))))) fun v1 => (kT (nM (sh := Qh) x0.fm) (kC (sh := De) (Jd v1 x0.fm) fun v2 => (kIf (c := v2.snd != 0) (kT (nM (sh := eO20) x9) (kX (alts := Zn x2 (x0, x35)) (.inr v2.snd) (.next (.here _ rfl (.cons lr (.cons lr (.cons lr (.cons lr (.cons (LeV.undef (AV.sl (20 : Nat) (List.map eO20 x9))) .nil))))) (.refl _)))))
 (kA (q := (x9.length + (1 : Nat)) * (256 : Nat) ≤ (140737488355328 : Nat) ∧ x9.length + (1 : Nat) ≤ (9223372036854775807 : Nat)) (sh := eO20) (l := x9) (kO (sh := eO20) (x9 ++ [()]) (mA (sh := eO20) x9 ()) (nA x9 ()) fun v3 => (kM0 (alts := Zn x2 (x0, x35)) (fun y hy => Be v3 (wr (x36 + 1)) y hy x2)))))))))))
 (kT (nM (sh := eO20) x9) (kX (alts := Zn x2 (x0, x35)) (.inl x9) (.here _ rfl (.refl _) (.refl _))))) h)) x9 x36 o h x2
def Z0 (r : (Int × Q2)) : AV := eI r.1
def QZ (r : (Int × Q2)) : List Box := [.cells 0 [.mp 1, ii r.2.fe, .ow 2 0 2 (List.length r.2.fm), .ow 3 0 13 (List.length r.2.fc), .ow 4 0 22 (List.length r.2.fj)], .mapI r.2.fA, .own 0 2 (List.map Qh r.2.fm), .own 0 13 (List.map Qd r.2.fc), .own 0 22 (List.map Qn r.2.fj)]
def KP (x0 : Q2) (x1 : Qe) (x2 : List Int) : Option (Int × Q2) :=
 Ko x1 x0.fm >>= fun v0 =>
 if v0.snd != 0 then
 some (v0.snd, x0)
 else
 some (x0, (↑x0.fc.length : Int)) >>= fun v1 =>
 Xm x0 [] (↑x0.fc.length : Int) 0 >>= fun v2 => (match v2 with
 | (.inl v3) =>
 Kh v3 >>= fun v4 =>
 some v1.fst >>= fun v6 =>
 Vg v4 v1.fst x2 >>= fun v8 =>
 some ((↑v6.fj.length : Int) : Int) >>= fun v9 =>
 if 2048 ≤ v9 then
 some ((2 : Int), v6)
 else
 GF x2 >>= fun v10 =>
 some (v6, (↑v6.fm.length : Int)) >>= fun v11 =>
 Xc v6 (QY.mk ((CF v10 v6.fA).getD (0 : Int)) []) (↑v6.fm.length : Int) (0 : Int) >>= fun v13 =>
 if (v11.fst.fj.length + (1 : Nat)) * (288 : Nat) ≤ (140737488355328 : Nat) ∧ v11.fst.fj.length + (1 : Nat) ≤ (9223372036854775807 : Nat) then
 some ((0 : Int), (Q2.mk v11.fst.fA v11.fst.fe v11.fst.fm v11.fst.fc (v11.fst.fj ++ [(QY.mk v13.fM v13.fAt)])))
 else none
 | (.inr v14) =>
 some (v14, v1.fst))
theorem Nj (x0 x1 x2 r) (h : KP x0 x1 x2 = some r) : PH 93 [.ptr 0 0 0, Qm x1, eLI x2] [.cells 0 [.mp 1, ii x0.fe, .ow 2 0 2 (List.length x0.fm), .ow 3 0 13 (List.length x0.fc), .ow 4 0 22 (List.length x0.fj)], .mapI x0.fA, .own 0 2 (List.map Qh x0.fm), .own 0 13 (List.map Qd x0.fc), .own 0 22 (List.map Qn x0.fj)] (Z0 r) (QZ r) :=
 PuH2 (hs := [(25, .c De), (29, .split), (70, .n eI 70 none), (71, .split), (77, .c eS), (105, .a), (59, .c hgBk), (7600001, .z [kk 5, kk 9] none), (7500025, .z [{ slot := 16, path := [1], fz := true }] none), (3000022, .l [] [0, 16, 84, 85, 86] [kk 0, { slot := 0, path := [0] }, { slot := 0, path := [2], own := 2 }, { slot := 0, path := [3], own := 13 }, { slot := 0, path := [4], own := 22 }, kk 16, { slot := 16, path := [1], own := 1 }] [0, 16] [kk 0, { slot := 0, path := [0] }, { slot := 0, path := [2], own := 2 }, { slot := 0, path := [3], own := 13 }, { slot := 0, path := [4], own := 22 }, kk 16, { slot := 16, path := [1], own := 1 }] (XS ())), (3000007, .l [] [0, 2, 7, 9, 34, 35, 36] [kk 0, { slot := 0, path := [0] }, { slot := 0, path := [2], own := 2 }, { slot := 0, path := [3], own := 13 }, { slot := 0, path := [4], own := 22 }, kk 7, { slot := 9, own := 20 }] [0, 2, 6, 7, 9] [kk 0, { slot := 0, path := [0] }, { slot := 0, path := [2], own := 2 }, { slot := 0, path := [3], own := 13 }, { slot := 0, path := [4], own := 22 }, kk 7, { slot := 9, fz := true }] (Zn x2)), (4000015, .l [] [0, 2, 7] [kk 0, { slot := 0, path := [0] }, { slot := 0, path := [2], own := 2 }, { slot := 0, path := [3], own := 13 }, { slot := 0, path := [4], own := 22 }, kk 7] [] [] (YR x2))]) (kb := [kk 1, { slot := 1, path := [0] }, { slot := 1, path := [2], own := 2 }, { slot := 1, path := [3], own := 13 }, { slot := 1, path := [4], own := 22 }]) ((kBoth (kT (nM (sh := Qh) x0.fm) (kC (sh := De) (Jd x1 x0.fm) fun v0 => (kIf (c := v0.snd != 0) (kEH (enc := Z0) (bt := QZ) (v0.snd, x0) ⟨.refl _, .refl _⟩)
 (kL2 (x0, (↑x0.fc.length : Int)) (hL := (Ui x0 x2 [] (↑x0.fc.length : Int) 0)) (hA := fun v1 v3 => (kC (sh := hgBk) (Uh v3) fun v4 => (kR1 v1.fst (JZ v4 v1.fst x2) fun v6 v8 => (kN (↑v6.fj.length : Int) rfl fun v9 => (kIfD (p := 2048 ≤ v9) (kEH (enc := Z0) (bt := QZ) ((2 : Int), v6) ⟨.refl _, .refl _⟩)
 (kC (sh := eS) (NL x2) fun v10 => (kL1 (v6, (↑v6.fm.length : Int)) (JY v6 (QY.mk ((CF v10 v6.fA).getD (0 : Int)) []) (↑v6.fm.length : Int) (0 : Int)) fun v11 v13 => (kT (nM (sh := eI) v13.fAt) (kA (q := (v11.fst.fj.length + (1 : Nat)) * (288 : Nat) ≤ (140737488355328 : Nat) ∧ v11.fst.fj.length + (1 : Nat) ≤ (9223372036854775807 : Nat)) (sh := Qn) (l := v11.fst.fj) (kEH (enc := Z0) (bt := QZ) ((0 : Int), (Q2.mk v11.fst.fA v11.fst.fe v11.fst.fm v11.fst.fc (v11.fst.fj ++ [(QY.mk v13.fM v13.fAt)]))) (leEnd (.cons lr .nil) (.cons (LeB.cells (0 : Nat) (.cons lr (.cons lr (.cons lr (.cons lr (.cons (LeV.owl (by simp : v11.fst.fj.length + (1 : Nat) = List.length (v11.fst.fj ++ [(QY.mk v13.fM v13.fAt)]))) .nil)))))) (.cons (LeB.refl (Box.mapI v11.fst.fA)) (.cons (LeB.refl (Box.own (0 : Nat) (2 : Nat) (List.map Qh v11.fst.fm))) (.cons (LeB.refl (Box.own (0 : Nat) (13 : Nat) (List.map Qd v11.fst.fc))) (.cons (LeB.ownEq (mA (sh := Qn) v11.fst.fj (QY.mk v13.fM v13.fAt))) .nil))))))))))))))))
 (hB := fun v1 v14 => (kEH (enc := Z0) (bt := QZ) (v14, v1.fst) ⟨.refl _, .refl _⟩))))))
 (kT (nM (sh := Qh) x0.fm) (kC (sh := De) (Jd x1 x0.fm) fun v0 => (kIf (c := v0.snd != 0) (kEH (enc := Z0) (bt := QZ) (v0.snd, x0) ⟨.refl _, .refl _⟩)
 (kL2 (x0, (↑x0.fc.length : Int)) (hL := (Ui x0 x2 [] (↑x0.fc.length : Int) 0)) (hA := fun v1 v3 => (kC (sh := hgBk) (Uh v3) fun v4 => (kR1 v1.fst (JZ v4 v1.fst x2) fun v6 v8 => (kN (↑v6.fj.length : Int) rfl fun v9 => (kIfD (p := 2048 ≤ v9) (kEH (enc := Z0) (bt := QZ) ((2 : Int), v6) ⟨.refl _, .refl _⟩)
 (kC (sh := eS) (NL x2) fun v10 => (kL1 (v6, (↑v6.fm.length : Int)) (JY v6 (QY.mk ((CF v10 v6.fA).getD (0 : Int)) []) (↑v6.fm.length : Int) (0 : Int)) fun v11 v13 => (kT (nM (sh := eI) v13.fAt) (kA (q := (v11.fst.fj.length + (1 : Nat)) * (288 : Nat) ≤ (140737488355328 : Nat) ∧ v11.fst.fj.length + (1 : Nat) ≤ (9223372036854775807 : Nat)) (sh := Qn) (l := v11.fst.fj) (kEH (enc := Z0) (bt := QZ) ((0 : Int), (Q2.mk v11.fst.fA v11.fst.fe v11.fst.fm v11.fst.fc (v11.fst.fj ++ [(QY.mk v13.fM v13.fAt)]))) (leEnd (.cons lr .nil) (.cons (LeB.cells (0 : Nat) (.cons lr (.cons lr (.cons lr (.cons lr (.cons (LeV.owl (by simp : v11.fst.fj.length + (1 : Nat) = List.length (v11.fst.fj ++ [(QY.mk v13.fM v13.fAt)]))) .nil)))))) (.cons (LeB.refl (Box.mapI v11.fst.fA)) (.cons (LeB.refl (Box.own (0 : Nat) (2 : Nat) (List.map Qh v11.fst.fm))) (.cons (LeB.refl (Box.own (0 : Nat) (13 : Nat) (List.map Qd v11.fst.fc))) (.cons (LeB.ownEq (mA (sh := Qn) v11.fst.fj (QY.mk v13.fM v13.fAt))) .nil))))))))))))))))
 (hB := fun v1 v14 => (kEH (enc := Z0) (bt := QZ) (v14, v1.fst) ⟨.refl _, .refl _⟩))))))) h)
end Go.Proofs.YtkgphhemcglgnaaGreatDoor
end
section
namespace Go.Proofs.YtkgphhemcglgnaaGreatDoor
open Go HY
def Jt (r : (Int × Q2)) : AV := eI r.1
def Jr (r : (Int × Q2)) : List Box := [.cells 0 [.mp 1, .int .i64 r.2.fe, .ow 2 0 2 (List.length r.2.fm), .ow 3 0 13 (List.length r.2.fc), .ow 4 0 22 (List.length r.2.fj)], .mapI r.2.fA, .own 0 2 (List.map Qh r.2.fm), .own 0 13 (List.map Qd r.2.fc), .own 0 22 (List.map Qn r.2.fj)]
def GG (x0 : Q2) (x1 : Qe) (x2 : List Int) : Option (Int × Q2) := none
theorem NM (x0 : Q2) (x1 : Qe) (x2 : List Int) (r : (Int × Q2)) (h : GG x0 x1 x2 = some r) : PH 92 [.ptr 0 0 0, Qm x1, eLI x2] [.cells 0 [.mp 1, .int .i64 x0.fe, .ow 2 0 2 (List.length x0.fm), .ow 3 0 13 (List.length x0.fc), .ow 4 0 22 (List.length x0.fj)], .mapI x0.fA, .own 0 2 (List.map Qh x0.fm), .own 0 13 (List.map Qd x0.fc), .own 0 22 (List.map Qn x0.fj)] (Jt r) (Jr r) := nomatch h
end Go.Proofs.YtkgphhemcglgnaaGreatDoor
end
section
namespace HY
open Go Go.RowKit
def nrd : XO := fun _ _ _ _ => none
theorem nrd_ok {P : Program} {gl : Nat → AV} : nrd.Ok P gl := fun _ _ _ _ _ _ _ h => by cases h
def Eg (P : Program) (gl : Nat → AV) (ch0 : Ql) (wf : WF) (hs : Qz) (pins : Option (List AV)) (fl : Nat) : List Code → St → (Exit → St → Prop) → Prop
 | [], s, K => K .normal s
 | c :: cs, s, K => match Qr c with
  | true => False
  | false => Yk P gl ch0 wf hs pins fl c s (fun e s' => match VT e with
   | true => Eg P gl ch0 wf hs pins fl cs s' K
   | false => K e s')
def S1 (P : Program) (gl : Nat → AV) (ch0 : Ql) (wf : WF) (gd : Nat → Bool) (fl g : Nat) (hs : Qz) (caps : List AV) (hp : Tr Box) (nx : Nat) (K : Tr Box → Nat → Prop) : Prop :=
 match gd g with
 | true => match P.funcs[g]? with
  | some fn => match fn.body with
   | some c => match Nat.ble caps.length fn.ntmps && !Qr c with
    | true => Yk P gl ch0 wf hs none fl c ⟨fn.ntmps, YS 0 caps, hp, nx⟩ (fun e s => match GN e with
     | true => match Ws P s fn.results.toList with
      | some _ => K s.hp s.nx
      | none => False
     | false => False)
    | false => False
   | none => False
  | none => False
 | false => False
def wpart (pins caps : List AV) (ks : List Nat) (kb : List KB) (st : St) (K : List AV → List AV → List Box → Prop) : Prop :=
 match nodN (Kt st kb) && pins.all (RZ (lkb st.hp) (Kt st kb)) with
 | true => match MS (lkb st.hp) (Kt st kb) (Kt st kb) with
  | some bs => K (caps.map (ren (lkb st.hp) (Kt st kb) 12)) (ks.map fun k => ren (lkb st.hp) (Kt st kb) 12 (st.get k)) bs
  | none => False
 | false => False
def wfunD (P : Program) (gl : Nat → AV) (ch0 : Ql) (wf : WF) (gd : Nat → Bool) (ps : List AV) (fl f : Nat) (hs hd : Qz) (ks : List Nat) (kb : List KB) (args : List AV) (hp : Tr Box) (nx : Nat) (K : AV → St → Prop) : Prop :=
 match gd f with
 | true => match P.funcs[f]? with
  | some fn => match fn.body with
   | some c => match Nat.ble args.length fn.ntmps with
    | true => match N9 P gl ch0 nrd fl c ⟨fn.ntmps, YS 0 args, hp, nx⟩ with
     | some (s1, g, caps, r) => K7 kb s1 (fun s1 => wpart ps caps ks kb s1 (fun caps vs bs => Eg P gl ch0 wf hs (some (caps ++ ps)) fl r (ZH s1.n ks vs bs) (fun e s => match GN e with
      | true => S1 P gl ch0 wf gd fl g hd caps s.hp s.nx (fun hp2 nx2 => match Ws P (s.setHp hp2 nx2) fn.results.toList with
       | some r => K r (s.setHp hp2 nx2)
       | none => False)
      | false => False)))
     | none => False
    | false => False
   | none => False
  | none => False
 | false => False
section
variable {P : Program} {gl : Nat → AV} {ch0 : Ql} {wf : WF} {hs : Qz} {gd : Nat → Bool} {fl : Nat} {B : Nat → Prop} {H0 : HV} {rest : List (AV × Value)}
theorem Rp (h0 : ch0.Ok P gl) (hwf : WF.Ok P gl wf) (hmix : P.follows .mixedOrders = true) {ps : List AV} : ∀ (l : List Code) (s : St) (K : Exit → St → Prop), (∀ x ∈ l, QB x = true) → Eg P gl ch0 wf hs (some ps) fl l s K →
  ∀ (m : Nat → Lc) (H : HV) (a : Act) (w : World), rest.map (·.1) = ps → RelS m H B H0 gl rest s a.tmps w → DT (FW none) 0 P (fun e a' w' => ∃ s' m' H', K e s' ∧ a'.defers = a.defers ∧ Q8 B w w' ∧ RelS m' H' B H0 gl rest s' a'.tmps w') l a w
 | [], s, K, _, hk, m, H, a, w, _, hr => ⟨s, m, H, hk, rfl, Q8.refl _ _, hr⟩
 | c :: cs, s, K, hok, hk, m, H, a, w, hp, hr => by
  simp only [Eg] at hk
  split at hk
  ·cases hk
  ·rename_i hno
   refine wpIn_mono (Ct h0 hwf hmix (hok c (by simp)) hk none 0 (fun _ => rfl) B H0 rest m H a w (fun ps' e => by cases e; exact hp) hr) fun e a' w' hq => ?_
   obtain ⟨s', m', H', B', H0', D, hK, hf, hr'⟩ := hq
   have hD := hf.non hno
   subst hD
   have hr2 : RelS m' H' B H0 gl rest s' a'.tmps w' := hr'.down hf.sub (fun b o hb => hf.old b o hb) (hr.heap.gv.to hf.bel fun _ _ hb => hb)
   have hd : a'.defers = a.defers := hf.dfr
   cases e with
   | normal =>
    simp only [VT] at hK
    exact DU cs _ _ (Rp h0 hwf hmix cs s' K (fun x hx => hok x (by simp [hx])) hK m' H' a' w' hp hr2) fun e a2 w2 ⟨s2, m2, H2, q1, q2, q3, q4⟩ => ⟨s2, m2, H2, q1, q2.trans hd, hf.bel.trans q3, q4⟩
   | _ => exact ⟨s', m', H', hK, hd, hf.bel, hr2⟩
theorem Py {pins caps : List AV} {us : Array Value} {ks : List Nat} {kb : List KB} {st : St} {K : List AV → List AV → List Box → Prop} {m : Nat → Lc} {H : HV} {tmps : Array Value} {w : World} (h : RelS m H B H0 gl (caps.zip us.toList ++ rest) st tmps w) (hl : caps.length = us.size) (hp : rest.map (·.1) = pins) (hw : wpart pins caps ks kb st K) :
  ∃ caps' vs bs m', K caps' vs bs ∧ caps'.length = us.size ∧ RelS m' H B H0 gl (caps'.zip us.toList ++ rest) (ZH st.n ks vs bs) tmps w := by
 unfold wpart at hw
 split at hw
 ·rename_i hc
  rw [Bool.and_eq_true] at hc
  split at hw
  ·rename_i bs hbs
   obtain ⟨h1, hren⟩ := h.heap.sub hc.1 hbs h.heap.old h.heap.low (fun j id b _ hb hr => (h.heap.sepR id b hb hr).1) h.heap.gv
   refine ⟨_, _, bs, _, hw, by simpa using hl, h1, h.size, fun k => ?_, fun p hp' => ?_⟩
   ·show RV H _ (lk .undef (slOf ks (ks.map fun k => ren (lkb st.hp) (Kt st kb) 12 (st.get k))) k) _
    rcases Hq ks (fun k => ren (lkb st.hp) (Kt st kb) 12 (st.get k)) k with e | e
    ·rw [e]; exact .imm _ _ (.undef _)
    ·rw [e]; exact hren 12 _ _ (h.slot k)
   ·rcases List.mem_append.1 hp' with hp' | hp'
    ·obtain ⟨j, hj⟩ := List.getElem?_of_mem hp'
     rw [List.getElem?_zip_eq_some, List.getElem?_map, Option.map_eq_some_iff] at hj
     obtain ⟨⟨x, hx, e⟩, hu⟩ := hj
     rw [← e]
     exact hren 12 x p.2 (h.rest (x, p.2) (List.mem_append_left _ (List.mem_of_getElem? (i := j) (by rw [List.getElem?_zip_eq_some]; exact ⟨hx, hu⟩))))
    ·have hpin := List.all_eq_true.1 hc.2 p.1 (by rw [← hp]; exact List.mem_map_of_mem hp')
     have := hren 12 p.1 p.2 (h.rest p (List.mem_append_right _ hp'))
     rw [A4 hpin] at this
     exact this
  ·cases hw
 ·cases hw
theorem Fx (h0 : ch0.Ok P gl) (hwf : WF.Ok P gl wf) (hp : Je P gd) {g : Nat} {caps : List AV} {hp1 : Tr Box} {nx : Nat} {K : Tr Box → Nat → Prop} (hk : S1 P gl ch0 wf gd fl g hs caps hp1 nx K) {m : Nat → Lc} {H : HV} {w : World} {us : Array Value}
  (hh : RelH m H B H0 gl (lkb hp1) nx w) (hl : caps.length = us.size) (hv : ∀ (j : Nat) (x : AV) (v : Value), caps[j]? = some x → us[j]? = some v → RV H (Q5 (lkb hp1) m) x v) (hrest : ∀ p ∈ rest, RV H (Q5 (lkb hp1) m) p.1 p.2) :
  (callFunc g us).run P w = .ok (.enter g us) w ∧ CallsDIn (FW none) 0 P g us .returning w fun e u' w' => u' = .returning ∧ ∃ v m' H' hp2 nx2, K hp2 nx2 ∧ e = .returned v ∧ Q8 B w w' ∧ RelH m' H' B H0 gl (lkb hp2) nx2 w' ∧ ∀ p ∈ rest, RV H' (Q5 (lkb hp2) m') p.1 p.2 := by
 unfold S1 at hk
 split at hk
 rotate_left
 ·cases hk
 rename_i hg
 have hok := hp.fn g hg
 unfold okFn at hok
 split at hk
 rotate_left
 ·cases hk
 rename_i fn hf
 rw [hf] at hok
 simp only [Bool.and_eq_true, bne_iff_ne] at hok
 obtain ⟨hname, hok⟩ := hok
 split at hk
 rotate_left
 ·cases hk
 rename_i c hb
 rw [hb] at hok
 simp only at hok
 split at hk
 rotate_left
 ·cases hk
 rename_i hc
 rw [Bool.and_eq_true] at hc
 have hle := Nat.le_of_ble_eq_true hc.1
 have hno : Qr c = false := by simpa using hc.2
 refine ⟨U0 hf (by simpa using hname) (by rw [hb]; rfl) us w, ?_⟩
 have hr0 := RelS.frame (rest := rest) hh hle hl hv hrest
 refine callsDIn_of_wp hf hb trivial (wpIn_mono (Ct h0 hwf hp.mix hok hk none 0 (fun _ => rfl) B H0 rest m H { tmps := us ++ Array.replicate (fn.ntmps - us.size) Go.undef, defers := [] } w (fun _ e => nomatch e) hr0) fun e a' w' hq => ?_)
 obtain ⟨s', m', H', B', H0', D, hK, hfin, hr'⟩ := hq
 have hD := hfin.non hno
 subst hD
 have hr2 : RelS m' H' B H0 gl rest s' a'.tmps w' := hr'.down hfin.sub (fun b o hb => hfin.old b o hb) (hh.gv.to hfin.bel fun _ _ hb => hb)
 have hd : a'.defers = [] := hfin.dfr
 split at hK
 ·rename_i hex
  split at hK
  ·rename_i r hres
   obtain ⟨v, hv1, _⟩ := Cr hr2 hres
   have hgo : a'.defers = [] ∧ ∃ v, (results fn a'.tmps).run P w' = .ok v w' ∧ ∃ v' m' H' hp2 nx2, K hp2 nx2 ∧ Ending.returned v = .returned v' ∧ Q8 B w w' ∧ RelH m' H' B H0 gl (lkb hp2) nx2 w' ∧ ∀ p ∈ rest, RV H' (Q5 (lkb hp2) m') p.1 p.2 :=
    ⟨hd, v, hv1, v, m', H', _, _, hK, rfl, hfin.bel, hr2.heap, hr2.rest⟩
   cases e with
   | normal => exact hgo
   | ret => exact hgo
   | _ => cases hex
  ·cases hK
 ·cases hK
theorem Px (h0 : ch0.Ok P gl) (hwf : WF.Ok P gl wf) (hp : Je P gd) {ps : List AV} {f : Nat} {hd : Qz} {ks : List Nat} {kb : List KB} {args : List AV} {hpx : Tr Box} {nx : Nat} {K : AV → St → Prop} (hw : wfunD P gl ch0 wf gd ps fl f hs hd ks kb args hpx nx K)
  (m : Nat → Lc) (H : HV) (B : Nat → Prop) (H0 : HV) (rest : List (AV × Value)) (w : World) (vs : Array Value) (htop : rest.map (·.1) = ps) (hh : RelH m H B H0 gl (lkb hpx) nx w) (hl : args.length = vs.size)
  (hargs : ∀ (j : Nat) (x : AV) (v : Value), args[j]? = some x → vs[j]? = some v → RV H (Q5 (lkb hpx) m) x v) (hrest : ∀ p ∈ rest, RV H (Q5 (lkb hpx) m) p.1 p.2) :
  Ans P f vs w fun e w' => ∃ v m' H' r s tmps, K r s ∧ e = .returned v ∧ Q8 B w w' ∧ RelS m' H' B H0 gl rest s tmps w' ∧ RV H' (s.env m') r v := by
 unfold wfunD at hw
 split at hw
 rotate_left
 ·cases hw
 rename_i hg
 have hok := hp.fn f hg
 unfold okFn at hok
 split at hw
 rotate_left
 ·cases hw
 rename_i fn hf
 rw [hf] at hok
 simp only [Bool.and_eq_true, bne_iff_ne] at hok
 obtain ⟨hname, hok⟩ := hok
 split at hw
 rotate_left
 ·cases hw
 rename_i c hb
 rw [hb] at hok
 simp only at hok
 split at hw
 rotate_left
 ·cases hw
 rename_i hle
 have hle := Nat.le_of_ble_eq_true hle
 split at hw
 rotate_left
 ·cases hw
 rename_i s1 g caps l hx
 refine .inl ⟨U0 hf (by simpa using hname) (by rw [hb]; rfl), ?_⟩
 have hr0 := RelS.frame (rest := rest) hh hle hl hargs hrest
 obtain ⟨hokl, hD⟩ := NB (B := B) (H0 := H0) (rest := rest) h0 nrd_ok hp.mix 0 fl c _ s1 g caps l hok hx
 refine CallsIn.calls (F := FW none) (callsIn_of_wp_marks hf hb trivial (hD m H { tmps := vs ++ Array.replicate (fn.ntmps - vs.size) Go.undef, defers := [] } w hr0 _ fun a1 w1 m1 H1 us hdf hb1 hr1 hcl hcv => ?_)) (fun k d hd => by simp [FW] at hd)
 have hz : ∀ p ∈ caps.zip us.toList, RV H1 (s1.env m1) p.1 p.2 := fun p hp => by
  obtain ⟨j, hj⟩ := List.getElem?_of_mem hp
  rw [List.getElem?_zip_eq_some] at hj
  exact hcv j _ _ hj.1 (by simpa using hj.2)
 have hr1' : RelS m1 H1 B H0 gl (caps.zip us.toList ++ rest) s1 a1.tmps w1 := ⟨hr1.heap, hr1.size, hr1.slot, fun p hp => (List.mem_append.1 hp).elim (hz p) (hr1.rest p)⟩
 obtain ⟨s2, hconv, hw⟩ := XT (gl := gl) hw
 obtain ⟨m2, H2, hr2⟩ := hconv.2 _ _ _ _ _ _ _ hr1'
 obtain ⟨caps', vs', bs', m3, hw, hcl', hr3⟩ := Py hr2 hcl htop hw
 refine DU _ _ _ (Rp (rest := caps'.zip us.toList ++ rest) h0 hwf hp.mix l _ _ hokl hw m3 H2 a1 w1 (by rw [List.map_append, htop, List.map_fst_zip (by simp [hcl'])]) hr3) fun e a' w' ⟨s, m4, H4, hK, hd, hb2, hr4⟩ => ?_
 split at hK
 rotate_left
 ·cases hK
 rename_i hex
 have hgo : LeavesInM (FW none) 0 P fn a'.tmps (fun e w' => ∃ v m' H' r s tmps, K r s ∧ e = .returned v ∧ Q8 B w w' ∧ RelS m' H' B H0 gl rest s tmps w' ∧ RV H' (s.env m') r v) a'.defers .returning w' := by
  rw [hd, hdf]
  obtain ⟨hent, hcd⟩ := Fx (B := B) (H0 := H0) (rest := (List.range s.n).map (fun k => (s.get k, a'.tmps.getD k Go.undef)) ++ rest) h0 hwf hp hK hr4.heap hcl' (fun j x v hx hv => by
   refine hr4.rest (x, v) (List.mem_append_left _ (List.mem_of_getElem? (i := j) ?_))
   rw [List.getElem?_zip_eq_some]; exact ⟨hx, by simpa using hv⟩) (fun p hp => by
   rcases List.mem_append.1 hp with hp | hp
   ·obtain ⟨k, _, rfl⟩ := List.mem_map.1 hp
    exact hr4.slot k
   ·exact hr4.rest p (List.mem_append_right _ hp))
  refine ⟨by simp, .inr ⟨fun h => by simp [FW] at h, .func g, us, g, us, rfl, ?_, fun _ _ => trivial, hcd.mono fun e u' w4 ⟨hu, v, m5, H5, hp2, nx2, hK2, he, hb4, hh4, hrest4⟩ => ?_⟩⟩
  ·show (callFunc g (#[] ++ us)).run P w' = _
   rw [Array.empty_append]; exact hent
  ·subst hu; subst he
   have hr5 : RelS m5 H5 B H0 gl rest (s.setHp hp2 nx2) a'.tmps w4 := by
    refine ⟨hh4, hr4.size, fun k => ?_, fun p hp => hrest4 p (List.mem_append_right _ hp)⟩
    rcases Nat.lt_or_ge k s.n with hlt | hge
    ·exact hrest4 (s.get k, a'.tmps.getD k Go.undef) (List.mem_append_left _ (List.mem_map.2 ⟨k, List.mem_range.2 hlt, rfl⟩))
    ·have hu : a'.tmps.getD k Go.undef = Go.undef := by rw [Array.getD_eq_getD_getElem?, Array.getElem?_eq_none (by rw [hr4.size]; exact hge)]; rfl
     have := hr4.slot k
     rw [hu] at this ⊢
     exact LV this
   split at hK2
   ·rename_i r hres
    obtain ⟨v, hv, hrv⟩ := Cr hr5 hres
    exact ⟨v, hv, v, m5, H5, r, _, a'.tmps, hK2, rfl, hb1.trans (hb2.trans hb4), hr5, hrv⟩
   ·cases hK2
 cases e with
 | normal => exact hgo
 | ret => exact hgo
 | _ => cases hex
def wpureD (P : Program) (gl : Nat → AV) (ch0 : Ql) (wf : WF) (gd : Nat → Bool) (fl f : Nat) (hs hd : Qz) (ks : List Nat) (kd kb : List KB) (args : List AV) (bs : List Box) (r : AV) (bs' : List Box) : Prop :=
 wfunD P gl ch0 wf gd (K8 0 bs) fl f hs hd ks kd args (hpOf 0 bs) bs.length (endH (K8 0 bs) kb r bs')
theorem PuH.ofD (h0 : ch0.Ok P gl) (hwf : WF.Ok P gl wf) (hp : Je P gd) {f : Nat} {hd : Qz} {ks : List Nat} {kd kb : List KB} {args : List AV} {bs bs' : List Box} {r : AV} (hw : wpureD P gl ch0 wf gd fl f hs hd ks kd kb args bs r bs') : PuH P gl f args bs r bs' := by
 refine ⟨fun m H B H0 rest w vs hh hl hargs hrest hrv => ?_⟩
 refine (Px h0 hwf hp hw m H B H0 rest w vs hrest hh hl hargs hrv).mono fun e w' hq => ?_
 obtain ⟨v, m', H', r0, s, tmps, hK, rfl, hb, hr, hrv⟩ := hq
 exact SS hrest hK hr hrv hb
end
end HY
end
section
namespace Go.Proofs.YtkgphhemcglgnaaGreatDoor
open Go HY
set_option maxRecDepth 1000000
noncomputable def WHD (f : Nat) (hs hd : Qz) (ks : List Nat) (kd kb : List KB) (args : List AV) (bs : List Box) (r : AV) (bs' : List Box) : Prop := wpureD Tryz.prog gls ch0 wf0 gds 2000 f hs hd ks kd kb args bs r bs'
theorem PuHD1 {φ : Prop} {f : Nat} {hs hd : Qz} {ks : List Nat} {kd kb : List KB} {args : List AV} {bs bs' : List Box} {r : AV} (e : φ = WHD f hs hd ks kd kb args bs r bs') (h : φ) : PuH Tryz.prog gls f args bs r bs' := PuH.ofD (hs := hs) (hd := hd) (ks := ks) (kd := kd) JV Um JX (show WHD f hs hd ks kd kb args bs r bs' from e ▸ h)
end Go.Proofs.YtkgphhemcglgnaaGreatDoor
end
noncomputable section
namespace Go.Proofs.YtkgphhemcglgnaaGreatDoor
open Go HY
set_option maxRecDepth 1000000
set_option linter.unusedVariables false
def ZV (r : (Int × Q2)) : AV := eI r.1
def ZP (r : (Int × Q2)) : List Box := [.cells 0 [.mp 1, ii r.2.fe, .ow 2 0 2 (List.length r.2.fm), .ow 3 0 13 (List.length r.2.fc), .ow 4 0 22 (List.length r.2.fj)], .mapI r.2.fA, .own 0 2 (List.map Qh r.2.fm), .own 0 13 (List.map Qd r.2.fc), .own 0 22 (List.map Qn r.2.fj)]
def Yp (r : (Int × Q2)) : AV := eI r.1
def Yn (r : (Int × Q2)) : List Box := [.cells 0 [.mp 1, ii r.2.fe, .ow 2 0 2 (List.length r.2.fm), .ow 3 0 13 (List.length r.2.fc), .ow 4 0 22 (List.length r.2.fj)], .mapI r.2.fA, .own 0 2 (List.map Qh r.2.fm), .own 0 13 (List.map Qd r.2.fc), .own 0 22 (List.map Qn r.2.fj)]
def XW (s : List Int) (u : ((List Q7) × Int)) (o : Q2 ⊕ (Q2 × Int)) : List Alt := lp o (.exit 0) (fun _ => [.ptr 0 0 0, .undef]) (fun x => [.cells 0 [.mp 1, ii x.fe, .ow 2 0 2 (List.length x.fm), .ow 3 0 13 (List.length x.fc), .ow 4 0 22 (List.length x.fj)], .mapI x.fA, .own 0 2 (List.map Qh x.fm), .own 0 13 (List.map Qd x.fc), .own 0 22 (List.map Qn x.fj)]) .ret (fun x => [.ptr 0 0 0, ii x.2]) (fun x => [.cells 0 [.mp 1, ii x.1.fe, .ow 2 0 2 (List.length x.1.fm), .ow 3 0 13 (List.length x.1.fc), .ow 4 0 22 (List.length x.1.fj)], .mapI x.1.fA, .own 0 2 (List.map Qh x.1.fm), .own 0 13 (List.map Qd x.1.fc), .own 0 22 (List.map Qn x.1.fj)])
def X3 (s : ((List Int) × Qe)) (u : (Int × Int)) (o : Q2 ⊕ (Q2 × Int)) : List Alt := lp o (.exit 0) (fun _ => [.ptr 0 0 0, .ptr 5 0 0, .undef, .ptr 6 0 0]) (fun x => [.cells 0 [.mp 1, ii x.fe, .ow 2 0 2 (List.length x.fm), .ow 3 0 13 (List.length x.fc), .ow 4 0 22 (List.length x.fj)], .mapI x.fA, .own 0 2 (List.map Qh x.fm), .own 0 13 (List.map Qd x.fc), .own 0 22 (List.map Qn x.fj), .cells 0 [.ptr 0 0 0], .cells 0 [ii u.1]]) .ret (fun x => [.ptr 0 0 0, .ptr 5 0 0, ii x.2, .ptr 6 0 0]) (fun x => [.cells 0 [.mp 1, ii x.1.fe, .ow 2 0 2 (List.length x.1.fm), .ow 3 0 13 (List.length x.1.fc), .ow 4 0 22 (List.length x.1.fj)], .mapI x.1.fA, .own 0 2 (List.map Qh x.1.fm), .own 0 13 (List.map Qd x.1.fc), .own 0 22 (List.map Qn x.1.fj), .cells 0 [.ptr 0 0 0], .cells 0 [ii u.1]])
def Yq (s : ((List Int) × (List Q7) × Int)) (u : Int) (o : (Q2 × Int)) : List Alt := l1 o .normal (fun x => [.ptr 0 0 0, .sl 1 (List.map eI (s.1)), ii (x.2), .sl 20 (List.map Q9 (s.2.1)), ii (s.2.2), ii u]) (fun x => [.cells 0 [.mp 1, ii (x.1).fe, .ow 2 0 2 (List.length ((x.1).fm)), .ow 3 0 13 (List.length ((x.1).fc)), .ow 4 0 22 (List.length ((x.1).fj))], .mapI ((x.1).fA), .own 0 2 (List.map Qh (x.1).fm), .own 0 13 (List.map Qd (x.1).fc), .own 0 22 (List.map Qn (x.1).fj)])
mutual
def Z8 (x0 : Q2) (x1 : List Q7) (x2 : List Int) : Option (Int × Q2) :=
 some (List.length x1 : Int) >>= fun v0 =>
 some (x1, v0) >>= fun v1 =>
 QE x0 x2 x1 v0 0 >>= fun v2 => (match v2 with
 | (.inl v3) =>
 some ((0 : Int), v3)
 | (.inr v4) =>
 some (v4.snd, v4.fst))
 partial_fixpoint
def QE (x0 : Q2) (x2 : List Int) (x11 : List Q7) (x12 : Int) (x13 : Int) : Option (Q2 ⊕ (Q2 × Int)) :=
 if x13 < x12 then
 Option.map Q7.f (ix x11 x13) >>= fun v0 =>
 X0 x2 >>= fun v1 =>
 if (v1.length + (1 : Nat)) * (8 : Nat) ≤ (140737488355328 : Nat) ∧ v1.length + (1 : Nat) ≤ (9223372036854775807 : Nat) then
 some (v1 ++ [x13]) >>= fun v2 =>
 some x13 >>= fun v3 =>
 (if v0.fOp == 1 then
 Yo x0 v0 v2 >>= fun v5 =>
 some (v5.snd, v5.fst)
 else
 if v0.fOp == 4 then
 GG x0 v0 v2 >>= fun v6 =>
 some (v6.snd, v6.fst)
 else
 KP x0 v0 v2 >>= fun v7 =>
 some (v7.snd, v7.fst)) >>= fun v8 =>
 if v8.snd != 0 then
 some (.inr (v8.fst, v8.snd))
 else
 QE v8.fst x2 x11 x12 (wr (v3 + 1))
 else none
 else
 some (.inl x0)
 partial_fixpoint
def Yo (x0 : Q2) (x1 : Qe) (x2 : List Int) : Option (Int × Q2) :=
 some ((↑x0.fm.length : Int), x1.fE) >>= fun v0 =>
 QT x0 x2 x1 (↑x0.fm.length : Int) x1.fE 0 >>= fun v1 => (match v1 with
 | (.inl v2) =>
 if (0 : Int) = (0 : Int) ∧ 0 ≤ v0.fst ∧ v0.fst ≤ (↑v2.fm.length : Int) then
 if List.length (List.take v0.fst.toNat v2.fm) = v0.fst.toNat then
 some (List.take v0.fst.toNat v2.fm) >>= fun v3 =>
 some ((0 : Int), (Q2.mk v2.fA v2.fe v3 v2.fc v2.fj))
 else none
 else none
 | (.inr v4) =>
 if (0 : Int) = (0 : Int) ∧ 0 ≤ v0.fst ∧ v0.fst ≤ (↑v4.fst.fm.length : Int) then
 if List.length (List.take v0.fst.toNat v4.fst.fm) = v0.fst.toNat then
 some (List.take v0.fst.toNat v4.fst.fm) >>= fun v5 =>
 some (v4.snd, (Q2.mk v4.fst.fA v4.fst.fe v5 v4.fst.fc v4.fst.fj))
 else none
 else none)
 partial_fixpoint
def QT (x0 : Q2) (x2 : List Int) (x4 : Qe) (x7 : Int) (x17 : Int) (x18 : Int) : Option (Q2 ⊕ (Q2 × Int)) :=
 if x18 < x17 then
 if 65536 < wr (x0.fe + 1) then
 some (.inr ((Q2.mk x0.fA (wr (x0.fe + 1)) x0.fm x0.fc x0.fj), (2 : Int)))
 else
 if (0 : Int) = (0 : Int) ∧ 0 ≤ x7 ∧ x7 ≤ (↑x0.fm.length : Int) then
 if x7.toNat ≤ (List.map Qh x0.fm).length ∧ (x7.toNat + (1 : Nat)) * (24 : Nat) ≤ (140737488355328 : Nat) ∧ x7.toNat + (1 : Nat) ≤ (9223372036854775807 : Nat) then
 some ((Xk.mk x4.fb x18)) >>= fun v0 =>
 if List.length ((List.take x7.toNat x0.fm) ++ [(Xk.mk x4.fb x18)]) = (x7.toNat + (1 : Nat)) then
 some ((List.take x7.toNat x0.fm) ++ [(Xk.mk x4.fb x18)]) >>= fun v1 =>
 Z8 (Q2.mk x0.fA (wr (x0.fe + 1)) v1 x0.fc x0.fj) x4.fd x2 >>= fun v2 =>
 if v2.fst != 0 then
 some (.inr (v2.snd, v2.fst))
 else
 QT v2.snd x2 x4 x7 x17 (wr (x18 + 1))
 else none
 else none
 else none
 else
 some (.inl x0)
 partial_fixpoint
end
theorem NX  : (∀ (x0 : Q2) (x1 : List Q7) (x2 : List Int) (r : (Int × Q2)), Z8 x0 x1 x2 = some r → PH 44 [.ptr 0 0 0, ZG x1, eLI x2] [.cells 0 [.mp 1, ii x0.fe, .ow 2 0 2 (List.length x0.fm), .ow 3 0 13 (List.length x0.fc), .ow 4 0 22 (List.length x0.fj)], .mapI x0.fA, .own 0 2 (List.map Qh x0.fm), .own 0 13 (List.map Qd x0.fc), .own 0 22 (List.map Qn x0.fj)] (ZV r) (ZP r)) ∧ (∀ (x0 : Q2) (x2 : List Int) (x11 : List Q7) (x12 : Int) (x13 : Int) (o : Q2 ⊕ (Q2 × Int)), QE x0 x2 x11 x12 x13 = some o → LOp [.ptr 0 0 0, .mp 1] 44 2 45 [0, 2, 11, 12, 13] [.ptr 0 0 0, .sl 1 (List.map eI x2), .sl 20 (List.map Q9 x11), ii x12, ii x13] [.cells 0 [.mp 1, ii x0.fe, .ow 2 0 2 (List.length x0.fm), .ow 3 0 13 (List.length x0.fc), .ow 4 0 22 (List.length x0.fj)], .mapI x0.fA, .own 0 2 (List.map Qh x0.fm), .own 0 13 (List.map Qd x0.fc), .own 0 22 (List.map Qn x0.fj)] [0, 6] (XW x2 (x11, x12) o)) ∧ (∀ (x0 : Q2) (x1 : Qe) (x2 : List Int) (r : (Int × Q2)), Yo x0 x1 x2 = some r → PH 91 [.ptr 0 0 0, Qm x1, eLI x2] [.cells 0 [.mp 1, ii x0.fe, .ow 2 0 2 (List.length x0.fm), .ow 3 0 13 (List.length x0.fc), .ow 4 0 22 (List.length x0.fj)], .mapI x0.fA, .own 0 2 (List.map Qh x0.fm), .own 0 13 (List.map Qd x0.fc), .own 0 22 (List.map Qn x0.fj)] (Yp r) (Yn r)) ∧ (∀ (x0 : Q2) (x2 : List Int) (x4 : Qe) (x7 : Int) (x17 : Int) (x18 : Int) (o : Q2 ⊕ (Q2 × Int)), QT x0 x2 x4 x7 x17 x18 = some o → LOp [.ptr 5 0 0, .ptr 6 0 0, .ptr 0 0 0, .mp 1] 91 4 57 [0, 2, 3, 4, 7, 17, 18] [.ptr 0 0 0, .sl 1 (List.map eI x2), .ptr 5 0 0, .ptr 7 0 0, .ptr 6 0 0, ii x17, ii x18] [.cells 0 [.mp 1, ii x0.fe, .ow 2 0 2 (List.length x0.fm), .ow 3 0 13 (List.length x0.fc), .ow 4 0 22 (List.length x0.fj)], .mapI x0.fA, .own 0 2 (List.map Qh x0.fm), .own 0 13 (List.map Qd x0.fc), .own 0 22 (List.map Qn x0.fj), .cells 0 [.ptr 0 0 0], .cells 0 [ii x7], .cells 0 (Qm x4).cells] [0, 3, 6, 7] (X3 (x2, x4) (x7, x17) o)) :=
 Z8.mutual_partial_correctness  _ _ _ _
 (fun QE Ba x0 x1 x2 r h  =>
 PuH2 (hs := [(12, .n eI 12 none), (3000003, .l [] [0, 2, 11, 12, 13] [kk 0, { slot := 0, path := [0] }, { slot := 0, path := [2], own := 2 }, { slot := 0, path := [3], own := 13 }, { slot := 0, path := [4], own := 22 }] [0, 6] [kk 0, { slot := 0, path := [0] }, { slot := 0, path := [2], own := 2 }, { slot := 0, path := [3], own := 13 }, { slot := 0, path := [4], own := 22 }] (XW x2))]) (kb := [kk 1, { slot := 1, path := [0] }, { slot := 1, path := [2], own := 2 }, { slot := 1, path := [3], own := 13 }, { slot := 1, path := [4], own := 22 }]) ((kN _ (mLen (sh := Q9) x1) fun v0 => (kL2 (x1, v0) (hL := (Ba x0 x2 x1 v0 0)) (hA := fun v1 v3 => (kEH (enc := ZV) (bt := ZP) ((0 : Int), v3) ⟨.refl _, .refl _⟩))
 (hB := fun v1 v4 => (kEH (enc := ZV) (bt := ZP) (v4.snd, v4.fst) ⟨.refl _, .refl _⟩)))) h))
 (fun QE Yo Ba Bb x0 x2 x11 x12 x13 o h  =>
 Lp1p (hs := [(14, .split), (16, .e Qm), (19, .h [] Vh Vb), (22, .z [{ slot := 19, own := 1 }] (some (.n eI 22 (some .a)))), (9, .z [{ slot := 22, fz := true }] none), (30, .split), (34, .h [kk 0, { slot := 0, path := [0] }, { slot := 0, path := [2], own := 2 }, { slot := 0, path := [3], own := 13 }, { slot := 0, path := [4], own := 22 }] Yp Yn), (36, .split), (40, .h [kk 0, { slot := 0, path := [0] }, { slot := 0, path := [2], own := 2 }, { slot := 0, path := [3], own := 13 }, { slot := 0, path := [4], own := 22 }] Jt Jr), (28, .h [kk 0, { slot := 0, path := [0] }, { slot := 0, path := [2], own := 2 }, { slot := 0, path := [3], own := 13 }, { slot := 0, path := [4], own := 22 }] Z0 QZ), (42, .split), (7000002, .l [] [] [] [0, 2, 10, 11, 12, 13] [kk 0, { slot := 0, path := [0] }, { slot := 0, path := [2], own := 2 }, { slot := 0, path := [3], own := 13 }, { slot := 0, path := [4], own := 22 }] (Yq (x2, x11, x12)))]) (kb := [kk 0, { slot := 0, path := [0] }, { slot := 0, path := [2], own := 2 }, { slot := 0, path := [3], own := 13 }, { slot := 0, path := [4], own := 22 }]) (kbx := [kk 0, { slot := 0, path := [0] }, { slot := 0, path := [2], own := 2 }, { slot := 0, path := [3], own := 13 }, { slot := 0, path := [4], own := 22 }]) (by kernel_rfl) (by kernel_rfl) ((kIfD (p := x13 < x12) (kIxR (l := x11) (k := x13) Zy fun v0 => (kH (sh := Vh) (bt := Vb) (C8 x2) fun v1 => (kA (q := (v1.length + (1 : Nat)) * (8 : Nat) ≤ (140737488355328 : Nat) ∧ v1.length + (1 : Nat) ≤ (9223372036854775807 : Nat)) (sh := eI) (l := v1) (kO (sh := eI) (v1 ++ [x13]) (mA (sh := eI) v1 x13) (nA v1 x13) fun v2 => (kT (nM (sh := eI) v2) (kJ1 (id := 7000002) x13 (fun v3 ev3 v4 => (kIf (c := v0.fOp == 1) (kH (sh := Yp) (bt := Yn) (Bb x0 v0 v2) fun v5 => (kXj (alts := Yq (x2, x11, x12)) ev3 (v5.snd, v5.fst) (.here _ rfl (.refl _) (.refl _))))
 (kIf (c := v0.fOp == 4) (kH (sh := Jt) (bt := Jr) (NM x0 v0 v2) fun v6 => (kXj (alts := Yq (x2, x11, x12)) ev3 (v6.snd, v6.fst) (.here _ rfl (.refl _) (.refl _))))
 (kH (sh := Z0) (bt := QZ) (Nj x0 v0 v2) fun v7 => (kXj (alts := Yq (x2, x11, x12)) ev3 (v7.snd, v7.fst) (.here _ rfl (.refl _) (.refl _)))))))
 (fun v3 v8 => (kIf (c := v8.snd != 0) (kX (alts := XW x2 (x11, x12)) (.inr (v8.fst, v8.snd)) (.next (.here _ rfl (.refl _) (.refl _))))
 (kM0 (alts := XW x2 (x11, x12)) (Ba v8.fst x2 x11 x12 (wr (v3 + 1))))))))))))
 (kX (alts := XW x2 (x11, x12)) (.inl x0) (.here _ rfl (.refl _) (.refl _)))) h))
 (fun QT Bc x0 x1 x2 r h  =>
 PuHD1 (hs := [(14, .n eI 14 none), (3000005, .l [] [0, 2, 3, 4, 7, 17, 18] [kk 0, { slot := 0, path := [0] }, { slot := 0, path := [2], own := 2 }, { slot := 0, path := [3], own := 13 }, { slot := 0, path := [4], own := 22 }, kk 3, kk 7, kk 4] [0, 3, 6, 7] [kk 0, { slot := 0, path := [0] }, { slot := 0, path := [2], own := 2 }, { slot := 0, path := [3], own := 13 }, { slot := 0, path := [4], own := 22 }, kk 3, kk 7] (X3 (x2, x1)))]) (hd := [(8, .s), (9, .z [{ slot := 8, own := 2, cut := true }] (some (.n Qh 8 none)))]) (ks := [0, 2, 3, 4, 7]) (kd := [kk 0, { slot := 0, path := [0] }, { slot := 0, path := [2], own := 2 }, { slot := 0, path := [3], own := 13 }, { slot := 0, path := [4], own := 22 }, kk 3, kk 7, kk 4]) (kb := [kk 1, { slot := 1, path := [0] }, { slot := 1, path := [2], own := 2 }, { slot := 1, path := [3], own := 13 }, { slot := 1, path := [4], own := 22 }]) (by kernel_rfl) ((kL2 ((↑x0.fm.length : Int), x1.fE) (hL := (Bc x0 x2 x1 (↑x0.fm.length : Int) x1.fE 0)) (hA := fun v0 v2 => (kG (p := (0 : Int) = (0 : Int) ∧ 0 ≤ v0.fst ∧ v0.fst ≤ (↑v2.fm.length : Int)) (kOc (sh := Qh) (List.take v0.fst.toNat v2.fm) (mT (sh := Qh) v2.fm v0.fst.toNat) fun v3 => (kEH (enc := Yp) (bt := Yn) ((0 : Int), (Q2.mk v2.fA v2.fe v3 v2.fc v2.fj)) ⟨.refl _, .refl _⟩))))
 (hB := fun v0 v4 => (kG (p := (0 : Int) = (0 : Int) ∧ 0 ≤ v0.fst ∧ v0.fst ≤ (↑v4.fst.fm.length : Int)) (kOc (sh := Qh) (List.take v0.fst.toNat v4.fst.fm) (mT (sh := Qh) v4.fst.fm v0.fst.toNat) fun v5 => (kEH (enc := Yp) (bt := Yn) (v4.snd, (Q2.mk v4.fst.fA v4.fst.fe v5 v4.fst.fc v4.fst.fj)) ⟨.refl _, .refl _⟩))))) h))
 (fun Z8 QT B9 Bc x0 x2 x4 x7 x17 x18 o h  =>
 Lp1p (hs := [(19, .split), (32, .split), (43, .n Qh 43 none), (52, .h [kk 0, { slot := 0, path := [0] }, { slot := 0, path := [2], own := 2 }, { slot := 0, path := [3], own := 13 }, { slot := 0, path := [4], own := 22 }] ZV ZP), (54, .split), (39, .s), (45, .n Qh 45 (some .ac))]) (kb := [kk 0, { slot := 0, path := [0] }, { slot := 0, path := [2], own := 2 }, { slot := 0, path := [3], own := 13 }, { slot := 0, path := [4], own := 22 }, kk 3, kk 7, kk 4]) (kbx := [kk 0, { slot := 0, path := [0] }, { slot := 0, path := [2], own := 2 }, { slot := 0, path := [3], own := 13 }, { slot := 0, path := [4], own := 22 }, kk 3, kk 7]) (by kernel_rfl) (by kernel_rfl) ((kIfD (p := x18 < x17) (kIfD (p := 65536 < wr (x0.fe + 1)) (kX (alts := X3 (x2, x4) (x7, x17)) (.inr ((Q2.mk x0.fA (wr (x0.fe + 1)) x0.fm x0.fc x0.fj), (2 : Int))) (.next (.here _ rfl (.refl _) (.refl _))))
 (kG (p := (0 : Int) = (0 : Int) ∧ 0 ≤ x7 ∧ x7 ≤ (↑x0.fm.length : Int)) (kG (p := x7.toNat ≤ (List.map Qh x0.fm).length ∧ (x7.toNat + (1 : Nat)) * (24 : Nat) ≤ (140737488355328 : Nat) ∧ x7.toNat + (1 : Nat) ≤ (9223372036854775807 : Nat)) (kW (sh := Qh) (Xk.mk x4.fb x18) lr fun v0 => (kOc (sh := Qh) ((List.take x7.toNat x0.fm) ++ [(Xk.mk x4.fb x18)]) (mAp (sh := Qh) (mT (sh := Qh) x0.fm x7.toNat) (rfl : List.map Qh [(Xk.mk x4.fb x18)] = List.map Qh [(Xk.mk x4.fb x18)])) fun v1 => (kH (sh := ZV) (bt := ZP) (B9 (Q2.mk x0.fA (wr (x0.fe + 1)) v1 x0.fc x0.fj) x4.fd x2) fun v2 => (kIf (c := v2.fst != 0) (kX (alts := X3 (x2, x4) (x7, x17)) (.inr (v2.snd, v2.fst)) (.next (.here _ rfl (.refl _) (.refl _))))
 (kM0 (alts := X3 (x2, x4) (x7, x17)) (Bc v2.snd x2 x4 x7 x17 (wr (x18 + 1)))))))))))
 (kX (alts := X3 (x2, x4) (x7, x17)) (.inl x0) (.here _ rfl (.refl _) (.refl _)))) h))
theorem Mr (x0 x1 x2 r) (h : Z8 x0 x1 x2 = some r) : PH 44 [.ptr 0 0 0, ZG x1, eLI x2] [.cells 0 [.mp 1, ii x0.fe, .ow 2 0 2 (List.length x0.fm), .ow 3 0 13 (List.length x0.fc), .ow 4 0 22 (List.length x0.fj)], .mapI x0.fA, .own 0 2 (List.map Qh x0.fm), .own 0 13 (List.map Qd x0.fc), .own 0 22 (List.map Qn x0.fj)] (ZV r) (ZP r) := (NX ).1 x0 x1 x2 r h
end Go.Proofs.YtkgphhemcglgnaaGreatDoor
end
noncomputable section
namespace Go.Proofs.YtkgphhemcglgnaaGreatDoor
open Go HY
set_option maxRecDepth 1000000
set_option linter.unusedVariables false
def Kw (s : Qq) (u : ((List (List Int)) × Int)) (o : Q2) : List Alt := l1 o (.exit 0) (fun _ => [.ptr 0 0 0, .ptr 1 0 0, .ptr 1 0 0]) (fun x => [.cells 0 (Xf s).cells, .cells 0 [.mp 2, ii x.fe, .ow 3 0 2 (List.length x.fm), .ow 4 0 13 (List.length x.fc), .ow 5 0 22 (List.length x.fj)], .mapI x.fA, .own 0 2 (List.map Qh x.fm), .own 0 13 (List.map Qd x.fc), .own 0 22 (List.map Qn x.fj)])
def ZU (x20 : Q2) (x22 : List (List Int)) (x23 : Int) (x24 : Int) : Option Q2 :=
 if x24 < x23 then
 ix x22 x24 >>= fun v0 =>
 GF v0 >>= fun v1 =>
 ZU (Q2.mk (CG v1 x24 x20.fA) x20.fe x20.fm x20.fc x20.fj) x22 x23 (wr (x24 + 1))
 else
 some x20
 partial_fixpoint
theorem Mp (x1 : Qq) (x20 : Q2) (x22 : List (List Int)) (x23 : Int) (x24 : Int) (o : Q2) (h : ZU x20 x22 x23 x24 = some o) : LO 13 6 48 [1, 6, 20, 22, 23, 24] [.ptr 0 0 0, .ptr 1 0 0, .ptr 1 0 0, .sl 1 (List.map eLI x22), ii x23, ii x24] [.cells 0 (Xf x1).cells, .cells 0 [.mp 2, ii x20.fe, .ow 3 0 2 (List.length x20.fm), .ow 4 0 13 (List.length x20.fc), .ow 5 0 22 (List.length x20.fj)], .mapI x20.fA, .own 0 2 (List.map Qh x20.fm), .own 0 13 (List.map Qd x20.fc), .own 0 22 (List.map Qn x20.fj)] [1, 6, 20] (Kw x1 (x22, x23) o) :=
 ZU.partial_correctness x22 x23 (fun x20 x24 o => ∀ (x1 : Qq), LO 13 6 48 [1, 6, 20, 22, 23, 24] [.ptr 0 0 0, .ptr 1 0 0, .ptr 1 0 0, .sl 1 (List.map eLI x22), ii x23, ii x24] [.cells 0 (Xf x1).cells, .cells 0 [.mp 2, ii x20.fe, .ow 3 0 2 (List.length x20.fm), .ow 4 0 13 (List.length x20.fc), .ow 5 0 22 (List.length x20.fj)], .mapI x20.fA, .own 0 2 (List.map Qh x20.fm), .own 0 13 (List.map Qd x20.fc), .own 0 22 (List.map Qn x20.fj)] [1, 6, 20] (Kw x1 (x22, x23) o))
 (fun ZU B5 x20 x24 o h x1 =>
 Lp2 (hs := [(25, .split), (27, .e eLI), (34, .c eS)]) (kb := [kk 1, kk 20, { slot := 20, path := [0] }, { slot := 20, path := [2], own := 2 }, { slot := 20, path := [3], own := 13 }, { slot := 20, path := [4], own := 22 }]) (kbx := [kk 1, kk 20, { slot := 20, path := [0] }, { slot := 20, path := [2], own := 2 }, { slot := 20, path := [3], own := 13 }, { slot := 20, path := [4], own := 22 }]) ((kIfD (p := x24 < x23) (kIx (enc := eLI) (l := x22) (k := x24) fun v0 => (kC (sh := eS) (NL v0) fun v1 => (kM0 (alts := Kw x1 (x22, x23)) (fun y hy => B5 (Q2.mk (CG v1 x24 x20.fA) x20.fe x20.fm x20.fc x20.fj) (wr (x24 + 1)) y hy x1))))
 (kX (alts := Kw x1 (x22, x23)) x20 (.here _ rfl (.refl _) (.refl _)))) h)) x20 x24 o h x1
def JD (x0 : Qq) : Option (List QY × Int) :=
 KS x0 >>= fun v0 =>
 if v0.snd != 0 then
 some ([], v0.snd)
 else
 Vf x0 >>= fun v1 =>
 some (List.length v1 : Int) >>= fun v2 =>
 some (v1, v2) >>= fun v3 =>
 ZU (Q2.mk [] (0 : Int) [] [] []) v1 v2 (0 : Int) >>= fun v5 =>
 Z8 v5 x0.fd [] >>= fun v6 =>
 if v6.fst != 0 then
 some ([], v6.fst)
 else
 some (v6.snd.fj, (0 : Int))
theorem Iz (x0 r) (h : JD x0 = some r) : PU 13 [Xf x0] (Vp r) :=
 Pu2 (hs := [(12, .c Dm), (16, .split), (22, .c eLLI), (23, .n eI 23 none), (40, .h [kk 0, { slot := 0, path := [0] }, { slot := 0, path := [2], own := 2 }, { slot := 0, path := [3], own := 13 }, { slot := 0, path := [4], own := 22 }] ZV ZP), (42, .split), (3000007, .l [] [1, 6, 20, 22, 23, 24] [kk 1, kk 20, { slot := 20, path := [0] }, { slot := 20, path := [2], own := 2 }, { slot := 20, path := [3], own := 13 }, { slot := 20, path := [4], own := 22 }] [1, 6, 20] [kk 1, kk 20, { slot := 20, path := [0] }, { slot := 20, path := [2], own := 2 }, { slot := 20, path := [3], own := 13 }, { slot := 20, path := [4], own := 22 }] (Kw x0))]) ((kC (sh := Dm) (Lk x0) fun v0 => (kIf (c := v0.snd != 0) (kE (enc := Vp) ([], v0.snd) (LeT.tup (.cons (LeT.nil 22) (.cons (LeT.refl (ii v0.snd)) .nil))))
 (kC (sh := eLLI) (Lx x0) fun v1 => (kN _ (mLen (sh := eLI) v1) fun v2 => (kL1 (v1, v2) (Mp x0 (Q2.mk [] (0 : Int) [] [] []) v1 v2 (0 : Int)) fun v3 v5 => (kH (sh := ZV) (bt := ZP) (fun y hy => PuH.le (Mr v5 x0.fd [] y hy) (.cons lr (.cons lr (.cons (LeV.nil 1) .nil))) (.refl _) (.refl _) (.refl _)) fun v6 => (kIf (c := v6.fst != 0) (kE (enc := Vp) ([], v6.fst) (LeT.tup (.cons (LeT.nil 22) (.cons (LeT.refl (ii v6.fst)) .nil))))
 (kT (nM (sh := Qn) v6.snd.fj) (kEr (enc := Vp) (v6.snd.fj, (0 : Int))))))))))) h)
end Go.Proofs.YtkgphhemcglgnaaGreatDoor
end
section
namespace Go.Proofs.YtkgphhemcglgnaaGreatDoor
open Go HY
set_option maxRecDepth 1000000
theorem Nu {e : Nat × List AV × AV × Tr Box × Nat} {T : Jb} (hT : UL Tryz.prog gls T) (he : KW Tryz.prog gls e.1 e.2.1 e.2.2.1 e.2.2.2.1 e.2.2.2.2) : UL Tryz.prog gls (e :: T) := fun e he2 => by
 rcases List.mem_cons.1 he2 with rfl | h
 ·exact he
 ·exact hT e h
def e0 : Nat × List AV × AV × Tr Box × Nat := (115, [.str [97]], .bool true, .nil, 1)
def memo0 : Jb := e0 :: Tz
theorem Tw : UL Tryz.prog gls memo0 := Nu LK (CU (Dp JX Na LK 60 (fl := 100000)) (by kernel_rfl))
def e1 : Nat × List AV × AV × Tr Box × Nat := (115, [.str [99]], .bool true, .nil, 1)
def memo1 : Jb := e1 :: memo0
theorem Tx : UL Tryz.prog gls memo1 := Nu Tw (CU (Dp JX Na Tw 60 (fl := 100000)) (by kernel_rfl))
def e2 : Nat × List AV × AV × Tr Box × Nat := (115, [.str [105]], .bool true, .nil, 1)
def memo2 : Jb := e2 :: memo1
theorem Ty : UL Tryz.prog gls memo2 := Nu Tx (CU (Dp JX Na Tx 60 (fl := 100000)) (by kernel_rfl))
def e3 : Nat × List AV × AV × Tr Box × Nat := (29, [.agg [.sl 8 [.agg [.str [97], .int .i64 1, .int .i64 0, .int .i64 0, .int .i64 0, .int .i64 0, .sl 1 [.agg [.int .i64 2]], .int .i64 1], .agg [.str [99], .int .i64 1, .int .i64 0, .int .i64 0, .int .i64 0, .int .i64 0, .sl 1 [.agg [.int .i64 2]], .int .i64 2]], .sl 20 [.agg [.int .i64 1, .str [105], .int .i64 2, .int .i64 0, .int .i64 0, .nil, .int .i64 0, .str [], .int .i64 0, .int .i64 0, .int .i64 0, .int .i64 0, .int .i64 0, .int .i64 0, .int .i64 0, .int .i64 0, .nil, .nil, .nil, .sl 20 [.agg [.int .i64 2, .str [99], .int .i64 0, .int .i64 0, .int .i64 0, .sl 4 [.agg [.int .i64 0, .sl 2 [.agg [.str [105], .int .i64 1]], .str [], .nil]], .int .i64 3, .str [97], .int .i64 0, .int .i64 0, .int .i64 0, .int .i64 0, .int .i64 0, .int .i64 0, .int .i64 0, .int .i64 0, .nil, .sl 4 [.agg [.int .i64 0, .sl 2 [.agg [.str [105], .int .i64 1]], .str [], .nil]], .nil, .nil]]]]]], .tup [.nil, .int .i64 0], .nil, 1)
def memo3 : Jb := e3 :: memo2
theorem Pa : UL Tryz.prog gls memo3 := Nu Ty (CU (Dp JX Na Ty 60 (fl := 100000)) (by kernel_rfl))
end Go.Proofs.YtkgphhemcglgnaaGreatDoor
end
section
namespace Go.Proofs.YtkgphhemcglgnaaGreatDoor
open Go HY
set_option maxRecDepth 1000000
theorem ex_run : HY.isTrue (xcallM Tryz.prog gls gds 100000 xe0 memo3 60 12 [] .nil 0) = true := by kernel_rfl
theorem ex_ok : Pu Tryz.prog gls 12 [] (.bool true) := by
 have h := ex_run
 unfold HY.isTrue at h
 split at h
 ·rename_i r hr
  exact Pu.ofCall (Dp JX Na Pa 60 _ _ _ _ _ _ _ hr).zero rfl
 ·cases h
end Go.Proofs.YtkgphhemcglgnaaGreatDoor
end
section
namespace Go.Proofs.YtkgphhemcglgnaaGreatDoor
open Go HY
noncomputable def VQ : Option Bool := some true
theorem Dc (r : Bool) (h : VQ = some r) : PU 12 [] (.bool r) := by
 cases h
 exact ex_ok
end Go.Proofs.YtkgphhemcglgnaaGreatDoor
end
noncomputable section
namespace Go.Proofs.YtkgphhemcglgnaaGreatDoor
open Go HY
set_option maxRecDepth 1000000
set_option linter.unusedVariables false
def D7 (x0 : Str) : Option gLin :=
 some ((Qs.mk x0 (1 : Int))) >>= fun v0 =>
 some ((gLin.mk (0 : Int) [v0])) >>= fun v1 =>
 some v1
theorem IX (x0 r) (h : D7 x0 = some r) : PU 51 [eS x0] (Qb r) :=
 Pu2 (hs := [(4, .n Q4 4 none), (6, .z [{ slot := 5, own := 2 }, { slot := 5, fz := true }] (some (.n Qb 6 none)))]) ((kW (sh := Q4) (Qs.mk x0 (1 : Int)) lr fun v0 => (kT (rfl : (1 : Nat) = (1 : Nat)) (kW (sh := Qb) (gLin.mk (0 : Int) [v0]) lr fun v1 => (kEr (enc := Qb) v1)))) h)
def Dz  : Option Qq :=
 some ((Qg.mk (1 : Int) (0 : Int) (0 : Int) (0 : Int) (0 : Int))) >>= fun v0 =>
 D7 [(105 : UInt8)] >>= fun v1 =>
 some ((Q6.mk v1 [] [])) >>= fun v2 =>
 some ((Qv.mk (3 : Int) [(97 : UInt8)] (gVal.mk (0 : Int) (0 : Int)) (Qg.mk (0 : Int) (0 : Int) (0 : Int) (0 : Int) (0 : Int)) (gLin.mk (0 : Int) []) [v2] [] : Q3)) >>= fun v3 =>
 some ((QC.mk (2 : Int) [(99 : UInt8)] (0 : Int) (0 : Int) (0 : Int) [v2] v3 [] : Qe)) >>= fun v4 =>
 some ((Qj.mk [(97 : UInt8)] v0 [(2 : Int)] (1 : Int))) >>= fun v5 =>
 some ((Qj.mk [(99 : UInt8)] v0 [(2 : Int)] (2 : Int))) >>= fun v6 =>
 some ((QC.mk (1 : Int) [(105 : UInt8)] (2 : Int) (0 : Int) (0 : Int) [] (Qv.mk (0 : Int) [] (gVal.mk (0 : Int) (0 : Int)) (Qg.mk (0 : Int) (0 : Int) (0 : Int) (0 : Int) (0 : Int)) (gLin.mk (0 : Int) []) [] [] : Q3) [(Q7.mk v4)] : Qe)) >>= fun v7 =>
 some ((Qq.mk [v5, v6] [(Q7.mk v7)])) >>= fun v8 =>
 some v8
theorem HF  (r : Qq) (h : Dz  = some r) : PU 19 [] (Xf r) :=
 Pu2 (hs := [(4, .n Qp 4 none), (5, .c Qb), (6, .n Q1 6 none), (2, .z [{ slot := 7, own := 4 }, { slot := 7, fz := true }] none), (10, .n Qa 10 none), (11, .n Qm 11 none), (14, .z [{ slot := 13, own := 1 }, { slot := 13, fz := true }] (some (.n Qc 14 none))), (17, .z [{ slot := 16, own := 1 }, { slot := 16, fz := true }] (some (.n Qc 17 none))), (21, .z [{ slot := 20, own := 20 }, { slot := 20, fz := true }] (some (.n Qm 21 none))), (23, .z [{ slot := 18, own := 8 }, { slot := 18, fz := true }, { slot := 22, own := 20 }, { slot := 22, fz := true }] (some (.n Xf 23 none)))]) ((kW (sh := Qp) (Qg.mk (1 : Int) (0 : Int) (0 : Int) (0 : Int) (0 : Int)) lr fun v0 => (kC (sh := Qb) (IX [(105 : UInt8)]) fun v1 => (kW (sh := Q1) (Q6.mk v1 [] []) (LeV.agg (.cons lr (.cons lr (.cons lr (.cons (LeV.nil 2) .nil))))) fun v2 => (kT (rfl : (1 : Nat) = (1 : Nat)) (kW (sh := Qa) (Qv.mk (3 : Int) [(97 : UInt8)] (gVal.mk (0 : Int) (0 : Int)) (Qg.mk (0 : Int) (0 : Int) (0 : Int) (0 : Int) (0 : Int)) (gLin.mk (0 : Int) []) [v2] [] : Q3) (LeV.agg (.cons lr (.cons lr (.cons lr (.cons lr (.cons lr (.cons lr (.cons lr (.cons lr (.cons lr (.cons lr (.cons (LeV.nil 2) (.cons lr (.cons (LeV.nil 13) .nil)))))))))))))) fun v3 => (kW (sh := Qm) (QC.mk (2 : Int) [(99 : UInt8)] (0 : Int) (0 : Int) (0 : Int) [v2] v3 [] : Qe) (LeV.agg (.cons lr (.cons lr (.cons lr (.cons lr (.cons lr (.cons lr (.cons lr (.cons lr (.cons lr (.cons lr (.cons lr (.cons lr (.cons lr (.cons lr (.cons lr (.cons lr (.cons lr (.cons lr (.cons lr (.cons (LeV.nil 20) .nil))))))))))))))))))))) fun v4 => (kT (rfl : (1 : Nat) = (1 : Nat)) (kW (sh := Qc) (Qj.mk [(97 : UInt8)] v0 [(2 : Int)] (1 : Int)) lr fun v5 => (kT (rfl : (1 : Nat) = (1 : Nat)) (kW (sh := Qc) (Qj.mk [(99 : UInt8)] v0 [(2 : Int)] (2 : Int)) lr fun v6 => (kT (rfl : (1 : Nat) = (1 : Nat)) (kW (sh := Qm) (QC.mk (1 : Int) [(105 : UInt8)] (2 : Int) (0 : Int) (0 : Int) [] (Qv.mk (0 : Int) [] (gVal.mk (0 : Int) (0 : Int)) (Qg.mk (0 : Int) (0 : Int) (0 : Int) (0 : Int) (0 : Int)) (gLin.mk (0 : Int) []) [] [] : Q3) [(Q7.mk v4)] : Qe) (LeV.agg (.cons lr (.cons lr (.cons lr (.cons lr (.cons lr (.cons (LeV.nil 4) (.cons lr (.cons lr (.cons lr (.cons lr (.cons lr (.cons lr (.cons lr (.cons lr (.cons lr (.cons lr (.cons (LeV.nil 2) (.cons (LeV.nil 4) (.cons (LeV.nil 13) (.cons (LeV.sl (.cons (Ww v4) .nil)) .nil))))))))))))))))))))) fun v7 => (kT (rfl : (2 : Nat) = (2 : Nat)) (kT (rfl : (1 : Nat) = (1 : Nat)) (kW (sh := Xf) (Qq.mk [v5, v6] [(Q7.mk v7)]) (LeV.agg (.cons lr (.cons (LeV.sl (.cons (Ww v7) .nil)) .nil))) fun v8 => (kEr (enc := Xf) v8)))))))))))))))) h)
def VJ (s : ((List Int) × (List Int))) (u : Unit) (o : Unit ⊕ Bool) : List Alt := lp o (.exit 0) (fun _ => [.undef]) (fun _ => []) .ret (fun x => [.bool x]) (fun _ => [])
def VK (x0 : List Int) (x1 : List Int) (x5 : Int) : Option (Unit ⊕ Bool) :=
 some (List.length x0 : Int) >>= fun v0 =>
 if x5 < v0 then
 ix x0 x5 >>= fun v1 =>
 ix x1 x5 >>= fun v2 =>
 if v1 != v2 then
 some (.inr false)
 else
 VK x0 x1 (wr (x5 + 1))
 else
 some (.inl ())
 partial_fixpoint
theorem EC (x0 x1 x5 o) (h : VK x0 x1 x5 = some o) : LO 17 4 26 [0, 1, 5] [.sl 1 (List.map eI x0), .sl 1 (List.map eI x1), ii x5] [] [4] (VJ (x0, x1) () o) :=
 VK.partial_correctness x0 x1 (fun x5 o => LO 17 4 26 [0, 1, 5] [.sl 1 (List.map eI x0), .sl 1 (List.map eI x1), ii x5] [] [4] (VJ (x0, x1) () o))
 (fun VK O5 x5 o h  =>
 Lp2 (hs := [(13, .n eI 13 none), (14, .split), (19, .e eI), (23, .e eI), (25, .split)]) (kb := []) (kbx := []) ((kN _ (mLen (sh := eI) x0) fun v0 => (kIfD (p := x5 < v0) (kIx (enc := eI) (l := x0) (k := x5) fun v1 => (kIx (enc := eI) (l := x1) (k := x5) fun v2 => (kIf (c := v1 != v2) (kX (alts := VJ (x0, x1) ()) (.inr false) (.next (.here _ rfl (.refl _) (.refl _))))
 (kM0 (alts := VJ (x0, x1) ()) (O5 (wr (x5 + 1)))))))
 (kX (alts := VJ (x0, x1) ()) (.inl ()) (.here _ rfl (.refl _) (.refl _))))) h)) x5 o h
def Cw (x0 : List Int) (x1 : List Int) : Option Bool :=
 some (List.length x0 : Int) >>= fun v0 =>
 some (List.length x1 : Int) >>= fun v1 =>
 if v0 != v1 then
 some false
 else
 some () >>= fun v2 =>
 VK x0 x1 0 >>= fun v3 => (match v3 with
 | (.inl v4) =>
 some true
 | (.inr v5) =>
 some v5)
theorem So (x0 x1 r) (h : Cw x0 x1 = some r) : PU 17 [eLI x0, eLI x1] (eB r) :=
 Pu2 (hs := [(7, .n eI 7 none), (9, .n eI 9 none), (10, .split), (3000005, .l [] [0, 1, 5] [] [4] [] (VJ (x0, x1)))]) ((kN _ (mLen (sh := eI) x0) fun v0 => (kN _ (mLen (sh := eI) x1) fun v1 => (kIf (c := v0 != v1) (kEr (enc := eB) false)
 (kL2 () (hL := (EC x0 x1 0)) (hA := fun v2 v4 => (kEr (enc := eB) true))
 (hB := fun v2 v5 => (kEr (enc := eB) v5)))))) h)
def KV (s : Bool) (u : (Int × Int × Qq)) (o : Qe) : List Alt := l1 o .normal (fun _ => [.bool s, ii (u.1), ii (u.2.1), .ptr 0 0 0, .ptr 1 0 0]) (fun x => [.cells 0 (Xf (u.2.2)).cells, .cells 0 (Qm x).cells])
def XJ (s : Bool) (u : (Int × Int × (List QY) × Int)) (o : Bool) : List Alt := jb o (fun b => [.bool s, ii (u.1), ii (u.2.1), .sl 22 (List.map Qn (u.2.2.1)), ii (u.2.2.2), .bool b]) []
def Ut (x0 : Int) (x1 : Int) (x2 : Bool) : Option Bool :=
 if (300 : Int) ≠ 0 then
 if (300 : Int) ≠ 0 then
 some (wr ((1 : Int) + (wr x0).tmod (300 : Int)) : Int) >>= fun v0 =>
 some (wr ((1 : Int) + (wr x1).tmod (300 : Int)) : Int) >>= fun v1 =>
 Dz >>= fun v2 =>
 Option.map Q7.f (ix v2.fd (0 : Int)) >>= fun v3 =>
 Option.map Q7.f (ix v3.fd (0 : Int)) >>= fun v4 =>
 some ((QC.mk (1 : Int) [(107 : UInt8)] v1 (0 : Int) (0 : Int) [] (Qv.mk (0 : Int) [] (gVal.mk (0 : Int) (0 : Int)) (Qg.mk (0 : Int) (0 : Int) (0 : Int) (0 : Int) (0 : Int)) (gLin.mk (0 : Int) []) [] [] : Q3) [] : Qe)) >>= fun v5 =>
 some (v0, v1, v2) >>= fun v6 =>
 (if x2 then
 some ((Q6.mk (gLin.mk (0 : Int) []) [] [])) >>= fun v8 =>
 some ((Qg.mk (1 : Int) (0 : Int) (0 : Int) (0 : Int) (0 : Int))) >>= fun v9 =>
 some ((gVal.mk (1 : Int) (1 : Int))) >>= fun v10 =>
 some ((Qv.mk (1 : Int) [] v10 v9 (gLin.mk (0 : Int) []) [] [] : Q3)) >>= fun v11 =>
 some (QC.mk v5.fOp v5.fb v5.fE v5.fG v5.fF v5.fi v5.fq [(Q7.mk (QC.mk v4.fOp v4.fb v4.fE v4.fG v4.fF [v8] v11 v4.fd : Qe))] : Qe)
 else
 some v5) >>= fun v12 =>
 some ((QC.mk (1 : Int) [(105 : UInt8)] v6.fst (0 : Int) (0 : Int) [] (Qv.mk (0 : Int) [] (gVal.mk (0 : Int) (0 : Int)) (Qg.mk (0 : Int) (0 : Int) (0 : Int) (0 : Int) (0 : Int)) (gLin.mk (0 : Int) []) [] [] : Q3) [(Q7.mk v12)] : Qe)) >>= fun v13 =>
 JD (Qq.mk v6.snd.snd.fk [(Q7.mk v13)]) >>= fun v14 =>
 some (v6.fst, v6.snd.fst, v14.fst, v14.snd) >>= fun v15 =>
 (if 65536 < wr (v6.fst + wr (v6.fst * v6.snd.fst)) then
 some true
 else
 if x2 then
 if 2048 < wr (v6.fst * v6.snd.fst) then
 some true
 else
 some false
 else
 some false) >>= fun v16 => if v16 then
 if v15.snd.snd.snd == 2 then
 some (List.length v15.snd.snd.fst : Int) >>= fun v18 =>
 if v18 == 0 then
 VQ >>= fun v19 =>
 some v19
 else
 some false
 else
 some false
 else
 if x2 then
 if v15.snd.snd.snd == 0 then
 some (List.length v15.snd.snd.fst : Int) >>= fun v21 =>
 if v21 == wr (v15.fst * v15.snd.fst) then
 ix v15.snd.snd.fst (wr (wr (v15.fst * v15.snd.fst) - (1 : Int))) >>= fun v22 =>
 Cw v22.fAt [(wr (v15.fst - (1 : Int))), (wr (v15.snd.fst - (1 : Int)))] >>= fun v23 => if v23 then
 VQ >>= fun v24 =>
 some v24
 else
 some false
 else
 some false
 else
 some false
 else
 if v15.snd.snd.snd == 0 then
 some (List.length v15.snd.snd.fst : Int) >>= fun v25 =>
 if v25 == 0 then
 VQ >>= fun v26 =>
 some v26
 else
 some false
 else
 some false
 else none
 else none
theorem Lg (x0 x1 x2 r) (h : Ut x0 x1 x2 = some r) : PU 5 [eU16 x0, eU16 x1, eB x2] (eB r) :=
 Pu2 (hs := [(16, .s), (20, .s), (7, .n eI 7 none), (8, .n eI 8 none), (22, .c Xf), (25, .e Qm), (28, .e Qm), (31, .n Qm 31 none), (32, .split), (33, .n Q1 33 none), (1000035, .z [{ slot := 34, own := 4 }, { slot := 34, fz := true }] none), (36, .n Qp 36 none), (37, .n Mz 37 none), (38, .n Qa 38 none), (1000042, .z [{ slot := 41, own := 20 }, { slot := 41, fz := true }] none), (46, .z [{ slot := 45, own := 20 }, { slot := 45, fz := true }] (some (.n Qm 46 none))), (1000048, .z [{ slot := 47, own := 20 }, { slot := 47, fz := true }] none), (51, .c Vp), (59, .split), (61, .split), (66, .split), (70, .split), (73, .n eI 73 none), (74, .split), (77, .c eB), (79, .split), (82, .split), (85, .n eI 85 none), (86, .split), (89, .c eB), (92, .split), (95, .n eI 95 none), (99, .split), (107, .e Qn), (115, .cb), (118, .c eB), (6000007, .l [] [] [] [2, 7, 8, 9, 11] [kk 9, kk 11] (KV x2)), (5000011, .l [] [] [] [2, 7, 8, 12, 13, 68] [] (XJ x2))]) ((kG (p := (300 : Int) ≠ 0) (kG (p := (300 : Int) ≠ 0) (kN (wr ((1 : Int) + (wr x0).tmod (300 : Int))) rfl fun v0 => (kN (wr ((1 : Int) + (wr x1).tmod (300 : Int))) rfl fun v1 => (kC (sh := Xf) (HF) fun v2 => (kIxR (l := v2.fd) (k := (0 : Int)) Zy fun v3 => (kIxR (l := v3.fd) (k := (0 : Int)) Zy fun v4 => (kW (sh := Qm) (QC.mk (1 : Int) [(107 : UInt8)] v1 (0 : Int) (0 : Int) [] (Qv.mk (0 : Int) [] (gVal.mk (0 : Int) (0 : Int)) (Qg.mk (0 : Int) (0 : Int) (0 : Int) (0 : Int) (0 : Int)) (gLin.mk (0 : Int) []) [] [] : Q3) [] : Qe) (LeV.agg (.cons lr (.cons lr (.cons lr (.cons lr (.cons lr (.cons (LeV.nil 4) (.cons lr (.cons lr (.cons lr (.cons lr (.cons lr (.cons lr (.cons lr (.cons lr (.cons lr (.cons lr (.cons (LeV.nil 2) (.cons (LeV.nil 4) (.cons (LeV.nil 13) (.cons (LeV.nil 20) .nil))))))))))))))))))))) fun v5 => (kJ1 (id := 6000007) (v0, v1, v2) (fun v6 ev6 v7 => (kIf (c := x2) (kW (sh := Q1) (Q6.mk (gLin.mk (0 : Int) []) [] []) (LeV.agg (.cons lr (.cons (LeV.nil 2) (.cons lr (.cons (LeV.nil 2) .nil))))) fun v8 => (kT (rfl : (1 : Nat) = (1 : Nat)) (kW (sh := Qp) (Qg.mk (1 : Int) (0 : Int) (0 : Int) (0 : Int) (0 : Int)) lr fun v9 => (kW (sh := Mz) (gVal.mk (1 : Int) (1 : Int)) lr fun v10 => (kW (sh := Qa) (Qv.mk (1 : Int) [] v10 v9 (gLin.mk (0 : Int) []) [] [] : Q3) (LeV.agg (.cons lr (.cons lr (.cons lr (.cons lr (.cons lr (.cons lr (.cons lr (.cons lr (.cons lr (.cons lr (.cons (LeV.nil 2) (.cons (LeV.nil 4) (.cons (LeV.nil 13) .nil)))))))))))))) fun v11 => (kT (rfl : (1 : Nat) = (1 : Nat)) (kXj (alts := KV x2) ev6 (QC.mk v5.fOp v5.fb v5.fE v5.fG v5.fF v5.fi v5.fq [(Q7.mk (QC.mk v4.fOp v4.fb v4.fE v4.fG v4.fF [v8] v11 v4.fd : Qe))] : Qe) (.here _ rfl (.cons lr (.cons lr (.cons lr (.cons lr (.cons lr .nil))))) (.cons (LeB.refl (Box.cells (0 : Nat) [AV.sl (8 : Nat) (List.map Qc v2.fk), AV.sl (20 : Nat) (List.map Q9 v2.fd)])) (.cons (LeB.cells (0 : Nat) (.cons lr (.cons lr (.cons lr (.cons lr (.cons lr (.cons lr (.cons lr (.cons lr (.cons lr (.cons lr (.cons lr (.cons lr (.cons lr (.cons lr (.cons lr (.cons lr (.cons lr (.cons lr (.cons lr (.cons (LeV.sl (.cons (Ww (QC.mk v4.fOp v4.fb v4.fE v4.fG v4.fF [v8] v11 v4.fd : Qe)) .nil)) .nil))))))))))))))))))))) .nil))))))))))
 (kXj (alts := KV x2) ev6 v5 (.here _ rfl (.refl _) (.refl _)))))
 (fun v6 v12 => (kT (rfl : (1 : Nat) = (1 : Nat)) (kW (sh := Qm) (QC.mk (1 : Int) [(105 : UInt8)] v6.fst (0 : Int) (0 : Int) [] (Qv.mk (0 : Int) [] (gVal.mk (0 : Int) (0 : Int)) (Qg.mk (0 : Int) (0 : Int) (0 : Int) (0 : Int) (0 : Int)) (gLin.mk (0 : Int) []) [] [] : Q3) [(Q7.mk v12)] : Qe) (LeV.agg (.cons lr (.cons lr (.cons lr (.cons lr (.cons lr (.cons (LeV.nil 4) (.cons lr (.cons lr (.cons lr (.cons lr (.cons lr (.cons lr (.cons lr (.cons lr (.cons lr (.cons lr (.cons (LeV.nil 2) (.cons (LeV.nil 4) (.cons (LeV.nil 13) (.cons (LeV.sl (.cons (Ww v12) .nil)) .nil))))))))))))))))))))) fun v13 => (kT (rfl : (1 : Nat) = (1 : Nat)) (kC (sh := Vp) (fun y hy => Pu.le (Iz (Qq.mk v6.snd.snd.fk [(Q7.mk v13)]) y hy) (.cons (LeT.agg (.cons (LeT.refl (AV.sl (8 : Nat) (List.map Qc v6.snd.snd.fk))) (.cons (LeT.sl (.cons (Ww v13) .nil)) .nil))) .nil) (LeT.refl _)) fun v14 => (kJb (id := 5000011) (v6.fst, v6.snd.fst, v14.fst, v14.snd) (fun v15 ev15 v16 => (kIfD (p := 65536 < wr (v6.fst + wr (v6.fst * v6.snd.fst))) (kXj (alts := XJ x2) ev15 true (.here () rfl (.refl _) (.refl _)))
 (kIf (c := x2) (kIfD (p := 2048 < wr (v6.fst * v6.snd.fst)) (kXj (alts := XJ x2) ev15 true (.here () rfl (.refl _) (.refl _)))
 (kXj (alts := XJ x2) ev15 false (.next (.here () rfl (.refl _) (.refl _)))))
 (kXj (alts := XJ x2) ev15 false (.next (.here () rfl (.refl _) (.refl _)))))))
 (fun v15 => (kIf (c := v15.snd.snd.snd == 2) (kN _ (mLen (sh := Qn) v15.snd.snd.fst) fun v18 => (kIf (c := v18 == 0) (kC (sh := eB) (Dc) fun v19 => (kEr (enc := eB) v19))
 (kEr (enc := eB) false)))
 (kEr (enc := eB) false)))
 (fun v15 => (kIf (c := x2) (kIf (c := v15.snd.snd.snd == 0) (kN _ (mLen (sh := Qn) v15.snd.snd.fst) fun v21 => (kIf (c := v21 == wr (v15.fst * v15.snd.fst)) (kIx (enc := Qn) (l := v15.snd.snd.fst) (k := wr (wr (v15.fst * v15.snd.fst) - (1 : Int))) fun v22 => (kCb (fun y hy => Pu.le (So v22.fAt [(wr (v15.fst - (1 : Int))), (wr (v15.snd.fst - (1 : Int)))] y hy) (.cons (LeT.refl (AV.sl (1 : Nat) (List.map eI v22.fAt))) (.cons (LeT.sl (.cons (x := AV.agg [ii (wr (v15.fst - (1 : Int)))]) (.refl _) (.cons (x := AV.agg [ii (wr (v15.snd.fst - (1 : Int)))]) (.refl _) .nil))) .nil)) (LeT.refl _)) (kC (sh := eB) (Dc) fun v24 => (kEr (enc := eB) v24))
 (kEr (enc := eB) false)))
 (kEr (enc := eB) false)))
 (kEr (enc := eB) false))
 (kIf (c := v15.snd.snd.snd == 0) (kN _ (mLen (sh := Qn) v15.snd.snd.fst) fun v25 => (kIf (c := v25 == 0) (kC (sh := eB) (Dc) fun v26 => (kEr (enc := eB) v26))
 (kEr (enc := eB) false)))
 (kEr (enc := eB) false))))))))))))))))))) h)
end Go.Proofs.YtkgphhemcglgnaaGreatDoor
end
noncomputable section
namespace Go.Proofs.YtkgphhemcglgnaaGreatDoor
open Go HY
set_option maxRecDepth 1000000
set_option linter.unusedVariables false
def W4 (x2 : gLin) (x3 : gLin) (x5 : Int) : Option (Unit ⊕ Bool) :=
 some (List.length x2.fL : Int) >>= fun v0 =>
 if x5 < v0 then
 ix x2.fL x5 >>= fun v1 =>
 ix x3.fL x5 >>= fun v2 =>
 if !(v1.fb == v2.fb && (v1.fBy == v2.fBy && true)) then
 some (.inr false)
 else
 W4 x2 x3 (wr (x5 + 1))
 else
 some (.inl ())
 partial_fixpoint
def Dt (x0 : gLin) (x1 : gLin) : Option Bool :=
 some () >>= fun v0 =>
 (if x0.fK != x1.fK then
 some true
 else
 some (List.length x0.fL : Int) >>= fun v2 =>
 some (List.length x1.fL : Int) >>= fun v3 =>
 if v2 != v3 then
 some true
 else
 some false) >>= fun v1 => if v1 then
 some false
 else
 some () >>= fun v6 =>
 W4 x0 x1 0 >>= fun v7 => (match v7 with
 | (.inl v8) =>
 some true
 | (.inr v9) =>
 some v9)
def NU (x0 : List gLin) (x1 : List gLin) (x5 : Int) : Option (Unit ⊕ Bool) :=
 some (List.length x0 : Int) >>= fun v0 =>
 if x5 < v0 then
 ix x0 x5 >>= fun v1 =>
 ix x1 x5 >>= fun v2 =>
 Dt v1 v2 >>= fun v3 => if v3 then
 NU x0 x1 (wr (x5 + 1))
 else
 some (.inr false)
 else
 some (.inl ())
 partial_fixpoint
def Sn (x0 : List gLin) (x1 : List gLin) : Option Bool :=
 some (List.length x0 : Int) >>= fun v0 =>
 some (List.length x1 : Int) >>= fun v1 =>
 if v0 != v1 then
 some false
 else
 some () >>= fun v2 =>
 NU x0 x1 0 >>= fun v3 => (match v3 with
 | (.inl v4) =>
 some true
 | (.inr v5) =>
 some v5)
def T6 (x0 : Q6) (x1 : Q6) : Option Bool :=
 if x0.fH == x1.fH then
 Dt x0.fo x1.fo >>= fun v0 => if v0 then
 Sn x0.fAt x1.fAt >>= fun v1 =>
 some v1
 else
 some false
 else
 some false
def Gu (x0 : List Q6) (x1 : List Q6) (x5 : Int) : Option (Unit ⊕ Bool) :=
 some (List.length x0 : Int) >>= fun v0 =>
 if x5 < v0 then
 ix x0 x5 >>= fun v1 =>
 ix x1 x5 >>= fun v2 =>
 T6 v1 v2 >>= fun v3 => if v3 then
 Gu x0 x1 (wr (x5 + 1))
 else
 some (.inr false)
 else
 some (.inl ())
 partial_fixpoint
def Ca (x0 : List Q6) (x1 : List Q6) : Option Bool :=
 some (List.length x0 : Int) >>= fun v0 =>
 some (List.length x1 : Int) >>= fun v1 =>
 if v0 != v1 then
 some false
 else
 some () >>= fun v2 =>
 Gu x0 x1 0 >>= fun v3 => (match v3 with
 | (.inl v4) =>
 some true
 | (.inr v5) =>
 some v5)
mutual
def NE (x0 : Q3) (x1 : Q3) : Option Bool :=
 if x0.fOp == x1.fOp then
 if x0.fb == x1.fb then
 if x0.fy.fN == x1.fy.fN && (x0.fy.fD == x1.fy.fD && true) then
 if x0.fa.fv == x1.fa.fv && (x0.fa.fx == x1.fa.fx && (x0.fa.fB == x1.fa.fB && (x0.fa.fw == x1.fa.fw && (x0.fa.fC == x1.fa.fC && true)))) then
 Dt x0.fo x1.fo >>= fun v0 => if v0 then
 Ca x0.fi x1.fi >>= fun v1 => if v1 then
 WA x0.ff x1.ff >>= fun v2 =>
 some v2
 else
 some false
 else
 some false
 else
 some false
 else
 some false
 else
 some false
 else
 some false
 partial_fixpoint
def WA (x0 : List Qf) (x1 : List Qf) : Option Bool :=
 some (List.length x0 : Int) >>= fun v0 =>
 some (List.length x1 : Int) >>= fun v1 =>
 if v0 != v1 then
 some false
 else
 some () >>= fun v2 =>
 Ds x0 x1 0 >>= fun v3 => (match v3 with
 | (.inl v4) =>
 some true
 | (.inr v5) =>
 some v5)
 partial_fixpoint
def Ds (x0 : List Qf) (x1 : List Qf) (x5 : Int) : Option (Unit ⊕ Bool) :=
 some (List.length x0 : Int) >>= fun v0 =>
 if x5 < v0 then
 Option.map Qf.f (ix x0 x5) >>= fun v1 =>
 Option.map Qf.f (ix x1 x5) >>= fun v2 =>
 NE v1 v2 >>= fun v3 => if v3 then
 Ds x0 x1 (wr (x5 + 1))
 else
 some (.inr false)
 else
 some (.inl ())
 partial_fixpoint
end
def Lp  : Option (List Str) :=
 some [[(115 : UInt8), (105 : UInt8), (122 : UInt8), (101 : UInt8)], [(119 : UInt8), (104 : UInt8), (101 : UInt8), (114 : UInt8), (101 : UInt8)], [(105 : UInt8), (110 : UInt8)], [(100 : UInt8), (101 : UInt8), (102 : UInt8)], [(111 : UInt8), (117 : UInt8), (116 : UInt8)], [(115 : UInt8), (117 : UInt8), (109 : UInt8)], [(112 : UInt8), (114 : UInt8), (111 : UInt8), (100 : UInt8)], [(109 : UInt8), (105 : UInt8), (110 : UInt8)], [(109 : UInt8), (97 : UInt8), (120 : UInt8)], [(115 : UInt8), (99 : UInt8), (97 : UInt8), (110 : UInt8)], [(111 : UInt8), (118 : UInt8), (101 : UInt8), (114 : UInt8)], [(105 : UInt8), (102 : UInt8)], [(99 : UInt8), (97 : UInt8), (115 : UInt8), (116 : UInt8)], [(102 : UInt8), (114 : UInt8), (97 : UInt8), (99 : UInt8)], [(105 : UInt8), (110 : UInt8), (116 : UInt8)], [(102 : UInt8), (105 : UInt8), (120 : UInt8)], [(99 : UInt8), (101 : UInt8), (105 : UInt8), (108 : UInt8)], [(102 : UInt8), (108 : UInt8), (111 : UInt8), (111 : UInt8), (114 : UInt8)], [(122 : UInt8), (101 : UInt8), (114 : UInt8), (111 : UInt8)], [(101 : UInt8), (118 : UInt8), (101 : UInt8), (110 : UInt8)], [(115 : UInt8), (97 : UInt8), (116 : UInt8)], [(119 : UInt8), (114 : UInt8), (97 : UInt8), (112 : UInt8)]]
def KJ (x0 : List Str) (x1 : Str) (x5 : Int) : Option (Unit ⊕ Bool) :=
 some (List.length x0 : Int) >>= fun v0 =>
 if x5 < v0 then
 ix x0 x5 >>= fun v1 =>
 if v1 == x1 then
 some (.inr true)
 else
 KJ x0 x1 (wr (x5 + 1))
 else
 some (.inl ())
 partial_fixpoint
def Mi (x0 : List Str) (x1 : Str) : Option Bool :=
 some () >>= fun v0 =>
 KJ x0 x1 0 >>= fun v1 => (match v1 with
 | (.inl v2) =>
 some false
 | (.inr v3) =>
 some v3)
def Kl (x0 : Str) (x3 : Int) : Option (Unit ⊕ Bool) :=
 if x3 < (↑(List.length x0) : Int) then
 ix x0 x3 >>= fun v0 =>
 some x3 >>= fun v1 =>
 (if 97 ≤ (↑v0.toNat : Int) then
 if (↑v0.toNat : Int) ≤ 122 then
 some false
 else
 if 0 < x3 then
 if 48 ≤ (↑v0.toNat : Int) then
 if (↑v0.toNat : Int) ≤ 57 then
 some false
 else
 if (↑v0.toNat : Int) == 95 then
 some false
 else
 some true
 else
 if (↑v0.toNat : Int) == 95 then
 some false
 else
 some true
 else
 some true
 else
 if 0 < x3 then
 if 48 ≤ (↑v0.toNat : Int) then
 if (↑v0.toNat : Int) ≤ 57 then
 some false
 else
 if (↑v0.toNat : Int) == 95 then
 some false
 else
 some true
 else
 if (↑v0.toNat : Int) == 95 then
 some false
 else
 some true
 else
 some true) >>= fun v2 => if v2 then
 some (.inr false)
 else
 Kl x0 (wr (v1 + 1))
 else
 some (.inl ())
 partial_fixpoint
def IC (x0 : Str) : Option Bool :=
 some () >>= fun v0 =>
 (if (↑(List.length x0) : Int) < 1 then
 some true
 else
 if 16 < (↑(List.length x0) : Int) then
 some true
 else
 Lp >>= fun v2 =>
 Mi v2 x0 >>= fun v3 => if v3 then
 some true
 else
 some false) >>= fun v1 => if v1 then
 some false
 else
 some () >>= fun v6 =>
 Kl x0 0 >>= fun v7 => (match v7 with
 | (.inl v8) =>
 some true
 | (.inr v9) =>
 some v9)
end Go.Proofs.YtkgphhemcglgnaaGreatDoor
end
section
namespace HY
open Go
section
variable {α β : Type}
theorem bS {a : α} {f : α → Option β} : (some a >>= f) = f a := rfl
theorem omS {a : α} {f : α → β} : Option.map f (some a) = some (f a) := rfl
theorem Ns {a b : α} : (if (true = true) then a else b) = a := rfl
theorem DP {a b : α} : (if (false = true) then a else b) = b := rfl
end
theorem Uk {α : Type} {l p : List α} {x : α} {t : List α} (h : l = p ++ x :: t) : ix l p.length = some x := by
 unfold ix
 rw [if_pos (by omega), Int.toNat_natCast, h, List.getElem?_append_right (Nat.le_refl _)]; simp
theorem VZ {n : Int} {k : Nat} (h0 : 0 ≤ n) (h1 : n < k) (hk : k ≤ 4611686018427387904) : wr (n + 1) = n + 1 := ZI (by omega)
end HY
end
section
namespace Go.Proofs.YtkgphhemcglgnaaGreatDoor
open Go HY
set_option linter.unusedVariables false
set_option linter.unusedSimpArgs false
def fits (n : Int) : Prop := -9223372036854775808 ≤ n ∧ n ≤ 9223372036854775807
def kw : List Str := [[(115 : UInt8), (105 : UInt8), (122 : UInt8), (101 : UInt8)], [(119 : UInt8), (104 : UInt8), (101 : UInt8), (114 : UInt8), (101 : UInt8)], [(105 : UInt8), (110 : UInt8)], [(100 : UInt8), (101 : UInt8), (102 : UInt8)], [(111 : UInt8), (117 : UInt8), (116 : UInt8)], [(115 : UInt8), (117 : UInt8), (109 : UInt8)], [(112 : UInt8), (114 : UInt8), (111 : UInt8), (100 : UInt8)], [(109 : UInt8), (105 : UInt8), (110 : UInt8)], [(109 : UInt8), (97 : UInt8), (120 : UInt8)], [(115 : UInt8), (99 : UInt8), (97 : UInt8), (110 : UInt8)], [(111 : UInt8), (118 : UInt8), (101 : UInt8), (114 : UInt8)], [(105 : UInt8), (102 : UInt8)], [(99 : UInt8), (97 : UInt8), (115 : UInt8), (116 : UInt8)], [(102 : UInt8), (114 : UInt8), (97 : UInt8), (99 : UInt8)], [(105 : UInt8), (110 : UInt8), (116 : UInt8)], [(102 : UInt8), (105 : UInt8), (120 : UInt8)], [(99 : UInt8), (101 : UInt8), (105 : UInt8), (108 : UInt8)], [(102 : UInt8), (108 : UInt8), (111 : UInt8), (111 : UInt8), (114 : UInt8)], [(122 : UInt8), (101 : UInt8), (114 : UInt8), (111 : UInt8)], [(101 : UInt8), (118 : UInt8), (101 : UInt8), (110 : UInt8)], [(115 : UInt8), (97 : UInt8), (116 : UInt8)], [(119 : UInt8), (114 : UInt8), (97 : UInt8), (112 : UInt8)]]
def low (c : UInt8) : Bool := decide (97 ≤ (c.toNat : Int)) && decide ((c.toNat : Int) ≤ 122)
def tl (c : UInt8) : Bool := low c || (decide (48 ≤ (c.toNat : Int)) && decide ((c.toNat : Int) ≤ 57)) || ((c.toNat : Int) == 95)
def nm (s : Str) : Bool := decide (1 ≤ (s.length : Int)) && (decide ((s.length : Int) ≤ 16) && (!(kw.contains s) && ((match s with | [] => false | c :: _ => low c) && s.all tl)))
theorem RL (l : List Str) (s : Str) (hl : l.length ≤ 1048576) : KJ l s 0 = some (if l.contains s then .inr true else .inl ()) := by
 refine Tt (F := fun i => KJ l s i) (l := l) (fun t => if t.contains s then .inr true else .inl ()) ?_ ?_
 ·show KJ l s (l.length : Int) = _
  rw [KJ, bS, if_neg (by omega)]; rfl
 ·intro i x t h0 h1 hix ih
  show KJ l s i = _
  rw [KJ, bS, if_pos (by omega), hix, bS]
  by_cases hx : x = s
  ·subst hx; simp
  ·rw [if_neg (by simpa using hx), VZ h0 h1 (by omega)]
   rw [ih, List.contains_cons]
   have : (s == x) = false := by simpa using fun e => hx e.symm
   rw [this, Bool.false_or]
theorem AQ (s : Str) : Mi kw s = some (kw.contains s) := by
 unfold Mi
 rw [bS, RL kw s (by decide), bS]
 cases kw.contains s <;> rfl
theorem TV : Lp = some kw := rfl
theorem ET (s : Str) (hl : s.length ≤ 1048576) : Kl s 0 = some (if (match s with | [] => true | c :: t => low c && t.all tl) then .inl () else .inr false) := by
 have loop : ∀ (t p : Str), s = p ++ t → p ≠ [] → Kl s p.length = some (if t.all tl then .inl () else .inr false) := by
  intro t
  induction t with
  | nil => intro p e _; rw [Kl, if_neg (by rw [e]; simp)]; rfl
  | cons c t ih =>
   intro p e hp
   have hlen : (p.length : Int) < (s.length : Int) := by rw [e]; simp; omega
   have h0 : 0 < p.length := List.length_pos_iff.2 hp
   rw [Kl, if_pos hlen, Uk e, bS, bS]
   have ihc := ih (p ++ [c]) (by rw [e]; simp) (by simp)
   rw [show ((p ++ [c]).length : Int) = (p.length : Int) + 1 by simp] at ihc
   rw [VZ (by omega) hlen (by omega), List.all_cons, ihc]
   unfold tl low
   by_cases c1 : (97 : Int) ≤ c.toNat <;> by_cases c2 : (c.toNat : Int) ≤ 122 <;> by_cases c3 : (48 : Int) ≤ c.toNat <;> by_cases c4 : (c.toNat : Int) ≤ 57 <;> by_cases c5 : (c.toNat : Int) = 95 <;> simp [c1, c2, c3, c4, c5, h0, bS] <;> omega
 cases s with
 | nil => rw [Kl, if_neg (by simp)]; rfl
 | cons c t =>
  rw [Kl, if_pos (by simp <;> omega), show ix (c :: t) 0 = some c from rfl, bS, bS]
  have := loop t [c] rfl (by simp)
  rw [show (([c] : Str).length : Int) = 0 + 1 by rfl] at this
  rw [show wr (0 + 1) = 0 + 1 from rfl, this]
  unfold low
  by_cases c1 : (97 : Int) ≤ c.toNat <;> by_cases c2 : (c.toNat : Int) ≤ 122 <;> simp [c1, c2, bS]
theorem s_base_Name (s : Str) : IC s = some (nm s) := by
 unfold IC nm
 rw [bS]
 by_cases h1 : (s.length : Int) < 1
 ·rw [if_pos h1, bS, if_pos rfl, decide_eq_false (by omega)]; rfl
 ·rw [if_neg h1, decide_eq_true (by omega)]
  by_cases h2 : 16 < (s.length : Int)
  ·rw [if_pos h2, bS, if_pos rfl, decide_eq_false (by omega)]; rfl
  ·have hl : s.length ≤ 1048576 := by omega
   rw [if_neg h2, TV, bS, AQ, decide_eq_true (by omega)]
   cases hk : kw.contains s with
   | true => simp only [bS, if_true]; rfl
   | false =>
    simp only [bS, DP]
    cases s with
    | nil => simp at h1
    | cons c t =>
     have e2 : (low c && (tl c && t.all tl)) = (low c && t.all tl) := by
      cases hc : low c
      ·rfl
      ·have : tl c = true := by unfold tl; rw [hc]; rfl
       rw [this] <;> rfl
     rw [ET (c :: t) hl, bS, List.all_cons, e2]
     show (match (if (low c && t.all tl) = true then (Sum.inl () : Unit ⊕ Bool) else Sum.inr false) with | .inl v8 => some true | .inr v9 => some v9) = _
     cases (low c && t.all tl) <;> rfl
theorem EV (s : Str) : G3 s = some (kw.contains s) := by
 unfold G3
 rw [bS]
 have key : ∀ (a : Str) (l : List Str) (x : Option Bool), x = some (l.contains s) → (if s == a then some true else x) = some ((a :: l).contains s) := fun a l x h => by
  rw [List.contains_cons]
  cases e : s == a
  ·rw [DP, h]; rfl
  ·rfl
 have : ∀ x : Option Bool, x = some (kw.contains s) → (x >>= fun v1 => if v1 then some true else some false) = some (kw.contains s) := fun x h => by
  rw [h, bS]; cases kw.contains s <;> rfl
 refine this _ ?_
 unfold kw
 repeat (first | exact rfl | refine key _ _ _ ?_)
theorem Ln (s : Str) (hl : s.length ≤ 1048576) : Zu s s.length 0 = some (if s.all tl then .inl () else .inr false) := by
 refine Tt (F := fun i => Zu s s.length i) (l := s) (fun t => if t.all tl then .inl () else .inr false) ?_ ?_
 ·show Zu s s.length (s.length : Int) = _
  rw [Zu, if_neg (by omega)]; rfl
 ·intro i c t h0 h1 hix ih
  show Zu s s.length i = _
  rw [Zu, if_pos h1, hix, bS, bS, VZ h0 h1 (by omega), List.all_cons, ih]
  unfold tl low
  by_cases c1 : (97 : Int) ≤ c.toNat <;> by_cases c2 : (c.toNat : Int) ≤ 122 <;> by_cases c3 : (48 : Int) ≤ c.toNat <;> by_cases c4 : (c.toNat : Int) ≤ 57 <;> by_cases c5 : (c.toNat : Int) = 95 <;> simp [c1, c2, c3, c4, c5, bS, show ((c.toNat : Int) < 97) = ¬ ((97 : Int) ≤ c.toNat) by simp, show ((c.toNat : Int) < 48) = ¬ ((48 : Int) ≤ c.toNat) by simp, show ((122 : Int) < c.toNat) = ¬ ((c.toNat : Int) ≤ 122) by simp, show ((57 : Int) < c.toNat) = ¬ ((c.toNat : Int) ≤ 57) by simp] <;> omega
theorem N7 (s : Str) : KZ s = some (nm s) := by
 unfold KZ nm
 rw [bS]
 by_cases h1 : (s.length : Int) < 1
 ·rw [if_pos h1, bS, if_pos rfl, decide_eq_false (by omega)]; rfl
 ·rw [if_neg h1, decide_eq_true (by omega)]
  by_cases h2 : 16 < (s.length : Int)
  ·rw [if_pos h2, bS, if_pos rfl, decide_eq_false (by omega)]; rfl
  ·have hl : s.length ≤ 1048576 := by omega
   rw [if_neg h2, EV, decide_eq_true (by omega)]
   cases hk : kw.contains s with
   | true => simp only [bS, if_true]; rfl
   | false =>
    simp only [bS, DP]
    cases s with
    | nil => simp at h1
    | cons c t =>
     have h3 := Ln (c :: t) hl
     simp only [show ix (c :: t) 0 = some c from rfl, bS]
     unfold low
     by_cases c1 : (c.toNat : Int) < 97
     ·rw [if_pos c1, bS, if_pos rfl, decide_eq_false (by omega)]; rfl
     ·rw [if_neg c1, decide_eq_true (by omega)]
      by_cases c2 : (122 : Int) < c.toNat
      ·rw [if_pos c2, bS, if_pos rfl, decide_eq_false (by omega)]; rfl
      ·rw [if_neg c2]
       simp only [bS, DP]
       rw [h3, bS, decide_eq_true (show (c.toNat : Int) ≤ 122 by omega)]
       cases (c :: t).all tl <;> rfl
def badL : Option Qs → List Qs → Bool
 | _, [] => false
 | p, m :: t => (!(nm m.fb) || ((m.fBy == 0) || (match p with | none => false | some q => !(Op.bytesLess q.fb m.fb)))) || badL (some m) t
theorem F5 (p : Option Qs) (m : Qs) (t : List Qs) : badL p (m :: t) = ((!(nm m.fb) || ((m.fBy == 0) || (match p with | none => false | some q => !(Op.bytesLess q.fb m.fb)))) || badL (some m) t) := rfl
def okL (l : gLin) : Prop := fits l.fK ∧ l.fL.length * 24 ≤ 140737488351232 ∧ ∀ m ∈ l.fL, fits m.fBy
def Wp (l : gLin) : Bool := !(badL none l.fL)
theorem IB (l : gLin) (h : okL l) : Xd l l.fL l.fL.length 0 = some (if badL none l.fL then .inr 1 else .inl ()) := by
 obtain ⟨_, hl, hm⟩ := h
 have loop : ∀ (t p : List Qs), l.fL = p ++ t → Xd l l.fL l.fL.length p.length = some (if badL p.getLast? t then .inr 1 else .inl ()) := by
  intro t
  induction t with
  | nil => intro p e; rw [Xd, if_neg (by rw [e]; simp)]; rfl
  | cons c t ih =>
   intro p e
   have hlen : (p.length : Int) < (l.fL.length : Int) := by rw [e]; simp; omega
   rw [Xd, if_pos hlen, Uk e, bS, bS, N7, VZ (by omega) hlen (by omega)]
   have ihc := ih (p ++ [c]) (by rw [e]; simp)
   rw [show ((p ++ [c]).length : Int) = (p.length : Int) + 1 by simp] at ihc
   rw [List.getLast?_concat] at ihc
   rw [F5]
   cases hn : nm c.fb with
   | false => rfl
   | true =>
    cases hb : c.fBy == (0 : Int) with
    | true => simp only [bS, if_true]; rfl
    | false =>
     rcases List.eq_nil_or_concat p with rfl | ⟨q, y, hq⟩
     ·simp only [bS, if_true, if_false, Bool.false_eq_true]
      rw [if_neg (by simp)]
      simp only [bS, if_false, Bool.false_eq_true]
      rw [ihc]; rfl
     ·rw [List.concat_eq_append] at hq
      subst hq
      simp only [bS, if_true, if_false, Bool.false_eq_true]
      have hql : (((q ++ [y]).length : Nat) : Int) = q.length + 1 := by simp
      rw [if_pos (by omega), ZI (by omega)]
      rw [show (((q ++ [y]).length : Nat) : Int) - 1 = (q.length : Int) by simp, Uk (show l.fL = q ++ y :: (c :: t) by rw [e]; simp), bS, List.getLast?_concat]
      cases hb2 : Op.bytesLess y.fb c.fb with
      | true => simp only [hb2, Bool.not_true, Bool.or_false, Bool.false_or, bS, if_false, Bool.false_eq_true]; rw [ihc]
      | false => simp only [hb2, Bool.not_false, if_true, bS, Bool.or_true, Bool.true_or]
 exact loop l.fL [] rfl
theorem EU (l : gLin) (h : okL l) : XL l = some (if Wp l then 0 else 1) := by
 unfold XL Wp
 rw [bS, bS, IB l h, bS]
 cases badL none l.fL <;> rfl
def okI (x : Q6) : Prop := okL x.fo ∧ x.fAt.length * 32 ≤ 140737488351232 ∧ ∀ l ∈ x.fAt, okL l
inductive okE : Qf → Prop
 | mk (x : Q3) (h1 : okL x.fo) (h2 : x.fi.length * 72 ≤ 140737488351232) (h3 : ∀ i ∈ x.fi, okI i) (h4 : x.ff.length * 160 ≤ 140737488351232) (h5 : ∀ a ∈ x.ff, okE a) : okE (.mk x)
inductive okS : Q7 → Prop
 | mk (x : Qe) (h1 : x.fi.length * 72 ≤ 140737488351232) (h2 : ∀ i ∈ x.fi, okI i) (h3 : okE (.mk x.fq)) (h4 : x.fd.length * 256 ≤ 140737488351232) (h5 : ∀ a ∈ x.fd, okS a) : okS (.mk x)
def okSs (l : List Q7) : Prop := l.length * 256 ≤ 140737488351232 ∧ ∀ a ∈ l, okS a
theorem okE.of {x : Q3} (h : okE (.mk x)) : okL x.fo ∧ x.fi.length * 72 ≤ 140737488351232 ∧ (∀ i ∈ x.fi, okI i) ∧ x.ff.length * 160 ≤ 140737488351232 ∧ ∀ a ∈ x.ff, okE a := by
 cases h with | mk _ h1 h2 h3 h4 h5 => exact ⟨h1, h2, h3, h4, h5⟩
theorem okS.of {x : Qe} (h : okS (.mk x)) : x.fi.length * 72 ≤ 140737488351232 ∧ (∀ i ∈ x.fi, okI i) ∧ okE (.mk x.fq) ∧ okSs x.fd := by
 cases h with | mk _ h1 h2 h3 h4 h5 => exact ⟨h1, h2, h3, h4, h5⟩
def D5 (n : Int) : List Int → Option Int
 | [] => some n
 | v :: t => if v < 1 ∨ 4096 < n * v then none else D5 (n * v) t
theorem Ft {n v : Int} {t : List Int} (h : v < 1 ∨ 4096 < n * v) : D5 n (v :: t) = none := by rw [D5, if_pos h]
theorem Pq {n v : Int} {t : List Int} (h : ¬ (v < 1 ∨ 4096 < n * v)) : D5 n (v :: t) = D5 (n * v) t := by rw [D5, if_neg h]
end Go.Proofs.YtkgphhemcglgnaaGreatDoor
end
section
namespace Go.Proofs.YtkgphhemcglgnaaGreatDoor
open Go HY
set_option linter.unusedVariables false
set_option linter.unusedSimpArgs false
def zT : Qg := ⟨0, 0, 0, 0, 0⟩
def tyOK (t : Qg) : Bool := if t.fv = 1 ∨ t.fv = 3 then t.fx == 0 && (t.fB == 0 && (t.fw == 0 && t.fC == 0)) else decide (t.fv = 2 ∧ 2 ≤ t.fx ∧ t.fx ≤ 31 ∧ 0 ≤ t.fB ∧ t.fB ≤ 30 ∧ 1 ≤ t.fw ∧ t.fw ≤ 4 ∧ (t.fC = 1 ∨ t.fC = 2))
def Ig (d : List Int) : Int := if 6 < d.length then 2 else if d.any (fun v => decide (v < 1)) then 1 else if (D5 1 d).isSome then 0 else 2
def vlOK (t : Qg) (v : gVal) : Bool :=
 if t.fv = 2 then decide (v.fD = 1 ∧ -(2 ^ (t.fx - 1).toNat : Int) ≤ v.fN ∧ v.fN < (2 ^ (t.fx - 1).toNat : Int))
 else decide (-2147483647 ≤ v.fN ∧ v.fN ≤ 2147483647 ∧ 1 ≤ v.fD ∧ v.fD ≤ 2147483647 ∧ (if t.fv = 3 then v.fD = 1 else Nat.gcd v.fN.natAbs v.fD.natAbs = 1))
def zLn (l : gLin) : Bool := l.fK == 0 && l.fL.isEmpty
def wfI (i : Q6) : Bool := if i.fH = [] then i.fAt.isEmpty else zLn i.fo
def plE (x : Q3) : Bool := decide (1 ≤ x.fOp ∧ x.fOp ≤ 18 ∧ (x.fOp = 1 ∨ (x.fy.fN = 0 ∧ x.fy.fD = 0)) ∧ (x.fOp = 1 ∨ x.fOp = 12 ∨ x.fa = zT) ∧ (x.fOp = 2 ∨ zLn x.fo = true) ∧ (x.fOp = 3 ∨ (x.fb = [] ∧ x.fi = []))) && x.fi.all wfI
def naE (x : Q3) : Bool := (x.fOp != 3 || nm x.fb) && x.fi.all fun i => i.fH == [] || nm i.fH
def MG (op : Int) : Int := if op = 1 ∨ op = 2 ∨ op = 3 then 0 else if op = 8 ∨ op = 12 ∨ op = 18 then 1 else if op = 11 then 3 else 2
def isC (x : Q3) : Bool := decide (13 ≤ x.fOp) && decide (x.fOp ≤ 18)
def GQ (op i : Int) : Bool := (op == 11 && i == 0) || op == 16 || op == 17 || op == 18
def raE (x : Q3) : Bool := decide ((x.ff.length : Int) = MG x.fOp ∧ x.fi.length ≤ 6) && x.fi.all fun i => decide (i.fAt.length ≤ 6)
def argG (op : Int) : Int → List Qf → Bool
 | _, [] => true
 | i, a :: t => (isC a.f == GQ op i) && argG op (i + 1) t
def tyE (x : Q3) : Bool := (!(decide (x.fOp = 1 ∨ x.fOp = 12)) || tyOK x.fa) && argG x.fOp 0 x.ff
def foE (x : Q3) : Bool := (x.fOp != 1 || vlOK x.fa x.fy) && (Jj x).all Wp
def Up (x : Q3) : Int := if plE x = false then 5 else if naE x = false then 7 else if raE x = false then 11 else if tyE x = false then 10 else if foE x = false then 1 else 0
def fstE {α : Type} (f : α → Int) : List α → Int
 | [] => 0
 | a :: t => if f a ≠ 0 then f a else fstE f t
def maxL (l : List Nat) : Nat := l.foldr max 0
def dpE : Qf → Nat
 | .mk x => 1 + maxL (x.ff.attach.map fun a => dpE a.1)
 termination_by e => SizeOf.sizeOf e
 decreasing_by exact Qf.lt a.2
def Nq (e : Q3) : Int := if 40 < dpE (.mk e) then 13 else if 2000 < (X7 (.mk e)).length then 2 else fstE (fun y => Up y.f) (X7 (.mk e))
def Kz (bufs : List Qj) (name : Str) : Option Qj := bufs.find? fun b => b.fb == name
def zBuf : Qj := Qj.mk [] (Qg.mk (0 : Int) (0 : Int) (0 : Int) (0 : Int) (0 : Int)) [] (0 : Int)
def J5 : List Qj → List Qj → Int
 | _, [] => 0
 | p, b :: t => if nm b.fb = false then 7 else if p.any (fun x => x.fb == b.fb) then 8 else if tyOK b.fa = false then 10 else if Ig b.fI ≠ 0 then Ig b.fI else if b.fJ < 1 ∨ 3 < b.fJ then 1 else J5 (p ++ [b]) t
def inS (sc : List Str) (l : gLin) : Bool := l.fL.all fun m => sc.contains m.fb
def Uj (n : Qq) : List Q6 → Int
 | [] => 0
 | i :: t => if i.fH = [] then Uj n t else match Kz n.fk i.fH with
  | none => 9
  | some b => if b.fa.fv ≠ 3 then 10 else if b.fI.length ≠ i.fAt.length then 11 else Uj n t
def Gd (n : Qq) (sc : List Str) (x : Q3) : Int := if (Jj x).all (inS sc) = false then 9 else if x.fOp ≠ 3 then 0 else match Kz n.fk x.fb with
 | none => 9
 | some b => if b.fI.length ≠ x.fi.length then 11 else Uj n x.fi
def kd1 (n : Qq) (x : Q3) (l : List (Qg × Int)) : Qg × Int :=
 if l.any (fun r => r.2 != 0) then (zT, 10) else if x.fOp = 1 ∨ x.fOp = 12 then (x.fa, 0) else if x.fOp = 2 then (⟨3, 0, 0, 0, 0⟩, 0)
 else if x.fOp = 3 then (((Kz n.fk x.fb).getD zBuf).fa, 0) else if x.fOp = 16 ∨ x.fOp = 17 ∨ x.fOp = 18 then (zT, 0)
 else match l.reverse with
  | [] => (zT, 10)
  | [a] => (a.1, 0)
  | a :: b :: _ => if b.1 ≠ a.1 then (zT, 10) else if isC x then (zT, 0) else (a.1, 0)
def kd (n : Qq) : Qf → Qg × Int
 | .mk x => kd1 n x (x.ff.attach.map fun a => kd n a.1)
 termination_by e => SizeOf.sizeOf e
 decreasing_by exact Qf.lt a.2
def JE (n : Qq) (sc : List Str) (x : Q3) : Qg × Int :=
 if Nq x ≠ 0 then (zT, Nq x) else if fstE (fun y => Gd n sc y.f) (X7 (.mk x)) ≠ 0 then (zT, fstE (fun y => Gd n sc y.f) (X7 (.mk x))) else kd n (.mk x)
def isZE (x : Q3) : Bool := decide (x.fOp = 0 ∧ x.fb = [] ∧ x.fy.fN = 0 ∧ x.fy.fD = 0 ∧ x.fa = zT ∧ zLn x.fo = true ∧ x.fi.length = 0 ∧ x.ff.length = 0)
def plS (x : Qe) : Bool := decide ((x.fOp = 1 ∨ x.fOp = 2 ∨ x.fOp = 3 ∨ x.fOp = 4) ∧ (x.fOp = 4 → x.fb = []) ∧ (x.fOp ≠ 1 → x.fE = 0 ∧ x.fG = 0) ∧ (x.fOp ≠ 3 → x.fF = 0) ∧ (¬ (x.fOp = 2 ∨ x.fOp = 3) → x.fi.length = 0) ∧ (x.fOp = 1 → isZE x.fq = true) ∧ (x.fOp = 2 ∨ x.fOp = 3 → x.fd.length = 0))
def rdE (x : Qe) : Q3 := Qv.mk (3 : Int) x.fb (gVal.mk (0 : Int) (0 : Int)) (Qg.mk (0 : Int) (0 : Int) (0 : Int) (0 : Int) (0 : Int)) (gLin.mk (0 : Int) []) x.fi []
def MW (n : Qq) (sc : List Str) (x : Qe) : Int :=
 if (JE n sc (rdE x)).2 ≠ 0 then (JE n sc (rdE x)).2
 else if ((Kz n.fk x.fb).getD zBuf).fJ = 1 ∨ (x.fOp = 3 ∧ (x.fF < 1 ∨ 4 < x.fF)) then 1
 else if (JE n sc x.fq).2 ≠ 0 then (JE n sc x.fq).2
 else if isC x.fq = true ∨ (JE n sc x.fq).1 ≠ ((Kz n.fk x.fb).getD zBuf).fa then 10 else 0
def M9 (n : Qq) (used : List Str) (x : Qe) : Int :=
 if nm x.fb = false then 7 else if (Kz n.fk x.fb).isSome ∨ used.contains x.fb = true then 8 else if x.fE < 1 ∨ 65536 < x.fE ∨ x.fG < 0 ∨ 3 < x.fG then 1 else 0
def Gl (n : Qq) (sc used : List Str) (x : Qe) : Int :=
 if plS x = false then 5 else if x.fOp = 1 then M9 n used x
 else if x.fOp = 4 then (if (JE n sc x.fq).2 ≠ 0 then (JE n sc x.fq).2 else if isC x.fq then 0 else 10)
 else MW n sc x
abbrev Fl := List Str × List Int × Int
def bdL (n : Qq) (sc : List Str) (way : List Int) : List (Qe × (List Str → List Str → List Int → Fl)) → Int → List Str → Fl
 | [], _, used => (used, [], 0)
 | (x, g) :: t, i, used =>
  if Gl n sc used x ≠ 0 then ([], way ++ [i], Gl n sc used x)
  else if x.fOp = 1 then (if (g (sc ++ [x.fb]) (used ++ [x.fb]) (way ++ [i])).2.2 ≠ 0 then g (sc ++ [x.fb]) (used ++ [x.fb]) (way ++ [i]) else bdL n sc way t (i + 1) (g (sc ++ [x.fb]) (used ++ [x.fb]) (way ++ [i])).1)
  else (if (g sc used (way ++ [i])).2.2 ≠ 0 then g sc used (way ++ [i]) else bdL n sc way t (i + 1) (g sc used (way ++ [i])).1)
def bd (n : Qq) : Q7 → List Str → List Str → List Int → Fl
 | .mk x => fun sc used way => bdL n sc way (x.fd.attach.map fun a => (a.1.f, bd n a.1)) 0 used
 termination_by e => SizeOf.sizeOf e
 decreasing_by exact Q7.lt a.2
def bdB (n : Qq) (sc : List Str) (way : List Int) (l : List Q7) (used : List Str) : Fl := bdL n sc way (l.map fun a => (a.f, bd n a)) 0 used
theorem bd_mk (n : Qq) (x : Qe) (sc used : List Str) (way : List Int) : bd n (.mk x) sc used way = bdB n sc way x.fd used := by
 rw [bd]; simp [bdB]
theorem bd_f (n : Qq) (s : Q7) (sc used : List Str) (way : List Int) : bd n s sc used way = bdB n sc way s.f.fd used := by
 cases s with
 | mk x => rw [bd_mk]; rfl
def dp : Q7 → Nat
 | .mk x => 1 + maxL (x.fd.attach.map fun a => dp a.1)
 termination_by e => SizeOf.sizeOf e
 decreasing_by exact Q7.lt a.2
def dpL (l : List Q7) : Nat := maxL (l.map dp)
def sz : Q7 → Nat
 | .mk x => 1 + (x.fd.attach.map fun a => sz a.1).sum
 termination_by e => SizeOf.sizeOf e
 decreasing_by exact Q7.lt a.2
def szL (l : List Q7) : Nat := (l.map sz).sum
def vd (n : Qq) : List Int × Int :=
 if 40 < dpL n.fd then ([], 13) else if 2000 < szL n.fd ∨ 128 < n.fk.length then ([], 2) else if J5 [] n.fk ≠ 0 then ([], J5 [] n.fk)
 else ((bdB n [] [] n.fd []).2.1, (bdB n [] [] n.fd []).2.2)
end Go.Proofs.YtkgphhemcglgnaaGreatDoor
end
section
namespace Go.Proofs.YtkgphhemcglgnaaGreatDoor
open Go HY
set_option linter.unusedVariables false
set_option linter.unusedSimpArgs false
theorem bI {α β : Type} {c : Prop} [Decidable c] {x y : Option α} {f : α → Option β} : ((if c then x else y) >>= f) = if c then x >>= f else y >>= f := by split <;> rfl
theorem Co (t : Qg) : Y3 t = some (if tyOK t = true then 0 else 10) := by
 unfold Y3 W8 YD tyOK
 simp only [bS, bI, Ns, DP, beq_iff_eq, bne_iff_ne, Bool.and_eq_true, decide_eq_true_eq, Bool.true_and, Bool.and_true]
 grind
theorem D4 (x : Q3) : Yv x = some (isC x) := by
 unfold Yv isC
 grind
theorem AK (op : Int) : Ux op = some (MG op) := by
 unfold Ux MG
 simp only [bS, beq_iff_eq]
 grind
theorem AL (op i : Int) : Kx op i = some (GQ op i) := by
 unfold Kx GQ
 simp only [bS, beq_iff_eq]
 grind
theorem wrap32 (c : UInt8) : IntKind.i32.wrap (c.toNat : Int) = c.toNat := by
 have := c.toNat_lt
 rw [IntKind.wrap_i32]; omega
theorem TL (c : UInt8) : JP (c.toNat : Int) = some (low c) := by
 unfold JP low; grind
theorem Pf (c : UInt8) : G2 (c.toNat : Int) = some (tl c) := by
 unfold G2 W7 tl; rw [TL]; simp only [bS]; grind
def spn (q : UInt8 → Bool) : Str → Nat
 | [] => 0
 | c :: t => if q c then spn q t + 1 else 0
theorem Ac (q : UInt8 → Bool) : ∀ s : Str, (spn q s = s.length) = (s.all q = true) ∧ spn q s ≤ s.length
 | [] => by simp [spn]
 | c :: t => by
  have ih := Ac q t
  unfold spn
  cases hq : q c with
  | true => simp only [if_true, List.length_cons, List.all_cons, hq, Bool.true_and, Nat.add_right_cancel_iff]; exact ⟨ih.1, by omega⟩
  | false => simp [hq]
theorem Rf (s : Str) (hl : s.length ≤ 1048576) : ∀ (t p : Str), s = p ++ t → ZQ s p.length = some ((p.length : Int) + spn tl t)
 | [], p, e => by
  rw [ZQ]; subst e; simp [spn, bS]
 | c :: t, p, e => by
  have ih := Rf s hl t (p ++ [c]) (by rw [e]; simp)
  have hlen : (p.length : Int) < s.length := by rw [e]; simp; omega
  rw [ZQ]
  simp only [bS]
  rw [if_pos hlen, Uk e, bS, wrap32, Pf, bS]
  unfold spn
  cases hc : tl c with
  | true =>
   simp only [Ns, bS]
   rw [VZ (by omega) hlen (by omega)]
   rw [show ((p ++ [c]).length : Int) = (p.length : Int) + 1 by simp] at ih
   rw [ih]; simp; omega
  | false => simp [bS]
theorem p_span (s : Str) (hl : s.length ≤ 1048576) : JA s = some (spn tl s : Int) := by
 unfold JA
 simp only [bS]
 have e : ZQ s 0 = _ := Rf s hl s [] rfl
 rw [e]; simp [bS]
theorem AH (l : List Str) (s : Str) (hl : l.length ≤ 4611686018427387904) : ∃ r, Zk l s l.length 0 = some r ∧ (match r with | .inl _ => l.contains s = false | .inr k => 0 ≤ k ∧ l.contains s = true) := by
 have key : ∀ (t p : List Str), l = p ++ t → ∃ r, Zk l s l.length p.length = some r ∧ (match r with | .inl _ => t.contains s = false | .inr k => 0 ≤ k ∧ t.contains s = true) := by
  intro t
  induction t with
  | nil => intro p e; subst e; exact ⟨_, by rw [Zk]; simp; rfl, rfl⟩
  | cons c t ih =>
   intro p e
   have hlen : (p.length : Int) < l.length := by rw [e]; simp; omega
   rw [Zk, if_pos hlen, Uk e, bS, List.contains_cons]
   cases hc : s == c with
   | true => exact ⟨_, rfl, by omega, rfl⟩
   | false =>
    rw [if_neg (by simp), VZ (by omega) hlen hl]
    have := ih (p ++ [c]) (by rw [e]; simp)
    rw [show ((p ++ [c]).length : Int) = (p.length : Int) + 1 by simp] at this
    simpa using this
 exact key l [] rfl
theorem MN (l : List Str) (s : Str) (hl : l.length ≤ 4611686018427387904) : XN l s = some (l.contains s) := by
 obtain ⟨r, e, h⟩ := AH l s hl
 unfold XN JS
 simp only [bS]
 rw [e]
 cases r with
 | inl a => simp only [bS]; rw [h]; rfl
 | inr k => simp only [bS]; rw [h.2]; simp [h.1]
theorem kwL_kw : kwL = kw := rfl
theorem MO (s : Str) : KY s = some (nm s) := by
 unfold KY nm
 cases s with
 | nil => simp
 | cons c t =>
  simp only [show (!(c :: t == ([] : Str))) = true from rfl, if_true]
  by_cases h2 : ((c :: t).length : Int) ≤ 16
  ·rw [if_pos h2, show ix (c :: t) 0 = some c from rfl, bS, wrap32, TL, bS, decide_eq_true (p := 1 ≤ ((c :: t).length : Int)) (by simp; omega), decide_eq_true h2]
   simp only [Bool.true_and]
   cases hc : low c with
   | false => simp
   | true =>
    rw [if_pos rfl, p_span _ (by omega), bS]
    obtain ⟨h3, h4⟩ := Ac tl (c :: t)
    by_cases h5 : spn tl (c :: t) = (c :: t).length
    ·rw [if_pos (by simp [h5])]
     unfold Gv D8
     rw [bS, MN _ _ (by decide), bS, kwL_kw, bS, show (c :: t).all tl = true from h3 ▸ h5]
     simp
    ·rw [if_neg (by simpa using (by omega : ¬ ((spn tl (c :: t) : Int) = (c :: t).length)))]
     have : (c :: t).all tl = false := by
      cases h : (c :: t).all tl with
      | true => exact absurd (h3.symm ▸ h : _ ) h5
      | false => rfl
     rw [this]; simp
  ·rw [if_neg h2, decide_eq_false (p := ((c :: t).length : Int) ≤ 16) h2]; simp
theorem idxF {α : Type} {l : List α} {q : α → Bool} {L : Int → Option (Unit ⊕ Int)} {p : α → Option Bool} (hl : l.length ≤ 4611686018427387904)
  (hL : ∀ i, L i = if i < (l.length : Int) then ix l i >>= fun v => p v >>= fun b => if b = true then some (.inr i) else L (wr (i + 1)) else some (.inl ()))
  (hp : ∀ x ∈ l, p x = some (q x)) : ∃ r, L 0 = some r ∧ (match r with | .inl _ => l.any q = false | .inr k => 0 ≤ k ∧ l.any q = true) := by
 have key : ∀ (t p : List α), l = p ++ t → ∃ r, L p.length = some r ∧ (match r with | .inl _ => t.any q = false | .inr k => 0 ≤ k ∧ t.any q = true) := by
  intro t
  induction t with
  | nil => intro p e; subst e; exact ⟨_, by rw [hL]; simp; rfl, rfl⟩
  | cons c t ih =>
   intro p e
   have hlen : (p.length : Int) < l.length := by rw [e]; simp; omega
   rw [hL, if_pos hlen, Uk e, bS, hp c (by rw [e]; simp), bS, List.any_cons]
   cases hc : q c with
   | true => exact ⟨_, rfl, by omega, rfl⟩
   | false =>
    rw [if_neg (by simp), VZ (by omega) hlen hl]
    have := ih (p ++ [c]) (by rw [e]; simp)
    rw [show ((p ++ [c]).length : Int) = (p.length : Int) + 1 by simp] at this
    simpa using this
 exact key l [] rfl
theorem M1 {α : Type} (q : α → Bool) (l : List α) : (!(l.any fun x => !(q x))) = l.all q := by
 induction l with
 | nil => rfl
 | cons a t ih => rw [List.any_cons, List.all_cons, ← ih]; cases q a <;> simp
theorem TK (l : gLin) : Ue l = some (zLn l) := by
 unfold Ue zLn
 cases l with
 | mk k t => cases t <;> simp [bS] <;> grind
theorem TM (i : Q6) : Jz i = some (wfI i) := by
 unfold Jz wfI
 rw [TK]
 by_cases h : i.fH = []
 ·simp only [h, bS, if_true, beq_self_eq_true]
  cases i.fAt with
  | nil => rfl
  | cons a t => simp; omega
 ·simp [h, bS]
theorem p_cf1 (l : List Q6) (hl : l.length ≤ 4611686018427387904) : Xp l = some (l.any fun i => !(wfI i)) := by
 obtain ⟨r, e, h⟩ := idxF (l := l) (q := fun i => !(wfI i)) (L := QQ l l.length) hl (fun i => by rw [QQ]) (fun x _ => by unfold Dw; rw [TM, bS])
 unfold Xp K2
 simp only [bS]; rw [e]
 cases r with
 | inl a => simp only [bS]; rw [h]; rfl
 | inr k => simp only [bS]; rw [h.2]; simp [h.1]
theorem p_cf2 (l : List Q6) (hl : l.length ≤ 4611686018427387904) : Xq l = some (l.any fun i => !(i.fH == [] || nm i.fH)) := by
 obtain ⟨r, e, h⟩ := idxF (l := l) (q := fun i => !(i.fH == [] || nm i.fH)) (L := QR l l.length) hl (fun i => by rw [QR]) (fun x _ => by unfold Cb; rw [MO]; cases x.fH == [] <;> rfl)
 unfold Xq K3
 simp only [bS]; rw [e]
 cases r with
 | inl a => simp only [bS]; rw [h]; rfl
 | inr k => simp only [bS]; rw [h.2]; simp [h.1]
theorem p_cf3 (l : List Q6) (hl : l.length ≤ 4611686018427387904) : Xr l = some (l.any fun i => !(decide (i.fAt.length ≤ 6))) := by
 obtain ⟨r, e, h⟩ := idxF (l := l) (q := fun i => !(decide (i.fAt.length ≤ 6))) (L := QS l l.length) hl (fun i => by rw [QS]) (fun x _ => by unfold W5; simp only [bS]; congr 1; rw [Bool.eq_iff_iff]; simp; omega)
 unfold Xr K4
 simp only [bS]; rw [e]
 cases r with
 | inl a => simp only [bS]; rw [h]; rfl
 | inr k => simp only [bS]; rw [h.2]; simp [h.1]
theorem plE_eq (x : Q3) : plE x = (decide (1 ≤ x.fOp ∧ x.fOp ≤ 18) && ((x.fOp == 1 || (x.fy.fN == 0 && (x.fy.fD == 0 && true))) && ((x.fOp == 1 || x.fOp == 12 || (x.fa.fv == 0 && (x.fa.fx == 0 && (x.fa.fB == 0 && (x.fa.fw == 0 && (x.fa.fC == 0 && true)))))) && ((x.fOp == 2 || zLn x.fo) && ((x.fOp == 3 || (x.fb == [] && decide (¬ (0 : Int) < x.fi.length))) && x.fi.all wfI))))) := by
 unfold plE
 have e1 : x.fa = zT ↔ (x.fa.fv = 0 ∧ x.fa.fx = 0 ∧ x.fa.fB = 0 ∧ x.fa.fw = 0 ∧ x.fa.fC = 0) := by
  cases x.fa; simp [zT]
 have e2 : x.fi = [] ↔ ¬ (0 : Int) < x.fi.length := by cases x.fi <;> simp
 rw [Bool.eq_iff_iff]
 simp only [Bool.and_eq_true, decide_eq_true_eq, Bool.or_eq_true, beq_iff_eq, Bool.and_true]
 rw [e1, e2]
 constructor
 ·rintro ⟨⟨a, b, c, d, e, f⟩, g⟩
  exact ⟨⟨a, b⟩, c, by rcases d with d | d | d <;> simp [d], e, f, g⟩
 ·rintro ⟨⟨a, b⟩, c, d, e, f, g⟩
  exact ⟨⟨a, b, c, by rcases d with (d | d) | d <;> simp [d], e, f⟩, g⟩
theorem Pi (x : Q3) (hl : x.fi.length ≤ 4611686018427387904) : GV x = some (plE x) := by
 rw [plE_eq]
 unfold GV
 rw [p_cf1 _ hl, TK]
 simp only [bS, bI, M1, Ns, DP, if_true, if_false, Bool.false_eq_true]
 generalize (x.fy.fN == 0 && (x.fy.fD == 0 && true)) = V
 generalize (x.fa.fv == 0 && (x.fa.fx == 0 && (x.fa.fB == 0 && (x.fa.fw == 0 && (x.fa.fC == 0 && true))))) = T
 generalize zLn x.fo = Z
 generalize (x.fb == []) = N
 generalize x.fi.all wfI = A
 generalize (x.fi.length : Int) = I
 generalize x.fOp = op
 cases V <;> cases T <;> cases Z <;> cases N <;> grind
theorem p_names (x : Q3) (hl : x.fi.length ≤ 4611686018427387904) : Dv x = some (naE x) := by
 unfold Dv naE
 rw [p_cf2 _ hl, MO]
 simp only [bS, bI, M1, Ns, DP, beq_iff_eq]
 grind
theorem p_rank (x : Q3) (hl : x.fi.length ≤ 4611686018427387904) : Cy x = some (raE x) := by
 unfold Cy raE
 rw [p_cf3 _ hl, AK]
 simp only [bS, bI, M1, Ns, DP, bne_iff_ne]
 grind
end Go.Proofs.YtkgphhemcglgnaaGreatDoor
end
section
namespace Go.Proofs.YtkgphhemcglgnaaGreatDoor
open Go HY
set_option linter.unusedVariables false
set_option linter.unusedSimpArgs false
theorem AM (d : List Int) (hl : d.length ≤ 1048576) : X5 d d.length 0 = some (if d.any (fun v => decide (v < 1)) then .inr 1 else .inl ()) := by
 refine Tt (F := fun i => X5 d d.length i) (l := d) (fun t => if t.any (fun v => decide (v < 1)) then .inr 1 else .inl ()) ?_ ?_
 ·rw [X5]; simp
 ·intro i y t h0 h1 hix ih
  rw [X5, if_pos h1, hix]
  simp only [bS, wrapS h0 h1 (by omega), ih, List.any_cons]
  by_cases h2 : y < 1 <;> simp [h2]
theorem Ae {n v : Int} (hn : 1 ≤ n) : ((4096 : Int).tdiv n < v) ↔ 4096 < n * v := by
 rw [Int.tdiv_eq_ediv_of_nonneg (by omega), Int.ediv_lt_iff_lt_mul (by omega), Int.mul_comm]
theorem tdiv_le {n : Int} (hn : 1 ≤ n) : 0 ≤ (4096 : Int).tdiv n ∧ (4096 : Int).tdiv n ≤ 4096 := by
 rw [Int.tdiv_eq_ediv_of_nonneg (by omega)]
 exact ⟨Int.ediv_nonneg (by omega) (by omega), Int.ediv_le_self _ (by omega)⟩
theorem SB (d : List Int) (hl : d.length ≤ 1048576) (hd : ∀ v ∈ d, 1 ≤ v) : ZT 1 d d.length 0 = some (if (D5 1 d).isSome then .inl () else .inr 2) := by
 refine M8 (F := fun n i => ZT n d d.length i) (l := d) (fun n t => 1 ≤ n ∧ n ≤ 4096) (fun n t => if (D5 n t).isSome then .inl () else .inr 2) ?_ ?_ 1 (by omega)
 ·intro n _
  rw [ZT]; simp [D5]
 ·intro i y t n h0 h1 hm hix hI ih
  have hy := hd y hm
  have h4 := tdiv_le hI.1
  rw [ZT, if_pos h1, hix]
  simp only [bS, wrapS h0 h1 (by omega)]
  rw [if_pos (show n ≠ 0 by omega), ZI (by omega)]
  by_cases h2 : 4096 < n * y
  ·rw [if_pos ((Ae hI.1).2 h2), Ft (.inr h2)]; rfl
  ·have hp : n ≤ n * y := by
    have := Int.mul_le_mul_of_nonneg_left hy (show 0 ≤ n by omega); rwa [Int.mul_one] at this
   rw [if_neg (fun h => h2 ((Ae hI.1).1 h)), Pq (by omega), ZI (by omega)]
   exact ih _ (by omega)
theorem p_shape (d : List Int) : U7 d = some (Ig d) := by
 unfold U7 Ig
 simp only [bS]
 by_cases h6 : (6 : Int) < d.length
 ·rw [if_pos h6, if_pos (by omega)]
 ·have hl : d.length ≤ 1048576 := by omega
  rw [if_neg h6, if_neg (by omega), AM d hl]
  by_cases ha : d.any (fun v => decide (v < 1)) = true
  ·rw [if_pos ha, if_pos ha]; rfl
  ·rw [if_neg ha, bS, if_neg ha]
   simp only
   rw [SB d hl (fun v hv => by
    have : ¬ v < 1 := fun h => ha (List.any_eq_true.2 ⟨v, hv, by simpa using h⟩)
    omega)]
   cases hs : (D5 1 d).isSome <;> simp [bS]
theorem pw2 (b : Int) (h : 2 ≤ b ∧ b ≤ 31) : 1 ≤ (2 : Int) ^ (b - 1).toNat ∧ (2 : Int) ^ (b - 1).toNat ≤ 1073741824 ∧ min (b - 1).toNat 64 = (b - 1).toNat := by
 obtain ⟨k, rfl⟩ : ∃ k : Nat, b = k + 1 := ⟨(b - 1).toNat, by omega⟩
 have hk : k ≤ 30 := by omega
 rw [show ((k : Int) + 1 - 1).toNat = k by omega]
 refine ⟨?_, ?_, by omega⟩
 ·have : 1 ≤ (2 : Nat) ^ k := Nat.one_le_two_pow
  have e : ((2 ^ k : Nat) : Int) = (2 : Int) ^ k := by push_cast; rfl
  rw [← e]; omega
 ·have : (2 : Nat) ^ k ≤ 2 ^ 30 := Nat.pow_le_pow_right (by decide) hk
  have e : ((2 ^ k : Nat) : Int) = (2 : Int) ^ k := by push_cast; rfl
  rw [← e]; omega
theorem Pr {t : Qg} (h : tyOK t = true) (hk : t.fv = 2) : 2 ≤ t.fx ∧ t.fx ≤ 31 := by
 unfold tyOK at h
 rw [if_neg (by omega)] at h
 have := of_decide_eq_true h
 exact ⟨this.2.1, this.2.2.1⟩
theorem IA (t : Qg) (hk : t.fv = 2) : YD t = some (if tyOK t = true then 0 else 10) := by
 unfold YD tyOK
 simp only [bS, bI, Ns, DP, beq_iff_eq, bne_iff_ne, Bool.and_eq_true, decide_eq_true_eq, Bool.true_and, Bool.and_true, hk]
 grind
theorem gcd_L1 (G : Int → Int → Option Int) (hG : ∀ a b, G a b = if (b != (0 : Int)) = true then (if b ≠ (0 : Int) then some (a.tmod b : Int) >>= fun v => G b v else none) else some a) : ∀ (b a : Nat), G a b = some (Nat.gcd a b : Int) := by
 intro b
 induction b using Nat.strongRecOn with
 | ind b ih =>
  intro a
  rw [hG]
  by_cases hb : b = 0
  ·subst hb; simp
  ·have h2 : (b : Int) ≠ 0 := by omega
   rw [if_pos (by simpa using h2), if_pos h2, bS]
   rw [show ((a : Int).tmod (b : Int)) = ((a % b : Nat) : Int) from rfl, ih (a % b) (Nat.mod_lt _ (by omega)) b, Nat.gcd_comm b, Nat.gcd_comm a b, Nat.gcd_rec b a]
theorem SA (v : gVal) : Dy v = some (decide (-2147483647 ≤ v.fN ∧ v.fN ≤ 2147483647 ∧ 1 ≤ v.fD ∧ v.fD ≤ 2147483647 ∧ Nat.gcd v.fN.natAbs v.fD.natAbs = 1)) := by
 unfold Dy Cc D6 Mj
 by_cases h1 : (1 : Int) ≤ v.fD
 ·by_cases h2 : v.fD ≤ 2147483647
  ·rw [if_pos h1, if_pos h2]
   by_cases h3 : (-2147483647 : Int) ≤ v.fN
   ·by_cases h4 : v.fN ≤ 2147483647
    ·have e1 : (if v.fN < 0 then some (w6 (0 - w6 v.fN)) else some (w6 v.fN)) = some ((v.fN.natAbs : Nat) : Int) := by
      split
      ·unfold w6; rw [IntKind.wrap_u64, IntKind.wrap_u64]; congr 1; omega
      ·unfold w6; rw [IntKind.wrap_u64]; congr 1; omega
     have e2 : w6 v.fD = ((v.fD.natAbs : Nat) : Int) := by unfold w6; rw [IntKind.wrap_u64]; omega
     rw [if_pos h3, bS, e1, bS, e2]
     simp only [decide_eq_true h4, if_true, bS]
     rw [gcd_L1 Vs (fun a b => by rw [Vs]), bS, bS]
     congr 1
     rw [Bool.eq_iff_iff, beq_iff_eq, decide_eq_true_iff]
     constructor
     ·intro h; exact ⟨h3, h4, h1, h2, by omega⟩
     ·intro h; omega
    ·rw [if_pos h3, bS]
     simp [h4]
   ·rw [if_neg h3, bS]; simp [h3]
  ·rw [if_pos h1, if_neg h2]; simp [h2]
 ·rw [if_neg h1]; simp [h1]
theorem p_Valid (t : Qg) (v : gVal) (h : tyOK t = true) : GY t v = some (vlOK t v) := by
 unfold GY vlOK
 rw [Co, if_pos h, bS]
 simp only [bne_self_eq_false, Bool.false_eq_true, if_false, beq_iff_eq]
 by_cases h2 : t.fv = 2
 ·rw [if_pos h2, if_pos h2]
  obtain ⟨b1, b2⟩ := Pr h h2
  obtain ⟨c1, c2, c3⟩ := pw2 _ ⟨b1, b2⟩
  unfold W6 Ce Cd GW
  rw [IA t h2, if_pos h]
  have w1 : wr (t.fx - 1) = t.fx - 1 := ZI (by omega)
  have w2 : w6 (t.fx - 1) = t.fx - 1 := by unfold w6; rw [IntKind.wrap_u64]; omega
  simp only [bS, w1, w2, c3, Int.one_mul, beq_self_eq_true, if_true, decide_eq_true b2]
  rw [if_pos b1]
  generalize (2 : Int) ^ (t.fx - 1).toNat = P at *
  simp only [bS, if_true]
  simp only [if_pos (show (0 : Int) ≤ t.fx - 1 by omega), bS]
  rw [ZI (n := P) (by omega), ZI (n := 0 - P) (by omega), ZI (n := P - 1) (by omega)]
  simp only [beq_iff_eq]
  grind
 ·rw [if_neg h2, if_neg h2]
  by_cases h3 : t.fv = 3
  ·rw [if_pos h3]
   simp only [h3, if_true]
   unfold W9
   grind
  ·rw [if_neg h3, SA, bS]
   simp only [h3, if_false]
end Go.Proofs.YtkgphhemcglgnaaGreatDoor
end
section
namespace Go.Proofs.YtkgphhemcglgnaaGreatDoor
open Go HY
set_option linter.unusedVariables false
set_option linter.unusedSimpArgs false
theorem stepF {α β : Type} {l : List α} {q : α → Bool} {L : Int → Option (Unit ⊕ β)} {e : β} (hl : l.length ≤ 4611686018427387904) (h0 : L l.length = some (.inl ()))
    (h1 : ∀ (i : Int) (x : α), 0 ≤ i → i < l.length → x ∈ l → ix l i = some x → L i = if q x = true then L (wr (i + 1)) else some (.inr e)) : L 0 = some (if l.all q then .inl () else .inr e) := by
  have key : ∀ (t p : List α), l = p ++ t → L p.length = some (if t.all q then .inl () else .inr e) := by
    intro t
    induction t with
    | nil => intro p e1; have : p.length = l.length := by rw [e1]; simp
             rw [this, h0]; rfl
    | cons c t ih =>
      intro p e1
      have hlen : (p.length : Int) < l.length := by rw [e1]; simp; omega
      rw [h1 p.length c (by omega) hlen (by rw [e1]; simp) (Uk e1), VZ (by omega) hlen hl, List.all_cons]
      have := ih (p ++ [c]) (by rw [e1]; simp)
      rw [show ((p ++ [c]).length : Int) = (p.length : Int) + 1 by simp] at this
      rw [this]
      cases q c <;> simp
  exact key l [] rfl
theorem E5 (x : Q3) (hl : x.ff.length ≤ 4611686018427387904) : ∀ (t p : List Qf), x.ff = p ++ t → Yj x x.ff x.ff.length p.length = some (if argG x.fOp p.length t then .inl () else .inr false)
 | [], p, e => by
  have : p.length = x.ff.length := by rw [e]; simp
  rw [Yj, if_neg (by omega)]; rfl
 | c :: t, p, e => by
  have ih := E5 x hl t (p ++ [c]) (by rw [e]; simp)
  have hlen : (p.length : Int) < x.ff.length := by rw [e]; simp; omega
  rw [Yj, if_pos hlen, Uk e, omS, bS, D4, bS, AL, bS, VZ (by omega) hlen hl]
  rw [show ((p ++ [c]).length : Int) = (p.length : Int) + 1 by simp] at ih
  rw [ih, argG]
  cases isC c.f <;> cases GQ x.fOp p.length <;> simp
theorem p_types (x : Q3) (hl : x.ff.length ≤ 4611686018427387904) : Dx x = some (tyE x) := by
 unfold Dx tyE
 have e : Yj x x.ff x.ff.length 0 = _ := E5 x hl x.ff [] rfl
 rw [Co]
 simp only [bS, e, List.length_nil, Int.natCast_zero]
 cases ht : tyOK x.fa <;> cases hA : argG x.fOp 0 x.ff <;> by_cases h1 : x.fOp = 1 <;> by_cases h2 : x.fOp = 12 <;> simp [h1, h2, bS]
theorem Lb : ∀ (l : List gLin), (∀ a ∈ l, okL a) → Vd l = some (l.all Wp)
 | [], _ => rfl
 | a :: t, h => by
  rw [Vd, EU a (h a (by simp)), bS, Lb t (fun b hb => h b (by simp [hb])), List.all_cons]
  cases Wp a <;> simp
theorem Fi {x : Q3} (h1 : okL x.fo) (h2 : ∀ i ∈ x.fi, okI i) : ∀ a ∈ Jj x, okL a := by
 intro a ha
 unfold Jj at ha
 rcases List.mem_cons.1 ha with rfl | ha
 ·exact h1
 ·obtain ⟨l, hl, hal⟩ := List.mem_flatten.1 ha
  obtain ⟨i, hi, rfl⟩ := List.mem_map.1 hl
  unfold JG at hal
  rcases List.mem_cons.1 hal with rfl | hal
  ·exact (h2 i hi).1
  ·exact (h2 i hi).2.2 a hal
theorem SD (x : Q3) (hx : okE (.mk x)) : U4 x = some (Up x) := by
 obtain ⟨h1, h2, h3, h4, h5⟩ := hx.of
 have hI : x.fi.length ≤ 4611686018427387904 := by omega
 have hA : x.ff.length ≤ 4611686018427387904 := by omega
 have hAt : ∀ i ∈ x.fi, i.fAt.length ≤ 4611686018427387904 := fun i hi => by have := (h3 i hi).2.1; omega
 have hT : Ve x = some (if (Jj x).all Wp then 0 else 1) := by
  unfold Ve
  rw [TW x ⟨hI, hAt⟩, bS, Lb _ (Fi h1 h3), bS]
 unfold U4 Up
 rw [Pi x hI, p_names x hI, p_rank x hI, p_types x hA, hT]
 simp only [bS]
 cases plE x <;> simp only [Bool.false_eq_true, if_true, if_false, Bool.true_eq_false]
 cases naE x <;> simp only [Bool.false_eq_true, if_true, if_false, Bool.true_eq_false]
 cases raE x <;> simp only [Bool.false_eq_true, if_true, if_false, Bool.true_eq_false]
 cases ht : tyE x <;> simp only [Bool.false_eq_true, if_true, if_false, Bool.true_eq_false]
 unfold foE
 by_cases ho : x.fOp = 1
 ·have hty : tyOK x.fa = true := by
   unfold tyE at ht
   rw [Bool.and_eq_true] at ht
   simpa [ho] using ht.1
  rw [if_pos (by simpa using ho), p_Valid _ _ hty, bS, ho]
  cases vlOK x.fa x.fy <;> cases (Jj x).all Wp <;> simp
 ·rw [if_neg (by simpa using ho)]
  cases (Jj x).all Wp <;> simp [ho]
end Go.Proofs.YtkgphhemcglgnaaGreatDoor
end
section
namespace Go.Proofs.YtkgphhemcglgnaaGreatDoor
open Go HY
set_option linter.unusedVariables false
set_option linter.unusedSimpArgs false
theorem Rc (x : Q3) : X7 (.mk x) = .mk x :: DQ x.ff := MJ x
theorem Rb (a : Nat) (l : List Nat) : maxL (a :: l) = max a (maxL l) := rfl
theorem dpE_mk (x : Q3) : dpE (.mk x) = 1 + maxL (x.ff.map dpE) := by rw [dpE]; simp
theorem EN : ∀ e : Qf, 1 ≤ dpE e := fun e => by cases e; rw [dpE_mk]; omega
theorem p_depth : ∀ e : Qf, okE e → ∀ m : Int, 1 ≤ m → m ≤ 100 → Vc e.f m = some (min (dpE e : Int) m) := Qf.ind fun x ih hx m h1 h2 => by
 obtain ⟨_, _, _, hA, hall⟩ := hx.of
 rw [Qf.f_mk, Vc]
 by_cases hm : m ≤ 1
 ·rw [if_pos hm]; have := EN (.mk x); congr 1; omega
 ·rw [if_neg hm, bS, bS]
  have hL : Yi m 1 x.ff x.ff.length 0 = some (max 1 (min (1 + maxL (x.ff.map dpE) : Int) m)) := by
   refine M8 (F := fun d i => Yi m d x.ff x.ff.length i) (l := x.ff) (fun d _ => 1 ≤ d ∧ d ≤ m) (fun d t => max d (min (1 + maxL (t.map dpE) : Int) m)) ?_ ?_ 1 (by omega)
   ·intro d hd
    rw [Yi, if_neg (by omega)]
    simp [maxL]; omega
   ·intro i y t d h3 h4 hmem hix hd ihl
    rw [Yi, if_pos h4, hix, omS, bS, ZI (n := m - 1) (by omega), ih y hmem (hall y hmem) (m - 1) (by omega) (by omega), bS, if_pos rfl, VZ h3 h4 (by omega), ZI (by have := EN y; omega)]
    have hp := EN y
    rw [ihl _ (by omega), List.map_cons, Rb]
    congr 1; omega
  rw [hL, bS, dpE_mk]
  congr 1; omega
theorem TH : ∀ (l : List Qf) (c : Int), 0 ≤ c → c ≤ 2000 → J2 l c = some (min (c + l.length) 2001)
 | [], c, h0, h1 => by rw [J2]; congr 1; simp; omega
 | a :: t, c, h0, h1 => by
  rw [J2, bS, ZI (by omega)]
  by_cases h : 2000 < c + 1
  ·rw [if_pos h]; congr 1; simp; omega
  ·rw [if_neg h, TH t (c + 1) (by omega) (by omega)]; congr 1; simp; omega
theorem aE_of : ∀ e : Qf, okE e → aE e := Qf.ind fun x ih hx => by
 obtain ⟨_, _, _, hA, hall⟩ := hx.of
 exact .mk x (by omega) (fun a ha => ih a ha (hall a ha))
theorem p_Size (x : Q3) (hx : okE (.mk x)) : Cx x = some (min ((X7 (.mk x)).length : Int) 2001) := by
 unfold Cx
 rw [NR x (aE_of _ hx), bS, TH _ 0 (by omega) (by omega), bS]; congr 1; show min (0 + ((X7 (.mk x)).length : Int)) 2001 = _; omega
theorem Re : ∀ e : Qf, okE e → ∀ y ∈ X7 e, okE y := Qf.ind fun x ih hx y hy => by
 obtain ⟨_, _, _, hA, hall⟩ := hx.of
 rw [Rc] at hy
 rcases List.mem_cons.1 hy with rfl | hy
 ·exact hx
 ·unfold DQ at hy
  obtain ⟨l, hl, hyl⟩ := List.mem_flatten.1 hy
  obtain ⟨a, ha, rfl⟩ := List.mem_map.1 hl
  exact ih a ha (hall a ha) y hyl
theorem LP : ∀ (l : List Qf), (∀ a ∈ l, okE a) → Vu l = some (fstE (fun y => Up y.f) l)
 | [], _ => rfl
 | a :: t, h => by
  have ha : okE (.mk a.f) := by rw [Qf.mk_f]; exact h a (by simp)
  rw [Vu, SD a.f ha, bS, LP t (fun b hb => h b (by simp [hb])), fstE]
  by_cases hp : Up a.f = 0
  ·simp [hp]
  ·simp [hp]
theorem AI (x : Q3) (hx : okE (.mk x)) : Uw x = some (Nq x) := by
 unfold Uw Nq WB
 have hd := p_depth (.mk x) hx 41 (by omega) (by omega)
 rw [Qf.f_mk] at hd
 rw [hd, bS, bS, p_Size x hx, NR x (aE_of _ hx)]
 by_cases h1 : 40 < dpE (.mk x)
 ·rw [if_pos h1, if_pos (by omega)]
 ·rw [if_neg h1, if_neg (by omega), bS]
  by_cases h2 : 2000 < (X7 (.mk x)).length
  ·rw [if_pos h2, if_pos (by omega)]
  ·rw [if_neg h2, if_neg (by omega), bS, LP _ (Re _ hx), bS]
end Go.Proofs.YtkgphhemcglgnaaGreatDoor
end
section
namespace Go.Proofs.YtkgphhemcglgnaaGreatDoor
open Go HY
set_option linter.unusedVariables false
set_option linter.unusedSimpArgs false
def cmpZ (a b : Int) : Int := if a < b then -1 else if b < a then 1 else 0
theorem HP (a b : Int) : cmpZ a b = 0 ↔ a = b := by unfold cmpZ; grind
theorem Nv (a b : Int) : Zz a b = some (cmpZ a b) := by unfold Zz Uv cmpZ; simp only [bS]; grind
theorem A3 (a b : Int) : KR a b = some (cmpZ a b) := by unfold KR Jy cmpZ; simp only [bS]; grind
theorem p_order (a b : Int) : GD a b = some (cmpZ a b) := by unfold GD cmpZ; grind
theorem p_Or (l : List Int) (hl : l.length ≤ 100) : ∃ r, UI l = some r ∧ (r = 0 ↔ ∀ x ∈ l, x = 0) := by
  have key : ∀ (t p : List Int), l = p ++ t → ∃ r, Yh 0 l l.length p.length = some r ∧ (match r with | .inl _ => ∀ x ∈ t, x = 0 | .inr k => k ≠ 0 ∧ ¬ ∀ x ∈ t, x = 0) := by
    intro t
    induction t with
    | nil => intro p e; have : p.length = l.length := by rw [e]; simp
             exact ⟨_, by rw [Yh, if_neg (by omega)], by simp⟩
    | cons c t ih =>
      intro p e
      have hlen : (p.length : Int) < l.length := by rw [e]; simp; omega
      rw [Yh, if_pos hlen, Uk e, bS, VZ (by omega) hlen (by omega)]
      by_cases hc : c = 0
      · rw [if_neg (by simp [hc])]
        have := ih (p ++ [c]) (by rw [e]; simp)
        rw [show ((p ++ [c]).length : Int) = (p.length : Int) + 1 by simp] at this
        obtain ⟨r, e1, e2⟩ := this
        refine ⟨r, e1, ?_⟩
        cases r with
        | inl u => simpa [hc] using e2
        | inr k => exact ⟨e2.1, fun h => e2.2 (fun x hx => h x (by simp [hx]))⟩
      · exact ⟨_, if_pos (by simp [hc]), hc, fun h => hc (h c (by simp))⟩
  obtain ⟨r, e1, e2⟩ := key l [] rfl
  have e1' : Yh 0 l l.length 0 = some r := e1
  unfold UI
  simp only [bS]
  rw [e1']
  cases r with
  | inl u => exact ⟨0, rfl, by simpa using e2⟩
  | inr k => exact ⟨k, rfl, ⟨fun h => absurd h e2.1, fun h => absurd h e2.2⟩⟩
theorem Ph (s : Str) : ∃ r, KH s [] = some r ∧ (r = 0 ↔ s = []) := by
 unfold KH Ki XB
 cases s with
 | nil => exact ⟨0, rfl, by simp⟩
 | cons a t => exact ⟨1, rfl, by simp⟩
theorem Pg (l : gLin) : ∃ r, J3 l ⟨0, []⟩ = some r ∧ (r = 0 ↔ zLn l = true) := by
 unfold J3 YP zLn
 cases l with
 | mk k t =>
  cases t with
  | nil =>
   simp only [bS]
   rw [QI, if_neg (by simp)]
   simp only [bS, p_order]
   exact ⟨cmpZ k 0, by simp, by simp [HP]⟩
  | cons a t =>
   simp only [bS]
   rw [QI, if_pos (by simp <;> omega)]
   refine ⟨1, ?_, by simp⟩
   rw [show ix (a :: t) 0 = some a from rfl]
   simp [bS]
theorem Pe (l : List Q6) : ∃ r, XE l [] = some r ∧ (r = 0 ↔ l.length = 0) := by
 unfold XE
 simp only [bS, Nv]
 by_cases h : l.length = 0
 ·have : l = [] := List.eq_nil_of_length_eq_zero h
  subst this
  refine ⟨0, ?_, by simp⟩
  unfold YF
  simp only [bS]
  rw [if_neg (by simp; rfl), Z5, if_neg (by simp)]
  simp [bS]
 ·have : cmpZ l.length (([] : List Q6).length : Nat) ≠ 0 := by rw [Ne, HP]; simpa using h
  exact ⟨_, if_pos (by simpa using this), ⟨fun e => absurd e this, fun e => absurd e h⟩⟩
theorem Pd (l : List Qf) : ∃ r, ZZ l [] = some r ∧ (r = 0 ↔ l.length = 0) := by
 rw [ZZ]
 simp only [bS, Nv]
 by_cases h : l.length = 0
 ·have : l = [] := List.eq_nil_of_length_eq_zero h
  subst this
  refine ⟨0, ?_, by simp⟩
  rw [XF]
  simp only [bS]
  rw [if_neg (by simp; rfl), Za, if_neg (by simp)]
  simp [bS]
 ·have : cmpZ l.length (([] : List Qf).length : Nat) ≠ 0 := by rw [Ne, HP]; simpa using h
  exact ⟨_, if_pos (by simpa using this), ⟨fun e => absurd e this, fun e => absurd e h⟩⟩
theorem Tp (x : Q3) : isZE x = true ↔ (x.fOp = 0 ∧ x.fb = [] ∧ x.fy.fN = 0 ∧ x.fy.fD = 0 ∧ (x.fa.fv = 0 ∧ x.fa.fx = 0 ∧ x.fa.fB = 0 ∧ x.fa.fw = 0 ∧ x.fa.fC = 0) ∧ zLn x.fo = true ∧ x.fi.length = 0 ∧ x.ff.length = 0) := by
 unfold isZE
 have e1 : x.fa = zT ↔ (x.fa.fv = 0 ∧ x.fa.fx = 0 ∧ x.fa.fB = 0 ∧ x.fa.fw = 0 ∧ x.fa.fC = 0) := by
  cases x.fa; simp [zT]
 rw [decide_eq_true_iff, e1]
theorem Fk (x : Q3) : JB x = some (isZE x) := by
 unfold JB NF
 rw [bS, KX, Nv, A3, A3]
 unfold UJ
 rw [Nv, Nv, Nv, Nv, Nv]
 simp only [bS]
 obtain ⟨s, es, hs⟩ := Ph x.fb
 obtain ⟨t, et, ht⟩ := p_Or [cmpZ x.fa.fv 0, cmpZ x.fa.fx 0, cmpZ x.fa.fB 0, cmpZ x.fa.fw 0, cmpZ x.fa.fC 0] (by simp)
 obtain ⟨u, eu, hu⟩ := Pg x.fo
 rw [es, et, eu]
 simp only [bS]
 obtain ⟨v, ev, hv⟩ := p_Or [cmpZ x.fOp 0, s, cmpZ x.fy.fN 0, cmpZ x.fy.fD 0, t, u] (by simp)
 obtain ⟨i, ei, hi⟩ := Pe x.fi
 obtain ⟨a, ea, ha⟩ := Pd x.ff
 rw [ev, bS, ei, ea]
 simp only [bS, List.mem_cons, List.not_mem_nil, or_false, forall_eq_or_imp, forall_eq, HP] at ht hv ⊢
 have hz := Tp x
 rw [← hu, ← ht, ← hs, ← hi, ← ha] at hz
 by_cases h1 : v = 0
 ·rw [if_neg (by simp [h1])]
  by_cases h2 : i = 0
  ·rw [if_neg (by simp [h2]), bS, bS]
   congr 1; rw [Bool.eq_iff_iff, hz, beq_iff_eq]
   have := hv.1 h1
   constructor
   ·intro h; exact ⟨this.1, this.2.1, this.2.2.1, this.2.2.2.1, this.2.2.2.2.1, this.2.2.2.2.2, h2, h⟩
   ·intro h; exact h.2.2.2.2.2.2.2
  ·rw [if_pos (by simp [h2]), bS, bS]
   congr 1; rw [Bool.eq_iff_iff, hz, beq_iff_eq]
   exact ⟨fun h => absurd h h2, fun h => h.2.2.2.2.2.2.1⟩
 ·rw [if_pos (by simp [h1]), bS, bS]
  congr 1; rw [Bool.eq_iff_iff, hz, beq_iff_eq]
  exact ⟨fun h => absurd h h1, fun h => absurd (hv.2 ⟨h.1, h.2.1, h.2.2.1, h.2.2.2.1, h.2.2.2.2.1, h.2.2.2.2.2.1⟩) h1⟩
theorem r_isZero (x : Q3) : NE x (Qv.mk (0 : Int) [] (gVal.mk (0 : Int) (0 : Int)) (Qg.mk (0 : Int) (0 : Int) (0 : Int) (0 : Int) (0 : Int)) (gLin.mk (0 : Int) []) [] []) = some (isZE x) := by
 have hz := Tp x
 have hl : ∀ l : gLin, Dt l ⟨0, []⟩ = some (zLn l) := fun l => by
  unfold Dt zLn
  cases l with
  | mk k t =>
   cases t with
   | nil =>
    by_cases hk : k = 0
    ·subst hk
     simp only [bS]
     rw [W4]
     simp [bS]
    ·simp [hk, bS]
   | cons a t =>
    have h1 : ¬ ((t.length : Int) + 1 = 0) := by omega
    by_cases hk : k = 0 <;> simp [hk, bS, h1]
 have hi : ∀ l : List Q6, Ca l [] = some (decide (l.length = 0)) := fun l => by
  unfold Ca
  cases l with
  | nil => simp only [bS]; rw [Gu]; simp [bS]
  | cons a t =>
   have h1 : ¬ ((t.length : Int) + 1 = 0) := by omega
   simp [bS, h1]
 have ha : ∀ l : List Qf, WA l [] = some (decide (l.length = 0)) := fun l => by
  rw [WA]
  cases l with
  | nil => simp only [bS]; rw [Ds]; simp [bS]
  | cons a t =>
   have h1 : ¬ ((t.length : Int) + 1 = 0) := by omega
   simp [bS, h1]
 rw [NE, hl, hi, ha]
 simp only [bS]
 generalize zLn x.fo = Z at *
 generalize isZE x = Q at *
 simp only [beq_iff_eq, Bool.and_eq_true, Bool.and_true]
 grind
theorem plS_iff (x : Qe) : plS x = true ↔ ((x.fOp = 1 ∨ x.fOp = 2 ∨ x.fOp = 3 ∨ x.fOp = 4) ∧ (x.fOp = 4 → x.fb = []) ∧ (x.fOp ≠ 1 → x.fE = 0 ∧ x.fG = 0) ∧ (x.fOp ≠ 3 → x.fF = 0) ∧ (¬ (x.fOp = 2 ∨ x.fOp = 3) → x.fi.length = 0) ∧ (x.fOp = 1 → isZE x.fq = true) ∧ (x.fOp = 2 ∨ x.fOp = 3 → x.fd.length = 0)) := by
 unfold plS
 rw [decide_eq_true_iff]
theorem p_plain (x : Qe) : JC x = some (plS x) := by
 have hq := plS_iff x
 unfold JC
 rw [Fk]
 generalize plS x = Q at *
 generalize isZE x.fq = Z at *
 generalize x.fi.length = I at *
 generalize x.fd.length = J at *
 have hJ : ((J : Int) = 0) ↔ J = 0 := by omega
 simp only [bS, bI, Ns, DP, if_true, if_false, Bool.false_eq_true, beq_iff_eq, bne_iff_ne, Bool.not_eq_true', beq_eq_false_iff_ne]
 by_cases h1 : x.fOp = 1
 ·simp [h1, hJ] at hq ⊢; grind
 by_cases h2 : x.fOp = 2
 ·simp [h2, hJ] at hq ⊢; grind
 by_cases h3 : x.fOp = 3
 ·simp [h3, hJ] at hq ⊢; grind
 by_cases h4 : x.fOp = 4
 ·simp [h4, hJ] at hq ⊢; grind
 simp [h1, h2, h3, h4] at hq ⊢; grind
end Go.Proofs.YtkgphhemcglgnaaGreatDoor
end
section
namespace Go.Proofs.YtkgphhemcglgnaaGreatDoor
open Go HY
set_option linter.unusedVariables false
set_option linter.unusedSimpArgs false
def okBf (b : Qj) : Prop := b.fI.length * 8 ≤ 140737488351232
def okBs (l : List Qj) : Prop := l.length ≤ 140737488351232 ∧ ∀ b ∈ l, okBf b
theorem TI (b : Qj) (h : okBf b) : Kn b = some b := by
 unfold Kn X0
 unfold okBf at h
 rw [if_pos (by omega)]; rfl
theorem Ay (b : Qj) (l : List Qj) (s : Str) : Kz (b :: l) s = if (b.fb == s) = true then some b else Kz l s := by
 unfold Kz; rw [List.find?_cons]; cases b.fb == s <;> rfl
theorem WY (n : Qq) (s : Str) (h : okBs n.fk) : Y8 n s = some ((Kz n.fk s).getD zBuf, (Kz n.fk s).isSome) := by
 obtain ⟨hl, hb⟩ := h
 have hL : ZR s n zBuf n.fk.length 0 = some (match Kz n.fk s with | some b => .inr (b, true) | none => .inl zBuf) := by
  refine M8 (α := Unit) (F := fun _ i => ZR s n zBuf n.fk.length i) (l := n.fk) (fun _ _ => True) (fun _ t => match Kz t s with | some b => .inr (b, true) | none => .inl zBuf) ?_ ?_ () trivial
  ·intro _ _
   rw [ZR, if_neg (by omega)]; rfl
  ·intro i y t _ h0 h1 hm hix _ ih
   rw [ZR, if_pos h1, hix, bS, bS, TI y (hb y hm), bS, VZ h0 h1 (by omega), ih () trivial, Ay]
   cases y.fb == s <;> rfl
 unfold Y8
 simp only [bS]
 rw [show (Qj.mk [] (Qg.mk (0 : Int) (0 : Int) (0 : Int) (0 : Int) (0 : Int)) [] (0 : Int)) = zBuf from rfl, hL]
 cases Kz n.fk s <;> rfl
theorem p_cfB (l : List Qj) (b : Qj) (hl : l.length ≤ 4611686018427387904) : Xg l b = some (l.any fun x => x.fb == b.fb) := by
 obtain ⟨r, e, h⟩ := idxF (l := l) (q := fun x => x.fb == b.fb) (L := QJ l b l.length) hl (fun i => by rw [QJ]) (fun x _ => by unfold VB; rfl)
 unfold Xg YQ
 simp only [bS]; rw [e]
 cases r with
 | inl a => simp only [bS]; rw [h]; rfl
 | inr k => simp only [bS]; rw [h.2]; simp [h.1]
theorem p_bufs (l : List Qj) (hl : l.length ≤ 140737488351232) : KM l = some (J5 [] l) := by
 have key : ∀ (t p : List Qj), l = p ++ t → Z7 l l.length p.length = some (if J5 p t ≠ 0 then .inr (J5 p t) else .inl ()) := by
  intro t
  induction t with
  | nil =>
   intro p e
   have : p.length = l.length := by rw [e]; simp
   rw [Z7, if_neg (by omega)]; simp [J5]
  | cons b t ih =>
   intro p e
   have hlen : (p.length : Int) < l.length := by rw [e]; simp; omega
   have ih := ih (p ++ [b]) (by rw [e]; simp)
   rw [show ((p ++ [b]).length : Int) = (p.length : Int) + 1 by simp] at ih
   have htk : List.drop 0 (List.take ((p.length : Int)).toNat l) = p := by rw [Int.toNat_natCast, e]; simp
   have hcond : (0 : Int) ≤ 0 ∧ (0 : Int) ≤ (p.length : Int) ∧ (p.length : Int) ≤ ((List.map Qc l).length : Int) := ⟨by omega, by omega, by rw [List.length_map]; omega⟩
   rw [Z7, if_pos hlen, Uk e, bS, MO, bS, if_pos hcond, htk, bS, p_cfB p b (by omega), bS, Co, bS, p_shape, bS, bS, VZ (by omega) hlen (by omega), ih]
   rw [J5]
   rcases Bool.eq_false_or_eq_true (nm b.fb) with a1 | a1
   rotate_left
   ·simp [a1]
   rcases Bool.eq_false_or_eq_true (p.any fun x => x.fb == b.fb) with a2 | a2
   ·simp [a1, a2]
   rcases Bool.eq_false_or_eq_true (tyOK b.fa) with a3 | a3
   rotate_left
   ·simp [a1, a2, a3]
   by_cases a4 : Ig b.fI = 0
   rotate_left
   ·simp [a1, a2, a3, a4]
   by_cases a5 : b.fJ < 1
   ·simp [a1, a2, a3, a4, a5, bS]
   by_cases a6 : 3 < b.fJ
   ·simp [a1, a2, a3, a4, a5, a6, bS]
   ·simp [a1, a2, a3, a4, a5, a6, bS]
 have h0 : Z7 l l.length 0 = _ := key l [] rfl
 unfold KM
 simp only [bS]
 rw [h0]
 by_cases hz : J5 [] l = 0 <;> simp [hz, bS]
theorem dp_f (s : Q7) : dp s = 1 + dpL s.f.fd := by
 cases s with
 | mk x => rw [dp]; simp [dpL, Q7.f]
theorem okS.f {s : Q7} (h : okS s) : okSs s.f.fd := by
 cases s with
 | mk x => exact h.of.2.2.2
theorem WN {P : List Q7 → Prop} (h : ∀ l, okSs l → (∀ s ∈ l, P s.f.fd) → P l) : ∀ l, okSs l → P l := by
 have key : ∀ s : Q7, okS s → P s.f.fd := Q7.ind fun x ih hx => by
  have hb := hx.of.2.2.2
  exact h _ hb fun s hs => ih s hs (hb.2 s hs)
 exact fun l hl => h l hl fun s hs => key s (hl.2 s hs)
theorem Pk : ∀ l, okSs l → ∀ m : Int, 0 ≤ m → m ≤ 1000 → Y9 l m = some (decide ((dpL l : Int) ≤ m)) := WN fun l hl ih m h0 h1 => by
 have hlen : l.length ≤ 4611686018427387904 := by have := hl.1; omega
 have hL : ZS l m l.length 0 = some (if l.all (fun s => decide ((dp s : Int) ≤ m)) then .inl () else .inr false) := by
  refine stepF (L := ZS l m l.length) hlen (by rw [ZS, if_neg (by omega)]) (fun i y h2 h3 hm hix => ?_)
  rw [ZS, if_pos h3, bS, hix, omS, bS]
  by_cases hc : m < 1
  ·rw [if_pos hc, bS, if_pos rfl, if_neg (by simp [dp_f]; omega)]
  ·rw [if_neg hc, ZI (n := m - 1) (by omega), ih y hm (m - 1) (by omega) (by omega), bS]
   by_cases hd : (dpL y.f.fd : Int) ≤ m - 1
   ·have : (dp y : Int) ≤ m := by rw [dp_f]; omega
    simp [hd, this, bS]
   ·have : ¬ (dp y : Int) ≤ m := by rw [dp_f]; omega
    simp [hd, this, bS]
 have hall : l.all (fun s => decide ((dp s : Int) ≤ m)) = decide ((dpL l : Int) ≤ m) := by
  unfold dpL
  clear hL ih hl hlen
  induction l with
  | nil => simp [maxL, h0]
  | cons a t ih =>
   rw [List.all_cons, ih, List.map_cons, Rb, Bool.eq_iff_iff, Bool.and_eq_true, decide_eq_true_iff, decide_eq_true_iff, decide_eq_true_iff]
   omega
 rw [Y9]
 simp only [bS]
 rw [hL, hall]
 by_cases hc : (dpL l : Int) ≤ m <;> simp [hc, bS]
theorem sz_f (s : Q7) : sz s = 1 + szL s.f.fd := by
 cases s with
 | mk x => rw [sz]; simp [szL, Q7.f]
theorem Hs (s : Q7) (l : List Q7) : szL (s :: l) = sz s + szL l := by simp [szL]
def szB (l : List Q7) : Nat := (l.map fun s => szL s.f.fd).sum
theorem szL_B (l : List Q7) : szL l = l.length + szB l := by
 induction l with
 | nil => rfl
 | cons s t ih => rw [Hs, sz_f, ih]; simp [szB]; omega
theorem Pp (s : Q7) (t : List Q7) : szB (s :: t) = szL s.f.fd + szB t := by simp [szB]
abbrev cntQ (T k r : Int) : Prop := (T ≤ k → r = T) ∧ (k < T → k < r) ∧ r ≤ k + 549755813888
theorem p_count : ∀ l, okSs l → ∀ k : Int, 0 ≤ k → k ≤ 2000 → wp (Xo l k) (cntQ (szL l) k) := WN fun l hl ih k h0 h1 => by
 have e1 := hl.1
 rw [Xo]
 simp only [bS]
 have hL : wp (Zs l k l.length l.length 0) (cntQ (szL l) k) := by
  refine loopSuf (F := fun c i => Zs l k c l.length i) (l := l) (fun c t => 0 ≤ c ∧ c ≤ k + 549755813888 ∧ (c + szB t = (szL l : Int) ∨ (k < c ∧ k < (szL l : Int)))) ?_ ?_ _ ⟨by omega, by omega, .inl (by rw [szL_B]; omega)⟩
  ·intro c hI
   rw [Zs, if_neg (by omega)]
   refine Do.2 ?_
   simp [szB] at hI
   unfold cntQ; omega
  ·intro i y t c h2 h3 hm hix _ hI ihl
   rw [Zs, if_pos h3]
   rw [Pp] at hI
   by_cases hc : k < c
   ·rw [if_pos hc]
    refine Do.2 ?_
    unfold cntQ; omega
   ·rw [if_neg hc, hix, omS, bS, ZI (n := k - c) (by omega), VZ h2 h3 (by omega)]
    obtain ⟨r, er, hr⟩ := ih y hm (k - c) (by omega) (by omega)
    rw [er, bS, bS]
    unfold cntQ at hr
    rw [ZI (n := c + r) (by omega)]
    exact ihl _ ⟨by omega, by omega, by omega⟩
 obtain ⟨r, er, hr⟩ := hL
 rw [er, bS]
 exact Do.2 hr
end Go.Proofs.YtkgphhemcglgnaaGreatDoor
end
section
namespace Go.Proofs.YtkgphhemcglgnaaGreatDoor
open Go HY
set_option linter.unusedVariables false
set_option linter.unusedSimpArgs false
theorem p_cfM (l : List Qs) (c : Q0) (hl : l.length ≤ 4611686018427387904) (hs : c.fg.length ≤ 4611686018427387904) : Xy l c = some (l.any fun m => !(c.fg.contains m.fb)) := by
 obtain ⟨r, e, h⟩ := idxF (l := l) (q := fun m => !(c.fg.contains m.fb)) (L := QX l c l.length) hl (fun i => by rw [QX]) (fun x _ => by unfold V0; rw [MN _ _ hs]; rfl)
 unfold Xy Kj
 simp only [bS]; rw [e]
 cases r with
 | inl a => simp only [bS]; rw [h]; rfl
 | inr k => simp only [bS]; rw [h.2]; simp [h.1]
theorem LQ (c : Q0) (l : gLin) (hl : okL l) (hs : c.fg.length ≤ 4611686018427387904) : Xl c l = some (inS c.fg l) := by
 unfold Xl inS
 rw [p_cfM _ _ (by have := hl.2.1; omega) hs, bS, M1]
theorem p_cfL (l : List gLin) (c : Q0) (hl : l.length ≤ 4611686018427387904) (ha : ∀ a ∈ l, okL a) (hs : c.fg.length ≤ 4611686018427387904) : XG l c = some (l.any fun a => !(inS c.fg a)) := by
 obtain ⟨r, e, h⟩ := idxF (l := l) (q := fun a => !(inS c.fg a)) (L := Z2 l c l.length) hl (fun i => by rw [Z2]) (fun x hx => by unfold VC; rw [LQ _ _ (ha x hx) hs]; rfl)
 unfold XG Ku
 simp only [bS]; rw [e]
 cases r with
 | inl a => simp only [bS]; rw [h]; rfl
 | inr k => simp only [bS]; rw [h.2]; simp [h.1]
theorem Fm (c : Q0) (l : List Q6) (hl : l.length ≤ 4611686018427387904) (hi : ∀ i ∈ l, okI i) (hs : c.fg.length ≤ 4611686018427387904) (b : Bool) : QA c b l l.length 0 = some (b && l.all fun i => (JG i).all (inS c.fg)) := by
 refine M8 (F := fun b i => QA c b l l.length i) (l := l) (fun _ _ => True) (fun b t => b && t.all fun i => (JG i).all (inS c.fg)) ?_ ?_ b trivial
 ·intro b _
  rw [QA, if_neg (by omega)]; simp
 ·intro i y t b h0 h1 hm hix _ ih
  have hy := hi y hm
  rw [QA, if_pos h1, hix, bS, LQ c y.fo hy.1 hs, bS, p_cfL y.fAt c (by have := hy.2.1; omega) hy.2.2 hs, bS, VZ h0 h1 hl, ih _ trivial, ih _ trivial, M1]
  simp only [JG, List.all_cons]
  cases b <;> cases inS c.fg y.fo <;> simp
theorem AJ (c : Q0) (l : List Q6) (hl : l.length ≤ 4611686018427387904) (hb : okBs c.fh.fk) : QF c l l.length 0 = some (if Uj c.fh l ≠ 0 then .inr (Uj c.fh l) else .inl ()) := by
 refine M8 (α := Unit) (F := fun _ i => QF c l l.length i) (l := l) (fun _ _ => True) (fun _ t => if Uj c.fh t ≠ 0 then .inr (Uj c.fh t) else .inl ()) ?_ ?_ () trivial
 ·intro _ _
  rw [QF, if_neg (by omega)]; simp [Uj]
 ·intro i y t _ h0 h1 hm hix _ ih
  rw [QF, if_pos h1, hix, bS, WY _ _ hb, bS, bS, bS, VZ h0 h1 hl, ih () trivial, Uj]
  by_cases hf : y.fH = []
  ·simp [hf]
  ·simp only [hf, if_false, beq_iff_eq]
   cases Kz c.fh.fk y.fH with
   | none => simp
   | some b =>
    by_cases h2 : b.fa.fv = 3
    ·by_cases h3 : b.fI.length = y.fAt.length
     ·simp [h2, h3]
     ·simp [h2, h3]; omega
    ·simp [h2]
theorem AF (n : Qq) (sc : List Str) (x : Q3) : Gd n sc x = if (inS sc x.fo && x.fi.all fun i => (JG i).all (inS sc)) = false then 9 else if x.fOp ≠ 3 then 0 else match Kz n.fk x.fb with
 | none => 9
 | some b => if b.fI.length ≠ x.fi.length then 11 else Uj n x.fi := by
 unfold Gd
 have : (Jj x).all (inS sc) = (inS sc x.fo && x.fi.all fun i => (JG i).all (inS sc)) := by
  unfold Jj
  rw [List.all_cons]
  congr 1
  generalize x.fi = l
  induction l with
  | nil => rfl
  | cons a t ih => simp only [List.map_cons, List.flatten_cons, List.all_append, List.all_cons]; rw [ih]
 rw [this] <;> rfl
theorem p_node (c : Q0) (x : Q3) (hx : okE (.mk x)) (hb : okBs c.fh.fk) (hs : c.fg.length ≤ 4611686018427387904) : KO c x = some (Gd c.fh c.fg x) := by
 obtain ⟨h1, h2, h3, h4, h5⟩ := hx.of
 have hI : x.fi.length ≤ 4611686018427387904 := by omega
 rw [AF]
 unfold KO
 rw [LQ c _ h1 hs]
 simp only [bS]
 rw [Fm c _ hI h3 hs, bS]
 generalize (inS c.fg x.fo && x.fi.all fun i => (JG i).all (inS c.fg)) = A
 rw [WY _ _ hb, AJ c _ hI hb]
 simp only [bS]
 cases A with
 | false => simp
 | true =>
  by_cases ho : x.fOp = 3
  ·simp only [ho, if_true, bne_self_eq_false, Bool.false_eq_true, if_false]
   cases Kz c.fh.fk x.fb with
   | none => simp
   | some b =>
    by_cases h6 : b.fI.length = x.fi.length
    ·by_cases h7 : Uj c.fh x.fi = 0
     ·simp [h6, h7, bS]
     ·simp [h6, h7, bS]
    ·have : ¬ (b.fI.length : Int) = x.fi.length := by omega
     simp [h6, this]
  ·simp [ho]
theorem A5 {x : Q3} (h : raE x = true) : (x.ff.length : Int) = MG x.fOp ∧ x.fi.length ≤ 6 ∧ ∀ i ∈ x.fi, i.fAt.length ≤ 6 := by
 unfold raE at h
 rw [Bool.and_eq_true, decide_eq_true_iff, List.all_eq_true] at h
 exact ⟨h.1.1, h.1.2, fun i hi => by simpa using h.2 i hi⟩
end Go.Proofs.YtkgphhemcglgnaaGreatDoor
end
section
namespace Go.Proofs.YtkgphhemcglgnaaGreatDoor
open Go HY
set_option linter.unusedVariables false
set_option linter.unusedSimpArgs false
theorem kd_mk (n : Qq) (x : Q3) : kd n (.mk x) = kd1 n x (x.ff.map (kd n)) := by rw [kd]; simp
theorem kd_err (n : Qq) (e : Qf) (h : (kd n e).2 ≠ 0) : kd n e = (zT, 10) := by
 cases e with
 | mk x =>
  rw [kd_mk] at h ⊢
  unfold kd1 at h ⊢
  split
  ·rfl
  ·rename_i h1; rw [if_neg h1] at h
   split
   ·rename_i h2; rw [if_pos h2] at h; exact absurd rfl h
   ·rename_i h2; rw [if_neg h2] at h
    split
    ·rename_i h3; rw [if_pos h3] at h; exact absurd rfl h
    ·rename_i h3; rw [if_neg h3] at h
     split
     ·rename_i h4; rw [if_pos h4] at h; exact absurd rfl h
     ·rename_i h4; rw [if_neg h4] at h
      split
      ·rename_i h5; rw [if_pos h5] at h; exact absurd rfl h
      ·rename_i h5; rw [if_neg h5] at h
       split
       ·rfl
       ·rename_i hl; rw [hl] at h; exact absurd rfl h
       ·rename_i hl; rw [hl] at h
        simp only at h ⊢
        split
        ·rfl
        ·rename_i h6; rw [if_neg h6] at h
         split
         ·rename_i h7; rw [if_pos h7] at h; exact absurd rfl h
         ·rename_i h7; rw [if_neg h7] at h; exact absurd rfl h
theorem Fn {x : Q3} (h : Up x = 0) : plE x = true ∧ raE x = true ∧ tyE x = true := by
 unfold Up at h
 rcases Bool.eq_false_or_eq_true (plE x) with a1 | a1
 rotate_left
 ·simp [a1] at h
 rcases Bool.eq_false_or_eq_true (naE x) with a2 | a2
 rotate_left
 ·simp [a1, a2] at h
 rcases Bool.eq_false_or_eq_true (raE x) with a3 | a3
 rotate_left
 ·simp [a1, a2, a3] at h
 rcases Bool.eq_false_or_eq_true (tyE x) with a4 | a4
 rotate_left
 ·simp [a1, a2, a3, a4] at h
 exact ⟨a1, a3, a4⟩
inductive Ar (x : Q3) : Prop
 | a0 (h : x.fOp = 1 ∨ x.fOp = 2 ∨ x.fOp = 3) (e : x.ff = [])
 | a1 (h : x.fOp = 8 ∨ x.fOp = 12) (a : Qf) (e : x.ff = [a]) (c : isC a.f = false)
 | aN (h : x.fOp = 18) (a : Qf) (e : x.ff = [a]) (c : isC a.f = true)
 | aB (h : x.fOp = 16 ∨ x.fOp = 17) (a b : Qf) (e : x.ff = [a, b]) (c : isC a.f = true) (d : isC b.f = true)
 | aI (h : x.fOp = 11) (a b c : Qf) (e : x.ff = [a, b, c]) (h1 : isC a.f = true) (h2 : isC b.f = false) (h3 : isC c.f = false)
 | a2 (h : x.fOp ≠ 1 ∧ x.fOp ≠ 2 ∧ x.fOp ≠ 3 ∧ x.fOp ≠ 8 ∧ x.fOp ≠ 12 ∧ x.fOp ≠ 18 ∧ x.fOp ≠ 16 ∧ x.fOp ≠ 17 ∧ x.fOp ≠ 11) (a b : Qf) (e : x.ff = [a, b]) (h1 : isC a.f = false) (h2 : isC b.f = false)
theorem len1 {α : Type} {l : List α} (h : l.length = 1) : ∃ a, l = [a] := List.length_eq_one_iff.1 h
theorem len2 {α : Type} {l : List α} (h : l.length = 2) : ∃ a b, l = [a, b] := by
 match l, h with
 | [a, b], _ => exact ⟨a, b, rfl⟩
theorem len3 {α : Type} {l : List α} (h : l.length = 3) : ∃ a b c, l = [a, b, c] := by
 match l, h with
 | [a, b, c], _ => exact ⟨a, b, c, rfl⟩
theorem ar_of {x : Q3} (hr : raE x = true) (ht : tyE x = true) : Ar x := by
 obtain ⟨h1, _, _⟩ := A5 hr
 have h2 : argG x.fOp 0 x.ff = true := by
  unfold tyE at ht
  rw [Bool.and_eq_true] at ht
  exact ht.2
 unfold MG at h1
 by_cases k0 : x.fOp = 1 ∨ x.fOp = 2 ∨ x.fOp = 3
 ·rw [if_pos k0] at h1
  exact .a0 k0 (List.eq_nil_of_length_eq_zero (by omega))
 rw [if_neg k0] at h1
 by_cases k1 : x.fOp = 8 ∨ x.fOp = 12 ∨ x.fOp = 18
 ·rw [if_pos k1] at h1
  obtain ⟨a, e⟩ := len1 (l := x.ff) (by omega)
  rw [e] at h2
  simp only [argG, Bool.and_true] at h2
  by_cases k : x.fOp = 18
  ·exact .aN k a e (by simpa [k, GQ] using h2)
  ·exact .a1 (by omega) a e (by rcases (show x.fOp = 8 ∨ x.fOp = 12 by omega) with q | q <;> simpa [q, GQ] using h2)
 rw [if_neg k1] at h1
 by_cases k2 : x.fOp = 11
 ·rw [if_pos k2] at h1
  obtain ⟨a, b, c, e⟩ := len3 (l := x.ff) (by omega)
  rw [e] at h2
  simp [argG, GQ, k2] at h2
  exact .aI k2 a b c e h2.1 h2.2.1 h2.2.2
 rw [if_neg k2] at h1
 obtain ⟨a, b, e⟩ := len2 (l := x.ff) (by omega)
 rw [e] at h2
 by_cases k3 : x.fOp = 16 ∨ x.fOp = 17
 ·refine .aB k3 a b e ?_ ?_ <;> rcases k3 with q | q <;> simp [argG, GQ, q] at h2 <;> simp [h2]
 ·have q1 : ∀ i, GQ x.fOp i = false := fun i => by
   unfold GQ
   have : x.fOp ≠ 16 ∧ x.fOp ≠ 17 ∧ x.fOp ≠ 18 := by omega
   simp [k2, this]
  simp [argG, q1] at h2
  exact .a2 (by omega) a b e h2.1 h2.2
abbrev I1 (e : Qf) : Prop := ∀ y ∈ X7 e, Up y.f = 0
theorem I1.args {x : Q3} (h : I1 (.mk x)) : Up x = 0 ∧ ∀ a ∈ x.ff, I1 a := by
 unfold I1 at *
 rw [Rc] at h
 refine ⟨by have := h (.mk x) (by simp); rwa [Qf.f_mk] at this, fun a ha y hy => h y ?_⟩
 exact List.mem_cons_of_mem _ (List.mem_flatten.2 ⟨X7 a, List.mem_map_of_mem ha, hy⟩)
def UB (n : Qq) : List Qf → Option (List Qg)
 | [] => some []
 | a :: t => if (kd n a).2 ≠ 0 then none else (UB n t).map ((kd n a).1 :: ·)
theorem LI (n : Qq) : ∀ l, (match UB n l with | none => (l.map (kd n)).any (fun r => r.2 != 0) = true | some ts => (l.map (kd n)).any (fun r => r.2 != 0) = false ∧ l.map (kd n) = ts.map fun t => (t, (0 : Int)))
 | [] => ⟨rfl, rfl⟩
 | a :: t => by
  have ih := LI n t
  unfold UB
  by_cases h : (kd n a).2 = 0
  ·rw [if_neg (by simp [h])]
   cases hk : UB n t with
   | none => rw [hk] at ih; simp only [Option.map_none]; rw [List.map_cons, List.any_cons, ih]; simp
   | some ts =>
    rw [hk] at ih
    simp only [Option.map_some]
    rw [List.map_cons, List.any_cons, ih.1, ih.2]
    refine ⟨by simp [h], ?_⟩
    rw [List.map_cons]; congr 1; rw [← h]
  ·rw [if_pos h]
   simp only
   rw [List.map_cons, List.any_cons]; simp [h]
theorem IQ (c : Q0) (l : List Qf) (hl : l.length ≤ 1000) (ih : ∀ a ∈ l, Zh c a.f = some (kd c.fh a)) : ∀ (t p : List Qf) (ts : List Qg), l = p ++ t → ts.length ≤ p.length → QW c zT ts l l.length p.length = some (match UB c.fh t with | none => .inr (zT, 10) | some us => .inl (zT, ts ++ us))
 | [], p, ts, e, _ => by
  have : p.length = l.length := by rw [e]; simp
  rw [QW, if_neg (by omega)]; simp [UB]
 | a :: t, p, ts, e, hts => by
  have hlen : (p.length : Int) < l.length := by rw [e]; simp; omega
  have h2 := IQ c l hl ih t (p ++ [a]) (ts ++ [(kd c.fh a).1]) (by rw [e]; simp) (by simp; omega)
  rw [show ((p ++ [a]).length : Int) = (p.length : Int) + 1 by simp] at h2
  rw [QW, if_pos hlen, Uk e, omS, bS, ih a (by rw [e]; simp), bS, UB]
  by_cases h : (kd c.fh a).2 = 0
  ·rw [if_neg (by simp [h]), if_pos (by omega), bS, VZ (by omega) hlen (by omega), h2, if_neg (by simp [h])]
   cases UB c.fh t <;> simp
  ·rw [if_pos (by simp [h]), if_pos h]
   have := kd_err c.fh a h
   rw [this]
theorem typeNe (a b : Qg) : (!(a.fv == b.fv && (a.fx == b.fx && (a.fB == b.fB && (a.fw == b.fw && (a.fC == b.fC && true)))))) = decide (a ≠ b) := by
 cases a; cases b; rw [Bool.eq_iff_iff]; simp
theorem P8 {n : Qq} {x : Q3} (h : UB n x.ff = none) : kd1 n x (x.ff.map (kd n)) = (zT, 10) := by
 have := LI n x.ff
 rw [h] at this
 unfold kd1; rw [if_pos this]
theorem Ra {n : Qq} : ∀ {l : List Qf} {ts : List Qg}, UB n l = some ts → ts.length = l.length
 | [], ts, h => by cases h; rfl
 | a :: t, ts, h => by
  unfold UB at h
  split at h
  ·cases h
  ·cases hk : UB n t with
   | none => rw [hk] at h; cases h
   | some us => rw [hk] at h; cases h; simp [Ra hk]
theorem P9 {n : Qq} {x : Q3} {ts : List Qg} (h : UB n x.ff = some ts) : kd1 n x (x.ff.map (kd n)) = if x.fOp = 1 ∨ x.fOp = 12 then (x.fa, (0 : Int)) else if x.fOp = 2 then (⟨3, 0, 0, 0, 0⟩, 0)
 else if x.fOp = 3 then (((Kz n.fk x.fb).getD zBuf).fa, 0) else if x.fOp = 16 ∨ x.fOp = 17 ∨ x.fOp = 18 then (zT, 0)
 else match ts.reverse with
  | [] => (zT, 10)
  | [a] => (a, 0)
  | a :: b :: _ => if b ≠ a then (zT, 10) else if isC x then (zT, 0) else (a, 0) := by
 have := LI n x.ff
 rw [h] at this
 unfold kd1; rw [if_neg (by simp [this.1]), this.2, ← List.map_reverse]
 cases ts.reverse with
 | nil => rfl
 | cons a t => cases t <;> rfl
theorem Pj (c : Q0) (hb : okBs c.fh.fk) : ∀ e : Qf, I1 e → Zh c e.f = some (kd c.fh e) := Qf.ind fun x ih hg => by
 obtain ⟨g1, g2⟩ := hg.args
 obtain ⟨_, hr, ht⟩ := Fn g1
 have har := ar_of hr ht
 have hl : x.ff.length ≤ 1000 := by
  have := (A5 hr).1
  unfold MG at this
  split at this
  ·omega
  ·split at this
   ·omega
   ·split at this <;> omega
 have h0 : QW c zT [] x.ff x.ff.length 0 = _ := IQ c x.ff hl (fun a ha => ih a ha (g2 a ha)) x.ff [] [] rfl (by simp)
 rw [Qf.f_mk, Zh, kd_mk]
 simp only [bS]
 rw [show (Qg.mk (0 : Int) (0 : Int) (0 : Int) (0 : Int) (0 : Int)) = zT from rfl, h0]
 cases hk : UB c.fh x.ff with
 | none => rw [P8 hk]; rfl
 | some ts =>
  rw [P9 hk]
  have hlen := Ra hk
  simp only [bS, List.nil_append, WY _ _ hb, D4, typeNe]
  cases har with
  | a0 h e => rcases h with h | h | h <;> simp [h, bS]
  | a1 h a e _ =>
   rw [e] at hlen
   obtain ⟨t, rfl⟩ := len1 (l := ts) (by simpa using hlen)
   rcases h with h | h
   ·simp [h, bS, ix]
   ·simp [h, bS]
  | aN h a e _ => simp [h, bS]
  | aB h a b e _ _ => rcases h with h | h <;> simp [h, bS]
  | aI h a b d e _ _ _ =>
   rw [e] at hlen
   obtain ⟨t, u, v, rfl⟩ := len3 (l := ts) (by simpa using hlen)
   have w1 : wr (1 : Int) = 1 := by decide
   have w2 : wr (2 : Int) = 2 := by decide
   have hc : isC x = false := by simp [isC, h]
   by_cases q : u = v <;> simp [h, bS, ix, w1, w2, q, hc]
  | a2 h a b e _ _ =>
   rw [e] at hlen
   obtain ⟨t, u, rfl⟩ := len2 (l := ts) (by simpa using hlen)
   have w1 : wr (0 : Int) = 0 := by decide
   have w2 : wr (1 : Int) = 1 := by decide
   cases hc : isC x <;> by_cases q : t = u <;> simp [h, bS, ix, w1, w2, q]
theorem fstE_0 {α : Type} {f : α → Int} : ∀ {l : List α}, fstE f l = 0 → ∀ a ∈ l, f a = 0
 | [], _, a, h => by cases h
 | b :: t, hf, a, h => by
  rw [fstE] at hf
  by_cases hb : f b = 0
  ·rw [if_neg (by simp [hb])] at hf
   rcases List.mem_cons.1 h with rfl | h
   ·exact hb
   ·exact fstE_0 hf a h
  ·rw [if_pos hb] at hf; exact absurd hf hb
theorem exErr_0 {x : Q3} (h : Nq x = 0) : I1 (.mk x) ∧ (X7 (.mk x)).length ≤ 2000 := by
 unfold Nq at h
 split at h
 ·cases h
 ·split at h
  ·cases h
  ·exact ⟨fstE_0 h, by omega⟩
theorem TJ (c : Q0) (hb : okBs c.fh.fk) (hs : c.fg.length ≤ 4611686018427387904) : ∀ l : List Qf, (∀ a ∈ l, okE a) → Xe c l = some (fstE (fun y => Gd c.fh c.fg y.f) l)
 | [], _ => rfl
 | a :: t, h => by
  have ha : okE (.mk a.f) := by rw [Qf.mk_f]; exact h a (by simp)
  rw [Xe, p_node c a.f ha hb hs, bS, TJ c hb hs t (fun b hb => h b (by simp [hb])), fstE]
  by_cases hp : Gd c.fh c.fg a.f = 0
  ·simp [hp]
  ·simp [hp]
theorem WZ (c : Q0) (x : Q3) (hx : okE (.mk x)) (hb : okBs c.fh.fk) (hs : c.fg.length ≤ 4611686018427387904) : ZL c x = some (JE c.fh c.fg x) := by
 unfold ZL JE
 rw [AI x hx, bS]
 by_cases h1 : Nq x = 0
 ·obtain ⟨hg, _⟩ := exErr_0 h1
  have hk := Pj c hb (.mk x) hg
  rw [Qf.f_mk] at hk
  rw [if_neg (by simp [h1]), if_neg (by simp [h1]), NR x (aE_of _ hx), bS, TJ c hb hs _ (Re _ hx), bS, hk]
  by_cases h2 : fstE (fun y => Gd c.fh c.fg y.f) (X7 (.mk x)) = 0
  ·rw [if_pos h2, if_neg (by simp [h2])]; rfl
  ·rw [if_neg h2, if_pos h2]; rfl
 ·rw [if_pos (by simp [h1]), if_pos h1]; rfl
end Go.Proofs.YtkgphhemcglgnaaGreatDoor
end
section
namespace Go.Proofs.YtkgphhemcglgnaaGreatDoor
open Go HY
set_option linter.unusedVariables false
set_option linter.unusedSimpArgs false
theorem ok_rdE {x : Qe} (hx : okS (.mk x)) : okE (.mk (rdE x)) := by
 obtain ⟨h1, h2, _, _⟩ := hx.of
 exact .mk _ ⟨⟨by show (-9223372036854775808 : Int) ≤ 0; omega, by show (0 : Int) ≤ 9223372036854775807; omega⟩, by simp [rdE], by simp [rdE]⟩ h1 h2 (by simp [rdE]) (by simp [rdE])
theorem P0 {n : Qq} {sc : List Str} {x : Qe} (h : (JE n sc (rdE x)).2 = 0) : (JE n sc (rdE x)).1 = ((Kz n.fk x.fb).getD zBuf).fa := by
 unfold JE at h ⊢
 split at h
 ·rename_i h1; exact absurd h h1
 ·rename_i h1; rw [if_neg h1]
  split at h
  ·rename_i h2; exact absurd h h2
  ·rename_i h2; rw [if_neg h2, kd_mk]; simp [kd1, rdE]
theorem foldQ (x : Qe) : (if (x.fOp == (3 : Int)) = true then if x.fF < (1 : Int) then some true else if (4 : Int) < x.fF then some true else some false else some false) = some (decide (x.fOp = 3 ∧ (x.fF < 1 ∨ 4 < x.fF))) := by
 by_cases h1 : x.fOp = 3 <;> by_cases h2 : x.fF < 1 <;> by_cases h3 : 4 < x.fF <;> simp [h1, h2, h3]
theorem p_store (c : Q0) (x : Qe) (hx : okS (.mk x)) (hb : okBs c.fh.fk) (hs : c.fg.length ≤ 4611686018427387904) : Ky c x = some (MW c.fh c.fg x) := by
 obtain ⟨_, _, hE, _⟩ := hx.of
 unfold Ky MW
 rw [bS, show (Qv.mk (3 : Int) x.fb (gVal.mk (0 : Int) (0 : Int)) (Qg.mk (0 : Int) (0 : Int) (0 : Int) (0 : Int) (0 : Int)) (gLin.mk (0 : Int) []) x.fi [] : Q3) = rdE x from rfl, WZ c (rdE x) (ok_rdE hx) hb hs, bS, WY _ _ hb, foldQ, WZ c x.fq hE hb hs]
 simp only [bS, D4, typeNe]
 have hk := @P0 c.fh c.fg x
 generalize JE c.fh c.fg (rdE x) = E1 at hk ⊢
 generalize JE c.fh c.fg x.fq = E2
 generalize (Kz c.fh.fk x.fb).getD zBuf = B at hk ⊢
 by_cases h1 : E1.2 = 0
 ·rw [hk h1]
  by_cases h2 : B.fJ = 1
  ·simp [h1, h2]
  ·by_cases h3 : x.fOp = 3 ∧ (x.fF < 1 ∨ 4 < x.fF)
   ·simp [h1, h2, h3]
   ·by_cases h4 : E2.2 = 0
    ·cases hc : isC x.fq <;> by_cases h5 : E2.1 = B.fa <;> simp [h1, h2, h3, h4, h5, bS]
    ·simp [h1, h2, h3, h4]
 ·simp [h1]
theorem manyQ (x : Qe) : (if x.fE < (1 : Int) then some true else if (65536 : Int) < x.fE then some true else if x.fG < (0 : Int) then some true else if (3 : Int) < x.fG then some true else some false) = some (decide (x.fE < 1 ∨ 65536 < x.fE ∨ x.fG < 0 ∨ 3 < x.fG)) := by
 by_cases h1 : x.fE < 1 <;> by_cases h2 : 65536 < x.fE <;> by_cases h3 : x.fG < 0 <;> by_cases h4 : 3 < x.fG <;> simp [h1, h2, h3, h4]
theorem p_loop (c : Q0) (x : Qe) (hb : okBs c.fh.fk) (hs : c.fp.length ≤ 4611686018427387904) : KN c x = some (M9 c.fh c.fp x) := by
 unfold KN M9
 rw [MO, bS, WY _ _ hb, MN _ _ hs, manyQ]
 cases h1 : nm x.fb with
 | false => simp
 | true =>
  cases h2 : (Kz c.fh.fk x.fb).isSome <;> cases h3 : c.fp.contains x.fb <;> simp only [bS, Ns, DP, Bool.or_true, Bool.or_false]
  ·by_cases h4 : x.fE < 1 ∨ 65536 < x.fE ∨ x.fG < 0 ∨ 3 < x.fG <;> simp [h4]
  all_goals simp
theorem SC (c : Q0) (x : Qe) (hx : okS (.mk x)) (hb : okBs c.fh.fk) (hs : c.fg.length ≤ 4611686018427387904) (hu : c.fp.length ≤ 4611686018427387904) : YE c x = some (Gl c.fh c.fg c.fp x) := by
 obtain ⟨_, _, hE, _⟩ := hx.of
 unfold YE Gl
 rw [p_plain, bS, p_loop c x hb hu, WZ c x.fq hE hb hs, D4, p_store c x hx hb hs]
 cases h1 : plS x with
 | false => simp
 | true =>
  by_cases h2 : x.fOp = 1
  ·simp [h2, bS]
  ·by_cases h3 : x.fOp = 4
   ·by_cases h4 : (JE c.fh c.fg x.fq).2 = 0
    ·cases h5 : isC x.fq <;> simp [h3, h4, bS]
    ·simp [h3, h4, bS]
   ·simp [h2, h3, bS]
end Go.Proofs.YtkgphhemcglgnaaGreatDoor
end
section
namespace Go.Proofs.YtkgphhemcglgnaaGreatDoor
open Go HY
set_option linter.unusedVariables false
set_option linter.unusedSimpArgs false
def bdT (n : Qq) (sc : List Str) (way : List Int) (l : List Q7) (i : Int) (used : List Str) : Fl := bdL n sc way (l.map fun a => (a.f, bd n a)) i used
theorem SO (n : Qq) (sc : List Str) (way : List Int) (i : Int) (used : List Str) : bdT n sc way [] i used = (used, [], 0) := rfl
theorem Ha (n : Qq) (sc : List Str) (way : List Int) (a : Q7) (t : List Q7) (i : Int) (used : List Str) : bdT n sc way (a :: t) i used =
  if Gl n sc used a.f ≠ 0 then ([], way ++ [i], Gl n sc used a.f)
  else if a.f.fOp = 1 then (if (bdB n (sc ++ [a.f.fb]) (way ++ [i]) a.f.fd (used ++ [a.f.fb])).2.2 ≠ 0 then bdB n (sc ++ [a.f.fb]) (way ++ [i]) a.f.fd (used ++ [a.f.fb]) else bdT n sc way t (i + 1) (bdB n (sc ++ [a.f.fb]) (way ++ [i]) a.f.fd (used ++ [a.f.fb])).1)
  else (if (bdB n sc (way ++ [i]) a.f.fd used).2.2 ≠ 0 then bdB n sc (way ++ [i]) a.f.fd used else bdT n sc way t (i + 1) (bdB n sc (way ++ [i]) a.f.fd used).1) := by
 show bdL n sc way ((a.f, bd n a) :: t.map fun a => (a.f, bd n a)) i used = _
 rw [bdL, bd_f, bd_f]; rfl
theorem bdB_T (n : Qq) (sc : List Str) (way : List Int) (l : List Q7) (used : List Str) : bdB n sc way l used = bdT n sc way l 0 used := rfl
theorem FX (a : Q7) (t : List Q7) : dpL (a :: t) = max (dp a) (dpL t) := rfl
theorem bdB_len (n : Qq) : ∀ l, okSs l → ∀ (sc : List Str) (way : List Int) (used : List Str), (bdB n sc way l used).1.length ≤ used.length + szL l := WN fun l hl ih sc way used => by
 have key : ∀ (t : List Q7), (∀ s ∈ t, s ∈ l) → ∀ (i : Int) (used : List Str), (bdT n sc way t i used).1.length ≤ used.length + szL t := by
  intro t
  induction t with
  | nil => intro _ i used; rw [SO]; simp
  | cons a t iht =>
   intro hm i used
   have h2 := iht (fun s hs => hm s (by simp [hs]))
   rw [Ha, Hs, sz_f]
   split
   ·simp
   ·split
    ·split
     ·have := ih a (hm a (by simp)) (sc ++ [a.f.fb]) (way ++ [i]) (used ++ [a.f.fb]); simp at this ⊢; omega
     ·have := ih a (hm a (by simp)) (sc ++ [a.f.fb]) (way ++ [i]) (used ++ [a.f.fb])
      have := h2 (i + 1) (bdB n (sc ++ [a.f.fb]) (way ++ [i]) a.f.fd (used ++ [a.f.fb])).1
      simp at *; omega
    ·split
     ·have := ih a (hm a (by simp)) sc (way ++ [i]) used; omega
     ·have := ih a (hm a (by simp)) sc (way ++ [i]) used
      have := h2 (i + 1) (bdB n sc (way ++ [i]) a.f.fd used).1
      omega
 exact key l (fun _ h => h) 0 used
theorem bdB_way (n : Qq) : ∀ l, okSs l → ∀ (sc : List Str) (way : List Int) (used : List Str), ((bdB n sc way l used).2.2 = 0 → (bdB n sc way l used).2.1 = []) ∧ ((bdB n sc way l used).2.2 ≠ 0 → (bdB n sc way l used).1 = []) := WN fun l hl ih sc way used => by
 have key : ∀ (t : List Q7), (∀ s ∈ t, s ∈ l) → ∀ (i : Int) (used : List Str), ((bdT n sc way t i used).2.2 = 0 → (bdT n sc way t i used).2.1 = []) ∧ ((bdT n sc way t i used).2.2 ≠ 0 → (bdT n sc way t i used).1 = []) := by
  intro t
  induction t with
  | nil => intro _ i used; exact ⟨fun _ => rfl, fun h => absurd rfl h⟩
  | cons a t iht =>
   intro hm i used
   have h2 := iht (fun s hs => hm s (by simp [hs]))
   rw [Ha]
   split
   ·rename_i h; exact ⟨fun h' => absurd h' h, fun _ => rfl⟩
   ·split
    ·split
     ·exact ih a (hm a (by simp)) _ _ _
     ·exact h2 _ _
    ·split
     ·exact ih a (hm a (by simp)) _ _ _
     ·exact h2 _ _
 exact key l (fun _ h => h) 0 used
theorem p_body (n : Qq) (hb : okBs n.fk) : ∀ l, okSs l → ∀ c : Q0, c.fh = n → c.fg.length + dpL l ≤ 1000 → c.fu.length + dpL l ≤ 1000 → c.fp.length + szL l ≤ 100000 →
  wp (QL c l) (fun r => r.1 = (bdB n c.fg c.fu l c.fp).2.2 ∧ (r.1 ≠ 0 → r.2.fu = (bdB n c.fg c.fu l c.fp).2.1) ∧ (r.1 = 0 → r.2 = ⟨n, (bdB n c.fg c.fu l c.fp).1, c.fg, c.fu⟩)) := WN fun l hl ih c hn hsc hpa hus => by
 have e1 := hl.1
 have hlen : l.length ≤ 4611686018427387904 := by omega
 have key : ∀ (t p : List Q7), l = p ++ t → ∀ c : Q0, c.fh = n → c.fg.length + dpL t ≤ 1000 → c.fu.length + dpL t ≤ 1000 → c.fp.length + szL t ≤ 100000 →
   wp (Qy c l l.length p.length) (fun o => ((bdT n c.fg c.fu t p.length c.fp).2.2 = 0 ∧ o = .inl ⟨n, (bdT n c.fg c.fu t p.length c.fp).1, c.fg, c.fu⟩) ∨ ((bdT n c.fg c.fu t p.length c.fp).2.2 ≠ 0 ∧ ∃ c', o = .inr (c', (bdT n c.fg c.fu t p.length c.fp).2.2) ∧ c'.fu = (bdT n c.fg c.fu t p.length c.fp).2.1)) := by
  intro t
  induction t with
  | nil =>
   intro p e c hn _ _ _
   have : p.length = l.length := by rw [e]; simp
   rw [Qy, if_neg (by omega), SO]
   obtain ⟨cn, cl, cs, cp⟩ := c
   cases hn
   exact Do.2 (.inl ⟨rfl, rfl⟩)
  | cons a t iht =>
   intro p e c hn h1 h2 h3
   obtain ⟨cn, cl, cs, cp⟩ := c
   simp only at hn h1 h2 h3
   subst hn
   have hlt : (p.length : Int) < l.length := by rw [e]; simp; omega
   have ham : a ∈ l := by rw [e]; simp
   have hax : okS (.mk a.f) := by rw [Q7.mk_f]; exact hl.2 a ham
   rw [FX, dp_f] at h1 h2
   rw [Hs, sz_f] at h3
   have iht := iht (p ++ [a]) (by rw [e]; simp)
   rw [show (((p ++ [a]).length : Nat) : Int) = (p.length : Int) + 1 by simp] at iht
   have hst := SC ⟨cn, cl, cs, cp ++ [(p.length : Int)]⟩ a.f hax hb (show cs.length ≤ _ by omega) (show cl.length ≤ _ by omega)
   simp only at hst
   rw [Qy, if_pos hlt, Uk e, omS, bS, Ha]
   simp only
   rw [if_pos ⟨by omega, by omega⟩, bS, hst, bS]
   by_cases hs : Gl cn cs cl a.f = 0
   ·have hs1 : ¬ ((Gl cn cs cl a.f != (0 : Int)) = true) := by simp [hs]
    have hs2 : ¬ (Gl cn cs cl a.f ≠ 0) := by simp [hs]
    rw [if_neg hs1, bS, bS]
    simp only [if_neg hs2]
    have rest : ∀ (c1 : Q0) (sc' used' : List Str), c1 = ⟨cn, used', sc', cp ++ [(p.length : Int)]⟩ → (∃ x, sc' = cs ++ x) → sc'.length + dpL a.f.fd ≤ 1000 → used'.length + (szL a.f.fd + szL t) ≤ 100000 →
      wp (QL c1 a.f.fd >>= fun v7 => if (v7.fst != (0 : Int)) = true then some (.inr (v7.snd, v7.fst)) else if True ∧ (0 : Int) ≤ (cs.length : Int) ∧ (cs.length : Int) ≤ (v7.snd.fg.length : Int) then
       if List.length (List.take (cs.length : Int).toNat v7.snd.fg) = (cs.length : Int).toNat then
       some (List.take (cs.length : Int).toNat v7.snd.fg) >>= fun v8 =>
       if True ∧ (0 : Int) ≤ wr ((v7.snd.fu.length : Int) - (1 : Int)) ∧ wr ((v7.snd.fu.length : Int) - (1 : Int)) ≤ (v7.snd.fu.length : Int) then
       some ((v7.snd.fu.length : Int) : Int) >>= fun v9 =>
       if List.length (List.take ((wr ((v7.snd.fu.length : Int) - (1 : Int))).toNat) v7.snd.fu) = ((wr ((v7.snd.fu.length : Int) - (1 : Int))).toNat) then
       some (List.take ((wr ((v7.snd.fu.length : Int) - (1 : Int))).toNat) v7.snd.fu) >>= fun v10 =>
       Qy (Q0.mk v7.snd.fh v7.snd.fp v8 v10) l l.length (wr ((p.length : Int) + (1 : Int)))
       else none else none else none else none)
      (fun o => ((if (bdB cn sc' (cp ++ [(p.length : Int)]) a.f.fd used').2.2 ≠ 0 then bdB cn sc' (cp ++ [(p.length : Int)]) a.f.fd used' else bdT cn cs cp t ((p.length : Int) + 1) (bdB cn sc' (cp ++ [(p.length : Int)]) a.f.fd used').1).2.2 = 0 ∧ o = .inl ⟨cn, (if (bdB cn sc' (cp ++ [(p.length : Int)]) a.f.fd used').2.2 ≠ 0 then bdB cn sc' (cp ++ [(p.length : Int)]) a.f.fd used' else bdT cn cs cp t ((p.length : Int) + 1) (bdB cn sc' (cp ++ [(p.length : Int)]) a.f.fd used').1).1, cs, cp⟩) ∨
       ((if (bdB cn sc' (cp ++ [(p.length : Int)]) a.f.fd used').2.2 ≠ 0 then bdB cn sc' (cp ++ [(p.length : Int)]) a.f.fd used' else bdT cn cs cp t ((p.length : Int) + 1) (bdB cn sc' (cp ++ [(p.length : Int)]) a.f.fd used').1).2.2 ≠ 0 ∧ ∃ c', o = .inr (c', (if (bdB cn sc' (cp ++ [(p.length : Int)]) a.f.fd used').2.2 ≠ 0 then bdB cn sc' (cp ++ [(p.length : Int)]) a.f.fd used' else bdT cn cs cp t ((p.length : Int) + 1) (bdB cn sc' (cp ++ [(p.length : Int)]) a.f.fd used').1).2.2) ∧ c'.fu = (if (bdB cn sc' (cp ++ [(p.length : Int)]) a.f.fd used').2.2 ≠ 0 then bdB cn sc' (cp ++ [(p.length : Int)]) a.f.fd used' else bdT cn cs cp t ((p.length : Int) + 1) (bdB cn sc' (cp ++ [(p.length : Int)]) a.f.fd used').1).2.1)) := by
     intro c1 sc' used' hc1 ⟨xs, hxs⟩ k1 k2
     subst hc1
     obtain ⟨r, er, hr1, hr2, hr3⟩ := ih a ham ⟨cn, used', sc', cp ++ [(p.length : Int)]⟩ rfl (show sc'.length + _ ≤ 1000 by omega) (show (cp ++ [(p.length : Int)]).length + _ ≤ 1000 by simp; omega) (show used'.length + _ ≤ 100000 by omega)
     have hbl := bdB_len cn a.f.fd (hl.2 a ham).f sc' (cp ++ [(p.length : Int)]) used'
     simp only at hr1 hr2 hr3
     generalize bdB cn sc' (cp ++ [(p.length : Int)]) a.f.fd used' = B at hr1 hr2 hr3 hbl ⊢
     obtain ⟨r1, r2⟩ := r
     simp only at hr1 hr2 hr3
     subst hr1
     rw [er, bS]
     simp only
     by_cases hB : B.2.2 = 0
     ·have hr3 := hr3 hB
      subst hr3
      have hB1 : ¬ ((B.2.2 != (0 : Int)) = true) := by simp [hB]
      have hB2 : ¬ (B.2.2 ≠ 0) := by simp [hB]
      rw [if_neg hB1]
      simp only [if_neg hB2]
      have hw : wr (((cp ++ [(p.length : Int)]).length : Nat) - 1 : Int) = (cp.length : Int) := by rw [ZI (by simp; omega)]; simp
      have ht1 : List.take (cs.length : Int).toNat sc' = cs := by rw [hxs]; simp
      have ht2 : List.take (cp.length : Int).toNat (cp ++ [(p.length : Int)]) = cp := by simp
      rw [ht1, hw, ht2, if_pos (show True ∧ (0 : Int) ≤ cs.length ∧ (cs.length : Int) ≤ sc'.length from ⟨trivial, by omega, by rw [hxs]; simp; omega⟩), if_pos (show List.length cs = (cs.length : Int).toNat by simp), bS, if_pos (show True ∧ (0 : Int) ≤ cp.length ∧ (cp.length : Int) ≤ ((cp ++ [(p.length : Int)]).length : Nat) from ⟨trivial, by omega, by simp; omega⟩), bS, if_pos (show List.length cp = (cp.length : Int).toNat by simp), bS, VZ (by omega) hlt (by omega)]
      exact iht ⟨cn, B.1, cs, cp⟩ rfl (show cs.length + _ ≤ 1000 by omega) (show cp.length + _ ≤ 1000 by omega) (show B.1.length + _ ≤ 100000 by omega)
     ·rw [if_pos (show (B.2.2 != (0 : Int)) = true by simp [hB])]
      simp only [if_pos (show B.2.2 ≠ 0 from hB)]
      exact Do.2 (.inr ⟨hB, r2, rfl, hr2 hB⟩)
    by_cases hop : a.f.fOp = 1
    ·rw [if_pos (show (a.f.fOp == (1 : Int)) = true by simp [hop]), if_pos (show (cl.length + 1) * 16 ≤ 140737488355328 ∧ cl.length + 1 ≤ 9223372036854775807 from ⟨by omega, by omega⟩), if_pos (show (cs.length + 1) * 16 ≤ 140737488355328 ∧ cs.length + 1 ≤ 9223372036854775807 from ⟨by omega, by omega⟩), bS]
     simp only [if_pos hop]
     exact rest _ _ _ rfl ⟨_, rfl⟩ (by simp; omega) (by simp; omega)
    ·rw [if_neg (show ¬ ((a.f.fOp == (1 : Int)) = true) by simp [hop]), bS]
     simp only [if_neg hop]
     exact rest _ _ _ rfl ⟨[], by simp⟩ (by omega) (by omega)
   ·rw [if_pos (show (Gl cn cs cl a.f != (0 : Int)) = true by simp [hs])]
    simp only [if_pos (show Gl cn cs cl a.f ≠ 0 from hs)]
    exact Do.2 (.inr ⟨hs, _, rfl, rfl⟩)
 have h0 := key l [] rfl c hn hsc hpa hus
 obtain ⟨o, eo, ho⟩ := h0
 rw [QL]
 simp only [bS]
 rw [show ((List.length ([] : List Q7) : Nat) : Int) = 0 from rfl] at eo ho
 rw [eo, bS, bdB_T]
 rcases ho with ⟨h1, rfl⟩ | ⟨h1, c', rfl, h2⟩
 ·exact Do.2 ⟨h1.symm, fun h => absurd rfl h, fun _ => rfl⟩
 ·exact Do.2 ⟨rfl, fun _ => h2, fun h => absurd h h1⟩
theorem p_valid (n : Qq) (hb : okBs n.fk) (hl : okSs n.fd) : KS n = some (vd n) := by
 unfold KS vd
 rw [Pk _ hl 40 (by omega) (by omega), bS]
 by_cases h1 : dpL n.fd ≤ 40
 ·obtain ⟨k, ek, hk1, hk2, _⟩ := p_count _ hl 2000 (by omega) (by omega)
  rw [if_pos (by simp; omega), if_neg (by omega), bS, ek, bS]
  by_cases h2 : 2000 < szL n.fd
  ·rw [if_pos (by omega), bS, if_pos rfl, if_pos (.inl h2)]
  ·rw [if_neg (by omega), bS]
   by_cases h3 : 128 < n.fk.length
   ·rw [if_pos (by omega), bS, if_pos rfl, if_pos (.inr h3)]
   ·rw [if_neg (by omega), bS, if_neg (by simp), p_bufs _ hb.1, bS, if_neg (show ¬ (2000 < szL n.fd ∨ 128 < n.fk.length) by omega)]
    by_cases h4 : J5 [] n.fk = 0
    ·obtain ⟨r, er, q1, q2, q3⟩ := p_body n hb _ hl ⟨n, [], [], []⟩ rfl (show 0 + _ ≤ 1000 by omega) (show 0 + _ ≤ 1000 by omega) (show 0 + _ ≤ 100000 by omega)
     simp only at q1 q2 q3
     have hway : (bdB n [] [] n.fd []).2.2 = 0 → (bdB n [] [] n.fd []).2.1 = [] := (bdB_way n _ hl _ _ _).1
     rw [if_neg (by simp [h4]), if_neg (by simp [h4]), er, bS, q1]
     by_cases h5 : (bdB n [] [] n.fd []).2.2 = 0
     ·rw [if_neg (by simp [h5]), hway h5, h5]
     ·rw [if_pos (by simp [h5]), q2 (by rw [q1]; exact h5)]
    ·rw [if_pos (by simp [h4]), if_pos (by simp [h4])]
 ·rw [if_neg (by simp; omega), if_pos (by omega)]
end Go.Proofs.YtkgphhemcglgnaaGreatDoor
end
section
namespace Go.Proofs.YtkgphhemcglgnaaGreatDoor
open Go HY
set_option maxRecDepth 100000
set_option linter.unusedSimpArgs false
theorem bSs {α β : Type} (a : α) (f : α → Option β) : (some a >>= f) = f a := rfl
@[simp] theorem t_fS (x : Qe) : (Q7.mk x).f = x := rfl
@[simp] theorem t_fE (x : Q3) : (Qf.mk x).f = x := rfl
theorem w0 : wr 0 = 0 := rfl
theorem w1 : wr 1 = 1 := rfl
theorem w2 : wr 2 = 2 := rfl
def tSt : Qe := QC.mk (2 : Int) [(99 : UInt8)] (0 : Int) (0 : Int) (0 : Int) [Q6.mk (gLin.mk (0 : Int) []) [] []] (Qv.mk (1 : Int) [] (gVal.mk (1 : Int) (1 : Int)) (Qg.mk (1 : Int) (0 : Int) (0 : Int) (0 : Int) (0 : Int)) (gLin.mk (0 : Int) []) [] [] : Q3) []
set_option maxHeartbeats 4000000 in
theorem t_copy : Uy (Qq.mk [] [.mk tSt]) = some (Qq.mk [] [.mk tSt]) := by
 unfold tSt
 rw [Uy]
 repeat (simp [t_fS, t_fE, bSs, ix, w0, w1, w2, XY, XM, Y6, XX, YL, Uz, UK, K1]; try first | rw [U6] | rw [Zq] | rw [Zw] | rw [Xh] | rw [Xa] | rw [Kf] | rw [ZM] | rw [ZE] | rw [Km])
theorem EX (k : Int) : XL ⟨k, []⟩ = some 0 := by
 rw [XL]
 simp only [↓bSs]
 rw [Xd]
 simp [bSs]
theorem t_lin (nm : Str) (v : Int) (hn : nm = [105] ∨ nm = [107]) : U5 ⟨0, []⟩ nm ⟨v, []⟩ = some (⟨0, []⟩, 0) := by
 have hi : KZ nm = some true := by
  rw [N7]
  rcases hn with rfl | rfl <;> decide
 rw [U5]
 simp only [↓bSs, EX, hi, bne_self_eq_false, Bool.false_eq_true, ↓reduceIte]
 rw [YW]
 simp [NH, EX, bSs]
 rw [Lq]
 simp only [↓bSs, EX, bne_self_eq_false, Bool.false_eq_true, ↓reduceIte, Wh]
 rw [D9]
 simp only [↓bSs]
 rw [XC]
 simp [bSs, w0]
theorem t_sub (nm : Str) (v : Int) (hn : nm = [105] ∨ nm = [107]) : Vo [.mk tSt] nm ⟨v, []⟩ = some ([.mk tSt], 0) := by
 unfold tSt
 have hl := t_lin nm v hn
 rw [Vo]
 repeat (simp [t_fS, t_fE, bSs, ix, w0, w1, w2, XY, XM, Y6, XX, YL, YK, hl]; try first | rw [Zr] | rw [Zx] | rw [Xi] | rw [Xb] | rw [Kg] | rw [ZN] | rw [ZF])
theorem t_conc (x y : Int) : Ko tSt [⟨[105], x⟩, ⟨[107], y⟩] = some ((), 0) := by
 have h1 := t_sub [105] x (.inl rfl)
 have h2 := t_sub [107] y (.inr rfl)
 rw [Ko, U8]
 repeat (simp [t_fS, t_fE, bSs, ix, w0, w1, w2, t_copy, h1, h2, NG]; try rw [YX])
end Go.Proofs.YtkgphhemcglgnaaGreatDoor
end
