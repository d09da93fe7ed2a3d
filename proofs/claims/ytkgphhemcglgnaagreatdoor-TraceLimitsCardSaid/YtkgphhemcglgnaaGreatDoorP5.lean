/- Proved in the last of these texts: for every input the law returns true and its arguments read afterwards as they read before. This text: a part of the proof. -/
import Derived.Test.YtkgphhemcglgnaaGreatDoorP4
import Derived.Lib.Bytealg
set_option linter.unusedVariables false
set_option linter.unusedSimpArgs false
set_option linter.unusedSectionVars false
section
namespace Go.Proofs.YtkgphhemcglgnaaGreatDoor
open Go HY
set_option maxRecDepth 1000000
noncomputable def X0 (x0 : List Int) : Option (List Int) := if x0.length * 8 ≤ 140737488355328 ∧ x0.length ≤ 9223372036854775807 then some x0 else none
theorem Lw (x0 : List Int) (r : List Int) (h : X0 x0 = some r) : PU 47 [eLI x0] (eLI r) := by
 unfold X0 at h
 split at h
 ·rename_i hc
  cases h
  exact Pu1 (φ := (List.map eI x0 = [] → LeT .nil (.sl 1 (List.map eI x0))) ∧ (0 = 0 ∧ (0 + List.length (List.map eI x0)) * 8 ≤ 140737488355328 ∧ 0 + List.length (List.map eI x0) ≤ 9223372036854775807) ∧ ∃ l, (List.map eI l = [] ++ List.map eI x0 ∧ List.length l = 0 + List.length (List.map eI x0)) ∧ List.length l = List.length (List.map eI l) ∧ LeT (.sl 1 (List.map eI l)) (.sl 1 (List.map eI x0)))
   (hs := [(4, .nn), (7, .z [{ slot := 5, own := 1 }] (some (.n eI 7 (some .a))))]) (by kernel_rfl)
   ⟨fun e => by rw [e]; exact .nil 1, ⟨rfl, by simpa using hc⟩, x0, ⟨rfl, by simp⟩, by simp, .refl _⟩
 ·cases h
end Go.Proofs.YtkgphhemcglgnaaGreatDoor
end
section
namespace HY
open Go
theorem kOc {ρ : Type} {r : ρ} {α : Type} {sh : α → AV} {xs : List AV} {n : Nat} {f : List α → Option ρ} {A : List α → Prop} (l : List α) (e : List.map sh l = xs) (hA : ∀ l, f l = some r → A l) (h : (if l.length = n then (some l >>= f) else none) = some r) : ∃ l, (List.map sh l = xs ∧ l.length = n) ∧ A l := by
 by_cases hn : l.length = n
 ·rw [if_pos hn] at h; exact ⟨l, ⟨e, hn⟩, hA l h⟩
 ·rw [if_neg hn] at h; cases h
end HY
end
section
namespace Go.Proofs.YtkgphhemcglgnaaGreatDoor
open Go HY
set_option maxRecDepth 1000000
noncomputable def WRp (ps : List AV) (f r n : Nat) (hs : Qz) (ks : List Nat) (kb : List KB) (kx : List Nat) (kbx : List KB) (alts : List Alt) (vs : List AV) (bs : List Box) : Prop :=
 S3 Tryz.prog gls ch0 wf0 hs ps 2000 n (V8 Tryz.prog f (r + 1)) ks kb kx kbx alts vs bs (Nxt Tryz.prog gls ps n (V8 Tryz.prog f (r + 1)) ks kx alts)
theorem Lp1p {φ : Prop} {ps : List AV} {f r n : Nat} {hs : Qz} {ks : List Nat} {kb : List KB} {kx : List Nat} {kbx : List KB} {alts : List Alt} {vs : List AV} {bs : List Box} (hok : QB (V8 Tryz.prog f (r + 1)) = true) (e : φ = WRp ps f r n hs ks kb kx kbx alts vs bs) (h : φ) : Xt Tryz.prog gls ps n (V8 Tryz.prog f (r + 1)) ks vs bs kx alts :=
 Xt.step JV Um MF hok (show WRp ps f r n hs ks kb kx kbx alts vs bs from e ▸ h)
abbrev LOp (ps : List AV) (f r n : Nat) (ks : List Nat) (vs : List AV) (bs : List Box) (kx : List Nat) (alts : List Alt) : Prop := Xt Tryz.prog gls ps n (V8 Tryz.prog f (r + 1)) ks vs bs kx alts
end Go.Proofs.YtkgphhemcglgnaaGreatDoor
end
section
namespace Go.Proofs.YtkgphhemcglgnaaGreatDoor
open Go HY
set_option maxRecDepth 1000000
set_option linter.unusedVariables false
def Vh (r : List Int) : AV := .ow 0 0 1 (List.length r)
def Vb (r : List Int) : List Box := [.own 0 1 (List.map eI r)]
theorem C8 (x0 : List Int) (r : List Int) (h : X0 x0 = some r) : PH 47 [eLI x0] [] (Vh r) (Vb r) := by
 unfold X0 at h
 split at h
 ·rename_i hc
  cases h
  exact PuH1 (kb := [{ slot := 0, path := [], own := 1 }]) (φ := (List.map eI x0 = [] → LeVs [.ow 0 0 1 0] [.ow 0 0 1 (List.length x0)] ∧ LeBs [.own 0 1 []] [.own 0 1 (List.map eI x0)]) ∧ (0 = 0 ∧ (0 + List.length (List.map eI x0)) * 8 ≤ 140737488355328 ∧ 0 + List.length (List.map eI x0) ≤ 9223372036854775807) ∧ ∃ l, (List.map eI l = [] ++ List.map eI x0 ∧ List.length l = 0 + List.length (List.map eI x0)) ∧ LeVs [.ow 0 0 1 (List.length l)] [.ow 0 0 1 (List.length x0)] ∧ LeBs [.own 0 1 (List.map eI l)] [.own 0 1 (List.map eI x0)])
   (hs := [(4, .nn), (7, .z [{ slot := 5, own := 1 }] (some (.n eI 7 (some .a))))]) (by kernel_rfl)
   ⟨fun e => by have e1 : x0 = [] := List.map_eq_nil_iff.1 e; subst e1; exact ⟨.refl _, .refl _⟩, ⟨rfl, by simpa using hc⟩, x0, ⟨by simp, by simp⟩, ⟨.refl _, .refl _⟩⟩
 ·cases h
end Go.Proofs.YtkgphhemcglgnaaGreatDoor
end
noncomputable section
namespace Go.Proofs.YtkgphhemcglgnaaGreatDoor
open Go HY
set_option maxRecDepth 1000000
set_option linter.unusedVariables false
def GX (x0 : Qe) : Option Bool :=
 if x0.fOp == 2 then
 some true
 else
 some (x0.fOp == 3)
theorem RF (x0 r) (h : GX x0 = some r) : PU 48 [Qm x0] (eB r) :=
 Pu2 (hs := [(5, .split)]) ((kIf (c := x0.fOp == 2) (kEr (enc := eB) true)
 (kEr (enc := eB) (x0.fOp == 3))) h)
def Xu (r : List (List Int)) : AV := .tup []
def Xn (r : List (List Int)) : List Box := [.cells 0 [.ow 1 0 1 (List.length r)], .own 0 1 (List.map eLI r), .cells 0 [.fn 46 [.ptr 0 0 0, .ptr 2 0 0]]]
def YH (s : List Int) (u : ((List Q7) × Int)) (o : List (List Int)) : List Alt := l1 o (.exit 0) (fun _ => [.ptr 0 0 0, .ptr 2 0 0]) (fun x => [.cells 0 [.ow 1 0 1 (List.length x)], .own 0 1 (List.map eLI x), .cells 0 [.fn 46 [.ptr 0 0 0, .ptr 2 0 0]]])
def KK (s : ((List Int) × (List Q7) × Int)) (u : (Qe × (List Int) × Int)) (o : List (List Int)) : List Alt := l1 o .normal (fun _ => [.sl 1 (List.map eI (s.1)), .ptr 0 0 0, .ptr 2 0 0, .ptr 3 0 0, .sl 1 (List.map eI (u.2.1)), .sl 20 (List.map Q9 (s.2.1)), ii (s.2.2), ii (u.2.2)]) (fun x => [.cells 0 [.ow 1 0 1 (List.length x)], .own 0 1 (List.map eLI x), .cells 0 [.fn 46 [.ptr 0 0 0, .ptr 2 0 0]], .cells 0 (Qm (u.1)).cells])
def Jw (s : ((List Int) × (List Q7) × Int)) (u : Int) (o : List (List Int)) : List Alt := l1 o .normal (fun _ => [.sl 1 (List.map eI (s.1)), .ptr 0 0 0, .ptr 2 0 0, .sl 20 (List.map Q9 (s.2.1)), ii (s.2.2), ii u]) (fun x => [.cells 0 [.ow 1 0 1 (List.length x)], .own 0 1 (List.map eLI x), .cells 0 [.fn 46 [.ptr 0 0 0, .ptr 2 0 0]]])
mutual
def Xs (x0 : List Q7) (x1 : List Int) (x2 : List (List Int)) : Option (List (List Int)) :=
 some (List.length x0 : Int) >>= fun v0 =>
 some (x0, v0) >>= fun v1 =>
 Xj x1 x2 x0 v0 0 >>= fun v3 =>
 some v3
 partial_fixpoint
def Xj (x1 : List Int) (x2 : List (List Int)) (x9 : List Q7) (x10 : Int) (x11 : Int) : Option (List (List Int)) :=
 if x11 < x10 then
 some x11 >>= fun v0 =>
 (Option.map Q7.f (ix x9 x11) >>= fun v2 =>
 X0 x1 >>= fun v3 =>
 if (v3.length + (1 : Nat)) * (8 : Nat) ≤ (140737488355328 : Nat) ∧ v3.length + (1 : Nat) ≤ (9223372036854775807 : Nat) then
 some (v3 ++ [x11]) >>= fun v4 =>
 some (v2, v4, x11) >>= fun v5 =>
 (GX v2 >>= fun v7 => if v7 then
 if (x2.length + (1 : Nat)) * (24 : Nat) ≤ (140737488355328 : Nat) ∧ x2.length + (1 : Nat) ≤ (9223372036854775807 : Nat) then
 some (x2 ++ [v4]) >>= fun v8 =>
 some v8
 else none
 else
 some x2) >>= fun v9 =>
 Xs v5.fst.fd v5.snd.fst v9 >>= fun v10 =>
 some v10
 else none) >>= fun v11 =>
 Xj x1 v11 x9 x10 (wr (v0 + 1))
 else
 some x2
 partial_fixpoint
end
theorem NW  : (∀ (x0 : List Q7) (x1 : List Int) (x2 : List (List Int)) (r : List (List Int)), Xs x0 x1 x2 = some r → PH 46 [ZG x0, eLI x1, .ptr 0 0 0, .ptr 2 0 0] [.cells 0 [.ow 1 0 1 (List.length x2)], .own 0 1 (List.map eLI x2), .cells 0 [.fn 46 [.ptr 0 0 0, .ptr 2 0 0]]] (Xu r) (Xn r)) ∧ (∀ (x1 : List Int) (x2 : List (List Int)) (x9 : List Q7) (x10 : Int) (x11 : Int) (o : List (List Int)), Xj x1 x2 x9 x10 x11 = some o → LOp [.ptr 0 0 0, .ptr 2 0 0] 46 1 33 [1, 2, 3, 9, 10, 11] [.sl 1 (List.map eI x1), .ptr 0 0 0, .ptr 2 0 0, .sl 20 (List.map Q9 x9), ii x10, ii x11] [.cells 0 [.ow 1 0 1 (List.length x2)], .own 0 1 (List.map eLI x2), .cells 0 [.fn 46 [.ptr 0 0 0, .ptr 2 0 0]]] [2, 3] (YH x1 (x9, x10) o)) :=
 Xs.mutual_partial_correctness  _ _
 (fun Xj B7 x0 x1 x2 r h  =>
 PuH2 (hs := [(10, .n eI 10 none), (3000002, .l [] [1, 2, 3, 9, 10, 11] [kk 2, { slot := 2, path := [0], own := 1 }, kk 3] [2, 3] [kk 2, { slot := 2, path := [0], own := 1 }, kk 3] (YH x1))]) (kb := [kk 1, { slot := 1, path := [0], own := 1 }, kk 2]) ((kN _ (mLen (sh := Q9) x0) fun v0 => (kL1 (x0, v0) (B7 x1 x2 x0 v0 0) fun v1 v3 => (kEH (enc := Xu) (bt := Xn) v3 ⟨.refl _, .refl _⟩))) h))
 (fun Xs Xj B6 B7 x1 x2 x9 x10 x11 o h  =>
 Lp1p (hs := [(12, .split), (14, .e Qm), (17, .h [] Vh Vb), (20, .z [{ slot := 17, own := 1 }] (some (.n eI 20 (some .a)))), (8, .z [{ slot := 20, fz := true }] none), (22, .cb), (26, .z [{ slot := 23, own := 1 }] (some (.n eLI 26 (some .a)))), (31, .h [kk 2, { slot := 2, path := [0], own := 1 }, kk 3] Xu Xn), (6000006, .l [] [] [] [1, 2, 3, 7, 8, 9, 10, 11] [kk 2, { slot := 2, path := [0], own := 1 }, kk 3, kk 7, { slot := 8, fz := true }] (KK (x1, x9, x10))), (7000001, .l [] [] [] [1, 2, 3, 9, 10, 11] [kk 2, { slot := 2, path := [0], own := 1 }, kk 3] (Jw (x1, x9, x10)))]) (kb := [kk 2, { slot := 2, path := [0], own := 1 }, kk 3]) (kbx := [kk 2, { slot := 2, path := [0], own := 1 }, kk 3]) (by kernel_rfl) (by kernel_rfl) ((kIfD (p := x11 < x10) (kJ1 (id := 7000001) x11 (fun v0 ev0 v1 => (kIxR (l := x9) (k := x11) Zy fun v2 => (kH (sh := Vh) (bt := Vb) (C8 x1) fun v3 => (kA (q := (v3.length + (1 : Nat)) * (8 : Nat) ≤ (140737488355328 : Nat) ∧ v3.length + (1 : Nat) ≤ (9223372036854775807 : Nat)) (sh := eI) (l := v3) (kO (sh := eI) (v3 ++ [x11]) (mA (sh := eI) v3 x11) (nA v3 x11) fun v4 => (kT (nM (sh := eI) v4) (kJ1E (id := 6000006) (v2, v4, x11) (fun v5 ev5 v6 => (kCb (RF v2) (kA (q := (x2.length + (1 : Nat)) * (24 : Nat) ≤ (140737488355328 : Nat) ∧ x2.length + (1 : Nat) ≤ (9223372036854775807 : Nat)) (sh := eLI) (l := x2) (kO (sh := eLI) (x2 ++ [v4]) (mA (sh := eLI) x2 v4) (nA x2 v4) fun v8 => (kXj (alts := KK (x1, x9, x10)) ev5 v8 (.here _ rfl (.refl _) (.refl _)))))
 (kXj (alts := KK (x1, x9, x10)) ev5 x2 (.here _ rfl (.refl _) (.refl _)))))
 (fun v5 ev5 v9 => (kH (sh := Xu) (bt := Xn) (B6 v5.fst.fd v5.snd.fst v9) fun v10 => (kXj (alts := Jw (x1, x9, x10)) (u0 := v5.snd.snd) (by subst ev5; exact ev0) v10 (.here _ rfl (.refl _) (.refl _))))))))))))
 (fun v0 v11 => (kM0 (alts := YH x1 (x9, x10)) (B7 x1 v11 x9 x10 (wr (v0 + 1))))))
 (kX (alts := YH x1 (x9, x10)) x2 (.here _ rfl (.refl _) (.refl _)))) h))
theorem Mq (x0 x1 x2 r) (h : Xs x0 x1 x2 = some r) : PH 46 [ZG x0, eLI x1, .ptr 0 0 0, .ptr 2 0 0] [.cells 0 [.ow 1 0 1 (List.length x2)], .own 0 1 (List.map eLI x2), .cells 0 [.fn 46 [.ptr 0 0 0, .ptr 2 0 0]]] (Xu r) (Xn r) := (NW ).1 x0 x1 x2 r h
def Vf (x0 : Qq) : Option (List (List Int)) :=
 Xs x0.fd [] [] >>= fun v0 =>
 some v0
theorem Lx (x0 r) (h : Vf x0 = some r) : PU 15 [Xf x0] (eLLI r) :=
 Pu2 (hs := [(9, .h [kk 2, { slot := 2, path := [0], own := 1 }, kk 3] Xu Xn)]) ((kH (sh := Xu) (bt := Xn) (fun y hy => PuH.le (Mq x0.fd [] [] y hy) (.cons lr (.cons (LeV.nil 1) (.cons lr (.cons lr .nil)))) (.refl _) (.refl _) (.refl _)) fun v0 => (kT (nM (sh := eLI) v0) (kEr (enc := eLLI) v0))) h)
def JN (s : Unit) (u : ((List Int) × Int)) (o : List Int) : List Alt := l1 o (.exit 0) (fun x => [.sl 1 (List.map eI32 x)]) (fun _ => [])
def VL (x3 : List Int) (x6 : List Int) (x7 : Int) (x8 : Int) : Option (List Int) :=
 if x8 < x7 then
 ix x6 x8 >>= fun v0 =>
 if (x3.length + (1 : Nat)) * (4 : Nat) ≤ (140737488355328 : Nat) ∧ x3.length + (1 : Nat) ≤ (9223372036854775807 : Nat) then
 some (x3 ++ [(IntKind.i32.wrap v0)]) >>= fun v1 =>
 VL v1 x6 x7 (wr (x8 + 1))
 else none
 else
 some x3
 partial_fixpoint
theorem EL (x3 x6 x7 x8 o) (h : VL x3 x6 x7 x8 = some o) : LO 43 3 20 [3, 6, 7, 8] [.ow 0 0 1 (List.length x3), .sl 1 (List.map eI x6), ii x7, ii x8] [.own 0 1 (List.map eI32 x3)] [3] (JN () (x6, x7) o) :=
 VL.partial_correctness x6 x7 (fun x3 x8 o => LO 43 3 20 [3, 6, 7, 8] [.ow 0 0 1 (List.length x3), .sl 1 (List.map eI x6), ii x7, ii x8] [.own 0 1 (List.map eI32 x3)] [3] (JN () (x6, x7) o))
 (fun VL B8 x3 x8 o h  =>
 Lp2 (hs := [(9, .split), (10, .e eI), (16, .z [{ slot := 12, own := 1 }] (some (.n eI32 16 (some .a))))]) (kb := [{ slot := 3, own := 1 }]) (kbx := [{ slot := 3, fz := true }]) ((kIfD (p := x8 < x7) (kIx (enc := eI) (l := x6) (k := x8) fun v0 => (kA (q := (x3.length + (1 : Nat)) * (4 : Nat) ≤ (140737488355328 : Nat) ∧ x3.length + (1 : Nat) ≤ (9223372036854775807 : Nat)) (sh := eI32) (l := x3) (kO (sh := eI32) (x3 ++ [(IntKind.i32.wrap v0)]) (mA (sh := eI32) x3 (IntKind.i32.wrap v0)) (nA x3 (IntKind.i32.wrap v0)) fun v1 => (kM0 (alts := JN () (x6, x7)) (B8 v1 (wr (x8 + 1)))))))
 (kT (nM (sh := eI32) x3) (kX (alts := JN () (x6, x7)) x3 (.here _ rfl (.refl _) (.refl _))))) h)) x3 x8 o h
def GF (x0 : List Int) : Option Str :=
 some (List.length x0 : Int) >>= fun v0 =>
 some (x0, v0) >>= fun v1 =>
 VL [] x0 v0 0 >>= fun v3 =>
 some v3 >>= fun v4 =>
 some (MX v4)
theorem NL (x0 r) (h : GF x0 = some r) : PU 43 [eLI x0] (eS r) :=
 Pu2 (hs := [(7, .n eI 7 none), (3000004, .l [] [3, 6, 7, 8] [{ slot := 3, own := 1 }] [3] [{ slot := 3, fz := true }] (JN ()))]) ((kN _ (mLen (sh := eI) x0) fun v0 => (kL1 (x0, v0) (EL [] x0 v0 0) fun v1 v3 => (kB (sh := rI32) v3 (rfl : List.map rI32 v3 = List.map rI32 v3) fun v4 => (kEr (enc := eS) (MX v4))))) h)
end Go.Proofs.YtkgphhemcglgnaaGreatDoor
end
section
namespace HY
open Go
def wp {α : Type} (x : Option α) (Q : α → Prop) : Prop := ∃ a, x = some a ∧ Q a
section
variable {α β : Type} {Q : β → Prop}
theorem Do {x : β} : wp (some x) Q ↔ Q x := ⟨fun ⟨_, e, h⟩ => by cases e; exact h, fun h => ⟨x, rfl, h⟩⟩
theorem Tt {γ : Type} {F : Int → Option β} {l : List γ} (S : List γ → β) (last : F l.length = some (S [])) (step : ∀ (i : Int) (x : γ) (t : List γ), 0 ≤ i → i < l.length → ix l i = some x → F (i + 1) = some (S t) → F i = some (S (x :: t))) : F 0 = some (S l) := by
  have key : ∀ (t p : List γ), l = p ++ t → F p.length = some (S t) := by
    intro t
    induction t with
    | nil => intro p e; have : p.length = l.length := by rw [e]; simp
             rw [this]; exact last
    | cons x t ih =>
      intro p e
      refine step p.length x t (by omega) (by rw [e]; simp; omega) ?_ ?_
      · unfold ix; rw [if_pos (by omega), Int.toNat_natCast, e, List.getElem?_append_right (Nat.le_refl _)]; simp
      · have := ih (p ++ [x]) (by rw [e]; simp)
        rw [← this]; simp
  exact key l [] rfl
theorem M8 {γ : Type} {F : α → Int → Option β} {l : List γ} (I : α → List γ → Prop) (S : α → List γ → β) (last : ∀ a, I a [] → F a l.length = some (S a [])) (step : ∀ (i : Int) (x : γ) (t : List γ) a, 0 ≤ i → i < l.length → x ∈ l → ix l i = some x → I a (x :: t) → (∀ a, I a t → F a (i + 1) = some (S a t)) → F a i = some (S a (x :: t))) (a : α) (hI : I a l) : F a 0 = some (S a l) := by
  have key : ∀ (t p : List γ), l = p ++ t → ∀ a, I a t → F a p.length = some (S a t) := by
    intro t
    induction t with
    | nil => intro p e a hI; have : p.length = l.length := by rw [e]; simp
             rw [this]; exact last a hI
    | cons x t ih =>
      intro p e a hI
      refine step p.length x t a (by omega) (by rw [e]; simp; omega) (by rw [e]; simp) ?_ hI ?_
      · unfold ix; rw [if_pos (by omega), Int.toNat_natCast, e, List.getElem?_append_right (Nat.le_refl _)]; simp
      · intro a hI
        have := ih (p ++ [x]) (by rw [e]; simp) a hI
        rw [← this]; simp
  exact key l [] rfl a hI
theorem loopSuf {γ : Type} {F : α → Int → Option β} {l : List γ} (I : α → List γ → Prop) (last : ∀ a, I a [] → wp (F a l.length) Q) (step : ∀ (i : Int) (x : γ) (t : List γ) a, 0 ≤ i → i < l.length → x ∈ l → ix l i = some x → (∃ p, l = p ++ x :: t ∧ (p.length : Int) = i) → I a (x :: t) → (∀ a, I a t → wp (F a (i + 1)) Q) → wp (F a i) Q) (a : α) (hI : I a l) : wp (F a 0) Q := by
  have key : ∀ (t p : List γ), l = p ++ t → ∀ a, I a t → wp (F a p.length) Q := by
    intro t
    induction t with
    | nil => intro p e a hI; have : p.length = l.length := by rw [e]; simp
             rw [this]; exact last a hI
    | cons x t ih =>
      intro p e a hI
      refine step p.length x t a (by omega) (by rw [e]; simp; omega) (by rw [e]; simp) ?_ ⟨p, e, rfl⟩ hI ?_
      · unfold ix; rw [if_pos (by omega), Int.toNat_natCast, e, List.getElem?_append_right (Nat.le_refl _)]; simp
      · intro a hI
        have := ih (p ++ [x]) (by rw [e]; simp) a hI
        rw [show ((p ++ [x]).length : Int) = (p.length : Int) + 1 by simp] at this
        exact this
  exact key l [] rfl a hI
end
theorem ZI {n : Int} (h : -9223372036854775808 ≤ n ∧ n ≤ 9223372036854775807) : wr n = n := by unfold wr; rw [IntKind.wrap_i64]; omega
theorem wrapS {n : Int} {k : Nat} (h0 : 0 ≤ n) (h1 : n < k) (hk : k ≤ 1099511627776) : wr (n + 1) = n + 1 := ZI (by omega)
end HY
end
section
namespace Go.Proofs.YtkgphhemcglgnaaGreatDoor
open Go HY
set_option maxRecDepth 1000000
set_option linter.unusedVariables false
def eO20 (_ : Unit) : AV := .agg [.undef, .undef, .undef, .undef, .undef, .undef, .undef, .undef, .undef, .undef, .undef, .undef, .undef, .undef, .undef, .undef, .undef, .undef, .undef, .undef]
def eLO20 (x : List Unit) : AV := .sl 20 (List.map eO20 x)
abbrev gBk := { l : List Unit // l.length ≤ 4611686018427387904 }
def ipS (l : List Unit) : AV := .ip 1 [.agg [.sl 20 (List.map eO20 l)]] 0 0
def hgBk (x : gBk) : AV := .fn 178 [ipS x.1]
def yvS (l : Nat) : AV := .val (.func (.yield l) #[] #[])
def bkR : List Unit → List (List AV)
 | [] => []
 | e :: t => [.int .i64 t.length, eO20 e] :: bkR t
theorem HL : ∀ l, (bkR l).length = l.length
 | [] => rfl
 | _ :: t => by simp [bkR, HL t]
theorem SP {l : Nat} {xs : List (List AV)} {m : Nat} {a : List Unit} (hn : a.length ≤ 4611686018427387904) :
  ∀ (t d : List Unit) (k : Nat), a = t.reverse ++ d → k + t.length = m → (∀ (j : Nat) (y : List AV), (bkR t)[j]? = some y → xs[k + j]? = some y) →
   JLo 178 1 19 l xs [0, 1, 3] [yvS l, ipS a, .int .i64 ((t.length : Int) - 1)] [] (some k) [] (.exit 0, []) (.ret, []) m
 | t, d, k, ha, hm, hx => by
  refine JL1 (φ := (decide ((0 : Int) ≤ (t.length : Int) - 1) = true → ∃ x : Unit, ((0 : Int) ≤ (t.length : Int) - 1 ∧ (a.map eO20)[Int.toNat ((t.length : Int) - 1)]? = some (eO20 x)) ∧ l = l ∧ xs[k]? = some [.int .i64 ((t.length : Int) - 1), eO20 x] ∧
   NxtJ Tryz.prog gls l xs 19 (V8 Tryz.prog 178 (1 + 1)) [0, 1, 3] [] (.exit 0, []) (.ret, []) m [yvS l, ipS a, .int .i64 (wr ((t.length : Int) - 1 - 1))] [] (some (k + 1)) ∧ JO (.exit 0, []) (.ret, []) m .ret none [] []) ∧
   (decide ((0 : Int) ≤ (t.length : Int) - 1) = false → JO (.exit 0, []) (.ret, []) m (.exit 0) (some k) [] [])) (hs := [(8, .split), (15, .e eO20)]) (js := []) (kb := []) (by kernel_rfl) (by kernel_rfl) ⟨fun h => ?_, fun h => ?_⟩
  ·have h := of_decide_eq_true h
   cases t with
   | nil => simp at h
   | cons e t =>
    have h0 := hx 0 _ rfl
    have hlt : t.length < a.length := by rw [ha]; simp
    have he : ((e :: t).length : Int) - 1 = t.length := by simp
    rw [he] at h ⊢
    refine ⟨e, ⟨h, ?_⟩, rfl, h0, ⟨_, _, ?_, .refl _, SP hn t (e :: d) (k + 1) (by rw [ha]; simp) (by rw [← hm]; simp; omega) (fun j y hj => ?_)⟩, .b rfl rfl rfl⟩
    ·rw [List.getElem?_map, Int.toNat_natCast, ha]
     simp
    ·rw [ZI (by omega)]; exact .refl _
    ·have := hx (j + 1) y hj
     rw [← this]; congr 1; omega
  ·have h := of_decide_eq_false h
   cases t with
   | nil => exact .a rfl (by rw [← hm]; rfl) rfl
   | cons e t => simp at h
 termination_by t => t.length
theorem It_Back (x : gBk) : ItOk Tryz.prog gls 178 [ipS x.1] (bkR x.1.reverse) :=
 ItOk.of (J4 (by kernel_rfl)) false fun l =>
  JF1 (φ := ∃ q, JLo 178 1 19 l (bkR x.1.reverse) [0, 1, 3] [yvS l, ipS x.1, .int .i64 (wr (((List.map eO20 x.1).length : Nat) - 1))] [] (some 0) [] (.exit 0, []) (.ret, []) q ∧ JQ false (bkR x.1.reverse).length (.tup []) (some q) ∧ JQ false (bkR x.1.reverse).length (.tup []) none)
   (hs := []) (js := [(2, ⟨[0, 1, 3], [], [], (.exit 0, []), (.ret, [])⟩)]) (by kernel_rfl) ⟨(bkR x.1.reverse).length, by
    have hl := x.2
    rw [List.length_map, ZI (by omega)]
    have := SP (l := l) (xs := bkR x.1.reverse) (m := (bkR x.1.reverse).length) hl x.1.reverse [] 0 (by simp) (by simp [HL]) (fun j y hj => by rw [Nat.zero_add]; exact hj)
    rw [List.length_reverse] at this
    exact this, ⟨rfl, .inl rfl⟩, ⟨rfl, .inr rfl⟩⟩
open Classical in
noncomputable def Kh (x0 : List Unit) : Option gBk := if h : x0.length ≤ 4611686018427387904 then some ⟨x0, h⟩ else none
theorem Uh (x0 : List Unit) (r : gBk) (h : Kh x0 = some r) : PU 133 [eLO20 x0] (hgBk r) := by
 unfold Kh at h
 split at h
 ·cases h
  exact Pu1 (φ := LeT (.fn 178 [ipS x0]) (.fn 178 [ipS x0])) (hs := [(3, .z [{ slot := 1, fz := true }] none)]) (by kernel_rfl) (.refl _)
 ·cases h
end Go.Proofs.YtkgphhemcglgnaaGreatDoor
end
section
namespace Go.Proofs.YtkgphhemcglgnaaGreatDoor
open Go HY
set_option maxRecDepth 1000000
set_option linter.unusedVariables false
noncomputable def WGp (ps : List AV) (f r n : Nat) (hs : Qz) (ks : List Nat) (kb kbx : List KB) (vs : List AV) (alts : List Alt) (x : List AV) (xs : List (List AV)) (bs : List Box) : Prop :=
 wrng Tryz.prog gls ch0 wf0 hs ps 2000 n (rng Tryz.prog f (r + 1)).1 (rng Tryz.prog f (r + 1)).2.1 (rng Tryz.prog f (r + 1)).2.2 ks kb kbx vs alts x bs (NxtR Tryz.prog gls ps n (rng Tryz.prog f (r + 1)).1 (rng Tryz.prog f (r + 1)).2.1 (rng Tryz.prog f (r + 1)).2.2 ks vs alts xs)
theorem Rg1p {φ : Prop} {ps : List AV} {f r n : Nat} {hs : Qz} {ks : List Nat} {kb kbx : List KB} {vs : List AV} {alts : List Alt} {x : List AV} {xs : List (List AV)} {bs : List Box} (hok : (QB (rng Tryz.prog f (r + 1)).2.1 && QB (rng Tryz.prog f (r + 1)).2.2) = true) (e : φ = WGp ps f r n hs ks kb kbx vs alts x xs bs) (h : φ) :
  Ua Tryz.prog gls ps n (rng Tryz.prog f (r + 1)).1 (rng Tryz.prog f (r + 1)).2.1 (rng Tryz.prog f (r + 1)).2.2 ks vs alts (x :: xs) bs := by
 rw [Bool.and_eq_true] at hok
 exact Ua.step (hs := hs) JV Um MF hok.1 hok.2 (show WGp ps f r n hs ks kb kbx vs alts x xs bs from e ▸ h)
def YR (s : List Int) (u : Q2) (o : Unit) : List Alt := [⟨fun (x : Unit) => x = o, .normal, fun x => [.ptr 0 0 0, .sl 1 (List.map eI s), .ptr 5 0 0], fun x => [.cells 0 [.mp 1, .int .i64 u.fe, .ow 2 0 2 (List.length u.fm), .ow 3 0 13 (List.length u.fc), .ow 4 0 22 (List.length u.fj)], .mapI u.fA, .own 0 2 (List.map Qh u.fm), .own 0 13 (List.map Qd u.fc), .own 0 22 (List.map Qn u.fj), .cells 0 (eO20 ()).cells]⟩]
def Vg (w : gBk) (x0 : Q2) (x2 : List Int) : Option Unit := some ()
theorem rd_R14 (u : Q2) (s : List Int) : ∀ (l : List Unit), Ua Tryz.prog gls [.ptr 0 0 0, .mp 1] 108 (rng Tryz.prog 93 (14 + 1)).1 (rng Tryz.prog 93 (14 + 1)).2.1 (rng Tryz.prog 93 (14 + 1)).2.2 [0, 2, 7] [.ptr 0 0 0, .sl 1 (List.map eI s), .ptr 5 0 0] (YR s u ()) (bkR l)
  [.cells 0 [.mp 1, .int .i64 u.fe, .ow 2 0 2 (List.length u.fm), .ow 3 0 13 (List.length u.fc), .ow 4 0 22 (List.length u.fj)], .mapI u.fA, .own 0 2 (List.map Qh u.fm), .own 0 13 (List.map Qd u.fc), .own 0 22 (List.map Qn u.fj), .cells 0 (eO20 ()).cells]
 | [] => ⟨rfl, .here () rfl (.refl _) (.refl _)⟩
 | e :: t => by
  refine Rg1p (φ := LeVs [.ptr 0 0 0, .sl 1 (List.map eI s), .ptr 5 0 0] [.ptr 0 0 0, .sl 1 (List.map eI s), .ptr 5 0 0] ∧ NxtR Tryz.prog gls [.ptr 0 0 0, .mp 1] 108 (rng Tryz.prog 93 (14 + 1)).1 (rng Tryz.prog 93 (14 + 1)).2.1 (rng Tryz.prog 93 (14 + 1)).2.2 [0, 2, 7] [.ptr 0 0 0, .sl 1 (List.map eI s), .ptr 5 0 0] (YR s u ()) (bkR t)
   [.cells 0 [.mp 1, .int .i64 u.fe, .ow 2 0 2 (List.length u.fm), .ow 3 0 13 (List.length u.fc), .ow 4 0 22 (List.length u.fj)], .mapI u.fA, .own 0 2 (List.map Qh u.fm), .own 0 13 (List.map Qd u.fc), .own 0 22 (List.map Qn u.fj), .cells 0 (eO20 ()).cells])
   (hs := []) (kb := [{ slot := 0 }, { slot := 0, path := [0] }, { slot := 0, path := [2], own := 2 }, { slot := 0, path := [3], own := 13 }, { slot := 0, path := [4], own := 22 }, { slot := 7 }]) (kbx := []) (by kernel_rfl) (by kernel_rfl) ⟨.refl _, _, .refl _, rd_R14 u s t⟩
theorem JZ (w : gBk) (x0 : Q2) (x2 : List Int) (o : Unit) (h : Vg w x0 x2 = some o) : ∃ xs, ItOk Tryz.prog gls 178 [ipS w.1] xs ∧ Ua Tryz.prog gls [.ptr 0 0 0, .mp 1] 108 (rng Tryz.prog 93 (14 + 1)).1 (rng Tryz.prog 93 (14 + 1)).2.1 (rng Tryz.prog 93 (14 + 1)).2.2 [0, 2, 7] [.ptr 0 0 0, .sl 1 (List.map eI x2), .ptr 5 0 0] (YR x2 x0 o) xs
  [.cells 0 [.mp 1, .int .i64 x0.fe, .ow 2 0 2 (List.length x0.fm), .ow 3 0 13 (List.length x0.fc), .ow 4 0 22 (List.length x0.fj)], .mapI x0.fA, .own 0 2 (List.map Qh x0.fm), .own 0 13 (List.map Qd x0.fc), .own 0 22 (List.map Qn x0.fj), .cells 0 (eO20 ()).cells] :=
 ⟨_, It_Back w, rd_R14 x0 x2 w.1.reverse⟩
end Go.Proofs.YtkgphhemcglgnaaGreatDoor
end
section
namespace Go.Proofs.YtkgphhemcglgnaaGreatDoor
open Go HY
set_option maxRecDepth 1000000
set_option linter.unusedVariables false
def YN (r : List Q7) : AV := .ow 0 0 20 (List.length r)
def YJ (r : List Q7) : List Box := [.own 0 20 (List.map Q9 r)]
noncomputable def XY (x0 : List Q7) : Option (List Q7) := if List.length x0 * 256 ≤ 140737488355328 ∧ List.length x0 ≤ 9223372036854775807 then some x0 else none
theorem Gt (x0 : List Q7) (r : List Q7) (h : XY x0 = some r) : PH 150 [ZG x0] [] (YN r) (YJ r) := by
 unfold XY at h
 split at h
 ·rename_i hc
  cases h
  exact PuH1 (kb := [{ slot := 0, path := [], own := 20 }]) (φ := (List.map Q9 x0 = [] → LeVs [.ow 0 0 20 0] [.ow 0 0 20 (List.length x0)] ∧ LeBs [.own 0 20 []] [.own 0 20 (List.map Q9 x0)]) ∧ (0 = 0 ∧ (0 + List.length (List.map Q9 x0)) * 256 ≤ 140737488355328 ∧ 0 + List.length (List.map Q9 x0) ≤ 9223372036854775807) ∧ ∃ l, (List.map Q9 l = [] ++ List.map Q9 x0 ∧ List.length l = 0 + List.length (List.map Q9 x0)) ∧ LeVs [.ow 0 0 20 (List.length l)] [.ow 0 0 20 (List.length x0)] ∧ LeBs [.own 0 20 (List.map Q9 l)] [.own 0 20 (List.map Q9 x0)])
   (hs := [(4, .nn), (7, .z [{ slot := 5, own := 20 }] (some (.n Q9 7 (some .a))))]) (by kernel_rfl)
   ⟨fun e => by have e1 : x0 = [] := List.map_eq_nil_iff.1 e; subst e1; exact ⟨.refl _, .refl _⟩, ⟨rfl, by simpa using hc⟩, x0, ⟨by simp, by simp⟩, ⟨.refl _, .refl _⟩⟩
 ·cases h
def Yw (r : List Q6) : AV := .ow 0 0 4 (List.length r)
def Yu (r : List Q6) : List Box := [.own 0 4 (List.map Q1 r)]
noncomputable def XM (x0 : List Q6) : Option (List Q6) := if List.length x0 * 72 ≤ 140737488355328 ∧ List.length x0 ≤ 9223372036854775807 then some x0 else none
theorem UM (x0 : List Q6) (r : List Q6) (h : XM x0 = some r) : PH 143 [KA x0] [] (Yw r) (Yu r) := by
 unfold XM at h
 split at h
 ·rename_i hc
  cases h
  exact PuH1 (kb := [{ slot := 0, path := [], own := 4 }]) (φ := (List.map Q1 x0 = [] → LeVs [.ow 0 0 4 0] [.ow 0 0 4 (List.length x0)] ∧ LeBs [.own 0 4 []] [.own 0 4 (List.map Q1 x0)]) ∧ (0 = 0 ∧ (0 + List.length (List.map Q1 x0)) * 72 ≤ 140737488355328 ∧ 0 + List.length (List.map Q1 x0) ≤ 9223372036854775807) ∧ ∃ l, (List.map Q1 l = [] ++ List.map Q1 x0 ∧ List.length l = 0 + List.length (List.map Q1 x0)) ∧ LeVs [.ow 0 0 4 (List.length l)] [.ow 0 0 4 (List.length x0)] ∧ LeBs [.own 0 4 (List.map Q1 l)] [.own 0 4 (List.map Q1 x0)])
   (hs := [(4, .nn), (7, .z [{ slot := 5, own := 4 }] (some (.n Q1 7 (some .a))))]) (by kernel_rfl)
   ⟨fun e => by have e1 : x0 = [] := List.map_eq_nil_iff.1 e; subst e1; exact ⟨.refl _, .refl _⟩, ⟨rfl, by simpa using hc⟩, x0, ⟨by simp, by simp⟩, ⟨.refl _, .refl _⟩⟩
 ·cases h
def K5 (r : List gLin) : AV := .ow 0 0 2 (List.length r)
def K0 (r : List gLin) : List Box := [.own 0 2 (List.map Qb r)]
noncomputable def Y6 (x0 : List gLin) : Option (List gLin) := if List.length x0 * 32 ≤ 140737488355328 ∧ List.length x0 ≤ 9223372036854775807 then some x0 else none
theorem GH (x0 : List gLin) (r : List gLin) (h : Y6 x0 = some r) : PH 144 [WQ x0] [] (K5 r) (K0 r) := by
 unfold Y6 at h
 split at h
 ·rename_i hc
  cases h
  exact PuH1 (kb := [{ slot := 0, path := [], own := 2 }]) (φ := (List.map Qb x0 = [] → LeVs [.ow 0 0 2 0] [.ow 0 0 2 (List.length x0)] ∧ LeBs [.own 0 2 []] [.own 0 2 (List.map Qb x0)]) ∧ (0 = 0 ∧ (0 + List.length (List.map Qb x0)) * 32 ≤ 140737488355328 ∧ 0 + List.length (List.map Qb x0) ≤ 9223372036854775807) ∧ ∃ l, (List.map Qb l = [] ++ List.map Qb x0 ∧ List.length l = 0 + List.length (List.map Qb x0)) ∧ LeVs [.ow 0 0 2 (List.length l)] [.ow 0 0 2 (List.length x0)] ∧ LeBs [.own 0 2 (List.map Qb l)] [.own 0 2 (List.map Qb x0)])
   (hs := [(4, .nn), (7, .z [{ slot := 5, own := 2 }] (some (.n Qb 7 (some .a))))]) (by kernel_rfl)
   ⟨fun e => by have e1 : x0 = [] := List.map_eq_nil_iff.1 e; subst e1; exact ⟨.refl _, .refl _⟩, ⟨rfl, by simpa using hc⟩, x0, ⟨by simp, by simp⟩, ⟨.refl _, .refl _⟩⟩
 ·cases h
def YM (r : List Qf) : AV := .ow 0 0 13 (List.length r)
def YI (r : List Qf) : List Box := [.own 0 13 (List.map Qd r)]
noncomputable def XX (x0 : List Qf) : Option (List Qf) := if List.length x0 * 160 ≤ 140737488355328 ∧ List.length x0 ≤ 9223372036854775807 then some x0 else none
theorem Gs (x0 : List Qf) (r : List Qf) (h : XX x0 = some r) : PH 145 [G8 x0] [] (YM r) (YI r) := by
 unfold XX at h
 split at h
 ·rename_i hc
  cases h
  exact PuH1 (kb := [{ slot := 0, path := [], own := 13 }]) (φ := (List.map Qd x0 = [] → LeVs [.ow 0 0 13 0] [.ow 0 0 13 (List.length x0)] ∧ LeBs [.own 0 13 []] [.own 0 13 (List.map Qd x0)]) ∧ (0 = 0 ∧ (0 + List.length (List.map Qd x0)) * 160 ≤ 140737488355328 ∧ 0 + List.length (List.map Qd x0) ≤ 9223372036854775807) ∧ ∃ l, (List.map Qd l = [] ++ List.map Qd x0 ∧ List.length l = 0 + List.length (List.map Qd x0)) ∧ LeVs [.ow 0 0 13 (List.length l)] [.ow 0 0 13 (List.length x0)] ∧ LeBs [.own 0 13 (List.map Qd l)] [.own 0 13 (List.map Qd x0)])
   (hs := [(4, .nn), (7, .z [{ slot := 5, own := 13 }] (some (.n Qd 7 (some .a))))]) (by kernel_rfl)
   ⟨fun e => by have e1 : x0 = [] := List.map_eq_nil_iff.1 e; subst e1; exact ⟨.refl _, .refl _⟩, ⟨rfl, by simpa using hc⟩, x0, ⟨by simp, by simp⟩, ⟨.refl _, .refl _⟩⟩
 ·cases h
noncomputable def YL (x0 : List Qs) : Option (List Qs) := if List.length x0 * 24 ≤ 140737488355328 ∧ List.length x0 ≤ 9223372036854775807 then some x0 else none
theorem Ni (x0 : List Qs) (r : List Qs) (h : YL x0 = some r) : PU 109 [YY x0] (YY r) := by
 unfold YL at h
 split at h
 ·rename_i hc
  cases h
  exact Pu1 (φ := (List.map Q4 x0 = [] → LeT .nil (.sl 2 (List.map Q4 x0))) ∧ (0 = 0 ∧ (0 + List.length (List.map Q4 x0)) * 24 ≤ 140737488355328 ∧ 0 + List.length (List.map Q4 x0) ≤ 9223372036854775807) ∧ ∃ l, (List.map Q4 l = [] ++ List.map Q4 x0 ∧ List.length l = 0 + List.length (List.map Q4 x0)) ∧ List.length l = List.length (List.map Q4 l) ∧ LeT (.sl 2 (List.map Q4 l)) (.sl 2 (List.map Q4 x0)))
   (hs := [(4, .nn), (7, .z [{ slot := 5, own := 2 }] (some (.n Q4 7 (some .a))))]) (by kernel_rfl)
   ⟨fun e => by rw [e]; exact .nil 2, ⟨rfl, by simpa using hc⟩, x0, ⟨by simp, by simp⟩, ⟨by simp, .refl _⟩⟩
 ·cases h
end Go.Proofs.YtkgphhemcglgnaaGreatDoor
end
noncomputable section
namespace Go.Proofs.YtkgphhemcglgnaaGreatDoor
open Go HY
set_option maxRecDepth 1000000
set_option linter.unusedVariables false
def Uz (x0 : Str) : Option Str :=
 some x0
theorem Nn (x0 r) (h : Uz x0 = some r) : PU 113 [eS x0] (eS r) :=
 Pu2 (hs := []) ((kEr (enc := eS) x0) h)
def UK (x0 : gLin) : Option gLin :=
 YL x0.fL >>= fun v0 =>
 some ((gLin.mk x0.fK v0)) >>= fun v1 =>
 some v1
theorem Lv (x0 r) (h : UK x0 = some r) : PU 112 [Qb x0] (Qb r) :=
 Pu2 (hs := [(7, .c YY), (8, .n Qb 8 none)]) ((kC (sh := YY) (Ni x0.fL) fun v0 => (kW (sh := Qb) (gLin.mk x0.fK v0) lr fun v1 => (kEr (enc := Qb) v1))) h)
def K1 (x0 : gLin) : Option (gLin × Int) :=
 UK x0 >>= fun v0 =>
 some (v0, (0 : Int))
theorem Js (x0 r) (h : K1 x0 = some r) : PU 111 [Qb x0] (Qx r) :=
 Pu2 (hs := [(5, .c Qb)]) ((kC (sh := Qb) (Lv x0) fun v0 => (kEr (enc := Qx) (v0, (0 : Int)))) h)
def ZC (s : ((List Q6) × Int)) (u : (Int × Int × Int)) (o : (List Q6 × List gLin) ⊕ ((List Q6) × Int × (List Q6))) : List Alt := lp o (.exit 2) (fun x => [.sl 4 (List.map Q1 s.1), .fn 111 [], .undef, .undef, .ow 0 0 4 (List.length x.1), ii s.2, ii u.2.1]) (fun x => [.hol 0 4 (List.map Q1 x.1) (Int.toNat u.1) 3 (.ow 1 0 2 (List.length x.2)), .own 0 2 (List.map Qb x.2)]) .ret (fun x => [.sl 4 (List.map Q1 s.1), .fn 111 [], .sl 4 (List.map Q1 x.1), ii x.2.1, .ow 0 0 4 (List.length x.2.2), ii s.2, ii u.2.1]) (fun x => [.own 0 4 (List.map Q1 x.2.2)])
def ZE (x0 : List Q6) (x6 : (List Q6 × List gLin)) (x8 : Int) (x49 : Int) (x50 : Int) : Option ((List Q6 × List gLin) ⊕ ((List Q6) × Int × (List Q6))) :=
 if x50 < x49 then
 if 0 ≤ x8 ∧ x8 < (↑x6.fst.length : Int) then
 ix x0 x8 >>= fun v0 =>
 ix v0.fAt x50 >>= fun v1 =>
 K1 v1 >>= fun v2 =>
 if 0 ≤ x50 ∧ x50 < (↑x6.snd.length : Int) then
 if x50.toNat < (List.map Qb x6.snd).length then
 some (List.set x6.snd x50.toNat v2.fst) >>= fun v3 =>
 if v2.snd != 0 then
 if x6.snd.length = (List.map Qb v3).length then
 x6.fst[x8.toNat]? >>= fun v4 =>
 some (List.set x6.fst x8.toNat (Q6.mk v4.fo v4.fH v3)) >>= fun v5 =>
 some (.inr ([], v2.snd, v5))
 else none
 else
 ZE x0 (x6.fst, v3) x8 x49 (wr (x50 + 1))
 else none
 else none
 else none
 else
 some (.inl x6)
 partial_fixpoint
theorem DF (x0 : List Q6) (x6 : (List Q6 × List gLin)) (x8 : Int) (x13 : Int) (x14 : Int) (x49 : Int) (x50 : Int) (o : (List Q6 × List gLin) ⊕ ((List Q6) × Int × (List Q6))) (h : ZE x0 x6 x8 x49 x50 = some o) : LO 151 11 79 [0, 1, 6, 8, 13, 14, 49, 50] [.sl 4 (List.map Q1 x0), .fn 111 [], .ow 0 0 4 (List.length x6.1), ii x8, ii x13, ii x14, ii x49, ii x50] [.hol 0 4 (List.map Q1 x6.1) (Int.toNat x8) 3 (.ow 1 0 2 (List.length x6.2)), .own 0 2 (List.map Qb x6.2)] [0, 1, 4, 5, 6, 13, 14] (ZC (x0, x13) (x8, x14, x49) o) :=
 ZE.partial_correctness x0 x8 x49 (fun x6 x50 o => ∀ (x13 : Int) (x14 : Int), LO 151 11 79 [0, 1, 6, 8, 13, 14, 49, 50] [.sl 4 (List.map Q1 x0), .fn 111 [], .ow 0 0 4 (List.length x6.1), ii x8, ii x13, ii x14, ii x49, ii x50] [.hol 0 4 (List.map Q1 x6.1) (Int.toNat x8) 3 (.ow 1 0 2 (List.length x6.2)), .own 0 2 (List.map Qb x6.2)] [0, 1, 4, 5, 6, 13, 14] (ZC (x0, x13) (x8, x14, x49) o))
 (fun ZE OC x6 x50 o h x13 x14 =>
 Lp2 (hs := [(51, .split), (56, .s), (58, .s), (63, .e Q1), (67, .e Qb), (69, .c Qx), (72, .s), (1000072, .n Qb 72 (some .s)), (74, .split), (75, .fl Q1 6 none)]) (kb := [kk 6, { slot := 6, path := [0] }]) (kbx := [{ slot := 4, fz := true }, kk 6, { slot := 6, path := [0] }]) ((kIfD (p := x50 < x49) (kG (p := 0 ≤ x8 ∧ x8 < (↑x6.fst.length : Int)) (kT (rfl : x8.toNat = x8.toNat) (kIx (enc := Q1) (l := x0) (k := x8) fun v0 => (kIx (enc := Qb) (l := v0.fAt) (k := x50) fun v1 => (kC (sh := Qx) (Js v1) fun v2 => (kG (p := 0 ≤ x50 ∧ x50 < (↑x6.snd.length : Int)) (kG (p := x50.toNat < (List.map Qb x6.snd).length) (kBE (sh := Qb) (List.set x6.snd x50.toNat v2.fst) (mS (sh := Qb) x6.snd x50.toNat v2.fst) fun v3 ev3 => (kIf (c := v2.snd != 0) (kG (p := x6.snd.length = (List.map Qb v3).length) (kOx (enc := Q1) (l := x6.fst) (k := x8.toNat) fun v4 => (kBE (sh := Q1) (List.set x6.fst x8.toNat (Q6.mk v4.fo v4.fH v3)) (mS (sh := Q1) x6.fst x8.toNat (Q6.mk v4.fo v4.fH v3)) fun v5 ev5 => (kX (alts := ZC (x0, x13) (x8, x14, x49)) (.inr ([], v2.snd, v5)) (.next (.here _ rfl (.cons lr (.cons lr (.cons (LeV.nil 4) (.cons lr (.cons (LeV.owl (by simp [ev5, ev3] : x6.fst.length = List.length v5)) (.cons lr (.cons lr .nil))))))) (.refl _)))))))
 (kM (alts := ZC (x0, x13) (x8, x14, x49)) (.cons lr (.cons lr (.cons lr (.cons lr (.cons lr (.cons lr (.cons lr (.cons lr .nil)))))))) (.cons (LeB.hol (0 : Nat) (4 : Nat) (List.map Q1 x6.fst) x8.toNat (3 : Nat) (LeV.owl (by simp [ev3] : x6.snd.length = List.length v3))) (.cons (LeB.refl (Box.own (0 : Nat) (2 : Nat) (List.map Qb v3))) .nil)) (fun y hy => OC (x6.fst, v3) (wr (x50 + 1)) y hy x13 x14)))))))))))
 (kX (alts := ZC (x0, x13) (x8, x14, x49)) (.inl x6) (.here _ rfl (.refl _) (.refl _)))) h)) x6 x50 o h x13 x14
def Zo (s : List Q6) (u : Int) (o : (List Q6) ⊕ ((List Q6) × Int)) : List Alt := lp o (.exit 0) (fun x => [.undef, .undef, .sl 4 (List.map Q1 x)]) (fun _ => []) .ret (fun x => [.sl 4 (List.map Q1 x.1), ii x.2, .undef]) (fun _ => [])
def ZM (x0 : List Q6) (x6 : List Q6) (x13 : Int) (x14 : Int) : Option ((List Q6) ⊕ ((List Q6) × Int)) :=
 if x14 < x13 then
 ix x0 x14 >>= fun v0 =>
 K1 v0.fo >>= fun v1 =>
 if 0 ≤ x14 ∧ x14 < (↑x6.length : Int) then
 x6[x14.toNat]? >>= fun v2 =>
 some (List.set x6 x14.toNat (Q6.mk v1.fst v2.fH v2.fAt)) >>= fun v3 =>
 if v1.snd != 0 then
 if x6.length = (List.map Q1 v3).length then
 some (.inr ([], v1.snd))
 else none
 else
 ix x0 x14 >>= fun v4 =>
 Y6 v4.fAt >>= fun v5 =>
 if 0 ≤ x14 ∧ x14 < (↑x6.length : Int) then
 if x14.toNat < (List.map Q1 v3).length then
 ix x0 x14 >>= fun v6 =>
 some (List.length v6.fAt : Int) >>= fun v7 =>
 some (x14, x14, v7) >>= fun v8 =>
 ZE x0 (v3, v5) x14 v7 0 >>= fun v9 => (match v9 with
 | (.inl v10) =>
 v10.fst[v8.fst.toNat]? >>= fun v11 =>
 some (List.set v10.fst v8.fst.toNat (Q6.mk v11.fo v11.fH v10.snd)) >>= fun v12 =>
 ZM x0 v12 x13 (wr (v8.snd.fst + 1))
 | (.inr v13) =>
 some (.inr (v13.fst, v13.snd.fst)))
 else none
 else none
 else none
 else
 some (.inl x6)
 partial_fixpoint
theorem C3 (x0 x6 x13 x14 o) (h : ZM x0 x6 x13 x14 = some o) : LO 151 4 79 [0, 1, 6, 13, 14] [.sl 4 (List.map Q1 x0), .fn 111 [], .ow 0 0 4 (List.length x6), ii x13, ii x14] [.own 0 4 (List.map Q1 x6)] [4, 5, 6] (Zo x0 x13 o) :=
 ZM.partial_correctness x0 x13 (fun x6 x14 o => LO 151 4 79 [0, 1, 6, 13, 14] [.sl 4 (List.map Q1 x0), .fn 111 [], .ow 0 0 4 (List.length x6), ii x13, ii x14] [.own 0 4 (List.map Q1 x6)] [4, 5, 6] (Zo x0 x13 o))
 (fun ZM OD x6 x14 o h  =>
 Lp2 (hs := [(15, .split), (23, .e Q1), (26, .c Qx), (29, .s), (1000030, .n Q1 30 (some (.e Q1))), (32, .split), (38, .e Q1), (41, .h [] K5 K0), (42, .s), (1000043, .s), (46, .e Q1), (49, .n eI 49 none), (77, .fl Q1 6 none), (3000012, .l [] [0, 1, 6, 8, 13, 14, 49, 50] [kk 6, { slot := 6, path := [0] }] [0, 1, 4, 5, 6, 13, 14] [{ slot := 4, fz := true }, kk 6, { slot := 6, path := [0] }] (ZC (x0, x13)))]) (kb := [{ slot := 6, own := 4 }]) (kbx := [{ slot := 4, fz := true }, { slot := 6, fz := true }]) ((kIfD (p := x14 < x13) (kIx (enc := Q1) (l := x0) (k := x14) fun v0 => (kC (sh := Qx) (Js v0.fo) fun v1 => (kG (p := 0 ≤ x14 ∧ x14 < (↑x6.length : Int)) (kOx (enc := Q1) (l := x6) (k := x14.toNat) fun v2 => (kBE (sh := Q1) (List.set x6 x14.toNat (Q6.mk v1.fst v2.fH v2.fAt)) (mS (sh := Q1) x6 x14.toNat (Q6.mk v1.fst v2.fH v2.fAt)) fun v3 ev3 => (kIf (c := v1.snd != 0) (kG (p := x6.length = (List.map Q1 v3).length) (kX (alts := Zo x0 x13) (.inr ([], v1.snd)) (.next (.here _ rfl (.cons (LeV.nil 4) (.cons lr (.cons (LeV.undef (AV.sl (4 : Nat) (List.map Q1 v3))) .nil))) (.refl _)))))
 (kIx (enc := Q1) (l := x0) (k := x14) fun v4 => (kH (sh := K5) (bt := K0) (GH v4.fAt) fun v5 => (kG (p := 0 ≤ x14 ∧ x14 < (↑x6.length : Int)) (kG (p := x14.toNat < (List.map Q1 v3).length) (kIx (enc := Q1) (l := x0) (k := x14) fun v6 => (kN _ (mLen (sh := Qb) v6.fAt) fun v7 => (kL2 (x14, x14, v7) (hL := (fun y hy => Xt.le (.cons lr (.cons lr (.cons (LeV.owl (by simp [ev3] : x6.length = List.length v3)) (.cons lr (.cons lr (.cons lr (.cons lr (.cons lr .nil)))))))) (.refl _) (DF x0 (v3, v5) x14 x13 x14 v7 0 y hy))) (hA := fun v8 v10 => (kT (nM (sh := Qb) v10.snd) (kOx (enc := Q1) (l := v10.fst) (k := v8.fst.toNat) fun v11 => (kBE (sh := Q1) (List.set v10.fst v8.fst.toNat (Q6.mk v11.fo v11.fH v10.snd)) (mS (sh := Q1) v10.fst v8.fst.toNat (Q6.mk v11.fo v11.fH v10.snd)) fun v12 ev12 => (kM (alts := Zo x0 x13) (.cons lr (.cons lr (.cons (LeV.owl (by simp [ev12, ev3] : v10.fst.length = List.length v12)) (.cons lr (.cons lr .nil))))) (.refl _) (OD v12 (wr (v8.snd.fst + 1))))))))
 (hB := fun v8 v13 => (kT (nM (sh := Q1) v13.snd.snd) (kX (alts := Zo x0 x13) (.inr (v13.fst, v13.snd.fst)) (.next (.here _ rfl (.cons lr (.cons lr (.cons (LeV.undef (AV.sl (4 : Nat) (List.map Q1 v13.snd.snd))) .nil))) (.refl _)))))))))))))))))))
 (kT (nM (sh := Q1) x6) (kX (alts := Zo x0 x13) (.inl x6) (.here _ rfl (.refl _) (.refl _))))) h)) x6 x14 o h
def Kf (x0 : List Q6) : Option (List Q6 × Int) :=
 XM x0 >>= fun v0 =>
 some (List.length x0 : Int) >>= fun v1 =>
 some v1 >>= fun v2 =>
 ZM x0 v0 v1 0 >>= fun v3 => (match v3 with
 | (.inl v4) =>
 some (v4, (0 : Int))
 | (.inr v5) =>
 some (v5.fst, v5.snd))
theorem Uf (x0 r) (h : Kf x0 = some r) : PU 151 [KA x0, .fn 111 []] (Xv r) :=
 Pu2 (hs := [(11, .h [] Yw Yu), (13, .n eI 13 none), (3000005, .l [] [0, 1, 6, 13, 14] [{ slot := 6, own := 4 }] [4, 5, 6] [{ slot := 4, fz := true }, { slot := 6, fz := true }] (Zo x0))]) ((kH (sh := Yw) (bt := Yu) (UM x0) fun v0 => (kN _ (mLen (sh := Q1) x0) fun v1 => (kL2 v1 (hL := (C3 x0 v0 v1 0)) (hA := fun v2 v4 => (kEr (enc := Xv) (v4, (0 : Int))))
 (hB := fun v2 v5 => (kEr (enc := Xv) (v5.fst, v5.snd)))))) h)
def X8 (s : Q3) (u : Int) (o : (Q3 × Q3) ⊕ (Q3 × Int × Q3)) : List Alt := lp o (.exit 0) (fun _ => [.ptr 0 0 0, .undef, .ptr 1 0 0]) (fun x => [.cells 0 (Qa x.1).cells, .cells 0 [ii x.2.fOp, .str x.2.fb, ii x.2.fy.fN, ii x.2.fy.fD, ii x.2.fa.fv, ii x.2.fa.fx, ii x.2.fa.fB, ii x.2.fa.fw, ii x.2.fa.fC, ii x.2.fo.fK, .sl 2 (List.map Q4 x.2.fo.fL), .sl 4 (List.map Q1 x.2.fi), .ow 2 0 13 (List.length x.2.ff)], .own 0 13 (List.map Qd x.2.ff)]) .ret (fun x => [.ptr 0 0 0, ii x.2.1, .ptr 1 0 0]) (fun x => [.cells 0 (Qa x.1).cells, .cells 0 [ii x.2.2.fOp, .str x.2.2.fb, ii x.2.2.fy.fN, ii x.2.2.fy.fD, ii x.2.2.fa.fv, ii x.2.2.fa.fx, ii x.2.2.fa.fB, ii x.2.2.fa.fw, ii x.2.2.fa.fC, ii x.2.2.fo.fK, .sl 2 (List.map Q4 x.2.2.fo.fL), .sl 4 (List.map Q1 x.2.2.fi), .ow 2 0 13 (List.length x.2.2.ff)], .own 0 13 (List.map Qd x.2.2.ff)])
mutual
def Xh (x0 : Q3) : Option (Q3 × Int) :=
 K1 x0.fo >>= fun v0 =>
 if v0.snd != 0 then
 some ((Qv.mk (0 : Int) [] (gVal.mk (0 : Int) (0 : Int)) (Qg.mk (0 : Int) (0 : Int) (0 : Int) (0 : Int) (0 : Int)) (gLin.mk (0 : Int) []) [] [] : Q3)) >>= fun v1 =>
 some (v1, v0.snd)
 else
 Kf x0.fi >>= fun v2 =>
 if v2.snd != 0 then
 some ((Qv.mk (0 : Int) [] (gVal.mk (0 : Int) (0 : Int)) (Qg.mk (0 : Int) (0 : Int) (0 : Int) (0 : Int) (0 : Int)) (gLin.mk (0 : Int) []) [] [] : Q3)) >>= fun v3 =>
 some (v3, v2.snd)
 else
 XX x0.ff >>= fun v4 =>
 some (List.length x0.ff : Int) >>= fun v5 =>
 some v5 >>= fun v6 =>
 Xa x0 (Qv.mk (0 : Int) [] (gVal.mk (0 : Int) (0 : Int)) (Qg.mk (0 : Int) (0 : Int) (0 : Int) (0 : Int) (0 : Int)) (gLin.mk (0 : Int) []) [] [] : Q3) (Qv.mk x0.fOp x0.fb x0.fy x0.fa v0.fst v2.fst v4 : Q3) v5 (0 : Int) >>= fun v7 => (match v7 with
 | (.inl v8) =>
 some (v8.snd, (0 : Int))
 | (.inr v9) =>
 some (v9.fst, v9.snd.fst))
 partial_fixpoint
def Xa (x2 : Q3) (x4 : Q3) (x6 : Q3) (x40 : Int) (x41 : Int) : Option ((Q3 × Q3) ⊕ (Q3 × Int × Q3)) :=
 if x41 < x40 then
 Option.map Qf.f (ix x2.ff x41) >>= fun v0 =>
 Xh v0 >>= fun v1 =>
 if 0 ≤ x41 ∧ x41 < (↑x6.ff.length : Int) then
 if x41.toNat < (List.map Qd x6.ff).length then
 some (List.set x6.ff x41.toNat (Qf.mk v1.fst)) >>= fun v2 =>
 if v1.snd != 0 then
 some ((Qv.mk (0 : Int) [] (gVal.mk (0 : Int) (0 : Int)) (Qg.mk (0 : Int) (0 : Int) (0 : Int) (0 : Int) (0 : Int)) (gLin.mk (0 : Int) []) [] [] : Q3)) >>= fun v3 =>
 some (.inr (v3, v1.snd, (Qv.mk x6.fOp x6.fb x6.fy x6.fa x6.fo x6.fi v2 : Q3)))
 else
 Xa x2 x4 (Qv.mk x6.fOp x6.fb x6.fy x6.fa x6.fo x6.fi v2 : Q3) x40 (wr (x41 + 1))
 else none
 else none
 else
 some (.inl (x4, x6))
 partial_fixpoint
end
theorem WD  : (∀ (x0 : Q3) (r : (Q3 × Int)), Xh x0 = some r → PU 152 [Qa x0, .fn 111 []] (Zt r)) ∧ (∀ (x2 : Q3) (x4 : Q3) (x6 : Q3) (x40 : Int) (x41 : Int) (o : (Q3 × Q3) ⊕ (Q3 × Int × Q3)), Xa x2 x4 x6 x40 x41 = some o → LO 152 11 64 [1, 2, 4, 6, 40, 41] [.fn 111 [], .ptr 0 0 0, .ptr 1 0 0, .ptr 2 0 0, ii x40, ii x41] [.cells 0 (Qa x2).cells, .cells 0 (Qa x4).cells, .cells 0 [ii x6.fOp, .str x6.fb, ii x6.fy.fN, ii x6.fy.fD, ii x6.fa.fv, ii x6.fa.fx, ii x6.fa.fB, ii x6.fa.fw, ii x6.fa.fC, ii x6.fo.fK, .sl 2 (List.map Q4 x6.fo.fL), .sl 4 (List.map Q1 x6.fi), .ow 3 0 13 (List.length x6.ff)], .own 0 13 (List.map Qd x6.ff)] [4, 5, 6] (X8 x2 x40 o)) :=
 Xh.mutual_partial_correctness  _ _
 (fun Xa Oz x0 r h  =>
 Pu2 (hs := [(14, .c Qx), (19, .split), (20, .n Qa 20 none), (26, .c Xv), (31, .split), (32, .n Qa 32 none), (36, .h [] YM YI), (40, .n eI 40 none), (3000012, .l [] [1, 2, 4, 6, 40, 41] [kk 2, kk 4, kk 6, { slot := 6, path := [12], own := 13 }] [4, 5, 6] [kk 4, kk 6, { slot := 6, path := [12], own := 13 }] (X8 x0))]) ((kC (sh := Qx) (Js x0.fo) fun v0 => (kIf (c := v0.snd != 0) (kW (sh := Qa) (Qv.mk (0 : Int) [] (gVal.mk (0 : Int) (0 : Int)) (Qg.mk (0 : Int) (0 : Int) (0 : Int) (0 : Int) (0 : Int)) (gLin.mk (0 : Int) []) [] [] : Q3) (LeV.agg (.cons lr (.cons lr (.cons lr (.cons lr (.cons lr (.cons lr (.cons lr (.cons lr (.cons lr (.cons lr (.cons (LeV.nil 2) (.cons (LeV.nil 4) (.cons (LeV.nil 13) .nil)))))))))))))) fun v1 => (kEr (enc := Zt) (v1, v0.snd)))
 (kC (sh := Xv) (Uf x0.fi) fun v2 => (kIf (c := v2.snd != 0) (kW (sh := Qa) (Qv.mk (0 : Int) [] (gVal.mk (0 : Int) (0 : Int)) (Qg.mk (0 : Int) (0 : Int) (0 : Int) (0 : Int) (0 : Int)) (gLin.mk (0 : Int) []) [] [] : Q3) (LeV.agg (.cons lr (.cons lr (.cons lr (.cons lr (.cons lr (.cons lr (.cons lr (.cons lr (.cons lr (.cons lr (.cons (LeV.nil 2) (.cons (LeV.nil 4) (.cons (LeV.nil 13) .nil)))))))))))))) fun v3 => (kEr (enc := Zt) (v3, v2.snd)))
 (kH (sh := YM) (bt := YI) (Gs x0.ff) fun v4 => (kN _ (mLen (sh := Qd) x0.ff) fun v5 => (kL2 v5 (hL := (fun y hy => Xt.le (.cons lr (.cons lr (.cons lr (.cons lr (.cons lr (.cons lr .nil)))))) (.cons (LeB.refl (Box.cells (0 : Nat) [ii x0.fOp, AV.str x0.fb, ii x0.fy.fN, ii x0.fy.fD, ii x0.fa.fv, ii x0.fa.fx, ii x0.fa.fB, ii x0.fa.fw, ii x0.fa.fC, ii x0.fo.fK, AV.sl (2 : Nat) (List.map Q4 x0.fo.fL), AV.sl (4 : Nat) (List.map Q1 x0.fi), AV.sl (13 : Nat) (List.map Qd x0.ff)])) (.cons (LeB.cells (0 : Nat) (.cons lr (.cons lr (.cons lr (.cons lr (.cons lr (.cons lr (.cons lr (.cons lr (.cons lr (.cons lr (.cons (LeV.nil 2) (.cons (LeV.nil 4) (.cons (LeV.nil 13) .nil)))))))))))))) (.cons (LeB.refl (Box.cells (0 : Nat) [ii x0.fOp, AV.str x0.fb, ii x0.fy.fN, ii x0.fy.fD, ii x0.fa.fv, ii x0.fa.fx, ii x0.fa.fB, ii x0.fa.fw, ii x0.fa.fC, ii v0.fst.fK, AV.sl (2 : Nat) (List.map Q4 v0.fst.fL), AV.sl (4 : Nat) (List.map Q1 v2.fst), AV.ow (3 : Nat) (0 : Nat) (13 : Nat) v4.length])) (.cons (LeB.refl (Box.own (0 : Nat) (13 : Nat) (List.map Qd v4))) .nil)))) (Oz x0 (Qv.mk (0 : Int) [] (gVal.mk (0 : Int) (0 : Int)) (Qg.mk (0 : Int) (0 : Int) (0 : Int) (0 : Int) (0 : Int)) (gLin.mk (0 : Int) []) [] [] : Q3) (Qv.mk x0.fOp x0.fb x0.fy x0.fa v0.fst v2.fst v4 : Q3) v5 (0 : Int) y hy))) (hA := fun v6 v8 => (kT (nM (sh := Qd) v8.snd.ff) (kEr (enc := Zt) (v8.snd, (0 : Int)))))
 (hB := fun v6 v9 => (kEr (enc := Zt) (v9.fst, v9.snd.fst)))))))))) h))
 (fun Xh Xa Oy Oz x2 x4 x6 x40 x41 o h  =>
 Lp2 (hs := [(42, .split), (51, .e Qa), (54, .c Zt), (57, .s), (1000057, .n Qd 57 (some .s)), (59, .split), (60, .n Qa 60 none)]) (kb := [kk 2, kk 4, kk 6, { slot := 6, path := [12], own := 13 }]) (kbx := [kk 4, kk 6, { slot := 6, path := [12], own := 13 }]) ((kIfD (p := x41 < x40) (kIxR (l := x2.ff) (k := x41) Ju fun v0 => (kC (sh := Zt) (Oy v0) fun v1 => (kG (p := 0 ≤ x41 ∧ x41 < (↑x6.ff.length : Int)) (kG (p := x41.toNat < (List.map Qd x6.ff).length) (kBE (sh := Qd) (List.set x6.ff x41.toNat (Qf.mk v1.fst)) (mSR R8 x6.ff x41.toNat v1.fst) fun v2 ev2 => (kIf (c := v1.snd != 0) (kW (sh := Qa) (Qv.mk (0 : Int) [] (gVal.mk (0 : Int) (0 : Int)) (Qg.mk (0 : Int) (0 : Int) (0 : Int) (0 : Int) (0 : Int)) (gLin.mk (0 : Int) []) [] [] : Q3) (LeV.agg (.cons lr (.cons lr (.cons lr (.cons lr (.cons lr (.cons lr (.cons lr (.cons lr (.cons lr (.cons lr (.cons (LeV.nil 2) (.cons (LeV.nil 4) (.cons (LeV.nil 13) .nil)))))))))))))) fun v3 => (kX (alts := X8 x2 x40) (.inr (v3, v1.snd, (Qv.mk x6.fOp x6.fb x6.fy x6.fa x6.fo x6.fi v2 : Q3))) (.next (.here _ rfl (.cons lr (.cons lr (.cons lr .nil))) (.cons (LeB.refl (Box.cells (0 : Nat) [ii v3.fOp, AV.str v3.fb, ii v3.fy.fN, ii v3.fy.fD, ii v3.fa.fv, ii v3.fa.fx, ii v3.fa.fB, ii v3.fa.fw, ii v3.fa.fC, ii v3.fo.fK, AV.sl (2 : Nat) (List.map Q4 v3.fo.fL), AV.sl (4 : Nat) (List.map Q1 v3.fi), AV.sl (13 : Nat) (List.map Qd v3.ff)])) (.cons (LeB.cells (0 : Nat) (.cons lr (.cons lr (.cons lr (.cons lr (.cons lr (.cons lr (.cons lr (.cons lr (.cons lr (.cons lr (.cons lr (.cons lr (.cons (LeV.owl (by simp [ev2] : x6.ff.length = List.length v2)) .nil)))))))))))))) (.cons (LeB.refl (Box.own (0 : Nat) (13 : Nat) (List.map Qd v2))) .nil)))))))
 (kM (alts := X8 x2 x40) (.cons lr (.cons lr (.cons lr (.cons lr (.cons lr (.cons lr .nil)))))) (.cons (LeB.refl (Box.cells (0 : Nat) [ii x2.fOp, AV.str x2.fb, ii x2.fy.fN, ii x2.fy.fD, ii x2.fa.fv, ii x2.fa.fx, ii x2.fa.fB, ii x2.fa.fw, ii x2.fa.fC, ii x2.fo.fK, AV.sl (2 : Nat) (List.map Q4 x2.fo.fL), AV.sl (4 : Nat) (List.map Q1 x2.fi), AV.sl (13 : Nat) (List.map Qd x2.ff)])) (.cons (LeB.refl (Box.cells (0 : Nat) [ii x4.fOp, AV.str x4.fb, ii x4.fy.fN, ii x4.fy.fD, ii x4.fa.fv, ii x4.fa.fx, ii x4.fa.fB, ii x4.fa.fw, ii x4.fa.fC, ii x4.fo.fK, AV.sl (2 : Nat) (List.map Q4 x4.fo.fL), AV.sl (4 : Nat) (List.map Q1 x4.fi), AV.sl (13 : Nat) (List.map Qd x4.ff)])) (.cons (LeB.cells (0 : Nat) (.cons lr (.cons lr (.cons lr (.cons lr (.cons lr (.cons lr (.cons lr (.cons lr (.cons lr (.cons lr (.cons lr (.cons lr (.cons (LeV.owl (by simp [ev2] : x6.ff.length = List.length v2)) .nil)))))))))))))) (.cons (LeB.refl (Box.own (0 : Nat) (13 : Nat) (List.map Qd v2))) .nil)))) (Oz x2 x4 (Qv.mk x6.fOp x6.fb x6.fy x6.fa x6.fo x6.fi v2 : Q3) x40 (wr (x41 + 1))))))))))
 (kX (alts := X8 x2 x40) (.inl (x4, x6)) (.here _ rfl (.refl _) (.refl _)))) h))
theorem Ng (x0 r) (h : Xh x0 = some r) : PU 152 [Qa x0, .fn 111 []] (Zt r) := (WD ).1 x0 r h
def QN (s : List Q7) (u : Int) (o : (List Q7) ⊕ ((List Q7) × Int)) : List Alt := lp o (.exit 0) (fun x => [.undef, .undef, .sl 20 (List.map Q9 x)]) (fun _ => []) .ret (fun x => [.sl 20 (List.map Q9 x.1), ii x.2, .undef]) (fun _ => [])
def Yc (s : ((List Q7) × Int)) (u : (Int × Int)) (o : List Q7) : List Alt := l1 o .normal (fun x => [.sl 20 (List.map Q9 (s.1)), .fn 111 [], .fn 113 [], .ow 0 0 20 (List.length x), ii (u.1), ii (s.2), ii (u.2)]) (fun x => [.own 0 20 (List.map Q9 x)])
mutual
def Zq (x0 : List Q7) : Option (List Q7 × Int) :=
 XY x0 >>= fun v0 =>
 some (List.length x0 : Int) >>= fun v1 =>
 some v1 >>= fun v2 =>
 Zw x0 v0 v1 0 >>= fun v3 => (match v3 with
 | (.inl v4) =>
 some (v4, (0 : Int))
 | (.inr v5) =>
 some (v5.fst, v5.snd))
 partial_fixpoint
def Zw (x0 : List Q7) (x8 : List Q7) (x14 : Int) (x15 : Int) : Option ((List Q7) ⊕ ((List Q7) × Int)) :=
 if x15 < x14 then
 some (x15, x15) >>= fun v0 =>
 (Option.map Q7.f (ix x0 x15) >>= fun v2 =>
 if v2.fOp == 1 then
 Option.map Q7.f (ix x0 x15) >>= fun v3 =>
 Uz v3.fb >>= fun v4 =>
 if 0 ≤ x15 ∧ x15 < (↑x8.length : Int) then
 Option.map Q7.f x8[x15.toNat]? >>= fun v5 =>
 some (List.set x8 x15.toNat (Q7.mk (QC.mk v5.fOp v4 v5.fE v5.fG v5.fF v5.fi v5.fq v5.fd : Qe))) >>= fun v6 =>
 some v6
 else none
 else
 some x8) >>= fun v7 =>
 Option.map Q7.f (ix x0 v0.fst) >>= fun v8 =>
 Kf v8.fi >>= fun v9 =>
 if 0 ≤ v0.fst ∧ v0.fst < (↑(List.length v7) : Int) then
 Option.map Q7.f v7[v0.fst.toNat]? >>= fun v10 =>
 some (List.set v7 v0.fst.toNat (Q7.mk (QC.mk v10.fOp v10.fb v10.fE v10.fG v10.fF v9.fst v10.fq v10.fd : Qe))) >>= fun v11 =>
 if v9.snd != 0 then
 if List.length v7 = (List.map Q9 v11).length then
 some (.inr ([], v9.snd))
 else none
 else
 Option.map Q7.f (ix x0 v0.fst) >>= fun v12 =>
 Xh v12.fq >>= fun v13 =>
 if 0 ≤ v0.fst ∧ v0.fst < (↑(List.length v7) : Int) then
 Option.map Q7.f v11[v0.fst.toNat]? >>= fun v14 =>
 some (List.set v11 v0.fst.toNat (Q7.mk (QC.mk v14.fOp v14.fb v14.fE v14.fG v14.fF v14.fi v13.fst v14.fd : Qe))) >>= fun v15 =>
 if v13.snd != 0 then
 if List.length v7 = (List.map Q9 v15).length then
 some (.inr ([], v13.snd))
 else none
 else
 Option.map Q7.f (ix x0 v0.fst) >>= fun v16 =>
 Zq v16.fd >>= fun v17 =>
 if 0 ≤ v0.fst ∧ v0.fst < (↑(List.length v7) : Int) then
 Option.map Q7.f v15[v0.fst.toNat]? >>= fun v18 =>
 some (List.set v15 v0.fst.toNat (Q7.mk (QC.mk v18.fOp v18.fb v18.fE v18.fG v18.fF v18.fi v18.fq v17.fst : Qe))) >>= fun v19 =>
 if v17.snd != 0 then
 if List.length v7 = (List.map Q9 v19).length then
 some (.inr ([], v17.snd))
 else none
 else
 Zw x0 v19 x14 (wr (v0.snd + 1))
 else none
 else none
 else none
 else
 some (.inl x8)
 partial_fixpoint
end
theorem DC  : (∀ (x0 : List Q7) (r : (List Q7 × Int)), Zq x0 = some r → PU 110 [ZG x0, .fn 111 [], .fn 113 []] (Zd r)) ∧ (∀ (x0 : List Q7) (x8 : List Q7) (x14 : Int) (x15 : Int) (o : (List Q7) ⊕ ((List Q7) × Int)), Zw x0 x8 x14 x15 = some o → LO 110 4 89 [0, 1, 2, 8, 14, 15] [.sl 20 (List.map Q9 x0), .fn 111 [], .fn 113 [], .ow 0 0 20 (List.length x8), ii x14, ii x15] [.own 0 20 (List.map Q9 x8)] [6, 7, 8] (QN x0 x14 o)) :=
 Zq.mutual_partial_correctness  _ _
 (fun Zw OH x0 r h  =>
 Pu2 (hs := [(12, .h [] YN YJ), (14, .n eI 14 none), (3000005, .l [] [0, 1, 2, 8, 14, 15] [{ slot := 8, own := 20 }] [6, 7, 8] [{ slot := 6, fz := true }, { slot := 8, fz := true }] (QN x0))]) ((kH (sh := YN) (bt := YJ) (Gt x0) fun v0 => (kN _ (mLen (sh := Q9) x0) fun v1 => (kL2 v1 (hL := (OH x0 v0 v1 0)) (hA := fun v2 v4 => (kEr (enc := Zd) (v4, (0 : Int))))
 (hB := fun v2 v5 => (kEr (enc := Zd) (v5.fst, v5.snd)))))) h))
 (fun Zq Zw OG OH x0 x8 x14 x15 o h  =>
 Lp2 (hs := [(16, .split), (20, .e Qm), (23, .split), (29, .e Qm), (32, .c eS), (33, .s), (1000034, .n Q9 34 (some (.e Qm))), (40, .e Qm), (44, .c Xv), (47, .s), (1000048, .n Q9 48 (some (.e Qm))), (50, .split), (57, .e Qm), (61, .c Zt), (64, .s), (1000065, .n Q9 65 (some (.e Qm))), (67, .split), (74, .e Qm), (79, .c Zd), (82, .s), (1000083, .n Q9 83 (some (.e Qm))), (85, .split), (6000008, .l [] [] [] [0, 1, 2, 8, 10, 14, 15] [{ slot := 8, own := 20 }] (Yc (x0, x14)))]) (kb := [{ slot := 8, own := 20 }]) (kbx := [{ slot := 6, fz := true }, { slot := 8, fz := true }]) ((kIfD (p := x15 < x14) (kJ1 (id := 6000008) (x15, x15) (fun v0 ev0 v1 => (kIxR (l := x0) (k := x15) Zy fun v2 => (kIf (c := v2.fOp == 1) (kIxR (l := x0) (k := x15) Zy fun v3 => (kC (sh := eS) (Nn v3.fb) fun v4 => (kG (p := 0 ≤ x15 ∧ x15 < (↑x8.length : Int)) (kOxR (l := x8) (k := x15.toNat) Zy fun v5 => (kBE (sh := Q9) (List.set x8 x15.toNat (Q7.mk (QC.mk v5.fOp v4 v5.fE v5.fG v5.fF v5.fi v5.fq v5.fd : Qe))) (mSR Jh x8 x15.toNat (QC.mk v5.fOp v4 v5.fE v5.fG v5.fF v5.fi v5.fq v5.fd : Qe)) fun v6 ev6 => (kXj (alts := Yc (x0, x14)) ev0 v6 (.here _ rfl (.cons lr (.cons lr (.cons lr (.cons (LeV.owl (by simp [ev6] : x8.length = List.length v6)) (.cons lr (.cons lr (.cons lr .nil))))))) (.refl _))))))))
 (kXj (alts := Yc (x0, x14)) ev0 x8 (.here _ rfl (.refl _) (.refl _))))))
 (fun v0 v7 => (kIxR (l := x0) (k := v0.fst) Zy fun v8 => (kC (sh := Xv) (Uf v8.fi) fun v9 => (kG (p := 0 ≤ v0.fst ∧ v0.fst < (↑(List.length v7) : Int)) (kOxR (l := v7) (k := v0.fst.toNat) Zy fun v10 => (kBE (sh := Q9) (List.set v7 v0.fst.toNat (Q7.mk (QC.mk v10.fOp v10.fb v10.fE v10.fG v10.fF v9.fst v10.fq v10.fd : Qe))) (mSR Jh v7 v0.fst.toNat (QC.mk v10.fOp v10.fb v10.fE v10.fG v10.fF v9.fst v10.fq v10.fd : Qe)) fun v11 ev11 => (kIf (c := v9.snd != 0) (kG (p := List.length v7 = (List.map Q9 v11).length) (kX (alts := QN x0 x14) (.inr ([], v9.snd)) (.next (.here _ rfl (.cons (LeV.nil 20) (.cons lr (.cons (LeV.undef (AV.sl (20 : Nat) (List.map Q9 v11))) .nil))) (.refl _)))))
 (kIxR (l := x0) (k := v0.fst) Zy fun v12 => (kC (sh := Zt) (Ng v12.fq) fun v13 => (kG (p := 0 ≤ v0.fst ∧ v0.fst < (↑(List.length v7) : Int)) (kOxR (l := v11) (k := v0.fst.toNat) Zy fun v14 => (kBE (sh := Q9) (List.set v11 v0.fst.toNat (Q7.mk (QC.mk v14.fOp v14.fb v14.fE v14.fG v14.fF v14.fi v13.fst v14.fd : Qe))) (mSR Jh v11 v0.fst.toNat (QC.mk v14.fOp v14.fb v14.fE v14.fG v14.fF v14.fi v13.fst v14.fd : Qe)) fun v15 ev15 => (kIf (c := v13.snd != 0) (kG (p := List.length v7 = (List.map Q9 v15).length) (kX (alts := QN x0 x14) (.inr ([], v13.snd)) (.next (.here _ rfl (.cons (LeV.nil 20) (.cons lr (.cons (LeV.undef (AV.sl (20 : Nat) (List.map Q9 v15))) .nil))) (.refl _)))))
 (kIxR (l := x0) (k := v0.fst) Zy fun v16 => (kC (sh := Zd) (OG v16.fd) fun v17 => (kG (p := 0 ≤ v0.fst ∧ v0.fst < (↑(List.length v7) : Int)) (kOxR (l := v15) (k := v0.fst.toNat) Zy fun v18 => (kBE (sh := Q9) (List.set v15 v0.fst.toNat (Q7.mk (QC.mk v18.fOp v18.fb v18.fE v18.fG v18.fF v18.fi v18.fq v17.fst : Qe))) (mSR Jh v15 v0.fst.toNat (QC.mk v18.fOp v18.fb v18.fE v18.fG v18.fF v18.fi v18.fq v17.fst : Qe)) fun v19 ev19 => (kIf (c := v17.snd != 0) (kG (p := List.length v7 = (List.map Q9 v19).length) (kX (alts := QN x0 x14) (.inr ([], v17.snd)) (.next (.here _ rfl (.cons (LeV.nil 20) (.cons lr (.cons (LeV.undef (AV.sl (20 : Nat) (List.map Q9 v19))) .nil))) (.refl _)))))
 (kM (alts := QN x0 x14) (.cons lr (.cons lr (.cons lr (.cons (LeV.owl (by simp [ev19, ev15, ev11] : List.length v7 = List.length v19)) (.cons lr (.cons lr .nil)))))) (.refl _) (OH x0 v19 x14 (wr (v0.snd + 1))))))))))))))))))))))))
 (kT (nM (sh := Q9) x8) (kX (alts := QN x0 x14) (.inl x8) (.here _ rfl (.refl _) (.refl _))))) h))
theorem C5 (x0 r) (h : Zq x0 = some r) : PU 110 [ZG x0, .fn 111 [], .fn 113 []] (Zd r) := (DC ).1 x0 r h
def U6 (x0 : List Q7) : Option (List Q7) :=
 Zq x0 >>= fun v0 =>
 some v0.fst
theorem Mm (x0 r) (h : U6 x0 = some r) : PU 68 [ZG x0] (ZG r) :=
 Pu2 (hs := [(7, .c Zd)]) ((kC (sh := Zd) (C5 x0) fun v0 => (kEr (enc := ZG) v0.fst)) h)
end Go.Proofs.YtkgphhemcglgnaaGreatDoor
end
section
namespace HY
open Go
section
variable {α : Type} {f : α → Nat}
end
theorem Qf.ind {P : Qf → Prop} (h : ∀ x : Q3, (∀ a ∈ x.ff, P a) → P (.mk x)) : ∀ e, P e
 | .mk x => h x (fun a ha => Qf.ind h a)
 termination_by e => sizeOf e
 decreasing_by exact Qf.lt ha
theorem Q7.ind {P : Q7 → Prop} (h : ∀ x : Qe, (∀ a ∈ x.fd, P a) → P (.mk x)) : ∀ e, P e
 | .mk x => h x (fun a ha => Q7.ind h a)
 termination_by e => sizeOf e
 decreasing_by exact Q7.lt ha
def X7 : Qf → List Qf
 | .mk x => .mk x :: (x.ff.attach.map fun a => X7 a.1).flatten
 termination_by e => SizeOf.sizeOf e
 decreasing_by exact Qf.lt a.2
theorem MJ (x : Q3) : X7 (.mk x) = .mk x :: (x.ff.map X7).flatten := by rw [X7]; simp
def DQ (l : List Qf) : List Qf := (l.map X7).flatten
theorem NO (a : Qf) (l : List Qf) : DQ (a :: l) = X7 a ++ DQ l := by simp [DQ]
end HY
end
section
namespace Go.Proofs.YtkgphhemcglgnaaGreatDoor
open Go HY
set_option maxRecDepth 1000000
set_option linter.unusedVariables false
inductive aE : Qf → Prop
 | mk (x : Q3) : x.ff.length ≤ 4611686018427387904 → (∀ a ∈ x.ff, aE a) → aE (.mk x)
theorem aE.of {x : Q3} (h : aE (.mk x)) : x.ff.length ≤ 4611686018427387904 ∧ ∀ a ∈ x.ff, aE a := by
 cases h with
 | mk _ h1 h2 => exact ⟨h1, h2⟩
abbrev RT := { x : Q3 // aE (.mk x) }
def WT (x : RT) : AV := .fn 139 [.ip 13 [Qa x.1] 0 0]
def yvl (l : Nat) : AV := .val (.func (.yield l) #[] #[])
theorem Ak {l : Nat} {xs : List (List AV)} {m n : Nat} {a : List Qf} (hn : a.length = n) (hn2 : n ≤ 4611686018427387904)
  (hF : ∀ e ∈ a, ∀ k, (∀ (j : Nat) (y : Qf), (X7 e)[j]? = some y → xs[k + j]? = some [Qa y.f]) → JF Tryz.prog gls l xs 140 [Qa e.f, yvl l] (some k) true (k + (X7 e).length)) :
  ∀ (t p : List Qf) (k : Nat), a = p ++ t → k + (DQ t).length = m → (∀ (j : Nat) (y : Qf), (DQ t)[j]? = some y → xs[k + j]? = some [Qa y.f]) →
   JLo 140 4 23 l xs [1, 12, 13, 14] [yvl l, .sl 13 (a.map Qd), ii n, ii p.length] [] (some k) [4] (.exit 0, [.undef]) (.ret, [.bool false]) m
 | t, p, k, ha, hm, hx => by
  refine JL1 (φ := (decide ((p.length : Int) < n) = true → ∃ x : Q3, ((0 : Int) ≤ p.length ∧ (a.map Qd)[Int.toNat p.length]? = some (Qa x)) ∧ ∃ q, JF Tryz.prog gls l xs 140 [Qa x, yvl l] (some k) true q ∧
   NxtJ Tryz.prog gls l xs 23 (V8 Tryz.prog 140 (4 + 1)) [1, 12, 13, 14] [4] (.exit 0, [.undef]) (.ret, [.bool false]) m [yvl l, .sl 13 (a.map Qd), ii n, ii (wr ((p.length : Int) + 1))] [] (some q) ∧ JO (.exit 0, [.undef]) (.ret, [.bool false]) m .ret none [.bool false] []) ∧
   (decide ((p.length : Int) < n) = false → JO (.exit 0, [.undef]) (.ret, [.bool false]) m (.exit 0) (some k) [.undef] [])) (hs := [(15, .split), (16, .e Qa)]) (js := []) (kb := []) (by kernel_rfl) (by kernel_rfl) ⟨fun h => ?_, fun h => ?_⟩
  ·have h := of_decide_eq_true h
   cases t with
   | nil => subst ha; simp at hn; omega
   | cons e t =>
    have hlen : p.length < a.length := by rw [ha]; simp
    refine ⟨e.f, ⟨by omega, ?_⟩, k + (X7 e).length, hF e (by rw [ha]; simp) k (fun j y hj => hx j y ?_), ⟨_, _, ?_, .refl _, Ak hn hn2 hF t (p ++ [e]) (k + (X7 e).length) (by rw [ha]; simp) (by rw [← hm, NO]; simp; omega) (fun j y hj => ?_)⟩, .b rfl rfl rfl⟩
    ·rw [List.getElem?_map, ha, Int.toNat_natCast, List.getElem?_append_right (Nat.le_refl _)]; simp [Ju]
    ·rw [NO, List.getElem?_append_left (List.getElem?_eq_some_iff.1 hj).1]; exact hj
    ·rw [show wr ((p.length : Int) + 1) = ((p ++ [e]).length : Int) by rw [ZI (by omega)]; simp]
     exact .refl _
    ·rw [Nat.add_assoc]
     exact hx _ y (by rw [NO, List.getElem?_append_right (Nat.le_add_right _ _), Nat.add_sub_cancel_left]; exact hj)
  ·have h := of_decide_eq_false h
   cases t with
   | nil => exact .a rfl (by rw [← hm]; rfl) rfl
   | cons e t => rw [ha] at hn; simp at hn; omega
theorem wk_walk (l : Nat) (xs : List (List AV)) : ∀ (e : Qf), aE e → ∀ k, (∀ (j : Nat) (y : Qf), (X7 e)[j]? = some y → xs[k + j]? = some [Qa y.f]) → JF Tryz.prog gls l xs 140 [Qa e.f, yvl l] (some k) true (k + (X7 e).length) :=
 Qf.ind fun x ih hw k hx => by
  obtain ⟨hargs, hall⟩ := hw.of
  have h0 := hx 0 (.mk x) (by rw [MJ]; rfl)
  refine JF1 (φ := l = l ∧ xs[k]? = some [Qa x] ∧ (∃ q, JLo 140 4 23 l xs [1, 12, 13, 14] [yvl l, .sl 13 (x.ff.map Qd), ii ((x.ff.map Qd).length : Nat), ii 0] [] (some (k + 1)) [4] (.exit 0, [.undef]) (.ret, [.bool false]) q ∧ JQ true (k + (X7 (.mk x)).length) (.bool true) (some q) ∧ JQ true (k + (X7 (.mk x)).length) (.bool false) none) ∧ JQ true (k + (X7 (.mk x)).length) (.bool false) none)
   (hs := []) (js := [(5, ⟨[1, 12, 13, 14], [], [4], (.exit 0, [.undef]), (.ret, [.bool false])⟩)]) (by kernel_rfl) ⟨rfl, h0, ⟨_, ?_, .inl ⟨rfl, rfl⟩, .inr ⟨rfl, rfl⟩⟩, .inr ⟨rfl, rfl⟩⟩
  have := Ak (l := l) (xs := xs) (m := k + (X7 (.mk x)).length) (n := x.ff.length) (a := x.ff) rfl hargs (fun e he => ih e he (hall e he)) x.ff [] (k + 1) rfl (by rw [MJ]; simp [DQ]; omega) (fun j y hj => by
   have := hx (j + 1) y (by rw [MJ]; exact hj)
   rw [← this]; congr 1; omega)
  rw [List.length_map]
  exact this
theorem EB (x : RT) : ItOk Tryz.prog gls 139 [.ip 13 [Qa x.1] 0 0] ((X7 (.mk x.1)).map fun y => [Qa y.f]) :=
 ItOk.of (J4 (by kernel_rfl)) false fun l =>
  JF1 (φ := ∃ q, JF Tryz.prog gls l ((X7 (.mk x.1)).map fun y => [Qa y.f]) 140 [Qa x.1, yvl l] (some 0) true q ∧ JQ false (((X7 (.mk x.1)).map fun y => [Qa y.f]).length) (.tup []) (some q) ∧ JQ false (((X7 (.mk x.1)).map fun y => [Qa y.f]).length) (.tup []) none)
   (hs := []) (js := []) (by kernel_rfl) ⟨_, wk_walk l _ (.mk x.1) x.2 0 (fun j y hj => by rw [Nat.zero_add, List.getElem?_map, hj]; rfl), ⟨rfl, .inl (by simp)⟩, ⟨rfl, .inr rfl⟩⟩
open Classical in
noncomputable def Uo (x0 : Q3) : Option RT := if h : aE (.mk x0) then some ⟨x0, h⟩ else none
theorem NR (x : Q3) (h : aE (.mk x)) : Uo x = some ⟨x, h⟩ := dif_pos h
theorem NJ (x0 : Q3) (r : RT) (h : Uo x0 = some r) : PU 98 [Qa x0] (WT r) := by
 unfold Uo at h
 split at h
 ·cases h
  exact Pu1 (φ := LeT (.fn 139 [.ip 13 [Qa x0] 0 0]) (.fn 139 [.ip 13 [Qa x0] 0 0])) (hs := []) (by kernel_rfl) (.refl _)
 ·cases h
end Go.Proofs.YtkgphhemcglgnaaGreatDoor
end
section
namespace Go.Proofs.YtkgphhemcglgnaaGreatDoor
open Go HY
set_option maxRecDepth 1000000
theorem cmpRun (a b : ByteArray) (w : World) : (callFunc 401 #[.string a, .string b]).run Tryz.prog w = .ok (.value (.int .i64 (Lib.compareBytes a.data.toList b.data.toList))) w := by
 rw [run_callFunc_extern (fn := Tryz.f401) (e := Extern.BytealgCompare.compare) (by kernel_rfl) (by kernel_rfl) (by kernel_rfl) (by kernel_rfl) (by kernel_rfl) #[.string a, .string b] w]
 rw [Lib.run_compareString]
 rfl
def xe0 : Ql := xcmp 401
theorem Na : Ql.Ok Tryz.prog gls xe0 := xcmp_ok cmpRun
def kws : List AV := [.str [115, 105, 122, 101],
 .str [119, 104, 101, 114, 101],
 .str [105, 110],
 .str [100, 101, 102],
 .str [111, 117, 116],
 .str [115, 117, 109],
 .str [112, 114, 111, 100],
 .str [109, 105, 110],
 .str [109, 97, 120],
 .str [115, 99, 97, 110],
 .str [111, 118, 101, 114],
 .str [105, 102],
 .str [99, 97, 115, 116],
 .str [102, 114, 97, 99],
 .str [105, 110, 116],
 .str [102, 105, 120],
 .str [99, 101, 105, 108],
 .str [102, 108, 111, 111, 114],
 .str [122, 101, 114, 111],
 .str [101, 118, 101, 110],
 .str [115, 97, 116],
 .str [119, 114, 97, 112]]
def Tz : Jb := [(192, [], .bs 0 0 1 0 22, pt .nil 0 (.cells 0 kws), 1)]
theorem LK : UL Tryz.prog gls Tz := fun e he => by
 rw [Tz, List.mem_singleton] at he
 subst he
 exact CU (Dp JX Na (T := []) (fun _ h => by cases h) 40 (fl := 100000)) (by kernel_rfl)
end Go.Proofs.YtkgphhemcglgnaaGreatDoor
end
section
namespace Go.Proofs.YtkgphhemcglgnaaGreatDoor
open Go HY
set_option maxRecDepth 1000000
set_option linter.unusedVariables false
def kwL : List Str := [[115, 105, 122, 101], [119, 104, 101, 114, 101], [105, 110], [100, 101, 102], [111, 117, 116], [115, 117, 109], [112, 114, 111, 100], [109, 105, 110], [109, 97, 120], [115, 99, 97, 110], [111, 118, 101, 114], [105, 102], [99, 97, 115, 116], [102, 114, 97, 99], [105, 110, 116], [102, 105, 120], [99, 101, 105, 108], [102, 108, 111, 111, 114], [122, 101, 114, 111], [101, 118, 101, 110], [115, 97, 116], [119, 114, 97, 112]]
theorem kwLe : ∀ (l : List AV) (s : List Str), l = s.map eS → LeEs (l.map fun x => AV.agg [x]) (s.map eS)
 | [], [], _ => .nil
 | _ :: _, _ :: _, h => by cases h; exact .cons (LeL.refl _) (kwLe _ _ rfl)
noncomputable def D8 : Option (List Str) := some kwL
theorem IY (r : List Str) (h : D8 = some r) : PU 192 [] (eLS r) := by
 cases h
 have h0 : KW Tryz.prog gls 192 [] (.bs 0 0 1 0 22) (pt .nil 0 (.cells 0 kws)) 1 := LK _ (List.mem_singleton.2 rfl)
 exact Pu.le (Pu.ofCall (r := .sl 1 (VX 1 22 kws)) h0 (by kernel_rfl)) .nil (LeT.sl (show LeEs (VX 1 22 kws) (kwL.map eS) from (show VX 1 22 kws = kws.map (fun x => AV.agg [x]) by kernel_rfl) ▸ kwLe kws kwL (by kernel_rfl)))
noncomputable def XB (x0 : Str) (x1 : Str) : Option Int := some (Lib.compareBytes x0 x1)
theorem Jx (x0 : Str) (x1 : Str) (r : Int) (h : XB x0 x1 = some r) : PU 401 [eS x0, eS x1] (eI r) := by
 cases h
 exact Pu.ofCall (Lo.zero (Na _ _ _ _ _ _ _ rfl)) rfl
end Go.Proofs.YtkgphhemcglgnaaGreatDoor
end
noncomputable section
namespace Go.Proofs.YtkgphhemcglgnaaGreatDoor
open Go HY
set_option maxRecDepth 1000000
set_option linter.unusedVariables false
def Kn (x0 : Qj) : Option Qj :=
 X0 x0.fI >>= fun v0 =>
 some (Qj.mk x0.fb x0.fa v0 x0.fJ)
theorem Dl (x0 r) (h : Kn x0 = some r) : PU 72 [Qc x0] (Qc r) :=
 Pu2 (hs := [(5, .c eLI)]) ((kC (sh := eLI) (Lw x0.fI) fun v0 => (kEr (enc := Qc) (Qj.mk x0.fb x0.fa v0 x0.fJ))) h)
def Yz (s : (Str × Qq)) (u : Int) (o : Qj ⊕ (Qj × Bool)) : List Alt := lp o (.exit 0) (fun _ => [.ptr 0 0 0, .undef]) (fun x => [.cells 0 (Qc x).cells]) .ret (fun x => [.ptr 0 0 0, .bool x.2]) (fun x => [.cells 0 (Qc x.1).cells])
def ZR (x1 : Str) (x2 : Qq) (x4 : Qj) (x9 : Int) (x10 : Int) : Option (Qj ⊕ (Qj × Bool)) :=
 if x10 < x9 then
 ix x2.fk x10 >>= fun v0 =>
 if v0.fb == x1 then
 ix x2.fk x10 >>= fun v1 =>
 Kn v1 >>= fun v2 =>
 some (.inr (v2, true))
 else
 ZR x1 x2 x4 x9 (wr (x10 + 1))
 else
 some (.inl x4)
 partial_fixpoint
theorem Ml (x1 x2 x4 x9 x10 o) (h : ZR x1 x2 x4 x9 x10 = some o) : LO 56 2 29 [1, 2, 4, 9, 10] [.str x1, .ptr 0 0 0, .ptr 1 0 0, ii x9, ii x10] [.cells 0 (Xf x2).cells, .cells 0 (Qc x4).cells] [4, 5] (Yz (x1, x2) x9 o) :=
 ZR.partial_correctness x1 x2 x4 x9 (fun x10 o => LO 56 2 29 [1, 2, 4, 9, 10] [.str x1, .ptr 0 0 0, .ptr 1 0 0, ii x9, ii x10] [.cells 0 (Xf x2).cells, .cells 0 (Qc x4).cells] [4, 5] (Yz (x1, x2) x9 o))
 (fun ZR Oj x10 o h  =>
 Lp2 (hs := [(11, .split), (16, .e Qc), (20, .split), (24, .e Qc), (26, .c Qc)]) (kb := [kk 2, kk 4]) (kbx := [kk 4]) ((kIfD (p := x10 < x9) (kIx (enc := Qc) (l := x2.fk) (k := x10) fun v0 => (kIf (c := v0.fb == x1) (kIx (enc := Qc) (l := x2.fk) (k := x10) fun v1 => (kC (sh := Qc) (Dl v1) fun v2 => (kX (alts := Yz (x1, x2) x9) (.inr (v2, true)) (.next (.here _ rfl (.refl _) (.refl _))))))
 (kM0 (alts := Yz (x1, x2) x9) (Oj (wr (x10 + 1))))))
 (kX (alts := Yz (x1, x2) x9) (.inl x4) (.here _ rfl (.refl _) (.refl _)))) h)) x10 o h
def Y8 (x0 : Qq) (x1 : Str) : Option (Qj × Bool) :=
 some (List.length x0.fk : Int) >>= fun v0 =>
 some v0 >>= fun v1 =>
 ZR x1 x0 (Qj.mk [] (Qg.mk (0 : Int) (0 : Int) (0 : Int) (0 : Int) (0 : Int)) [] (0 : Int)) v0 (0 : Int) >>= fun v2 => (match v2 with
 | (.inl v3) =>
 some ((Qj.mk [] (Qg.mk (0 : Int) (0 : Int) (0 : Int) (0 : Int) (0 : Int)) [] (0 : Int))) >>= fun v4 =>
 some (v4, false)
 | (.inr v5) =>
 some (v5.fst, v5.snd))
theorem Vv (x0 x1 r) (h : Y8 x0 x1 = some r) : PU 56 [Xf x0, eS x1] (XP r) :=
 Pu2 (hs := [(9, .n eI 9 none), (28, .n Qc 28 none), (3000003, .l [] [1, 2, 4, 9, 10] [kk 2, kk 4] [4, 5] [kk 4] (Yz (x1, x0)))]) ((kN _ (mLen (sh := Qc) x0.fk) fun v0 => (kL2 v0 (hL := (fun y hy => Xt.le (.cons lr (.cons lr (.cons lr (.cons lr (.cons lr .nil))))) (.cons (LeB.refl (Box.cells (0 : Nat) [AV.sl (8 : Nat) (List.map Qc x0.fk), AV.sl (20 : Nat) (List.map Q9 x0.fd)])) (.cons (LeB.cells (0 : Nat) (.cons lr (.cons lr (.cons lr (.cons lr (.cons lr (.cons lr (.cons (LeV.nil 1) (.cons lr .nil))))))))) .nil)) (Ml x1 x0 (Qj.mk [] (Qg.mk (0 : Int) (0 : Int) (0 : Int) (0 : Int) (0 : Int)) [] (0 : Int)) v0 (0 : Int) y hy))) (hA := fun v1 v3 => (kW (sh := Qc) (Qj.mk [] (Qg.mk (0 : Int) (0 : Int) (0 : Int) (0 : Int) (0 : Int)) [] (0 : Int)) (LeV.agg (.cons lr (.cons lr (.cons lr (.cons lr (.cons lr (.cons lr (.cons (LeV.nil 1) (.cons lr .nil))))))))) fun v4 => (kEr (enc := XP) (v4, false))))
 (hB := fun v1 v5 => (kEr (enc := XP) (v5.fst, v5.snd))))) h)
def YB (s : ((List Q7) × Int)) (u : Int) (o : Unit ⊕ Bool) : List Alt := lp o (.exit 0) (fun _ => [.undef]) (fun _ => []) .ret (fun x => [.bool x]) (fun _ => [])
def Ke (s : ((List Q7) × Int × Int)) (u : Int) (o : Bool) : List Alt := jb o (fun b => [.sl 20 (List.map Q9 (s.1)), ii (s.2.1), ii (s.2.2), ii u, .bool b]) []
mutual
def Y9 (x0 : List Q7) (x1 : Int) : Option Bool :=
 some (List.length x0 : Int) >>= fun v0 =>
 some v0 >>= fun v1 =>
 ZS x0 x1 v0 0 >>= fun v2 => (match v2 with
 | (.inl v3) =>
 some true
 | (.inr v4) =>
 some v4)
 partial_fixpoint
def ZS (x0 : List Q7) (x1 : Int) (x7 : Int) (x8 : Int) : Option (Unit ⊕ Bool) :=
 if x8 < x7 then
 some x8 >>= fun v0 =>
 (if x1 < 1 then
 some true
 else
 Option.map Q7.f (ix x0 x8) >>= fun v2 =>
 Y9 v2.fd (wr (x1 - (1 : Int))) >>= fun v3 => if v3 then
 some false
 else
 some true) >>= fun v1 => if v1 then
 some (.inr false)
 else
 ZS x0 x1 x7 (wr (v0 + 1))
 else
 some (.inl ())
 partial_fixpoint
end
theorem Lr  : (∀ (x0 : List Q7) (x1 : Int) (r : Bool), Y9 x0 x1 = some r → PU 73 [ZG x0, eI x1] (eB r)) ∧ (∀ (x0 : List Q7) (x1 : Int) (x7 : Int) (x8 : Int) (o : Unit ⊕ Bool), ZS x0 x1 x7 x8 = some o → LO 73 2 25 [0, 1, 7, 8] [.sl 20 (List.map Q9 x0), ii x1, ii x7, ii x8] [] [4] (YB (x0, x1) x7 o)) :=
 Y9.mutual_partial_correctness  _ _
 (fun ZS OL x0 x1 r h  =>
 Pu2 (hs := [(7, .n eI 7 none), (3000003, .l [] [0, 1, 7, 8] [] [4] [] (YB (x0, x1)))]) ((kN _ (mLen (sh := Q9) x0) fun v0 => (kL2 v0 (hL := (OL x0 x1 v0 0)) (hA := fun v1 v3 => (kEr (enc := eB) true))
 (hB := fun v1 v4 => (kEr (enc := eB) v4)))) h))
 (fun Y9 ZS OK OL x0 x1 x7 x8 o h  =>
 Lp2 (hs := [(9, .split), (12, .split), (16, .e Qm), (21, .cb), (5000004, .l [] [] [] [0, 1, 7, 8, 23] [] (Ke (x0, x1, x7)))]) (kb := []) (kbx := []) ((kIfD (p := x8 < x7) (kJb (id := 5000004) x8 (fun v0 ev0 v1 => (kIfD (p := x1 < 1) (kXj (alts := Ke (x0, x1, x7)) ev0 true (.here () rfl (.refl _) (.refl _)))
 (kIxR (l := x0) (k := x8) Zy fun v2 => (kCb (OK v2.fd (wr (x1 - (1 : Int)))) (kXj (alts := Ke (x0, x1, x7)) ev0 false (.next (.here () rfl (.refl _) (.refl _))))
 (kXj (alts := Ke (x0, x1, x7)) ev0 true (.here () rfl (.refl _) (.refl _)))))))
 (fun v0 => (kX (alts := YB (x0, x1) x7) (.inr false) (.next (.here _ rfl (.refl _) (.refl _)))))
 (fun v0 => (kM0 (alts := YB (x0, x1) x7) (OL x0 x1 x7 (wr (v0 + 1))))))
 (kX (alts := YB (x0, x1) x7) (.inl ()) (.here _ rfl (.refl _) (.refl _)))) h))
theorem Iy (x0 x1 r) (h : Y9 x0 x1 = some r) : PU 73 [ZG x0, eI x1] (eB r) := (Lr ).1 x0 x1 r h
def XV (s : ((List Q7) × Int)) (u : Int) (o : Int) : List Alt := l1 o (.exit 0) (fun x => [ii x]) (fun _ => [])
mutual
def Xo (x0 : List Q7) (x1 : Int) : Option Int :=
 some (List.length x0 : Int) >>= fun v0 =>
 some (v0 : Int) >>= fun v1 =>
 some (List.length x0 : Int) >>= fun v2 =>
 some v2 >>= fun v3 =>
 Zs x0 x1 v1 v2 0 >>= fun v5 =>
 some v5
 partial_fixpoint
def Zs (x0 : List Q7) (x1 : Int) (x5 : Int) (x10 : Int) (x11 : Int) : Option Int :=
 if x11 < x10 then
 if x1 < x5 then
 some x5
 else
 Option.map Q7.f (ix x0 x11) >>= fun v0 =>
 Xo v0.fd (wr (x1 - x5)) >>= fun v1 =>
 some (wr (x5 + v1) : Int) >>= fun v2 =>
 Zs x0 x1 v2 x10 (wr (x11 + 1))
 else
 some x5
 partial_fixpoint
end
theorem NV  : (∀ (x0 : List Q7) (x1 : Int) (r : Int), Xo x0 x1 = some r → PU 74 [ZG x0, eI x1] (eI r)) ∧ (∀ (x0 : List Q7) (x1 : Int) (x5 : Int) (x10 : Int) (x11 : Int) (o : Int), Zs x0 x1 x5 x10 x11 = some o → LO 74 3 30 [0, 1, 5, 10, 11] [.sl 20 (List.map Q9 x0), ii x1, ii x5, ii x10, ii x11] [] [5] (XV (x0, x1) x10 o)) :=
 Xo.mutual_partial_correctness  _ _
 (fun Zs Ox x0 x1 r h  =>
 Pu2 (hs := [(8, .n eI 8 none), (10, .n eI 10 none), (5, .n eI 5 none), (3000004, .l [] [0, 1, 5, 10, 11] [] [5] [] (XV (x0, x1)))]) ((kN _ (mLen (sh := Q9) x0) fun v0 => (kN v0 rfl fun v1 => (kN _ (mLen (sh := Q9) x0) fun v2 => (kL1 v2 (Ox x0 x1 v1 v2 0) fun v3 v5 => (kEr (enc := eI) v5))))) h))
 (fun Xo Zs Ow Ox x0 x1 x5 x10 x11 o h  =>
 Lp2 (hs := [(12, .split), (16, .split), (20, .e Qm), (26, .c eI), (5, .n eI 5 none)]) (kb := []) (kbx := []) ((kIfD (p := x11 < x10) (kIfD (p := x1 < x5) (kX (alts := XV (x0, x1) x10) x5 (.here _ rfl (.refl _) (.refl _)))
 (kIxR (l := x0) (k := x11) Zy fun v0 => (kC (sh := eI) (Ow v0.fd (wr (x1 - x5))) fun v1 => (kN (wr (x5 + v1)) rfl fun v2 => (kM0 (alts := XV (x0, x1) x10) (Ox x0 x1 v2 x10 (wr (x11 + 1))))))))
 (kX (alts := XV (x0, x1) x10) x5 (.here _ rfl (.refl _) (.refl _)))) h))
theorem Mn (x0 x1 r) (h : Xo x0 x1 = some r) : PU 74 [ZG x0, eI x1] (eI r) := (NV ).1 x0 x1 r h
def JP (x0 : Int) : Option Bool :=
 if 97 ≤ x0 then
 some (decide (x0 ≤ 122))
 else
 some false
theorem NY (x0 r) (h : JP x0 = some r) : PU 154 [eI32 x0] (eB r) :=
 Pu2 (hs := [(4, .split)]) ((kIfD (p := 97 ≤ x0) (kEr (enc := eB) (decide (x0 ≤ 122)))
 (kEr (enc := eB) false)) h)
def W7 (x0 : Int) : Option Bool :=
 if 48 ≤ x0 then
 some (decide (x0 ≤ 57))
 else
 some false
theorem RD (x0 r) (h : W7 x0 = some r) : PU 191 [eI32 x0] (eB r) :=
 Pu2 (hs := [(4, .split)]) ((kIfD (p := 48 ≤ x0) (kEr (enc := eB) (decide (x0 ≤ 57)))
 (kEr (enc := eB) false)) h)
def G2 (x0 : Int) : Option Bool :=
 JP x0 >>= fun v0 => if v0 then
 some true
 else
 W7 x0 >>= fun v1 => if v1 then
 some true
 else
 some (x0 == 95)
theorem EG (x0 r) (h : G2 x0 = some r) : PU 156 [eI32 x0] (eB r) :=
 Pu2 (hs := [(4, .cb), (7, .cb)]) ((kCb (NY x0) (kEr (enc := eB) true)
 (kCb (RD x0) (kEr (enc := eB) true)
 (kEr (enc := eB) (x0 == 95)))) h)
def Kv (s : Str) (u : Unit) (o : Int) : List Alt := l1 o (.exit 0) (fun x => [ii x]) (fun _ => [])
def K9 (s : Str) (u : Int) (o : Bool) : List Alt := jb o (fun b => [.str s, .fn 156 [], ii u, .bool b]) []
def ZQ (x0 : Str) (x5 : Int) : Option Int :=
 some x5 >>= fun v0 =>
 (if x5 < (↑(List.length x0) : Int) then
 ix x0 x5 >>= fun v2 =>
 G2 (IntKind.i32.wrap (↑v2.toNat : Int)) >>= fun v3 => if v3 then
 some true
 else
 some false
 else
 some false) >>= fun v1 => if v1 then
 ZQ x0 (wr (v0 + 1))
 else
 some v0
 partial_fixpoint
theorem Mk (x0 x5 o) (h : ZQ x0 x5 = some o) : LO 155 2 21 [0, 1, 5] [.str x0, .fn 156 [], ii x5] [] [5] (Kv x0 () o) :=
 ZQ.partial_correctness x0 (fun x5 o => LO 155 2 21 [0, 1, 5] [.str x0, .fn 156 [], ii x5] [] [5] (Kv x0 () o))
 (fun ZQ Od x5 o h  =>
 Lp2 (hs := [(9, .split), (14, .u), (16, .cb), (5000002, .l [] [] [] [0, 1, 5, 17] [] (K9 x0))]) (kb := []) (kbx := []) ((kJb (id := 5000002) x5 (fun v0 ev0 v1 => (kIfD (p := x5 < (↑(List.length x0) : Int)) (kU (s := x0) (k := x5) fun v2 => (kCb (EG (IntKind.i32.wrap (↑v2.toNat : Int))) (kXj (alts := K9 x0) ev0 true (.here () rfl (.refl _) (.refl _)))
 (kXj (alts := K9 x0) ev0 false (.next (.here () rfl (.refl _) (.refl _))))))
 (kXj (alts := K9 x0) ev0 false (.next (.here () rfl (.refl _) (.refl _))))))
 (fun v0 => (kM0 (alts := Kv x0 ()) (Od (wr (v0 + 1)))))
 (fun v0 => (kX (alts := Kv x0 ()) v0 (.here _ rfl (.refl _) (.refl _))))) h)) x5 o h
def JA (x0 : Str) : Option Int :=
 some () >>= fun v0 =>
 ZQ x0 0 >>= fun v2 =>
 some v2
theorem Iu (x0 r) (h : JA x0 = some r) : PU 155 [eS x0, .fn 156 []] (eI r) :=
 Pu2 (hs := [(3000003, .l [] [0, 1, 5] [] [5] [] (Kv x0))]) ((kL1 () (Mk x0 0) fun v0 v2 => (kEr (enc := eI) v2)) h)
def XK (s : ((List Str) × Str)) (u : Int) (o : Unit ⊕ Int) : List Alt := lp o (.exit 0) (fun _ => [.undef]) (fun _ => []) .ret (fun x => [ii x]) (fun _ => [])
def Zk (x0 : List Str) (x1 : Str) (x7 : Int) (x8 : Int) : Option (Unit ⊕ Int) :=
 if x8 < x7 then
 ix x0 x8 >>= fun v0 =>
 if x1 == v0 then
 some (.inr x8)
 else
 Zk x0 x1 x7 (wr (x8 + 1))
 else
 some (.inl ())
 partial_fixpoint
theorem WM (x0 x1 x7 x8 o) (h : Zk x0 x1 x7 x8 = some o) : LO 141 2 19 [0, 1, 7, 8] [.sl 1 (List.map eS x0), .str x1, ii x7, ii x8] [] [4] (XK (x0, x1) x7 o) :=
 Zk.partial_correctness x0 x1 x7 (fun x8 o => LO 141 2 19 [0, 1, 7, 8] [.sl 1 (List.map eS x0), .str x1, ii x7, ii x8] [] [4] (XK (x0, x1) x7 o))
 (fun Zk B0 x8 o h  =>
 Lp2 (hs := [(9, .split), (14, .e eS), (16, .split)]) (kb := []) (kbx := []) ((kIfD (p := x8 < x7) (kIx (enc := eS) (l := x0) (k := x8) fun v0 => (kIf (c := x1 == v0) (kX (alts := XK (x0, x1) x7) (.inr x8) (.next (.here _ rfl (.refl _) (.refl _))))
 (kM0 (alts := XK (x0, x1) x7) (B0 (wr (x8 + 1))))))
 (kX (alts := XK (x0, x1) x7) (.inl ()) (.here _ rfl (.refl _) (.refl _)))) h)) x8 o h
def JS (x0 : List Str) (x1 : Str) : Option Int :=
 some (List.length x0 : Int) >>= fun v0 =>
 some v0 >>= fun v1 =>
 Zk x0 x1 v0 0 >>= fun v2 => (match v2 with
 | (.inl v3) =>
 some (-1 : Int)
 | (.inr v4) =>
 some v4)
theorem M0 (x0 x1 r) (h : JS x0 x1 = some r) : PU 141 [eLS x0, eS x1] (eI r) :=
 Pu2 (hs := [(7, .n eI 7 none), (3000003, .l [] [0, 1, 7, 8] [] [4] [] (XK (x0, x1)))]) ((kN _ (mLen (sh := eS) x0) fun v0 => (kL2 v0 (hL := (WM x0 x1 v0 0)) (hA := fun v1 v3 => (kEr (enc := eI) (-1 : Int)))
 (hB := fun v1 v4 => (kEr (enc := eI) v4)))) h)
def XN (x0 : List Str) (x1 : Str) : Option Bool :=
 JS x0 x1 >>= fun v0 =>
 some (decide (0 ≤ v0))
theorem VR (x0 x1 r) (h : XN x0 x1 = some r) : PU 99 [eLS x0, eS x1] (eB r) :=
 Pu2 (hs := [(7, .c eI)]) ((kC (sh := eI) (M0 x0 x1) fun v0 => (kEr (enc := eB) (decide (0 ≤ v0)))) h)
def Gv (x0 : Str) : Option Bool :=
 D8 >>= fun v0 =>
 XN v0 x0 >>= fun v1 =>
 some v1
theorem It (x0 r) (h : Gv x0 = some r) : PU 157 [eS x0] (eB r) :=
 Pu2 (hs := [(3, .c eLS), (5, .c eB)]) ((kC (sh := eLS) (IY) fun v0 => (kC (sh := eB) (VR v0 x0) fun v1 => (kEr (enc := eB) v1))) h)
def KY (x0 : Str) : Option Bool :=
 if !x0 == [] then
 if (↑(List.length x0) : Int) ≤ 16 then
 ix x0 (0 : Int) >>= fun v0 =>
 JP (IntKind.i32.wrap (↑v0.toNat : Int)) >>= fun v1 => if v1 then
 JA x0 >>= fun v2 =>
 if v2 == (↑(List.length x0) : Int) then
 Gv x0 >>= fun v3 =>
 some (!v3)
 else
 some false
 else
 some false
 else
 some false
 else
 some false
theorem G4 (x0 r) (h : KY x0 = some r) : PU 115 [eS x0] (eB r) :=
 Pu2 (hs := [(4, .split), (8, .split), (12, .u), (14, .cb), (18, .c eI), (21, .split), (25, .c eB)]) ((kIf (c := !x0 == []) (kIfD (p := (↑(List.length x0) : Int) ≤ 16) (kU (s := x0) (k := (0 : Int)) fun v0 => (kCb (NY (IntKind.i32.wrap (↑v0.toNat : Int))) (kC (sh := eI) (Iu x0) fun v2 => (kIf (c := v2 == (↑(List.length x0) : Int)) (kC (sh := eB) (It x0) fun v3 => (kEr (enc := eB) (!v3)))
 (kEr (enc := eB) false)))
 (kEr (enc := eB) false)))
 (kEr (enc := eB) false))
 (kEr (enc := eB) false)) h)
def VB (x0 : Qj) (x1 : Qj) : Option Bool :=
 some (x0.fb == x1.fb)
theorem Wi (x0 x1 r) (h : VB x0 x1 = some r) : PU 117 [Qc x0, .ip 8 [.agg [.str x1.fb, ii x1.fa.fv, ii x1.fa.fx, ii x1.fa.fB, ii x1.fa.fw, ii x1.fa.fC, .sl 1 (List.map eI x1.fI), ii x1.fJ]] 0 0] (eB r) :=
 Pu2 (hs := []) ((kEr (enc := eB) (x0.fb == x1.fb)) h)
def Z9 (s : ((List Qj) × Qj)) (u : Int) (o : Unit ⊕ Int) : List Alt := lp o (.exit 0) (fun _ => [.undef]) (fun _ => []) .ret (fun x => [ii x]) (fun _ => [])
def QJ (x0 : List Qj) (x1 : Qj) (x7 : Int) (x8 : Int) : Option (Unit ⊕ Int) :=
 if x8 < x7 then
 ix x0 x8 >>= fun v0 =>
 VB v0 x1 >>= fun v1 => if v1 then
 some (.inr x8)
 else
 QJ x0 x1 x7 (wr (x8 + 1))
 else
 some (.inl ())
 partial_fixpoint
theorem UG (x0 x1 x7 x8 o) (h : QJ x0 x1 x7 x8 = some o) : LO 77 2 19 [0, 1, 7, 8] [.sl 8 (List.map Qc x0), .fn 117 [.ip 8 [.agg [.str x1.fb, ii x1.fa.fv, ii x1.fa.fx, ii x1.fa.fB, ii x1.fa.fw, ii x1.fa.fC, .sl 1 (List.map eI x1.fI), ii x1.fJ]] 0 0], ii x7, ii x8] [] [4] (Z9 (x0, x1) x7 o) :=
 QJ.partial_correctness x0 x1 x7 (fun x8 o => LO 77 2 19 [0, 1, 7, 8] [.sl 8 (List.map Qc x0), .fn 117 [.ip 8 [.agg [.str x1.fb, ii x1.fa.fv, ii x1.fa.fx, ii x1.fa.fB, ii x1.fa.fw, ii x1.fa.fC, .sl 1 (List.map eI x1.fI), ii x1.fJ]] 0 0], ii x7, ii x8] [] [4] (Z9 (x0, x1) x7 o))
 (fun QJ OU x8 o h  =>
 Lp2 (hs := [(9, .split), (14, .e Qc), (16, .cb)]) (kb := []) (kbx := []) ((kIfD (p := x8 < x7) (kIx (enc := Qc) (l := x0) (k := x8) fun v0 => (kCb (Wi v0 x1) (kX (alts := Z9 (x0, x1) x7) (.inr x8) (.next (.here _ rfl (.refl _) (.refl _))))
 (kM0 (alts := Z9 (x0, x1) x7) (OU (wr (x8 + 1))))))
 (kX (alts := Z9 (x0, x1) x7) (.inl ()) (.here _ rfl (.refl _) (.refl _)))) h)) x8 o h
def YQ (x0 : List Qj) (x1 : Qj) : Option Int :=
 some (List.length x0 : Int) >>= fun v0 =>
 some v0 >>= fun v1 =>
 QJ x0 x1 v0 0 >>= fun v2 => (match v2 with
 | (.inl v3) =>
 some (-1 : Int)
 | (.inr v4) =>
 some v4)
theorem Gz (x0 x1 r) (h : YQ x0 x1 = some r) : PU 77 [CQ x0, .fn 117 [.ip 8 [.agg [.str x1.fb, ii x1.fa.fv, ii x1.fa.fx, ii x1.fa.fB, ii x1.fa.fw, ii x1.fa.fC, .sl 1 (List.map eI x1.fI), ii x1.fJ]] 0 0]] (eI r) :=
 Pu2 (hs := [(7, .n eI 7 none), (3000003, .l [] [0, 1, 7, 8] [] [4] [] (Z9 (x0, x1)))]) ((kN _ (mLen (sh := Qc) x0) fun v0 => (kL2 v0 (hL := (UG x0 x1 v0 0)) (hA := fun v1 v3 => (kEr (enc := eI) (-1 : Int)))
 (hB := fun v1 v4 => (kEr (enc := eI) v4)))) h)
def Xg (x0 : List Qj) (x1 : Qj) : Option Bool :=
 YQ x0 x1 >>= fun v0 =>
 some (decide (0 ≤ v0))
theorem UF (x0 x1 r) (h : Xg x0 x1 = some r) : PU 116 [CQ x0, .fn 117 [.ip 8 [.agg [.str x1.fb, ii x1.fa.fv, ii x1.fa.fx, ii x1.fa.fB, ii x1.fa.fw, ii x1.fa.fC, .sl 1 (List.map eI x1.fI), ii x1.fJ]] 0 0]] (eB r) :=
 Pu2 (hs := [(7, .c eI)]) ((kC (sh := eI) (Gz x0 x1) fun v0 => (kEr (enc := eB) (decide (0 ≤ v0)))) h)
def W8 (x0 : Qg) : Option Bool :=
 some ((Qg.mk x0.fv (0 : Int) (0 : Int) (0 : Int) (0 : Int))) >>= fun v0 =>
 some (x0.fv == v0.fv && (x0.fx == v0.fx && (x0.fB == v0.fB && (x0.fw == v0.fw && (x0.fC == v0.fC && true)))))
theorem RI (x0 r) (h : W8 x0 = some r) : PU 158 [Qp x0] (eB r) :=
 Pu2 (hs := [(6, .n Qp 6 none)]) ((kW (sh := Qp) (Qg.mk x0.fv (0 : Int) (0 : Int) (0 : Int) (0 : Int)) lr fun v0 => (kEr (enc := eB) (x0.fv == v0.fv && (x0.fx == v0.fx && (x0.fB == v0.fB && (x0.fw == v0.fw && (x0.fC == v0.fC && true))))))) h)
def Xz (s : Qg) (u : Unit) (o : Bool) : List Alt := l1 o .normal (fun x => [.ptr 0 0 0, .bool x]) (fun _ => [.cells 0 (Qp s).cells])
def Z6 (s : Unit) (u : Unit) (o : Bool) : List Alt := jb o (fun b => [.bool b]) []
def YD (x0 : Qg) : Option Int :=
 some () >>= fun v0 =>
 (if 1 ≤ x0.fw then
 if x0.fw ≤ 4 then
 if x0.fC == 1 then
 some true
 else
 some (x0.fC == 2)
 else
 some false
 else
 some false) >>= fun v2 =>
 some () >>= fun v3 =>
 (if x0.fv != 2 then
 some true
 else
 if x0.fx < 2 then
 some true
 else
 if 31 < x0.fx then
 some true
 else
 if x0.fB < 0 then
 some true
 else
 if 30 < x0.fB then
 some true
 else
 if v2 then
 some false
 else
 some true) >>= fun v4 => if v4 then
 some (10 : Int)
 else
 some (0 : Int)
theorem DE (x0 r) (h : YD x0 = some r) : PU 159 [Qp x0] (eI r) :=
 Pu2 (hs := [(6, .split), (10, .split), (15, .split), (24, .split), (28, .split), (33, .split), (38, .split), (43, .split), (46, .split), (5000001, .l [] [] [] [1, 3] [kk 1] (Xz x0)), (5000002, .l [] [] [] [48] [] (Z6 ()))]) ((kJ1 (id := 5000001) () (fun v0 ev0 v1 => (kIfD (p := 1 ≤ x0.fw) (kIfD (p := x0.fw ≤ 4) (kIf (c := x0.fC == 1) (kXj (alts := Xz x0) ev0 true (.here _ rfl (.refl _) (.refl _)))
 (kXj (alts := Xz x0) ev0 (x0.fC == 2) (.here _ rfl (.refl _) (.refl _))))
 (kXj (alts := Xz x0) ev0 false (.here _ rfl (.refl _) (.refl _))))
 (kXj (alts := Xz x0) ev0 false (.here _ rfl (.refl _) (.refl _)))))
 (fun v0 v2 => (kJb (id := 5000002) () (fun v3 ev3 v4 => (kIf (c := x0.fv != 2) (kXj (alts := Z6 ()) ev3 true (.here () rfl (.refl _) (.refl _)))
 (kIfD (p := x0.fx < 2) (kXj (alts := Z6 ()) ev3 true (.here () rfl (.refl _) (.refl _)))
 (kIfD (p := 31 < x0.fx) (kXj (alts := Z6 ()) ev3 true (.here () rfl (.refl _) (.refl _)))
 (kIfD (p := x0.fB < 0) (kXj (alts := Z6 ()) ev3 true (.here () rfl (.refl _) (.refl _)))
 (kIfD (p := 30 < x0.fB) (kXj (alts := Z6 ()) ev3 true (.here () rfl (.refl _) (.refl _)))
 (kIf (c := v2) (kXj (alts := Z6 ()) ev3 false (.next (.here () rfl (.refl _) (.refl _))))
 (kXj (alts := Z6 ()) ev3 true (.here () rfl (.refl _) (.refl _))))))))))
 (fun v3 => (kEr (enc := eI) (10 : Int)))
 (fun v3 => (kEr (enc := eI) (0 : Int)))))) h)
def Yr (s : Qg) (u : Int) (o : Bool) : List Alt := jb o (fun b => [.ptr 0 0 0, ii u, .bool b]) [.cells 0 (Qp s).cells]
def Y3 (x0 : Qg) : Option Int :=
 some x0.fv >>= fun v0 =>
 (if x0.fv == 1 then
 some true
 else
 if x0.fv == 3 then
 some true
 else
 some false) >>= fun v1 => if v1 then
 W8 x0 >>= fun v3 => if v3 then
 some (0 : Int)
 else
 some (10 : Int)
 else
 if v0 == 2 then
 YD x0 >>= fun v5 =>
 if v5 == 0 then
 some (0 : Int)
 else
 some (10 : Int)
 else
 some (10 : Int)
theorem VD (x0 r) (h : Y3 x0 = some r) : PU 118 [Qp x0] (eI r) :=
 Pu2 (hs := [(5, .split), (5, .split), (9, .cb), (11, .split), (13, .c eI), (14, .split), (6000004, .l [] [] [] [1, 4, 5] [kk 1] (Yr x0))]) ((kJb (id := 6000004) x0.fv (fun v0 ev0 v1 => (kIf (c := x0.fv == 1) (kXj (alts := Yr x0) ev0 true (.here () rfl (.refl _) (.refl _)))
 (kIf (c := x0.fv == 3) (kXj (alts := Yr x0) ev0 true (.here () rfl (.refl _) (.refl _)))
 (kXj (alts := Yr x0) ev0 false (.next (.here () rfl (.refl _) (.refl _)))))))
 (fun v0 => (kCb (RI x0) (kEr (enc := eI) (0 : Int))
 (kEr (enc := eI) (10 : Int))))
 (fun v0 => (kIf (c := v0 == 2) (kC (sh := eI) (DE x0) fun v5 => (kIf (c := v5 == 0) (kEr (enc := eI) (0 : Int))
 (kEr (enc := eI) (10 : Int))))
 (kEr (enc := eI) (10 : Int))))) h)
def YC (s : Unit) (u : ((List Int) × Int)) (o : Unit ⊕ Int) : List Alt := lp o (.exit 2) (fun _ => [.undef]) (fun _ => []) .ret (fun x => [ii x]) (fun _ => [])
def ZT (x5 : Int) (x20 : List Int) (x21 : Int) (x22 : Int) : Option (Unit ⊕ Int) :=
 if x22 < x21 then
 ix x20 x22 >>= fun v0 =>
 if x5 ≠ 0 then
 if wr (Int.tdiv (4096 : Int) x5) < v0 then
 some (.inr (2 : Int))
 else
 some (wr (x5 * v0) : Int) >>= fun v1 =>
 ZT v1 x20 x21 (wr (x22 + 1))
 else none
 else
 some (.inl ())
 partial_fixpoint
theorem Mo (x5 x20 x21 x22 o) (h : ZT x5 x20 x21 x22 = some o) : LO 119 11 34 [5, 20, 21, 22] [ii x5, .sl 1 (List.map eI x20), ii x21, ii x22] [] [2] (YC () (x20, x21) o) :=
 ZT.partial_correctness x20 x21 (fun x5 x22 o => LO 119 11 34 [5, 20, 21, 22] [ii x5, .sl 1 (List.map eI x20), ii x21, ii x22] [] [2] (YC () (x20, x21) o))
 (fun ZT OM x5 x22 o h  =>
 Lp2 (hs := [(23, .split), (24, .e eI), (28, .s), (29, .split), (5, .n eI 5 none)]) (kb := []) (kbx := []) ((kIfD (p := x22 < x21) (kIx (enc := eI) (l := x20) (k := x22) fun v0 => (kG (p := x5 ≠ 0) (kIfD (p := wr (Int.tdiv (4096 : Int) x5) < v0) (kX (alts := YC () (x20, x21)) (.inr (2 : Int)) (.next (.here _ rfl (.refl _) (.refl _))))
 (kN (wr (x5 * v0)) rfl fun v1 => (kM0 (alts := YC () (x20, x21)) (OM v1 (wr (x22 + 1))))))))
 (kX (alts := YC () (x20, x21)) (.inl ()) (.here _ rfl (.refl _) (.refl _)))) h)) x5 x22 o h
def YU (s : List Int) (u : ((List Int) × Int)) (o : Unit ⊕ Int) : List Alt := lp o (.exit 0) (fun _ => [.sl 1 (List.map eI s), .undef]) (fun _ => []) .ret (fun x => [.sl 1 (List.map eI s), ii x]) (fun _ => [])
def X5 (x11 : List Int) (x12 : Int) (x13 : Int) : Option (Unit ⊕ Int) :=
 if x13 < x12 then
 ix x11 x13 >>= fun v0 =>
 if v0 < 1 then
 some (.inr (1 : Int))
 else
 X5 x11 x12 (wr (x13 + 1))
 else
 some (.inl ())
 partial_fixpoint
theorem Ll (x0 : List Int) (x11 : List Int) (x12 : Int) (x13 : Int) (o : Unit ⊕ Int) (h : X5 x11 x12 x13 = some o) : LO 119 4 34 [0, 11, 12, 13] [.sl 1 (List.map eI x0), .sl 1 (List.map eI x11), ii x12, ii x13] [] [0, 2] (YU x0 (x11, x12) o) :=
 X5.partial_correctness x11 x12 (fun x13 o => ∀ (x0 : List Int), LO 119 4 34 [0, 11, 12, 13] [.sl 1 (List.map eI x0), .sl 1 (List.map eI x11), ii x12, ii x13] [] [0, 2] (YU x0 (x11, x12) o))
 (fun X5 ON x13 o h x0 =>
 Lp2 (hs := [(14, .split), (15, .e eI), (18, .split)]) (kb := []) (kbx := []) ((kIfD (p := x13 < x12) (kIx (enc := eI) (l := x11) (k := x13) fun v0 => (kIfD (p := v0 < 1) (kX (alts := YU x0 (x11, x12)) (.inr (1 : Int)) (.next (.here _ rfl (.refl _) (.refl _))))
 (kM0 (alts := YU x0 (x11, x12)) (fun y hy => ON (wr (x13 + 1)) y hy x0))))
 (kX (alts := YU x0 (x11, x12)) (.inl ()) (.here _ rfl (.refl _) (.refl _)))) h)) x13 o h x0
def U7 (x0 : List Int) : Option Int :=
 some (List.length x0 : Int) >>= fun v0 =>
 if 6 < v0 then
 some (2 : Int)
 else
 some (List.length x0 : Int) >>= fun v1 =>
 some (x0, v1) >>= fun v2 =>
 X5 x0 v1 0 >>= fun v3 => (match v3 with
 | (.inl v4) =>
 some ((1 : Int) : Int) >>= fun v5 =>
 some (List.length x0 : Int) >>= fun v6 =>
 some (x0, v6) >>= fun v7 =>
 ZT v5 x0 v6 0 >>= fun v8 => (match v8 with
 | (.inl v9) =>
 some (0 : Int)
 | (.inr v10) =>
 some v10)
 | (.inr v11) =>
 some v11)
theorem H8 (x0 r) (h : U7 x0 = some r) : PU 119 [eLI x0] (eI r) :=
 Pu2 (hs := [(9, .n eI 9 none), (10, .split), (12, .n eI 12 none), (21, .n eI 21 none), (5, .n eI 5 none), (3000012, .l [] [5, 20, 21, 22] [] [2] [] (YC ())), (3000005, .l [] [0, 11, 12, 13] [] [0, 2] [] (YU x0))]) ((kN _ (mLen (sh := eI) x0) fun v0 => (kIfD (p := 6 < v0) (kEr (enc := eI) (2 : Int))
 (kN _ (mLen (sh := eI) x0) fun v1 => (kL2 (x0, v1) (hL := (Ll x0 x0 v1 0)) (hA := fun v2 v4 => (kN (1 : Int) rfl fun v5 => (kN _ (mLen (sh := eI) x0) fun v6 => (kL2 (x0, v6) (hL := (Mo v5 x0 v6 0)) (hA := fun v7 v9 => (kEr (enc := eI) (0 : Int)))
 (hB := fun v7 v10 => (kEr (enc := eI) v10))))))
 (hB := fun v2 v11 => (kEr (enc := eI) v11)))))) h)
def QU (s : List Qj) (u : Int) (o : Unit ⊕ Int) : List Alt := lp o (.exit 0) (fun _ => [.undef]) (fun _ => []) .ret (fun x => [ii x]) (fun _ => [])
def XZ (s : ((List Qj) × Int)) (u : Int) (o : Bool) : List Alt := jb o (fun b => [.sl 8 (List.map Qc (s.1)), ii (s.2), ii u, .bool b]) []
def Z7 (x0 : List Qj) (x7 : Int) (x8 : Int) : Option (Unit ⊕ Int) :=
 if x8 < x7 then
 ix x0 x8 >>= fun v0 =>
 KY v0.fb >>= fun v1 => if v1 then
 if (0 : Int) ≤ 0 ∧ 0 ≤ x8 ∧ x8 ≤ (↑(List.map Qc x0).length : Int) then
 some ((List.drop (0 : Nat) (List.take x8.toNat x0)) : List Qj) >>= fun v2 =>
 Xg v2 v0 >>= fun v3 => if v3 then
 some (.inr (8 : Int))
 else
 Y3 v0.fa >>= fun v4 =>
 if v4 != 0 then
 some (.inr (10 : Int))
 else
 U7 v0.fI >>= fun v5 =>
 if v5 != 0 then
 some (.inr v5)
 else
 some x8 >>= fun v6 =>
 (if v0.fJ < 1 then
 some true
 else
 if 3 < v0.fJ then
 some true
 else
 some false) >>= fun v7 => if v7 then
 some (.inr (1 : Int))
 else
 Z7 x0 x7 (wr (v6 + 1))
 else none
 else
 some (.inr (7 : Int))
 else
 some (.inl ())
 partial_fixpoint
theorem Wc (x0 x7 x8 o) (h : Z7 x0 x7 x8 = some o) : LO 75 2 46 [0, 7, 8] [.sl 8 (List.map Qc x0), ii x7, ii x8] [] [2] (QU x0 x7 o) :=
 Z7.partial_correctness x0 x7 (fun x8 o => LO 75 2 46 [0, 7, 8] [.sl 8 (List.map Qc x0), ii x7, ii x8] [] [2] (QU x0 x7 o))
 (fun Z7 Om x8 o h  =>
 Lp2 (hs := [(9, .split), (13, .e Qc), (18, .cb), (23, .n CQ 23 (some .s)), (24, .z [{ slot := 4, fz := true }] none), (25, .cb), (29, .c eI), (30, .split), (33, .c eI), (35, .split), (39, .split), (43, .split), (5000014, .l [] [] [] [0, 7, 8, 44] [] (XZ (x0, x7)))]) (kb := []) (kbx := []) ((kIfD (p := x8 < x7) (kIx (enc := Qc) (l := x0) (k := x8) fun v0 => (kCb (G4 v0.fb) (kG (p := (0 : Int) ≤ 0 ∧ 0 ≤ x8 ∧ x8 ≤ (↑(List.map Qc x0).length : Int)) (kW (sh := CQ) (List.drop (0 : Nat) (List.take x8.toNat x0)) (leSl (mTD (sh := Qc) x0 x8.toNat (0 : Nat))) fun v2 => (kCb (UF v2 v0) (kX (alts := QU x0 x7) (.inr (8 : Int)) (.next (.here _ rfl (.refl _) (.refl _))))
 (kC (sh := eI) (VD v0.fa) fun v4 => (kIf (c := v4 != 0) (kX (alts := QU x0 x7) (.inr (10 : Int)) (.next (.here _ rfl (.refl _) (.refl _))))
 (kC (sh := eI) (H8 v0.fI) fun v5 => (kIf (c := v5 != 0) (kX (alts := QU x0 x7) (.inr v5) (.next (.here _ rfl (.refl _) (.refl _))))
 (kJb (id := 5000014) x8 (fun v6 ev6 v7 => (kIfD (p := v0.fJ < 1) (kXj (alts := XZ (x0, x7)) ev6 true (.here () rfl (.refl _) (.refl _)))
 (kIfD (p := 3 < v0.fJ) (kXj (alts := XZ (x0, x7)) ev6 true (.here () rfl (.refl _) (.refl _)))
 (kXj (alts := XZ (x0, x7)) ev6 false (.next (.here () rfl (.refl _) (.refl _)))))))
 (fun v6 => (kX (alts := QU x0 x7) (.inr (1 : Int)) (.next (.here _ rfl (.refl _) (.refl _)))))
 (fun v6 => (kM0 (alts := QU x0 x7) (Om (wr (v6 + 1)))))))))))))
 (kX (alts := QU x0 x7) (.inr (7 : Int)) (.next (.here _ rfl (.refl _) (.refl _))))))
 (kX (alts := QU x0 x7) (.inl ()) (.here _ rfl (.refl _) (.refl _)))) h)) x8 o h
def KM (x0 : List Qj) : Option Int :=
 some (List.length x0 : Int) >>= fun v0 =>
 some v0 >>= fun v1 =>
 Z7 x0 v0 0 >>= fun v2 => (match v2 with
 | (.inl v3) =>
 some (0 : Int)
 | (.inr v4) =>
 some v4)
theorem Nc (x0 r) (h : KM x0 = some r) : PU 75 [CQ x0] (eI r) :=
 Pu2 (hs := [(7, .n eI 7 none), (3000003, .l [] [0, 7, 8] [] [2] [] (QU x0))]) ((kN _ (mLen (sh := Qc) x0) fun v0 => (kL2 v0 (hL := (Wc x0 v0 0)) (hA := fun v1 v3 => (kEr (enc := eI) (0 : Int)))
 (hB := fun v1 v4 => (kEr (enc := eI) v4)))) h)
def Qi (s : Unit) (u : Unit) (o : Bool) : List Alt := jb o (fun b => [.bool b]) []
def G3 (x0 : Str) : Option Bool :=
 some () >>= fun v0 =>
 (if x0 == [(115 : UInt8), (105 : UInt8), (122 : UInt8), (101 : UInt8)] then
 some true
 else
 if x0 == [(119 : UInt8), (104 : UInt8), (101 : UInt8), (114 : UInt8), (101 : UInt8)] then
 some true
 else
 if x0 == [(105 : UInt8), (110 : UInt8)] then
 some true
 else
 if x0 == [(100 : UInt8), (101 : UInt8), (102 : UInt8)] then
 some true
 else
 if x0 == [(111 : UInt8), (117 : UInt8), (116 : UInt8)] then
 some true
 else
 if x0 == [(115 : UInt8), (117 : UInt8), (109 : UInt8)] then
 some true
 else
 if x0 == [(112 : UInt8), (114 : UInt8), (111 : UInt8), (100 : UInt8)] then
 some true
 else
 if x0 == [(109 : UInt8), (105 : UInt8), (110 : UInt8)] then
 some true
 else
 if x0 == [(109 : UInt8), (97 : UInt8), (120 : UInt8)] then
 some true
 else
 if x0 == [(115 : UInt8), (99 : UInt8), (97 : UInt8), (110 : UInt8)] then
 some true
 else
 if x0 == [(111 : UInt8), (118 : UInt8), (101 : UInt8), (114 : UInt8)] then
 some true
 else
 if x0 == [(105 : UInt8), (102 : UInt8)] then
 some true
 else
 if x0 == [(99 : UInt8), (97 : UInt8), (115 : UInt8), (116 : UInt8)] then
 some true
 else
 if x0 == [(102 : UInt8), (114 : UInt8), (97 : UInt8), (99 : UInt8)] then
 some true
 else
 if x0 == [(105 : UInt8), (110 : UInt8), (116 : UInt8)] then
 some true
 else
 if x0 == [(102 : UInt8), (105 : UInt8), (120 : UInt8)] then
 some true
 else
 if x0 == [(99 : UInt8), (101 : UInt8), (105 : UInt8), (108 : UInt8)] then
 some true
 else
 if x0 == [(102 : UInt8), (108 : UInt8), (111 : UInt8), (111 : UInt8), (114 : UInt8)] then
 some true
 else
 if x0 == [(122 : UInt8), (101 : UInt8), (114 : UInt8), (111 : UInt8)] then
 some true
 else
 if x0 == [(101 : UInt8), (118 : UInt8), (101 : UInt8), (110 : UInt8)] then
 some true
 else
 if x0 == [(115 : UInt8), (97 : UInt8), (116 : UInt8)] then
 some true
 else
 if x0 == [(119 : UInt8), (114 : UInt8), (97 : UInt8), (112 : UInt8)] then
 some true
 else
 some false) >>= fun v1 => if v1 then
 some true
 else
 some false
theorem EI (x0 r) (h : G3 x0 = some r) : PU 186 [eS x0] (eB r) :=
 Pu2 (hs := [(4, .split), (4, .split), (4, .split), (4, .split), (4, .split), (4, .split), (4, .split), (4, .split), (4, .split), (4, .split), (4, .split), (4, .split), (4, .split), (4, .split), (4, .split), (4, .split), (4, .split), (4, .split), (4, .split), (4, .split), (4, .split), (4, .split), (6000004, .l [] [] [] [4] [] (Qi ()))]) ((kJb (id := 6000004) () (fun v0 ev0 v1 => (kIf (c := x0 == [(115 : UInt8), (105 : UInt8), (122 : UInt8), (101 : UInt8)]) (kXj (alts := Qi ()) ev0 true (.here () rfl (.refl _) (.refl _)))
 (kIf (c := x0 == [(119 : UInt8), (104 : UInt8), (101 : UInt8), (114 : UInt8), (101 : UInt8)]) (kXj (alts := Qi ()) ev0 true (.here () rfl (.refl _) (.refl _)))
 (kIf (c := x0 == [(105 : UInt8), (110 : UInt8)]) (kXj (alts := Qi ()) ev0 true (.here () rfl (.refl _) (.refl _)))
 (kIf (c := x0 == [(100 : UInt8), (101 : UInt8), (102 : UInt8)]) (kXj (alts := Qi ()) ev0 true (.here () rfl (.refl _) (.refl _)))
 (kIf (c := x0 == [(111 : UInt8), (117 : UInt8), (116 : UInt8)]) (kXj (alts := Qi ()) ev0 true (.here () rfl (.refl _) (.refl _)))
 (kIf (c := x0 == [(115 : UInt8), (117 : UInt8), (109 : UInt8)]) (kXj (alts := Qi ()) ev0 true (.here () rfl (.refl _) (.refl _)))
 (kIf (c := x0 == [(112 : UInt8), (114 : UInt8), (111 : UInt8), (100 : UInt8)]) (kXj (alts := Qi ()) ev0 true (.here () rfl (.refl _) (.refl _)))
 (kIf (c := x0 == [(109 : UInt8), (105 : UInt8), (110 : UInt8)]) (kXj (alts := Qi ()) ev0 true (.here () rfl (.refl _) (.refl _)))
 (kIf (c := x0 == [(109 : UInt8), (97 : UInt8), (120 : UInt8)]) (kXj (alts := Qi ()) ev0 true (.here () rfl (.refl _) (.refl _)))
 (kIf (c := x0 == [(115 : UInt8), (99 : UInt8), (97 : UInt8), (110 : UInt8)]) (kXj (alts := Qi ()) ev0 true (.here () rfl (.refl _) (.refl _)))
 (kIf (c := x0 == [(111 : UInt8), (118 : UInt8), (101 : UInt8), (114 : UInt8)]) (kXj (alts := Qi ()) ev0 true (.here () rfl (.refl _) (.refl _)))
 (kIf (c := x0 == [(105 : UInt8), (102 : UInt8)]) (kXj (alts := Qi ()) ev0 true (.here () rfl (.refl _) (.refl _)))
 (kIf (c := x0 == [(99 : UInt8), (97 : UInt8), (115 : UInt8), (116 : UInt8)]) (kXj (alts := Qi ()) ev0 true (.here () rfl (.refl _) (.refl _)))
 (kIf (c := x0 == [(102 : UInt8), (114 : UInt8), (97 : UInt8), (99 : UInt8)]) (kXj (alts := Qi ()) ev0 true (.here () rfl (.refl _) (.refl _)))
 (kIf (c := x0 == [(105 : UInt8), (110 : UInt8), (116 : UInt8)]) (kXj (alts := Qi ()) ev0 true (.here () rfl (.refl _) (.refl _)))
 (kIf (c := x0 == [(102 : UInt8), (105 : UInt8), (120 : UInt8)]) (kXj (alts := Qi ()) ev0 true (.here () rfl (.refl _) (.refl _)))
 (kIf (c := x0 == [(99 : UInt8), (101 : UInt8), (105 : UInt8), (108 : UInt8)]) (kXj (alts := Qi ()) ev0 true (.here () rfl (.refl _) (.refl _)))
 (kIf (c := x0 == [(102 : UInt8), (108 : UInt8), (111 : UInt8), (111 : UInt8), (114 : UInt8)]) (kXj (alts := Qi ()) ev0 true (.here () rfl (.refl _) (.refl _)))
 (kIf (c := x0 == [(122 : UInt8), (101 : UInt8), (114 : UInt8), (111 : UInt8)]) (kXj (alts := Qi ()) ev0 true (.here () rfl (.refl _) (.refl _)))
 (kIf (c := x0 == [(101 : UInt8), (118 : UInt8), (101 : UInt8), (110 : UInt8)]) (kXj (alts := Qi ()) ev0 true (.here () rfl (.refl _) (.refl _)))
 (kIf (c := x0 == [(115 : UInt8), (97 : UInt8), (116 : UInt8)]) (kXj (alts := Qi ()) ev0 true (.here () rfl (.refl _) (.refl _)))
 (kIf (c := x0 == [(119 : UInt8), (114 : UInt8), (97 : UInt8), (112 : UInt8)]) (kXj (alts := Qi ()) ev0 true (.here () rfl (.refl _) (.refl _)))
 (kXj (alts := Qi ()) ev0 false (.next (.here () rfl (.refl _) (.refl _)))))))))))))))))))))))))))
 (fun v0 => (kEr (enc := eB) true))
 (fun v0 => (kEr (enc := eB) false))) h)
def YT (s : Str) (u : Int) (o : Unit ⊕ Bool) : List Alt := lp o (.exit 0) (fun _ => [.undef]) (fun _ => []) .ret (fun x => [.bool x]) (fun _ => [])
def Qw (s : (Str × Int)) (u : Int) (o : Bool) : List Alt := jb o (fun b => [.str (s.1), ii (s.2), ii u, .bool b]) []
def Zu (x0 : Str) (x28 : Int) (x29 : Int) : Option (Unit ⊕ Bool) :=
 if x29 < x28 then
 ix x0 x29 >>= fun v0 =>
 some x29 >>= fun v1 =>
 (if (↑v0.toNat : Int) < 97 then
 if (↑v0.toNat : Int) < 48 then
 if (↑v0.toNat : Int) != 95 then
 some true
 else
 some false
 else
 if 57 < (↑v0.toNat : Int) then
 if (↑v0.toNat : Int) != 95 then
 some true
 else
 some false
 else
 some false
 else
 if 122 < (↑v0.toNat : Int) then
 if (↑v0.toNat : Int) < 48 then
 if (↑v0.toNat : Int) != 95 then
 some true
 else
 some false
 else
 if 57 < (↑v0.toNat : Int) then
 if (↑v0.toNat : Int) != 95 then
 some true
 else
 some false
 else
 some false
 else
 some false) >>= fun v2 => if v2 then
 some (.inr false)
 else
 Zu x0 x28 (wr (v1 + 1))
 else
 some (.inl ())
 partial_fixpoint
theorem Li (x0 x28 x29 o) (h : Zu x0 x28 x29 = some o) : LO 147 4 54 [0, 28, 29] [.str x0, ii x28, ii x29] [] [2] (YT x0 x28 o) :=
 Zu.partial_correctness x0 x28 (fun x29 o => LO 147 4 54 [0, 28, 29] [.str x0, ii x28, ii x29] [] [2] (YT x0 x28 o))
 (fun Zu Oh x29 o h  =>
 Lp2 (hs := [(30, .split), (34, .u), (36, .split), (39, .split), (43, .split), (46, .split), (51, .split), (5000007, .l [] [] [] [0, 28, 29, 52] [] (Qw (x0, x28)))]) (kb := []) (kbx := []) ((kIfD (p := x29 < x28) (kU (s := x0) (k := x29) fun v0 => (kJb (id := 5000007) x29 (fun v1 ev1 v2 => (kIfD (p := (↑v0.toNat : Int) < 97) (kIfD (p := (↑v0.toNat : Int) < 48) (kIf (c := (↑v0.toNat : Int) != 95) (kXj (alts := Qw (x0, x28)) ev1 true (.here () rfl (.refl _) (.refl _)))
 (kXj (alts := Qw (x0, x28)) ev1 false (.next (.here () rfl (.refl _) (.refl _)))))
 (kIfD (p := 57 < (↑v0.toNat : Int)) (kIf (c := (↑v0.toNat : Int) != 95) (kXj (alts := Qw (x0, x28)) ev1 true (.here () rfl (.refl _) (.refl _)))
 (kXj (alts := Qw (x0, x28)) ev1 false (.next (.here () rfl (.refl _) (.refl _)))))
 (kXj (alts := Qw (x0, x28)) ev1 false (.next (.here () rfl (.refl _) (.refl _))))))
 (kIfD (p := 122 < (↑v0.toNat : Int)) (kIfD (p := (↑v0.toNat : Int) < 48) (kIf (c := (↑v0.toNat : Int) != 95) (kXj (alts := Qw (x0, x28)) ev1 true (.here () rfl (.refl _) (.refl _)))
 (kXj (alts := Qw (x0, x28)) ev1 false (.next (.here () rfl (.refl _) (.refl _)))))
 (kIfD (p := 57 < (↑v0.toNat : Int)) (kIf (c := (↑v0.toNat : Int) != 95) (kXj (alts := Qw (x0, x28)) ev1 true (.here () rfl (.refl _) (.refl _)))
 (kXj (alts := Qw (x0, x28)) ev1 false (.next (.here () rfl (.refl _) (.refl _)))))
 (kXj (alts := Qw (x0, x28)) ev1 false (.next (.here () rfl (.refl _) (.refl _))))))
 (kXj (alts := Qw (x0, x28)) ev1 false (.next (.here () rfl (.refl _) (.refl _)))))))
 (fun v1 => (kX (alts := YT x0 x28) (.inr false) (.next (.here _ rfl (.refl _) (.refl _)))))
 (fun v1 => (kM0 (alts := YT x0 x28) (Oh (wr (v1 + 1)))))))
 (kX (alts := YT x0 x28) (.inl ()) (.here _ rfl (.refl _) (.refl _)))) h)) x29 o h
def ZO (s : Str) (u : Unit) (o : Bool) : List Alt := jb o (fun b => [.str s, .bool b]) []
def KZ (x0 : Str) : Option Bool :=
 some () >>= fun v0 =>
 (if (↑(List.length x0) : Int) < 1 then
 some true
 else
 if 16 < (↑(List.length x0) : Int) then
 some true
 else
 G3 x0 >>= fun v2 => if v2 then
 some true
 else
 ix x0 (0 : Int) >>= fun v3 =>
 if (↑v3.toNat : Int) < 97 then
 some true
 else
 ix x0 (0 : Int) >>= fun v4 =>
 if 122 < (↑v4.toNat : Int) then
 some true
 else
 some false) >>= fun v1 => if v1 then
 some false
 else
 some (↑(List.length x0) : Int) >>= fun v7 =>
 Zu x0 (↑(List.length x0) : Int) (0 : Int) >>= fun v8 => (match v8 with
 | (.inl v9) =>
 some true
 | (.inr v10) =>
 some v10)
theorem WK (x0 r) (h : KZ x0 = some r) : PU 147 [eS x0] (eB r) :=
 Pu2 (hs := [(7, .split), (11, .split), (15, .cb), (19, .u), (20, .split), (24, .u), (25, .split), (3000005, .l [] [0, 28, 29] [] [2] [] (YT x0)), (5000001, .l [] [] [] [0, 26] [] (ZO x0))]) ((kJb (id := 5000001) () (fun v0 ev0 v1 => (kIfD (p := (↑(List.length x0) : Int) < 1) (kXj (alts := ZO x0) ev0 true (.here () rfl (.refl _) (.refl _)))
 (kIfD (p := 16 < (↑(List.length x0) : Int)) (kXj (alts := ZO x0) ev0 true (.here () rfl (.refl _) (.refl _)))
 (kCb (EI x0) (kXj (alts := ZO x0) ev0 true (.here () rfl (.refl _) (.refl _)))
 (kU (s := x0) (k := (0 : Int)) fun v3 => (kIfD (p := (↑v3.toNat : Int) < 97) (kXj (alts := ZO x0) ev0 true (.here () rfl (.refl _) (.refl _)))
 (kU (s := x0) (k := (0 : Int)) fun v4 => (kIfD (p := 122 < (↑v4.toNat : Int)) (kXj (alts := ZO x0) ev0 true (.here () rfl (.refl _) (.refl _)))
 (kXj (alts := ZO x0) ev0 false (.next (.here () rfl (.refl _) (.refl _))))))))))))
 (fun v0 => (kEr (enc := eB) false))
 (fun v0 => (kL2 (↑(List.length x0) : Int) (hL := (Li x0 (↑(List.length x0) : Int) (0 : Int))) (hA := fun v7 v9 => (kEr (enc := eB) true))
 (hB := fun v7 v10 => (kEr (enc := eB) v10))))) h)
def KF (s : gLin) (u : ((List Qs) × Int)) (o : Unit ⊕ Int) : List Alt := lp o (.exit 0) (fun _ => [.undef]) (fun _ => []) .ret (fun x => [ii x]) (fun _ => [])
def XU (s : (gLin × (List Qs) × Int)) (u : Int) (o : Bool) : List Alt := jb o (fun b => [.ptr 0 0 0, .sl 2 (List.map Q4 (s.2.1)), ii (s.2.2), ii u, .bool b]) [.cells 0 (Qb (s.1)).cells]
def Xd (x1 : gLin) (x6 : List Qs) (x7 : Int) (x8 : Int) : Option (Unit ⊕ Int) :=
 if x8 < x7 then
 ix x6 x8 >>= fun v0 =>
 some x8 >>= fun v1 =>
 (KZ v0.fb >>= fun v3 => if v3 then
 if v0.fBy == 0 then
 some true
 else
 if 0 < x8 then
 ix x1.fL (wr (x8 - (1 : Int))) >>= fun v4 =>
 if !Op.bytesLess v4.fb v0.fb then
 some true
 else
 some false
 else
 some false
 else
 some true) >>= fun v2 => if v2 then
 some (.inr (1 : Int))
 else
 Xd x1 x6 x7 (wr (v1 + 1))
 else
 some (.inl ())
 partial_fixpoint
theorem Iv (x1 x6 x7 x8 o) (h : Xd x1 x6 x7 x8 = some o) : LO 146 2 39 [1, 6, 7, 8] [.ptr 0 0 0, .sl 2 (List.map Q4 x6), ii x7, ii x8] [.cells 0 (Qb x1).cells] [2] (KF x1 (x6, x7) o) :=
 Xd.partial_correctness x1 x6 x7 (fun x8 o => LO 146 2 39 [1, 6, 7, 8] [.ptr 0 0 0, .sl 2 (List.map Q4 x6), ii x7, ii x8] [.cells 0 (Qb x1).cells] [2] (KF x1 (x6, x7) o))
 (fun Xd Og x8 o h  =>
 Lp2 (hs := [(9, .split), (11, .e Q4), (15, .cb), (20, .split), (24, .split), (30, .e Q4), (35, .split), (5000004, .l [] [] [] [1, 6, 7, 8, 37] [kk 1] (XU (x1, x6, x7)))]) (kb := [kk 1]) (kbx := []) ((kIfD (p := x8 < x7) (kIx (enc := Q4) (l := x6) (k := x8) fun v0 => (kJb (id := 5000004) x8 (fun v1 ev1 v2 => (kCb (WK v0.fb) (kIf (c := v0.fBy == 0) (kXj (alts := XU (x1, x6, x7)) ev1 true (.here () rfl (.refl _) (.refl _)))
 (kIfD (p := 0 < x8) (kIx (enc := Q4) (l := x1.fL) (k := wr (x8 - (1 : Int))) fun v4 => (kIf (c := !Op.bytesLess v4.fb v0.fb) (kXj (alts := XU (x1, x6, x7)) ev1 true (.here () rfl (.refl _) (.refl _)))
 (kXj (alts := XU (x1, x6, x7)) ev1 false (.next (.here () rfl (.refl _) (.refl _))))))
 (kXj (alts := XU (x1, x6, x7)) ev1 false (.next (.here () rfl (.refl _) (.refl _))))))
 (kXj (alts := XU (x1, x6, x7)) ev1 true (.here () rfl (.refl _) (.refl _)))))
 (fun v1 => (kX (alts := KF x1 (x6, x7)) (.inr (1 : Int)) (.next (.here _ rfl (.refl _) (.refl _)))))
 (fun v1 => (kM0 (alts := KF x1 (x6, x7)) (Og (wr (v1 + 1)))))))
 (kX (alts := KF x1 (x6, x7)) (.inl ()) (.here _ rfl (.refl _) (.refl _)))) h)) x8 o h
def XL (x0 : gLin) : Option Int :=
 some (List.length x0.fL : Int) >>= fun v0 =>
 some (x0.fL, v0) >>= fun v1 =>
 Xd x0 x0.fL v0 0 >>= fun v2 => (match v2 with
 | (.inl v3) =>
 some (0 : Int)
 | (.inr v4) =>
 some v4)
theorem VM (x0 r) (h : XL x0 = some r) : PU 146 [Qb x0] (eI r) :=
 Pu2 (hs := [(7, .n eI 7 none), (3000003, .l [] [1, 6, 7, 8] [kk 1] [2] [] (KF x0))]) ((kN _ (mLen (sh := Q4) x0.fL) fun v0 => (kL2 (x0.fL, v0) (hL := (Iv x0 x0.fL v0 0)) (hA := fun v1 v3 => (kEr (enc := eI) (0 : Int)))
 (hB := fun v1 v4 => (kEr (enc := eI) v4)))) h)
def Uv (x0 : Int) : Option Bool :=
 some (x0 != x0)
theorem Nl (x0 r) (h : Uv x0 = some r) : PU 374 [eI x0] (eB r) :=
 Pu2 (hs := []) ((kEr (enc := eB) (x0 != x0)) h)
def Zz (x0 : Int) (x1 : Int) : Option Int :=
 Uv x0 >>= fun v0 =>
 Uv x1 >>= fun v1 =>
 if v0 then
 if v1 then
 some (0 : Int)
 else
 some (-1 : Int)
 else
 if v1 then
 some (1 : Int)
 else
 if x0 < x1 then
 some (-1 : Int)
 else
 if x1 < x0 then
 some (1 : Int)
 else
 some (0 : Int)
theorem XH (x0 x1 r) (h : Zz x0 x1 = some r) : PU 330 [eI x0, eI x1] (eI r) :=
 Pu2 (hs := [(8, .c eB), (10, .c eB), (11, .split), (12, .split), (13, .split), (16, .split), (19, .split)]) ((kC (sh := eB) (Nl x0) fun v0 => (kC (sh := eB) (Nl x1) fun v1 => (kIf (c := v0) (kIf (c := v1) (kEr (enc := eI) (0 : Int))
 (kEr (enc := eI) (-1 : Int)))
 (kIf (c := v1) (kEr (enc := eI) (1 : Int))
 (kIfD (p := x0 < x1) (kEr (enc := eI) (-1 : Int))
 (kIfD (p := x1 < x0) (kEr (enc := eI) (1 : Int))
 (kEr (enc := eI) (0 : Int)))))))) h)
def Ki (x0 : Str) (x1 : Str) : Option Int :=
 XB x0 x1 >>= fun v0 =>
 some v0
theorem Db (x0 x1 r) (h : Ki x0 x1 = some r) : PU 375 [eS x0, eS x1] (eI r) :=
 Pu2 (hs := [(7, .c eI)]) ((kC (sh := eI) (Jx x0 x1) fun v0 => (kEr (enc := eI) v0)) h)
def KH (x0 : Str) (x1 : Str) : Option Int :=
 Ki x0 x1 >>= fun v0 =>
 some v0
theorem GB (x0 x1 r) (h : KH x0 x1 = some r) : PU 331 [eS x0, eS x1] (eI r) :=
 Pu2 (hs := [(7, .c eI)]) ((kC (sh := eI) (Db x0 x1) fun v0 => (kEr (enc := eI) v0)) h)
def Jy (x0 : Int) : Option Bool :=
 some (x0 != x0)
theorem Wf (x0 r) (h : Jy x0 = some r) : PU 376 [eI x0] (eB r) :=
 Pu2 (hs := []) ((kEr (enc := eB) (x0 != x0)) h)
def KR (x0 : Int) (x1 : Int) : Option Int :=
 Jy x0 >>= fun v0 =>
 Jy x1 >>= fun v1 =>
 if v0 then
 if v1 then
 some (0 : Int)
 else
 some (-1 : Int)
 else
 if v1 then
 some (1 : Int)
 else
 if x0 < x1 then
 some (-1 : Int)
 else
 if x1 < x0 then
 some (1 : Int)
 else
 some (0 : Int)
theorem C9 (x0 x1 r) (h : KR x0 x1 = some r) : PU 332 [eI x0, eI x1] (eI r) :=
 Pu2 (hs := [(8, .c eB), (10, .c eB), (11, .split), (12, .split), (13, .split), (16, .split), (19, .split)]) ((kC (sh := eB) (Wf x0) fun v0 => (kC (sh := eB) (Wf x1) fun v1 => (kIf (c := v0) (kIf (c := v1) (kEr (enc := eI) (0 : Int))
 (kEr (enc := eI) (-1 : Int)))
 (kIf (c := v1) (kEr (enc := eI) (1 : Int))
 (kIfD (p := x0 < x1) (kEr (enc := eI) (-1 : Int))
 (kIfD (p := x1 < x0) (kEr (enc := eI) (1 : Int))
 (kEr (enc := eI) (0 : Int)))))))) h)
def Vk (s : Unit) (u : (Int × (List Int) × Int)) (o : Unit ⊕ Int) : List Alt := lp o (.exit 0) (fun _ => [.undef, ii u.1]) (fun _ => []) .ret (fun x => [ii x, ii u.1]) (fun _ => [])
def Yh (x3 : Int) (x6 : List Int) (x7 : Int) (x8 : Int) : Option (Unit ⊕ Int) :=
 if x8 < x7 then
 ix x6 x8 >>= fun v0 =>
 if v0 != x3 then
 some (.inr v0)
 else
 Yh x3 x6 x7 (wr (x8 + 1))
 else
 some (.inl ())
 partial_fixpoint
theorem HA (x3 x6 x7 x8 o) (h : Yh x3 x6 x7 x8 = some o) : LO 329 3 18 [3, 6, 7, 8] [ii x3, .sl 1 (List.map eI x6), ii x7, ii x8] [] [2, 3] (Vk () (x3, x6, x7) o) :=
 Yh.partial_correctness x3 x6 x7 (fun x8 o => LO 329 3 18 [3, 6, 7, 8] [ii x3, .sl 1 (List.map eI x6), ii x7, ii x8] [] [2, 3] (Vk () (x3, x6, x7) o))
 (fun Yh O6 x8 o h  =>
 Lp2 (hs := [(9, .split), (10, .e eI), (14, .split)]) (kb := []) (kbx := []) ((kIfD (p := x8 < x7) (kIx (enc := eI) (l := x6) (k := x8) fun v0 => (kIf (c := v0 != x3) (kX (alts := Vk () (x3, x6, x7)) (.inr v0) (.next (.here _ rfl (.refl _) (.refl _))))
 (kM0 (alts := Vk () (x3, x6, x7)) (O6 (wr (x8 + 1))))))
 (kX (alts := Vk () (x3, x6, x7)) (.inl ()) (.here _ rfl (.refl _) (.refl _)))) h)) x8 o h
def UI (x0 : List Int) : Option Int :=
 some (List.length x0 : Int) >>= fun v0 =>
 some ((0 : Int), x0, v0) >>= fun v1 =>
 Yh 0 x0 v0 0 >>= fun v2 => (match v2 with
 | (.inl v3) =>
 some v1.fst
 | (.inr v4) =>
 some v4)
theorem Ls (x0 r) (h : UI x0 = some r) : PU 329 [eLI x0] (eI r) :=
 Pu2 (hs := [(7, .n eI 7 none), (3000004, .l [] [3, 6, 7, 8] [] [2, 3] [] (Vk ()))]) ((kN _ (mLen (sh := eI) x0) fun v0 => (kL2 ((0 : Int), x0, v0) (hL := (HA 0 x0 v0 0)) (hA := fun v1 v3 => (kEr (enc := eI) v1.fst))
 (hB := fun v1 v4 => (kEr (enc := eI) v4)))) h)
def UJ (x0 : Qg) (x1 : Qg) : Option Int :=
 Zz x0.fv x1.fv >>= fun v0 =>
 Zz x0.fx x1.fx >>= fun v1 =>
 Zz x0.fB x1.fB >>= fun v2 =>
 Zz x0.fw x1.fw >>= fun v3 =>
 Zz x0.fC x1.fC >>= fun v4 =>
 UI [v0, v1, v2, v3, v4] >>= fun v5 =>
 some v5
theorem Lt (x0 x1 r) (h : UJ x0 x1 = some r) : PU 333 [Qp x0, Qp x1] (eI r) :=
 Pu2 (hs := [(9, .c eI), (14, .c eI), (19, .c eI), (24, .c eI), (29, .c eI), (31, .c eI)]) ((kC (sh := eI) (XH x0.fv x1.fv) fun v0 => (kC (sh := eI) (XH x0.fx x1.fx) fun v1 => (kC (sh := eI) (XH x0.fB x1.fB) fun v2 => (kC (sh := eI) (XH x0.fw x1.fw) fun v3 => (kC (sh := eI) (XH x0.fC x1.fC) fun v4 => (kC (sh := eI) (fun y hy => Pu.le (Ls [v0, v1, v2, v3, v4] y hy) (.cons (LeT.sl (.cons (x := AV.agg [ii v0]) (.refl _) (.cons (x := AV.agg [ii v1]) (.refl _) (.cons (x := AV.agg [ii v2]) (.refl _) (.cons (x := AV.agg [ii v3]) (.refl _) (.cons (x := AV.agg [ii v4]) (.refl _) .nil)))))) .nil) (LeT.refl _)) fun v5 => (kEr (enc := eI) v5))))))) h)
def GD (x0 : Int) (x1 : Int) : Option Int :=
 if x0 < x1 then
 some (-1 : Int)
 else
 if x1 < x0 then
 some (1 : Int)
 else
 some (0 : Int)
theorem ID (x0 x1 r) (h : GD x0 x1 = some r) : PU 379 [eI x0, eI x1] (eI r) :=
 Pu2 (hs := [(8, .split), (12, .split)]) ((kIfD (p := x0 < x1) (kEr (enc := eI) (-1 : Int))
 (kIfD (p := x1 < x0) (kEr (enc := eI) (1 : Int))
 (kEr (enc := eI) (0 : Int)))) h)
def Nk (x0 : Qs) (x1 : Qs) : Option Int :=
 if !x0.fb == x1.fb then
 KH x0.fb x1.fb >>= fun v0 =>
 some v0
 else
 GD x0.fBy x1.fBy >>= fun v1 =>
 some v1
theorem HG (x0 x1 r) (h : Nk x0 x1 = some r) : PU 378 [Q4 x0, Q4 x1] (eI r) :=
 Pu2 (hs := [(9, .split), (14, .c eI), (19, .c eI)]) ((kIf (c := !x0.fb == x1.fb) (kC (sh := eI) (GB x0.fb x1.fb) fun v0 => (kEr (enc := eI) v0))
 (kC (sh := eI) (ID x0.fBy x1.fBy) fun v1 => (kEr (enc := eI) v1))) h)
def QH (s : ((List Qs) × (List Qs))) (u : ((List Qs) × Int)) (o : Unit ⊕ Int) : List Alt := lp o (.exit 0) (fun _ => [.sl 2 (List.map Q4 s.1), .sl 2 (List.map Q4 s.2), .undef]) (fun _ => []) .ret (fun x => [.sl 2 (List.map Q4 s.1), .sl 2 (List.map Q4 s.2), ii x]) (fun _ => [])
def QI (x1 : List Qs) (x11 : List Qs) (x12 : Int) (x13 : Int) : Option (Unit ⊕ Int) :=
 if x13 < x12 then
 ix x11 x13 >>= fun v0 =>
 some (List.length x1 : Int) >>= fun v1 =>
 if v1 ≤ x13 then
 some (.inr (1 : Int))
 else
 ix x1 x13 >>= fun v2 =>
 Nk v0 v2 >>= fun v3 =>
 if v3 != 0 then
 some (.inr v3)
 else
 QI x1 x11 x12 (wr (x13 + 1))
 else
 some (.inl ())
 partial_fixpoint
theorem UE (x0 : List Qs) (x1 : List Qs) (x11 : List Qs) (x12 : Int) (x13 : Int) (o : Unit ⊕ Int) (h : QI x1 x11 x12 x13 = some o) : LO 377 2 39 [0, 1, 2, 11, 12, 13] [.sl 2 (List.map Q4 x0), .sl 2 (List.map Q4 x1), .fn 378 [], .sl 2 (List.map Q4 x11), ii x12, ii x13] [] [0, 1, 6] (QH (x0, x1) (x11, x12) o) :=
 QI.partial_correctness x1 x11 x12 (fun x13 o => ∀ (x0 : List Qs), LO 377 2 39 [0, 1, 2, 11, 12, 13] [.sl 2 (List.map Q4 x0), .sl 2 (List.map Q4 x1), .fn 378 [], .sl 2 (List.map Q4 x11), ii x12, ii x13] [] [0, 1, 6] (QH (x0, x1) (x11, x12) o))
 (fun QI OT x13 o h x0 =>
 Lp2 (hs := [(14, .split), (16, .e Q4), (20, .n eI 20 none), (21, .split), (24, .e Q4), (29, .c eI), (31, .split)]) (kb := []) (kbx := []) ((kIfD (p := x13 < x12) (kIx (enc := Q4) (l := x11) (k := x13) fun v0 => (kN _ (mLen (sh := Q4) x1) fun v1 => (kIfD (p := v1 ≤ x13) (kX (alts := QH (x0, x1) (x11, x12)) (.inr (1 : Int)) (.next (.here _ rfl (.refl _) (.refl _))))
 (kIx (enc := Q4) (l := x1) (k := x13) fun v2 => (kC (sh := eI) (HG v0 v2) fun v3 => (kIf (c := v3 != 0) (kX (alts := QH (x0, x1) (x11, x12)) (.inr v3) (.next (.here _ rfl (.refl _) (.refl _))))
 (kM0 (alts := QH (x0, x1) (x11, x12)) (fun y hy => OT (wr (x13 + 1)) y hy x0))))))))
 (kX (alts := QH (x0, x1) (x11, x12)) (.inl ()) (.here _ rfl (.refl _) (.refl _)))) h)) x13 o h x0
def YP (x0 : List Qs) (x1 : List Qs) : Option Int :=
 some (List.length x0 : Int) >>= fun v0 =>
 some (x0, v0) >>= fun v1 =>
 QI x1 x0 v0 0 >>= fun v2 => (match v2 with
 | (.inl v3) =>
 some (List.length x0 : Int) >>= fun v4 =>
 some (List.length x1 : Int) >>= fun v5 =>
 if v4 < v5 then
 some (-1 : Int)
 else
 some (0 : Int)
 | (.inr v6) =>
 some v6)
theorem Gx (x0 x1 r) (h : YP x0 x1 = some r) : PU 377 [YY x0, YY x1, .fn 378 []] (eI r) :=
 Pu2 (hs := [(12, .n eI 12 none), (35, .n eI 35 none), (37, .n eI 37 none), (38, .split), (3000003, .l [] [0, 1, 2, 11, 12, 13] [] [0, 1, 6] [] (QH (x0, x1)))]) ((kN _ (mLen (sh := Q4) x0) fun v0 => (kL2 (x0, v0) (hL := (UE x0 x1 x0 v0 0)) (hA := fun v1 v3 => (kN _ (mLen (sh := Q4) x0) fun v4 => (kN _ (mLen (sh := Q4) x1) fun v5 => (kIfD (p := v4 < v5) (kEr (enc := eI) (-1 : Int))
 (kEr (enc := eI) (0 : Int))))))
 (hB := fun v1 v6 => (kEr (enc := eI) v6)))) h)
def J3 (x0 : gLin) (x1 : gLin) : Option Int :=
 YP x0.fL x1.fL >>= fun v0 =>
 if v0 != 0 then
 some v0
 else
 GD x0.fK x1.fK >>= fun v1 =>
 some v1
theorem Wb (x0 x1 r) (h : J3 x0 x1 = some r) : PU 334 [Qb x0, Qb x1] (eI r) :=
 Pu2 (hs := [(10, .c eI), (12, .split), (18, .c eI)]) ((kC (sh := eI) (Gx x0.fL x1.fL) fun v0 => (kIf (c := v0 != 0) (kEr (enc := eI) v0)
 (kC (sh := eI) (ID x0.fK x1.fK) fun v1 => (kEr (enc := eI) v1)))) h)
def QP (s : ((List gLin) × (List gLin))) (u : ((List gLin) × Int)) (o : Unit ⊕ Int) : List Alt := lp o (.exit 0) (fun _ => [.sl 2 (List.map Qb s.1), .sl 2 (List.map Qb s.2), .undef]) (fun _ => []) .ret (fun x => [.sl 2 (List.map Qb s.1), .sl 2 (List.map Qb s.2), ii x]) (fun _ => [])
def ZB (x1 : List gLin) (x11 : List gLin) (x12 : Int) (x13 : Int) : Option (Unit ⊕ Int) :=
 if x13 < x12 then
 ix x11 x13 >>= fun v0 =>
 some (List.length x1 : Int) >>= fun v1 =>
 if v1 ≤ x13 then
 some (.inr (1 : Int))
 else
 ix x1 x13 >>= fun v2 =>
 J3 v0 v2 >>= fun v3 =>
 if v3 != 0 then
 some (.inr v3)
 else
 ZB x1 x11 x12 (wr (x13 + 1))
 else
 some (.inl ())
 partial_fixpoint
theorem UN (x0 : List gLin) (x1 : List gLin) (x11 : List gLin) (x12 : Int) (x13 : Int) (o : Unit ⊕ Int) (h : ZB x1 x11 x12 x13 = some o) : LO 402 2 39 [0, 1, 2, 11, 12, 13] [.sl 2 (List.map Qb x0), .sl 2 (List.map Qb x1), .fn 334 [], .sl 2 (List.map Qb x11), ii x12, ii x13] [] [0, 1, 6] (QP (x0, x1) (x11, x12) o) :=
 ZB.partial_correctness x1 x11 x12 (fun x13 o => ∀ (x0 : List gLin), LO 402 2 39 [0, 1, 2, 11, 12, 13] [.sl 2 (List.map Qb x0), .sl 2 (List.map Qb x1), .fn 334 [], .sl 2 (List.map Qb x11), ii x12, ii x13] [] [0, 1, 6] (QP (x0, x1) (x11, x12) o))
 (fun ZB OS x13 o h x0 =>
 Lp2 (hs := [(14, .split), (16, .e Qb), (20, .n eI 20 none), (21, .split), (24, .e Qb), (29, .c eI), (31, .split)]) (kb := []) (kbx := []) ((kIfD (p := x13 < x12) (kIx (enc := Qb) (l := x11) (k := x13) fun v0 => (kN _ (mLen (sh := Qb) x1) fun v1 => (kIfD (p := v1 ≤ x13) (kX (alts := QP (x0, x1) (x11, x12)) (.inr (1 : Int)) (.next (.here _ rfl (.refl _) (.refl _))))
 (kIx (enc := Qb) (l := x1) (k := x13) fun v2 => (kC (sh := eI) (Wb v0 v2) fun v3 => (kIf (c := v3 != 0) (kX (alts := QP (x0, x1) (x11, x12)) (.inr v3) (.next (.here _ rfl (.refl _) (.refl _))))
 (kM0 (alts := QP (x0, x1) (x11, x12)) (fun y hy => OS (wr (x13 + 1)) y hy x0))))))))
 (kX (alts := QP (x0, x1) (x11, x12)) (.inl ()) (.here _ rfl (.refl _) (.refl _)))) h)) x13 o h x0
def VF (x0 : List gLin) (x1 : List gLin) : Option Int :=
 some (List.length x0 : Int) >>= fun v0 =>
 some (x0, v0) >>= fun v1 =>
 ZB x1 x0 v0 0 >>= fun v2 => (match v2 with
 | (.inl v3) =>
 some (List.length x0 : Int) >>= fun v4 =>
 some (List.length x1 : Int) >>= fun v5 =>
 if v4 < v5 then
 some (-1 : Int)
 else
 some (0 : Int)
 | (.inr v6) =>
 some v6)
theorem GI (x0 x1 r) (h : VF x0 x1 = some r) : PU 402 [WQ x0, WQ x1, .fn 334 []] (eI r) :=
 Pu2 (hs := [(12, .n eI 12 none), (35, .n eI 35 none), (37, .n eI 37 none), (38, .split), (3000003, .l [] [0, 1, 2, 11, 12, 13] [] [0, 1, 6] [] (QP (x0, x1)))]) ((kN _ (mLen (sh := Qb) x0) fun v0 => (kL2 (x0, v0) (hL := (UN x0 x1 x0 v0 0)) (hA := fun v1 v3 => (kN _ (mLen (sh := Qb) x0) fun v4 => (kN _ (mLen (sh := Qb) x1) fun v5 => (kIfD (p := v4 < v5) (kEr (enc := eI) (-1 : Int))
 (kEr (enc := eI) (0 : Int))))))
 (hB := fun v1 v6 => (kEr (enc := eI) v6)))) h)
def VP (x0 : List gLin) (x1 : List gLin) : Option Int :=
 some (List.length x0 : Int) >>= fun v0 =>
 some (List.length x1 : Int) >>= fun v1 =>
 Zz v0 v1 >>= fun v2 =>
 if v2 != 0 then
 some v2
 else
 VF x0 x1 >>= fun v3 =>
 some v3
theorem Da (x0 x1 r) (h : VP x0 x1 = some r) : PU 381 [WQ x0, WQ x1, .fn 334 []] (eI r) :=
 Pu2 (hs := [(9, .n eI 9 none), (11, .n eI 11 none), (12, .c eI), (14, .split), (19, .c eI)]) ((kN _ (mLen (sh := Qb) x0) fun v0 => (kN _ (mLen (sh := Qb) x1) fun v1 => (kC (sh := eI) (XH v0 v1) fun v2 => (kIf (c := v2 != 0) (kEr (enc := eI) v2)
 (kC (sh := eI) (GI x0 x1) fun v3 => (kEr (enc := eI) v3)))))) h)
def C7 (x0 : Q6) (x1 : Q6) : Option Int :=
 KH x0.fH x1.fH >>= fun v0 =>
 if v0 != 0 then
 some v0
 else
 J3 x0.fo x1.fo >>= fun v1 =>
 if v1 != 0 then
 some v1
 else
 VP x0.fAt x1.fAt >>= fun v2 =>
 some v2
theorem Lf (x0 x1 r) (h : C7 x0 x1 = some r) : PU 336 [Q1 x0, Q1 x1] (eI r) :=
 Pu2 (hs := [(11, .c eI), (13, .split), (19, .c eI), (21, .split), (27, .c eI)]) ((kC (sh := eI) (GB x0.fH x1.fH) fun v0 => (kIf (c := v0 != 0) (kEr (enc := eI) v0)
 (kC (sh := eI) (Wb x0.fo x1.fo) fun v1 => (kIf (c := v1 != 0) (kEr (enc := eI) v1)
 (kC (sh := eI) (Da x0.fAt x1.fAt) fun v2 => (kEr (enc := eI) v2)))))) h)
def QD (s : ((List Q6) × (List Q6))) (u : ((List Q6) × Int)) (o : Unit ⊕ Int) : List Alt := lp o (.exit 0) (fun _ => [.sl 4 (List.map Q1 s.1), .sl 4 (List.map Q1 s.2), .undef]) (fun _ => []) .ret (fun x => [.sl 4 (List.map Q1 s.1), .sl 4 (List.map Q1 s.2), ii x]) (fun _ => [])
def Z5 (x1 : List Q6) (x11 : List Q6) (x12 : Int) (x13 : Int) : Option (Unit ⊕ Int) :=
 if x13 < x12 then
 ix x11 x13 >>= fun v0 =>
 some (List.length x1 : Int) >>= fun v1 =>
 if v1 ≤ x13 then
 some (.inr (1 : Int))
 else
 ix x1 x13 >>= fun v2 =>
 C7 v0 v2 >>= fun v3 =>
 if v3 != 0 then
 some (.inr v3)
 else
 Z5 x1 x11 x12 (wr (x13 + 1))
 else
 some (.inl ())
 partial_fixpoint
theorem Uu (x0 : List Q6) (x1 : List Q6) (x11 : List Q6) (x12 : Int) (x13 : Int) (o : Unit ⊕ Int) (h : Z5 x1 x11 x12 x13 = some o) : LO 380 2 39 [0, 1, 2, 11, 12, 13] [.sl 4 (List.map Q1 x0), .sl 4 (List.map Q1 x1), .fn 336 [], .sl 4 (List.map Q1 x11), ii x12, ii x13] [] [0, 1, 6] (QD (x0, x1) (x11, x12) o) :=
 Z5.partial_correctness x1 x11 x12 (fun x13 o => ∀ (x0 : List Q6), LO 380 2 39 [0, 1, 2, 11, 12, 13] [.sl 4 (List.map Q1 x0), .sl 4 (List.map Q1 x1), .fn 336 [], .sl 4 (List.map Q1 x11), ii x12, ii x13] [] [0, 1, 6] (QD (x0, x1) (x11, x12) o))
 (fun Z5 OQ x13 o h x0 =>
 Lp2 (hs := [(14, .split), (16, .e Q1), (20, .n eI 20 none), (21, .split), (24, .e Q1), (29, .c eI), (31, .split)]) (kb := []) (kbx := []) ((kIfD (p := x13 < x12) (kIx (enc := Q1) (l := x11) (k := x13) fun v0 => (kN _ (mLen (sh := Q1) x1) fun v1 => (kIfD (p := v1 ≤ x13) (kX (alts := QD (x0, x1) (x11, x12)) (.inr (1 : Int)) (.next (.here _ rfl (.refl _) (.refl _))))
 (kIx (enc := Q1) (l := x1) (k := x13) fun v2 => (kC (sh := eI) (Lf v0 v2) fun v3 => (kIf (c := v3 != 0) (kX (alts := QD (x0, x1) (x11, x12)) (.inr v3) (.next (.here _ rfl (.refl _) (.refl _))))
 (kM0 (alts := QD (x0, x1) (x11, x12)) (fun y hy => OQ (wr (x13 + 1)) y hy x0))))))))
 (kX (alts := QD (x0, x1) (x11, x12)) (.inl ()) (.here _ rfl (.refl _) (.refl _)))) h)) x13 o h x0
def YF (x0 : List Q6) (x1 : List Q6) : Option Int :=
 some (List.length x0 : Int) >>= fun v0 =>
 some (x0, v0) >>= fun v1 =>
 Z5 x1 x0 v0 0 >>= fun v2 => (match v2 with
 | (.inl v3) =>
 some (List.length x0 : Int) >>= fun v4 =>
 some (List.length x1 : Int) >>= fun v5 =>
 if v4 < v5 then
 some (-1 : Int)
 else
 some (0 : Int)
 | (.inr v6) =>
 some v6)
theorem G5 (x0 x1 r) (h : YF x0 x1 = some r) : PU 380 [KA x0, KA x1, .fn 336 []] (eI r) :=
 Pu2 (hs := [(12, .n eI 12 none), (35, .n eI 35 none), (37, .n eI 37 none), (38, .split), (3000003, .l [] [0, 1, 2, 11, 12, 13] [] [0, 1, 6] [] (QD (x0, x1)))]) ((kN _ (mLen (sh := Q1) x0) fun v0 => (kL2 (x0, v0) (hL := (Uu x0 x1 x0 v0 0)) (hA := fun v1 v3 => (kN _ (mLen (sh := Q1) x0) fun v4 => (kN _ (mLen (sh := Q1) x1) fun v5 => (kIfD (p := v4 < v5) (kEr (enc := eI) (-1 : Int))
 (kEr (enc := eI) (0 : Int))))))
 (hB := fun v1 v6 => (kEr (enc := eI) v6)))) h)
def XE (x0 : List Q6) (x1 : List Q6) : Option Int :=
 some (List.length x0 : Int) >>= fun v0 =>
 some (List.length x1 : Int) >>= fun v1 =>
 Zz v0 v1 >>= fun v2 =>
 if v2 != 0 then
 some v2
 else
 YF x0 x1 >>= fun v3 =>
 some v3
theorem Gw (x0 x1 r) (h : XE x0 x1 = some r) : PU 335 [KA x0, KA x1, .fn 336 []] (eI r) :=
 Pu2 (hs := [(9, .n eI 9 none), (11, .n eI 11 none), (12, .c eI), (14, .split), (19, .c eI)]) ((kN _ (mLen (sh := Q1) x0) fun v0 => (kN _ (mLen (sh := Q1) x1) fun v1 => (kC (sh := eI) (XH v0 v1) fun v2 => (kIf (c := v2 != 0) (kEr (enc := eI) v2)
 (kC (sh := eI) (G5 x0 x1) fun v3 => (kEr (enc := eI) v3)))))) h)
def QG (s : ((List Qf) × (List Qf))) (u : ((List Qf) × Int)) (o : Unit ⊕ Int) : List Alt := lp o (.exit 0) (fun _ => [.sl 13 (List.map Qd s.1), .sl 13 (List.map Qd s.2), .undef]) (fun _ => []) .ret (fun x => [.sl 13 (List.map Qd s.1), .sl 13 (List.map Qd s.2), ii x]) (fun _ => [])
mutual
def KX (x0 : Q3) (x1 : Q3) : Option Int :=
 Zz x0.fOp x1.fOp >>= fun v0 =>
 KH x0.fb x1.fb >>= fun v1 =>
 KR x0.fy.fN x1.fy.fN >>= fun v2 =>
 KR x0.fy.fD x1.fy.fD >>= fun v3 =>
 UJ x0.fa x1.fa >>= fun v4 =>
 J3 x0.fo x1.fo >>= fun v5 =>
 UI [v0, v1, v2, v3, v4, v5] >>= fun v6 =>
 if v6 != 0 then
 some v6
 else
 XE x0.fi x1.fi >>= fun v7 =>
 if v7 != 0 then
 some v7
 else
 ZZ x0.ff x1.ff >>= fun v8 =>
 some v8
 partial_fixpoint
def ZZ (x0 : List Qf) (x1 : List Qf) : Option Int :=
 some (List.length x0 : Int) >>= fun v0 =>
 some (List.length x1 : Int) >>= fun v1 =>
 Zz v0 v1 >>= fun v2 =>
 if v2 != 0 then
 some v2
 else
 XF x0 x1 >>= fun v3 =>
 some v3
 partial_fixpoint
def XF (x0 : List Qf) (x1 : List Qf) : Option Int :=
 some (List.length x0 : Int) >>= fun v0 =>
 some (x0, v0) >>= fun v1 =>
 Za x1 x0 v0 0 >>= fun v2 => (match v2 with
 | (.inl v3) =>
 some (List.length x0 : Int) >>= fun v4 =>
 some (List.length x1 : Int) >>= fun v5 =>
 if v4 < v5 then
 some (-1 : Int)
 else
 some (0 : Int)
 | (.inr v6) =>
 some v6)
 partial_fixpoint
def Za (x1 : List Qf) (x11 : List Qf) (x12 : Int) (x13 : Int) : Option (Unit ⊕ Int) :=
 if x13 < x12 then
 Option.map Qf.f (ix x11 x13) >>= fun v0 =>
 some (List.length x1 : Int) >>= fun v1 =>
 if v1 ≤ x13 then
 some (.inr (1 : Int))
 else
 Option.map Qf.f (ix x1 x13) >>= fun v2 =>
 KX v0 v2 >>= fun v3 =>
 if v3 != 0 then
 some (.inr v3)
 else
 Za x1 x11 x12 (wr (x13 + 1))
 else
 some (.inl ())
 partial_fixpoint
end
theorem Hz  : (∀ (x0 : Q3) (x1 : Q3) (r : Int), KX x0 x1 = some r → PU 271 [Qa x0, Qa x1] (eI r)) ∧ (∀ (x0 : List Qf) (x1 : List Qf) (r : Int), ZZ x0 x1 = some r → PU 337 [G8 x0, G8 x1, .fn 271 []] (eI r)) ∧ (∀ (x0 : List Qf) (x1 : List Qf) (r : Int), XF x0 x1 = some r → PU 382 [G8 x0, G8 x1, .fn 271 []] (eI r)) ∧ (∀ (x1 : List Qf) (x11 : List Qf) (x12 : Int) (x13 : Int) (o : Unit ⊕ Int), Za x1 x11 x12 x13 = some o → ∀ (x0 : List Qf), LO 382 2 39 [0, 1, 2, 11, 12, 13] [.sl 13 (List.map Qd x0), .sl 13 (List.map Qd x1), .fn 271 [], .sl 13 (List.map Qd x11), ii x12, ii x13] [] [0, 1, 6] (QG (x0, x1) (x11, x12) o)) :=
 KX.mutual_partial_correctness  _ _ _ _
 (fun ZZ O8 x0 x1 r h  =>
 Pu2 (hs := [(11, .c eI), (16, .c eI), (23, .c eI), (30, .c eI), (35, .c eI), (40, .c eI), (42, .c eI), (44, .split), (50, .c eI), (52, .split), (58, .c eI)]) ((kC (sh := eI) (XH x0.fOp x1.fOp) fun v0 => (kC (sh := eI) (GB x0.fb x1.fb) fun v1 => (kC (sh := eI) (C9 x0.fy.fN x1.fy.fN) fun v2 => (kC (sh := eI) (C9 x0.fy.fD x1.fy.fD) fun v3 => (kC (sh := eI) (Lt x0.fa x1.fa) fun v4 => (kC (sh := eI) (Wb x0.fo x1.fo) fun v5 => (kC (sh := eI) (fun y hy => Pu.le (Ls [v0, v1, v2, v3, v4, v5] y hy) (.cons (LeT.sl (.cons (x := AV.agg [ii v0]) (.refl _) (.cons (x := AV.agg [ii v1]) (.refl _) (.cons (x := AV.agg [ii v2]) (.refl _) (.cons (x := AV.agg [ii v3]) (.refl _) (.cons (x := AV.agg [ii v4]) (.refl _) (.cons (x := AV.agg [ii v5]) (.refl _) .nil))))))) .nil) (LeT.refl _)) fun v6 => (kIf (c := v6 != 0) (kEr (enc := eI) v6)
 (kC (sh := eI) (Gw x0.fi x1.fi) fun v7 => (kIf (c := v7 != 0) (kEr (enc := eI) v7)
 (kC (sh := eI) (O8 x0.ff x1.ff) fun v8 => (kEr (enc := eI) v8)))))))))))) h))
 (fun XF OO x0 x1 r h  =>
 Pu2 (hs := [(9, .n eI 9 none), (11, .n eI 11 none), (12, .c eI), (14, .split), (19, .c eI)]) ((kN _ (mLen (sh := Qd) x0) fun v0 => (kN _ (mLen (sh := Qd) x1) fun v1 => (kC (sh := eI) (XH v0 v1) fun v2 => (kIf (c := v2 != 0) (kEr (enc := eI) v2)
 (kC (sh := eI) (OO x0 x1) fun v3 => (kEr (enc := eI) v3)))))) h))
 (fun Za OP x0 x1 r h  =>
 Pu2 (hs := [(12, .n eI 12 none), (35, .n eI 35 none), (37, .n eI 37 none), (38, .split), (3000003, .l [] [0, 1, 2, 11, 12, 13] [] [0, 1, 6] [] (QG (x0, x1)))]) ((kN _ (mLen (sh := Qd) x0) fun v0 => (kL2 (x0, v0) (hL := (fun y hy => OP x1 x0 v0 0 y hy x0)) (hA := fun v1 v3 => (kN _ (mLen (sh := Qd) x0) fun v4 => (kN _ (mLen (sh := Qd) x1) fun v5 => (kIfD (p := v4 < v5) (kEr (enc := eI) (-1 : Int))
 (kEr (enc := eI) (0 : Int))))))
 (hB := fun v1 v6 => (kEr (enc := eI) v6)))) h))
 (fun KX Za O7 OP x1 x11 x12 x13 o h x0 =>
 Lp2 (hs := [(14, .split), (16, .e Qa), (20, .n eI 20 none), (21, .split), (24, .e Qa), (29, .c eI), (31, .split)]) (kb := []) (kbx := []) ((kIfD (p := x13 < x12) (kIxR (l := x11) (k := x13) Ju fun v0 => (kN _ (mLen (sh := Qd) x1) fun v1 => (kIfD (p := v1 ≤ x13) (kX (alts := QG (x0, x1) (x11, x12)) (.inr (1 : Int)) (.next (.here _ rfl (.refl _) (.refl _))))
 (kIxR (l := x1) (k := x13) Ju fun v2 => (kC (sh := eI) (O7 v0 v2) fun v3 => (kIf (c := v3 != 0) (kX (alts := QG (x0, x1) (x11, x12)) (.inr v3) (.next (.here _ rfl (.refl _) (.refl _))))
 (kM0 (alts := QG (x0, x1) (x11, x12)) (fun y hy => OP x1 x11 x12 (wr (x13 + 1)) y hy x0))))))))
 (kX (alts := QG (x0, x1) (x11, x12)) (.inl ()) (.here _ rfl (.refl _) (.refl _)))) h))
theorem ED (x0 x1 r) (h : KX x0 x1 = some r) : PU 271 [Qa x0, Qa x1] (eI r) := (Hz ).1 x0 x1 r h
def NF (x0 : Q3) (x1 : Q3) : Option Bool :=
 KX x0 x1 >>= fun v0 =>
 some (v0 == 0)
theorem Sp (x0 x1 r) (h : NF x0 x1 = some r) : PU 222 [Qa x0, Qa x1] (eB r) :=
 Pu2 (hs := [(7, .c eI)]) ((kC (sh := eI) (ED x0 x1) fun v0 => (kEr (enc := eB) (v0 == 0))) h)
def JB (x0 : Q3) : Option Bool :=
 some ((Qv.mk (0 : Int) [] (gVal.mk (0 : Int) (0 : Int)) (Qg.mk (0 : Int) (0 : Int) (0 : Int) (0 : Int) (0 : Int)) (gLin.mk (0 : Int) []) [] [] : Q3)) >>= fun v0 =>
 NF x0 v0 >>= fun v1 =>
 some v1
theorem Iw (x0 r) (h : JB x0 = some r) : PU 193 [Qa x0] (eB r) :=
 Pu2 (hs := [(4, .n Qa 4 none), (5, .c eB)]) ((kW (sh := Qa) (Qv.mk (0 : Int) [] (gVal.mk (0 : Int) (0 : Int)) (Qg.mk (0 : Int) (0 : Int) (0 : Int) (0 : Int) (0 : Int)) (gLin.mk (0 : Int) []) [] [] : Q3) (LeV.agg (.cons lr (.cons lr (.cons lr (.cons lr (.cons lr (.cons lr (.cons lr (.cons lr (.cons lr (.cons lr (.cons (LeV.nil 2) (.cons (LeV.nil 4) (.cons (LeV.nil 13) .nil)))))))))))))) fun v0 => (kC (sh := eB) (Sp x0 v0) fun v1 => (kEr (enc := eB) v1))) h)
def Vr (s : Qe) (u : Unit) (o : (Bool × Bool × Bool)) : List Alt := l1 o .normal (fun x => [.ptr 0 0 0, .bool (x.1), .bool (x.2.1), .bool (x.2.2)]) (fun _ => [.cells 0 (Qm s).cells])
def Y4 (s : Qe) (u : (Bool × Bool × Bool)) (o : Bool) : List Alt := jb o (fun b => [.ptr 0 0 0, .bool (u.1), .bool (u.2.1), .bool (u.2.2), .bool b]) [.cells 0 (Qm s).cells]
def Ka (s : Qe) (u : (Bool × Bool)) (o : Bool) : List Alt := jb o (fun b => [.ptr 0 0 0, .bool (u.1), .bool (u.2), .bool b]) [.cells 0 (Qm s).cells]
def Y5 (s : Qe) (u : (Bool × Bool)) (o : Bool) : List Alt := jb o (fun b => [.ptr 0 0 0, .bool (u.1), .bool (u.2), .bool b]) [.cells 0 (Qm s).cells]
def Kb (s : Qe) (u : (Bool × Bool)) (o : Bool) : List Alt := jb o (fun b => [.ptr 0 0 0, .bool (u.1), .bool (u.2), .bool b]) [.cells 0 (Qm s).cells]
def Kc (s : Qe) (u : (Bool × Bool)) (o : Bool) : List Alt := jb o (fun b => [.ptr 0 0 0, .bool (u.1), .bool (u.2), .bool b]) [.cells 0 (Qm s).cells]
def Kd (s : Qe) (u : Bool) (o : Bool) : List Alt := jb o (fun b => [.ptr 0 0 0, .bool u, .bool b]) [.cells 0 (Qm s).cells]
def JC (x0 : Qe) : Option Bool :=
 some () >>= fun v0 =>
 (if x0.fOp == 2 then
 some ((x0.fOp == 1), true, (x0.fOp == 4))
 else
 some ((x0.fOp == 1), (x0.fOp == 3), (x0.fOp == 4))) >>= fun v2 =>
 some (v2.fst, v2.snd.fst, v2.snd.snd) >>= fun v3 =>
 (if v2.fst then
 some false
 else
 if v2.snd.fst then
 some false
 else
 if v2.snd.snd then
 some false
 else
 some true) >>= fun v4 => if v4 then
 some false
 else
 some (v3.fst, v3.snd.fst) >>= fun v7 =>
 (if v3.snd.snd then
 if !x0.fb == [] then
 some true
 else
 some false
 else
 some false) >>= fun v8 => if v8 then
 some false
 else
 some (v7.fst, v7.snd) >>= fun v11 =>
 (if v7.fst then
 some false
 else
 if x0.fE != 0 then
 some true
 else
 if x0.fG != 0 then
 some true
 else
 some false) >>= fun v12 => if v12 then
 some false
 else
 some (v11.fst, v11.snd) >>= fun v15 =>
 (if x0.fOp != 3 then
 if x0.fF != 0 then
 some true
 else
 some false
 else
 some false) >>= fun v16 => if v16 then
 some false
 else
 some (v15.fst, v15.snd) >>= fun v19 =>
 (if v15.snd then
 some false
 else
 some (List.length x0.fi : Int) >>= fun v21 =>
 if 0 < v21 then
 some true
 else
 some false) >>= fun v20 => if v20 then
 some false
 else
 some v19.snd >>= fun v24 =>
 (if v19.fst then
 JB x0.fq >>= fun v26 => if v26 then
 some false
 else
 some true
 else
 some false) >>= fun v25 => if v25 then
 some false
 else
 if v24 then
 some (List.length x0.fd : Int) >>= fun v29 =>
 some (v29 == 0)
 else
 some true
theorem Ix (x0 r) (h : JC x0 = some r) : PU 160 [Qm x0] (eB r) :=
 Pu2 (hs := [(11, .split), (21, .split), (24, .split), (28, .split), (32, .split), (36, .split), (39, .split), (44, .split), (48, .split), (54, .split), (58, .split), (61, .split), (66, .n eI 66 none), (67, .split), (70, .split), (74, .cb), (77, .split), (82, .n eI 82 none), (5000001, .l [] [] [] [1, 3, 4, 5] [kk 1] (Vr x0)), (5000002, .l [] [] [] [1, 3, 4, 5, 20] [kk 1] (Y4 x0)), (5000004, .l [] [] [] [1, 3, 4, 31] [kk 1] (Ka x0)), (5000006, .l [] [] [] [1, 3, 4, 38] [kk 1] (Y5 x0)), (5000008, .l [] [] [] [1, 3, 4, 51] [kk 1] (Kb x0)), (5000010, .l [] [] [] [1, 3, 4, 60] [kk 1] (Kc x0)), (5000012, .l [] [] [] [1, 4, 69] [kk 1] (Kd x0))]) ((kJ1 (id := 5000001) () (fun v0 ev0 v1 => (kIf (c := x0.fOp == 2) (kXj (alts := Vr x0) ev0 ((x0.fOp == 1), true, (x0.fOp == 4)) (.here _ rfl (.refl _) (.refl _)))
 (kXj (alts := Vr x0) ev0 ((x0.fOp == 1), (x0.fOp == 3), (x0.fOp == 4)) (.here _ rfl (.refl _) (.refl _)))))
 (fun v0 v2 => (kJb (id := 5000002) (v2.fst, v2.snd.fst, v2.snd.snd) (fun v3 ev3 v4 => (kIf (c := v2.fst) (kXj (alts := Y4 x0) ev3 false (.next (.here () rfl (.refl _) (.refl _))))
 (kIf (c := v2.snd.fst) (kXj (alts := Y4 x0) ev3 false (.next (.here () rfl (.refl _) (.refl _))))
 (kIf (c := v2.snd.snd) (kXj (alts := Y4 x0) ev3 false (.next (.here () rfl (.refl _) (.refl _))))
 (kXj (alts := Y4 x0) ev3 true (.here () rfl (.refl _) (.refl _)))))))
 (fun v3 => (kEr (enc := eB) false))
 (fun v3 => (kJb (id := 5000004) (v3.fst, v3.snd.fst) (fun v7 ev7 v8 => (kIf (c := v3.snd.snd) (kIf (c := !x0.fb == []) (kXj (alts := Ka x0) ev7 true (.here () rfl (.refl _) (.refl _)))
 (kXj (alts := Ka x0) ev7 false (.next (.here () rfl (.refl _) (.refl _)))))
 (kXj (alts := Ka x0) ev7 false (.next (.here () rfl (.refl _) (.refl _))))))
 (fun v7 => (kEr (enc := eB) false))
 (fun v7 => (kJb (id := 5000006) (v7.fst, v7.snd) (fun v11 ev11 v12 => (kIf (c := v7.fst) (kXj (alts := Y5 x0) ev11 false (.next (.here () rfl (.refl _) (.refl _))))
 (kIf (c := x0.fE != 0) (kXj (alts := Y5 x0) ev11 true (.here () rfl (.refl _) (.refl _)))
 (kIf (c := x0.fG != 0) (kXj (alts := Y5 x0) ev11 true (.here () rfl (.refl _) (.refl _)))
 (kXj (alts := Y5 x0) ev11 false (.next (.here () rfl (.refl _) (.refl _))))))))
 (fun v11 => (kEr (enc := eB) false))
 (fun v11 => (kJb (id := 5000008) (v11.fst, v11.snd) (fun v15 ev15 v16 => (kIf (c := x0.fOp != 3) (kIf (c := x0.fF != 0) (kXj (alts := Kb x0) ev15 true (.here () rfl (.refl _) (.refl _)))
 (kXj (alts := Kb x0) ev15 false (.next (.here () rfl (.refl _) (.refl _)))))
 (kXj (alts := Kb x0) ev15 false (.next (.here () rfl (.refl _) (.refl _))))))
 (fun v15 => (kEr (enc := eB) false))
 (fun v15 => (kJb (id := 5000010) (v15.fst, v15.snd) (fun v19 ev19 v20 => (kIf (c := v15.snd) (kXj (alts := Kc x0) ev19 false (.next (.here () rfl (.refl _) (.refl _))))
 (kN _ (mLen (sh := Q1) x0.fi) fun v21 => (kIfD (p := 0 < v21) (kXj (alts := Kc x0) ev19 true (.here () rfl (.refl _) (.refl _)))
 (kXj (alts := Kc x0) ev19 false (.next (.here () rfl (.refl _) (.refl _))))))))
 (fun v19 => (kEr (enc := eB) false))
 (fun v19 => (kJb (id := 5000012) v19.snd (fun v24 ev24 v25 => (kIf (c := v19.fst) (kCb (Iw x0.fq) (kXj (alts := Kd x0) ev24 false (.next (.here () rfl (.refl _) (.refl _))))
 (kXj (alts := Kd x0) ev24 true (.here () rfl (.refl _) (.refl _))))
 (kXj (alts := Kd x0) ev24 false (.next (.here () rfl (.refl _) (.refl _))))))
 (fun v24 => (kEr (enc := eB) false))
 (fun v24 => (kIf (c := v24) (kN _ (mLen (sh := Q9) x0.fd) fun v29 => (kEr (enc := eB) (v29 == 0)))
 (kEr (enc := eB) true)))))))))))))))) h)
def Y0 (s : Qe) (u : Unit) (o : Bool) : List Alt := jb o (fun b => [.ptr 0 0 0, .bool b]) [.cells 0 (Qm s).cells]
def Zv (s : Unit) (u : Unit) (o : Bool) : List Alt := jb o (fun b => [.bool b]) []
def KN (x0 : Q0) (x1 : Qe) : Option Int :=
 KY x1.fb >>= fun v0 => if v0 then
 Y8 x0.fh x1.fb >>= fun v1 =>
 some () >>= fun v2 =>
 (if v1.snd then
 some true
 else
 XN x0.fp x1.fb >>= fun v4 => if v4 then
 some true
 else
 some false) >>= fun v3 => if v3 then
 some (8 : Int)
 else
 some () >>= fun v7 =>
 (if x1.fE < 1 then
 some true
 else
 if 65536 < x1.fE then
 some true
 else
 if x1.fG < 0 then
 some true
 else
 if 3 < x1.fG then
 some true
 else
 some false) >>= fun v8 => if v8 then
 some (1 : Int)
 else
 some (0 : Int)
 else
 some (7 : Int)
theorem Nd (x0 x1 r) (h : KN x0 x1 = some r) : PU 161 [.ip 5 [.agg [.sl 8 (List.map Qc x0.fh.fk), .sl 20 (List.map Q9 x0.fh.fd), .sl 1 (List.map eS x0.fp), .sl 1 (List.map eS x0.fg), .sl 1 (List.map eI x0.fu)]] 0 0, Qm x1] (eI r) :=
 Pu2 (hs := [(9, .cb), (18, .c XP), (21, .split), (29, .cb), (33, .split), (37, .split), (42, .split), (47, .split), (5000004, .l [] [] [] [3, 30] [kk 3] (Y0 x1)), (5000006, .l [] [] [] [48] [] (Zv ()))]) ((kCb (G4 x1.fb) (kC (sh := XP) (Vv x0.fh x1.fb) fun v1 => (kJb (id := 5000004) () (fun v2 ev2 v3 => (kIf (c := v1.snd) (kXj (alts := Y0 x1) ev2 true (.here () rfl (.refl _) (.refl _)))
 (kCb (VR x0.fp x1.fb) (kXj (alts := Y0 x1) ev2 true (.here () rfl (.refl _) (.refl _)))
 (kXj (alts := Y0 x1) ev2 false (.next (.here () rfl (.refl _) (.refl _)))))))
 (fun v2 => (kEr (enc := eI) (8 : Int)))
 (fun v2 => (kJb (id := 5000006) () (fun v7 ev7 v8 => (kIfD (p := x1.fE < 1) (kXj (alts := Zv ()) ev7 true (.here () rfl (.refl _) (.refl _)))
 (kIfD (p := 65536 < x1.fE) (kXj (alts := Zv ()) ev7 true (.here () rfl (.refl _) (.refl _)))
 (kIfD (p := x1.fG < 0) (kXj (alts := Zv ()) ev7 true (.here () rfl (.refl _) (.refl _)))
 (kIfD (p := 3 < x1.fG) (kXj (alts := Zv ()) ev7 true (.here () rfl (.refl _) (.refl _)))
 (kXj (alts := Zv ()) ev7 false (.next (.here () rfl (.refl _) (.refl _)))))))))
 (fun v7 => (kEr (enc := eI) (1 : Int)))
 (fun v7 => (kEr (enc := eI) (0 : Int)))))))
 (kEr (enc := eI) (7 : Int))) h)
def Yv (x0 : Q3) : Option Bool :=
 if 13 ≤ x0.fOp then
 some (decide (x0.fOp ≤ 18))
 else
 some false
theorem Jc (x0 r) (h : Yv x0 = some r) : PU 163 [Qa x0] (eB r) :=
 Pu2 (hs := [(5, .split)]) ((kIfD (p := 13 ≤ x0.fOp) (kEr (enc := eB) (decide (x0.fOp ≤ 18)))
 (kEr (enc := eB) false)) h)
def V0 (x0 : Qs) (x1 : Q0) : Option Bool :=
 XN x1.fg x0.fb >>= fun v0 =>
 some (!v0)
theorem Cf (x0 x1 r) (h : V0 x0 x1 = some r) : PU 273 [Q4 x0, .ip 1 [.agg [.ip 5 [.agg [.sl 8 (List.map Qc x1.fh.fk), .sl 20 (List.map Q9 x1.fh.fd), .sl 1 (List.map eS x1.fp), .sl 1 (List.map eS x1.fg), .sl 1 (List.map eI x1.fu)]] 0 0]] 0 0] (eB r) :=
 Pu2 (hs := [(10, .c eB)]) ((kC (sh := eB) (VR x1.fg x0.fb) fun v0 => (kEr (enc := eB) (!v0))) h)
def Zi (s : ((List Qs) × Q0)) (u : Int) (o : Unit ⊕ Int) : List Alt := lp o (.exit 0) (fun _ => [.undef]) (fun _ => []) .ret (fun x => [ii x]) (fun _ => [])
def QX (x0 : List Qs) (x1 : Q0) (x7 : Int) (x8 : Int) : Option (Unit ⊕ Int) :=
 if x8 < x7 then
 ix x0 x8 >>= fun v0 =>
 V0 v0 x1 >>= fun v1 => if v1 then
 some (.inr x8)
 else
 QX x0 x1 x7 (wr (x8 + 1))
 else
 some (.inl ())
 partial_fixpoint
theorem G7 (x0 x1 x7 x8 o) (h : QX x0 x1 x7 x8 = some o) : LO 338 2 19 [0, 1, 7, 8] [.sl 2 (List.map Q4 x0), .fn 273 [.ip 1 [.agg [.ip 5 [.agg [.sl 8 (List.map Qc x1.fh.fk), .sl 20 (List.map Q9 x1.fh.fd), .sl 1 (List.map eS x1.fp), .sl 1 (List.map eS x1.fg), .sl 1 (List.map eI x1.fu)]] 0 0]] 0 0], ii x7, ii x8] [] [4] (Zi (x0, x1) x7 o) :=
 QX.partial_correctness x0 x1 x7 (fun x8 o => LO 338 2 19 [0, 1, 7, 8] [.sl 2 (List.map Q4 x0), .fn 273 [.ip 1 [.agg [.ip 5 [.agg [.sl 8 (List.map Qc x1.fh.fk), .sl 20 (List.map Q9 x1.fh.fd), .sl 1 (List.map eS x1.fp), .sl 1 (List.map eS x1.fg), .sl 1 (List.map eI x1.fu)]] 0 0]] 0 0], ii x7, ii x8] [] [4] (Zi (x0, x1) x7 o))
 (fun QX OZ x8 o h  =>
 Lp2 (hs := [(9, .split), (14, .e Q4), (16, .cb)]) (kb := []) (kbx := []) ((kIfD (p := x8 < x7) (kIx (enc := Q4) (l := x0) (k := x8) fun v0 => (kCb (Cf v0 x1) (kX (alts := Zi (x0, x1) x7) (.inr x8) (.next (.here _ rfl (.refl _) (.refl _))))
 (kM0 (alts := Zi (x0, x1) x7) (OZ (wr (x8 + 1))))))
 (kX (alts := Zi (x0, x1) x7) (.inl ()) (.here _ rfl (.refl _) (.refl _)))) h)) x8 o h
def Kj (x0 : List Qs) (x1 : Q0) : Option Int :=
 some (List.length x0 : Int) >>= fun v0 =>
 some v0 >>= fun v1 =>
 QX x0 x1 v0 0 >>= fun v2 => (match v2 with
 | (.inl v3) =>
 some (-1 : Int)
 | (.inr v4) =>
 some v4)
theorem Dd (x0 x1 r) (h : Kj x0 x1 = some r) : PU 338 [YY x0, .fn 273 [.ip 1 [.agg [.ip 5 [.agg [.sl 8 (List.map Qc x1.fh.fk), .sl 20 (List.map Q9 x1.fh.fd), .sl 1 (List.map eS x1.fp), .sl 1 (List.map eS x1.fg), .sl 1 (List.map eI x1.fu)]] 0 0]] 0 0]] (eI r) :=
 Pu2 (hs := [(7, .n eI 7 none), (3000003, .l [] [0, 1, 7, 8] [] [4] [] (Zi (x0, x1)))]) ((kN _ (mLen (sh := Q4) x0) fun v0 => (kL2 v0 (hL := (G7 x0 x1 v0 0)) (hA := fun v1 v3 => (kEr (enc := eI) (-1 : Int)))
 (hB := fun v1 v4 => (kEr (enc := eI) v4)))) h)
def Xy (x0 : List Qs) (x1 : Q0) : Option Bool :=
 Kj x0 x1 >>= fun v0 =>
 some (decide (0 ≤ v0))
theorem G6 (x0 x1 r) (h : Xy x0 x1 = some r) : PU 272 [YY x0, .fn 273 [.ip 1 [.agg [.ip 5 [.agg [.sl 8 (List.map Qc x1.fh.fk), .sl 20 (List.map Q9 x1.fh.fd), .sl 1 (List.map eS x1.fp), .sl 1 (List.map eS x1.fg), .sl 1 (List.map eI x1.fu)]] 0 0]] 0 0]] (eB r) :=
 Pu2 (hs := [(7, .c eI)]) ((kC (sh := eI) (Dd x0 x1) fun v0 => (kEr (enc := eB) (decide (0 ≤ v0)))) h)
def Xl (x0 : Q0) (x1 : gLin) : Option Bool :=
 Xy x1.fL x0 >>= fun v0 =>
 some (!v0)
theorem Vt (x0 x1 r) (h : Xl x0 x1 = some r) : PU 223 [.ip 5 [.agg [.sl 8 (List.map Qc x0.fh.fk), .sl 20 (List.map Q9 x0.fh.fd), .sl 1 (List.map eS x0.fp), .sl 1 (List.map eS x0.fg), .sl 1 (List.map eI x0.fu)]] 0 0, Qb x1] (eB r) :=
 Pu2 (hs := [(7, .z [{ slot := 2, fz := true }] none), (8, .c eB), (3, .z [{ slot := 2, fz := true }] none)]) ((kC (sh := eB) (G6 x1.fL x0) fun v0 => (kEr (enc := eB) (!v0))) h)
def VC (x0 : gLin) (x1 : Q0) : Option Bool :=
 Xl x1 x0 >>= fun v0 =>
 some (!v0)
theorem Wj (x0 x1 r) (h : VC x0 x1 = some r) : PU 225 [Qb x0, .ip 1 [.agg [.ip 5 [.agg [.sl 8 (List.map Qc x1.fh.fk), .sl 20 (List.map Q9 x1.fh.fd), .sl 1 (List.map eS x1.fp), .sl 1 (List.map eS x1.fg), .sl 1 (List.map eI x1.fu)]] 0 0]] 0 0] (eB r) :=
 Pu2 (hs := [(6, .c eB)]) ((kC (sh := eB) (Vt x1 x0) fun v0 => (kEr (enc := eB) (!v0))) h)
def Zl (s : ((List gLin) × Q0)) (u : Int) (o : Unit ⊕ Int) : List Alt := lp o (.exit 0) (fun _ => [.undef]) (fun _ => []) .ret (fun x => [ii x]) (fun _ => [])
def Z2 (x0 : List gLin) (x1 : Q0) (x7 : Int) (x8 : Int) : Option (Unit ⊕ Int) :=
 if x8 < x7 then
 ix x0 x8 >>= fun v0 =>
 VC v0 x1 >>= fun v1 => if v1 then
 some (.inr x8)
 else
 Z2 x0 x1 x7 (wr (x8 + 1))
 else
 some (.inl ())
 partial_fixpoint
theorem GA (x0 x1 x7 x8 o) (h : Z2 x0 x1 x7 x8 = some o) : LO 274 2 19 [0, 1, 7, 8] [.sl 2 (List.map Qb x0), .fn 225 [.ip 1 [.agg [.ip 5 [.agg [.sl 8 (List.map Qc x1.fh.fk), .sl 20 (List.map Q9 x1.fh.fd), .sl 1 (List.map eS x1.fp), .sl 1 (List.map eS x1.fg), .sl 1 (List.map eI x1.fu)]] 0 0]] 0 0], ii x7, ii x8] [] [4] (Zl (x0, x1) x7 o) :=
 Z2.partial_correctness x0 x1 x7 (fun x8 o => LO 274 2 19 [0, 1, 7, 8] [.sl 2 (List.map Qb x0), .fn 225 [.ip 1 [.agg [.ip 5 [.agg [.sl 8 (List.map Qc x1.fh.fk), .sl 20 (List.map Q9 x1.fh.fd), .sl 1 (List.map eS x1.fp), .sl 1 (List.map eS x1.fg), .sl 1 (List.map eI x1.fu)]] 0 0]] 0 0], ii x7, ii x8] [] [4] (Zl (x0, x1) x7 o))
 (fun Z2 OY x8 o h  =>
 Lp2 (hs := [(9, .split), (14, .e Qb), (16, .cb)]) (kb := []) (kbx := []) ((kIfD (p := x8 < x7) (kIx (enc := Qb) (l := x0) (k := x8) fun v0 => (kCb (Wj v0 x1) (kX (alts := Zl (x0, x1) x7) (.inr x8) (.next (.here _ rfl (.refl _) (.refl _))))
 (kM0 (alts := Zl (x0, x1) x7) (OY (wr (x8 + 1))))))
 (kX (alts := Zl (x0, x1) x7) (.inl ()) (.here _ rfl (.refl _) (.refl _)))) h)) x8 o h
def Ku (x0 : List gLin) (x1 : Q0) : Option Int :=
 some (List.length x0 : Int) >>= fun v0 =>
 some v0 >>= fun v1 =>
 Z2 x0 x1 v0 0 >>= fun v2 => (match v2 with
 | (.inl v3) =>
 some (-1 : Int)
 | (.inr v4) =>
 some v4)
theorem Dr (x0 x1 r) (h : Ku x0 x1 = some r) : PU 274 [WQ x0, .fn 225 [.ip 1 [.agg [.ip 5 [.agg [.sl 8 (List.map Qc x1.fh.fk), .sl 20 (List.map Q9 x1.fh.fd), .sl 1 (List.map eS x1.fp), .sl 1 (List.map eS x1.fg), .sl 1 (List.map eI x1.fu)]] 0 0]] 0 0]] (eI r) :=
 Pu2 (hs := [(7, .n eI 7 none), (3000003, .l [] [0, 1, 7, 8] [] [4] [] (Zl (x0, x1)))]) ((kN _ (mLen (sh := Qb) x0) fun v0 => (kL2 v0 (hL := (GA x0 x1 v0 0)) (hA := fun v1 v3 => (kEr (enc := eI) (-1 : Int)))
 (hB := fun v1 v4 => (kEr (enc := eI) v4)))) h)
def XG (x0 : List gLin) (x1 : Q0) : Option Bool :=
 Ku x0 x1 >>= fun v0 =>
 some (decide (0 ≤ v0))
theorem Gy (x0 x1 r) (h : XG x0 x1 = some r) : PU 224 [WQ x0, .fn 225 [.ip 1 [.agg [.ip 5 [.agg [.sl 8 (List.map Qc x1.fh.fk), .sl 20 (List.map Q9 x1.fh.fd), .sl 1 (List.map eS x1.fp), .sl 1 (List.map eS x1.fg), .sl 1 (List.map eI x1.fu)]] 0 0]] 0 0]] (eB r) :=
 Pu2 (hs := [(7, .c eI)]) ((kC (sh := eI) (Dr x0 x1) fun v0 => (kEr (enc := eB) (decide (0 ≤ v0)))) h)
def Z3 (s : Q0) (u : ((List Q6) × Int)) (o : Unit ⊕ Int) : List Alt := lp o (.exit 2) (fun _ => [.undef]) (fun _ => []) .ret (fun x => [ii x]) (fun _ => [])
def QF (x2 : Q0) (x64 : List Q6) (x65 : Int) (x66 : Int) : Option (Unit ⊕ Int) :=
 if x66 < x65 then
 ix x64 x66 >>= fun v0 =>
 if v0.fH == [] then
 QF x2 x64 x65 (wr (x66 + 1))
 else
 Y8 x2.fh v0.fH >>= fun v1 =>
 if v1.snd then
 if v1.fst.fa.fv != 3 then
 some (.inr (10 : Int))
 else
 some (List.length v1.fst.fI : Int) >>= fun v2 =>
 some (List.length v0.fAt : Int) >>= fun v3 =>
 if v2 != v3 then
 some (.inr (11 : Int))
 else
 QF x2 x64 x65 (wr (x66 + 1))
 else
 some (.inr (9 : Int))
 else
 some (.inl ())
 partial_fixpoint
theorem CN (x2 x64 x65 x66 o) (h : QF x2 x64 x65 x66 = some o) : LO 194 17 100 [2, 64, 65, 66] [.ip 1 [.agg [.ip 5 [.agg [.sl 8 (List.map Qc x2.fh.fk), .sl 20 (List.map Q9 x2.fh.fd), .sl 1 (List.map eS x2.fp), .sl 1 (List.map eS x2.fg), .sl 1 (List.map eI x2.fu)]] 0 0]] 0 0, .sl 4 (List.map Q1 x64), ii x65, ii x66] [] [4] (Z3 x2 (x64, x65) o) :=
 QF.partial_correctness x2 x64 x65 (fun x66 o => LO 194 17 100 [2, 64, 65, 66] [.ip 1 [.agg [.ip 5 [.agg [.sl 8 (List.map Qc x2.fh.fk), .sl 20 (List.map Q9 x2.fh.fd), .sl 1 (List.map eS x2.fp), .sl 1 (List.map eS x2.fg), .sl 1 (List.map eI x2.fu)]] 0 0]] 0 0, .sl 4 (List.map Q1 x64), ii x65, ii x66] [] [4] (Z3 x2 (x64, x65) o))
 (fun QF On x66 o h  =>
 Lp2 (hs := [(67, .split), (68, .e Q1), (72, .split), (80, .c XP), (84, .split), (90, .split), (94, .n eI 94 none), (97, .n eI 97 none), (98, .split)]) (kb := []) (kbx := []) ((kIfD (p := x66 < x65) (kIx (enc := Q1) (l := x64) (k := x66) fun v0 => (kIf (c := v0.fH == []) (kM0 (alts := Z3 x2 (x64, x65)) (On (wr (x66 + 1))))
 (kC (sh := XP) (Vv x2.fh v0.fH) fun v1 => (kIf (c := v1.snd) (kIf (c := v1.fst.fa.fv != 3) (kX (alts := Z3 x2 (x64, x65)) (.inr (10 : Int)) (.next (.here _ rfl (.refl _) (.refl _))))
 (kN _ (mLen (sh := eI) v1.fst.fI) fun v2 => (kN _ (mLen (sh := Qb) v0.fAt) fun v3 => (kIf (c := v2 != v3) (kX (alts := Z3 x2 (x64, x65)) (.inr (11 : Int)) (.next (.here _ rfl (.refl _) (.refl _))))
 (kM0 (alts := Z3 x2 (x64, x65)) (On (wr (x66 + 1))))))))
 (kX (alts := Z3 x2 (x64, x65)) (.inr (9 : Int)) (.next (.here _ rfl (.refl _) (.refl _))))))))
 (kX (alts := Z3 x2 (x64, x65)) (.inl ()) (.here _ rfl (.refl _) (.refl _)))) h)) x66 o h
def ZJ (s : (Q0 × Q3)) (u : ((List Q6) × Int)) (o : Bool) : List Alt := l1 o (.exit 0) (fun x => [.ip 1 [.agg [.ip 5 [.agg [.sl 8 (List.map Qc s.1.fh.fk), .sl 20 (List.map Q9 s.1.fh.fd), .sl 1 (List.map eS s.1.fp), .sl 1 (List.map eS s.1.fg), .sl 1 (List.map eI s.1.fu)]] 0 0]] 0 0, .ptr 0 0 0, .bool x]) (fun _ => [.cells 0 (Qa s.2).cells])
def QA (x2 : Q0) (x5 : Bool) (x18 : List Q6) (x19 : Int) (x20 : Int) : Option Bool :=
 if x20 < x19 then
 ix x18 x20 >>= fun v0 =>
 if x5 then
 Xl x2 v0.fo >>= fun v1 => if v1 then
 XG v0.fAt x2 >>= fun v2 =>
 QA x2 (!v2) x18 x19 (wr (x20 + 1))
 else
 QA x2 false x18 x19 (wr (x20 + 1))
 else
 QA x2 false x18 x19 (wr (x20 + 1))
 else
 some x5
 partial_fixpoint
theorem Wd (x2 : Q0) (x3 : Q3) (x5 : Bool) (x18 : List Q6) (x19 : Int) (x20 : Int) (o : Bool) (h : QA x2 x5 x18 x19 x20 = some o) : LO 194 3 100 [2, 3, 5, 18, 19, 20] [.ip 1 [.agg [.ip 5 [.agg [.sl 8 (List.map Qc x2.fh.fk), .sl 20 (List.map Q9 x2.fh.fd), .sl 1 (List.map eS x2.fp), .sl 1 (List.map eS x2.fg), .sl 1 (List.map eI x2.fu)]] 0 0]] 0 0, .ptr 0 0 0, .bool x5, .sl 4 (List.map Q1 x18), ii x19, ii x20] [.cells 0 (Qa x3).cells] [2, 3, 5] (ZJ (x2, x3) (x18, x19) o) :=
 QA.partial_correctness x2 x18 x19 (fun x5 x20 o => ∀ (x3 : Q3), LO 194 3 100 [2, 3, 5, 18, 19, 20] [.ip 1 [.agg [.ip 5 [.agg [.sl 8 (List.map Qc x2.fh.fk), .sl 20 (List.map Q9 x2.fh.fd), .sl 1 (List.map eS x2.fp), .sl 1 (List.map eS x2.fg), .sl 1 (List.map eI x2.fu)]] 0 0]] 0 0, .ptr 0 0 0, .bool x5, .sl 4 (List.map Q1 x18), ii x19, ii x20] [.cells 0 (Qa x3).cells] [2, 3, 5] (ZJ (x2, x3) (x18, x19) o))
 (fun QA Oo x5 x20 o h x3 =>
 Lp2 (hs := [(21, .split), (22, .e Q1), (24, .split), (29, .cb), (34, .z [{ slot := 2, fz := true }] none), (35, .c eB)]) (kb := [kk 3]) (kbx := [kk 3]) ((kIfD (p := x20 < x19) (kIx (enc := Q1) (l := x18) (k := x20) fun v0 => (kIf (c := x5) (kCb (Vt x2 v0.fo) (kC (sh := eB) (Gy v0.fAt x2) fun v2 => (kM0 (alts := ZJ (x2, x3) (x18, x19)) (fun y hy => Oo (!v2) (wr (x20 + 1)) y hy x3)))
 (kM0 (alts := ZJ (x2, x3) (x18, x19)) (fun y hy => Oo false (wr (x20 + 1)) y hy x3)))
 (kM0 (alts := ZJ (x2, x3) (x18, x19)) (fun y hy => Oo false (wr (x20 + 1)) y hy x3))))
 (kX (alts := ZJ (x2, x3) (x18, x19)) x5 (.here _ rfl (.refl _) (.refl _)))) h)) x5 x20 o h x3
def KO (x0 : Q0) (x1 : Q3) : Option Int :=
 Xl x0 x1.fo >>= fun v0 =>
 some (List.length x1.fi : Int) >>= fun v1 =>
 some (x1.fi, v1) >>= fun v2 =>
 QA x0 v0 x1.fi v1 0 >>= fun v4 =>
 if v4 then
 if x1.fOp != 3 then
 some (0 : Int)
 else
 Y8 x0.fh x1.fb >>= fun v5 =>
 if v5.snd then
 some (List.length v5.fst.fI : Int) >>= fun v6 =>
 some (List.length x1.fi : Int) >>= fun v7 =>
 if v6 != v7 then
 some (11 : Int)
 else
 some (List.length x1.fi : Int) >>= fun v8 =>
 some (x1.fi, v8) >>= fun v9 =>
 QF x0 x1.fi v8 0 >>= fun v10 => (match v10 with
 | (.inl v11) =>
 some (0 : Int)
 | (.inr v12) =>
 some v12)
 else
 some (9 : Int)
 else
 some (9 : Int)
theorem Nf (x0 x1 r) (h : KO x0 x1 = some r) : PU 194 [.ip 5 [.agg [.sl 8 (List.map Qc x0.fh.fk), .sl 20 (List.map Q9 x0.fh.fd), .sl 1 (List.map eS x0.fp), .sl 1 (List.map eS x0.fg), .sl 1 (List.map eI x0.fu)]] 0 0, Qa x1] (eI r) :=
 Pu2 (hs := [(16, .c eB), (19, .n eI 19 none), (39, .split), (43, .split), (51, .c XP), (54, .split), (58, .n eI 58 none), (61, .n eI 61 none), (62, .split), (65, .n eI 65 none), (3, .z [{ slot := 2, fz := true }] none), (3000018, .l [] [2, 64, 65, 66] [] [4] [] (Z3 x0)), (3000004, .l [] [2, 3, 5, 18, 19, 20] [kk 3] [2, 3, 5] [kk 3] (ZJ (x0, x1)))]) ((kC (sh := eB) (Vt x0 x1.fo) fun v0 => (kN _ (mLen (sh := Q1) x1.fi) fun v1 => (kL1 (x1.fi, v1) (Wd x0 x1 v0 x1.fi v1 0) fun v2 v4 => (kIf (c := v4) (kIf (c := x1.fOp != 3) (kEr (enc := eI) (0 : Int))
 (kC (sh := XP) (Vv x0.fh x1.fb) fun v5 => (kIf (c := v5.snd) (kN _ (mLen (sh := eI) v5.fst.fI) fun v6 => (kN _ (mLen (sh := Q1) x1.fi) fun v7 => (kIf (c := v6 != v7) (kEr (enc := eI) (11 : Int))
 (kN _ (mLen (sh := Q1) x1.fi) fun v8 => (kL2 (x1.fi, v8) (hL := (CN x0 x1.fi v8 0)) (hA := fun v9 v11 => (kEr (enc := eI) (0 : Int)))
 (hB := fun v9 v12 => (kEr (enc := eI) v12)))))))
 (kEr (enc := eI) (9 : Int)))))
 (kEr (enc := eI) (9 : Int)))))) h)
def X1 (s : (Q0 × Q3)) (u : ((List Qf) × Int)) (o : (Qg × (List Qg)) ⊕ (Qg × Int)) : List Alt := lp o (.exit 0) (fun x => [.ip 5 [.agg [.sl 8 (List.map Qc s.1.fh.fk), .sl 20 (List.map Q9 s.1.fh.fd), .sl 1 (List.map eS s.1.fp), .sl 1 (List.map eS s.1.fg), .sl 1 (List.map eI s.1.fu)]] 0 0, .ptr 0 0 0, .ptr 1 0 0, .undef, .sl 5 (List.map Qp x.2)]) (fun x => [.cells 0 (Qa s.2).cells, .cells 0 (Qp x.1).cells]) .ret (fun x => [.ip 5 [.agg [.sl 8 (List.map Qc s.1.fh.fk), .sl 20 (List.map Q9 s.1.fh.fd), .sl 1 (List.map eS s.1.fp), .sl 1 (List.map eS s.1.fg), .sl 1 (List.map eI s.1.fu)]] 0 0, .ptr 0 0 0, .ptr 1 0 0, ii x.2, .undef]) (fun x => [.cells 0 (Qa s.2).cells, .cells 0 (Qp x.1).cells])
def XD (s : (Q0 × Q3)) (u : (Qg × (List Qg) × Int)) (o : Bool) : List Alt := jb o (fun b => [.ip 5 [.agg [.sl 8 (List.map Qc (s.1).fh.fk), .sl 20 (List.map Q9 (s.1).fh.fd), .sl 1 (List.map eS (s.1).fp), .sl 1 (List.map eS (s.1).fg), .sl 1 (List.map eI (s.1).fu)]] 0 0, .ptr 0 0 0, .ptr 1 0 0, .sl 5 (List.map Qp (u.2.1)), ii (u.2.2), .bool b]) [.cells 0 (Qa (s.2)).cells, .cells 0 (Qp (u.1)).cells]
def ZK (s : Q3) (u : (Qg × (List Qg))) (o : Bool) : List Alt := jb o (fun b => [.ptr 0 0 0, .ptr 1 0 0, .sl 5 (List.map Qp (u.2)), .bool b]) [.cells 0 (Qa s).cells, .cells 0 (Qp (u.1)).cells]
mutual
def Zh (x0 : Q0) (x1 : Q3) : Option (Qg × Int) :=
 some (List.length x1.ff : Int) >>= fun v0 =>
 some (x1.ff, v0) >>= fun v1 =>
 QW x0 (Qg.mk (0 : Int) (0 : Int) (0 : Int) (0 : Int) (0 : Int)) [] x1.ff v0 (0 : Int) >>= fun v2 => (match v2 with
 | (.inl v3) =>
 some (v3.fst, v3.snd, x1.fOp) >>= fun v4 =>
 (if x1.fOp == 1 then
 some true
 else
 if x1.fOp == 12 then
 some true
 else
 some false) >>= fun v5 => if v5 then
 some (x1.fa, (0 : Int))
 else
 if v4.snd.snd == 2 then
 some ((Qg.mk (3 : Int) (0 : Int) (0 : Int) (0 : Int) (0 : Int))) >>= fun v8 =>
 some (v8, (0 : Int))
 else
 if v4.snd.snd == 3 then
 Y8 x0.fh x1.fb >>= fun v9 =>
 some (v9.fst.fa, (0 : Int))
 else
 if v4.snd.snd == 8 then
 ix v4.snd.fst (0 : Int) >>= fun v10 =>
 some (v10, (0 : Int))
 else
 some (v4.fst, v4.snd.fst) >>= fun v11 =>
 (if v4.snd.snd == 16 then
 some true
 else
 if v4.snd.snd == 17 then
 some true
 else
 if v4.snd.snd == 18 then
 some true
 else
 some false) >>= fun v12 => if v12 then
 some ((Qg.mk (0 : Int) (0 : Int) (0 : Int) (0 : Int) (0 : Int))) >>= fun v14 =>
 some (v14, (0 : Int))
 else
 ix v11.snd (wr ((↑(List.map Qp v11.snd).length : Int) - (2 : Int))) >>= fun v16 =>
 ix v11.snd (wr ((↑(List.map Qp v11.snd).length : Int) - (1 : Int))) >>= fun v17 =>
 some (List.length v11.snd : Int) >>= fun v18 =>
 some (List.length v11.snd : Int) >>= fun v19 =>
 if !(v16.fv == v17.fv && (v16.fx == v17.fx && (v16.fB == v17.fB && (v16.fw == v17.fw && (v16.fC == v17.fC && true))))) then
 some ((Qg.mk (0 : Int) (0 : Int) (0 : Int) (0 : Int) (0 : Int))) >>= fun v20 =>
 some (v20, (10 : Int))
 else
 Yv x1 >>= fun v21 => if v21 then
 some ((Qg.mk (0 : Int) (0 : Int) (0 : Int) (0 : Int) (0 : Int))) >>= fun v22 =>
 some (v22, (0 : Int))
 else
 some (List.length v11.snd : Int) >>= fun v23 =>
 ix v11.snd (wr (v23 - (1 : Int))) >>= fun v24 =>
 some (v24, (0 : Int))
 | (.inr v25) =>
 some (v25.fst, v25.snd))
 partial_fixpoint
def QW (x0 : Q0) (x4 : Qg) (x6 : List Qg) (x14 : List Qf) (x15 : Int) (x16 : Int) : Option ((Qg × (List Qg)) ⊕ (Qg × Int)) :=
 if x16 < x15 then
 Option.map Qf.f (ix x14 x16) >>= fun v0 =>
 Zh x0 v0 >>= fun v1 =>
 if v1.snd != 0 then
 some (.inr (v1.fst, v1.snd))
 else
 if (x6.length + (1 : Nat)) * (40 : Nat) ≤ (140737488355328 : Nat) ∧ x6.length + (1 : Nat) ≤ (9223372036854775807 : Nat) then
 some (x6 ++ [v1.fst]) >>= fun v2 =>
 QW x0 x4 v2 x14 x15 (wr (x16 + 1))
 else none
 else
 some (.inl (x4, x6))
 partial_fixpoint
end
theorem Wa (x0 : Q0) : (∀ (x1 : Q3) (r : (Qg × Int)), Zh x0 x1 = some r → PU 195 [.ip 5 [.agg [.sl 8 (List.map Qc x0.fh.fk), .sl 20 (List.map Q9 x0.fh.fd), .sl 1 (List.map eS x0.fp), .sl 1 (List.map eS x0.fg), .sl 1 (List.map eI x0.fu)]] 0 0, Qa x1] (Qu r)) ∧ (∀ (x4 : Qg) (x6 : List Qg) (x14 : List Qf) (x15 : Int) (x16 : Int) (o : (Qg × (List Qg)) ⊕ (Qg × Int)), QW x0 x4 x6 x14 x15 x16 = some o → ∀ (x3 : Q3), LO 195 3 92 [0, 3, 4, 6, 14, 15, 16] [.ip 5 [.agg [.sl 8 (List.map Qc x0.fh.fk), .sl 20 (List.map Q9 x0.fh.fd), .sl 1 (List.map eS x0.fp), .sl 1 (List.map eS x0.fg), .sl 1 (List.map eI x0.fu)]] 0 0, .ptr 0 0 0, .ptr 1 0 0, .ow 2 0 5 (List.length x6), .sl 13 (List.map Qd x14), ii x15, ii x16] [.cells 0 (Qa x3).cells, .cells 0 (Qp x4).cells, .own 0 5 (List.map Qp x6)] [0, 3, 4, 5, 6] (X1 (x0, x3) (x14, x15) o)) :=
 Zh.mutual_partial_correctness x0 _ _
 (fun QW Ov x1 r h  =>
 Pu2 (hs := [(15, .n eI 15 none), (37, .split), (37, .split), (43, .split), (44, .n Qp 44 none), (46, .split), (54, .c XP), (60, .split), (62, .e Qp), (64, .split), (64, .split), (64, .split), (68, .n Qp 68 none), (71, .n eI 71 none), (73, .e Qp), (77, .n eI 77 none), (79, .e Qp), (81, .split), (82, .n Qp 82 none), (84, .cb), (85, .n Qp 85 none), (88, .n eI 88 none), (90, .e Qp), (3000004, .l [] [0, 3, 4, 6, 14, 15, 16] [kk 3, kk 4, { slot := 6, own := 5 }] [0, 3, 4, 5, 6] [kk 3, kk 4, { slot := 6, fz := true }] (X1 (x0, x1))), (6000013, .l [] [] [] [0, 3, 4, 6, 36, 37] [kk 3, kk 4, { slot := 6, fz := true }] (XD (x0, x1))), (6000023, .l [] [] [] [3, 4, 6, 64] [kk 3, kk 4, { slot := 6, fz := true }] (ZK x1))]) ((kN _ (mLen (sh := Qd) x1.ff) fun v0 => (kL2 (x1.ff, v0) (hL := (fun y hy => Ov (Qg.mk (0 : Int) (0 : Int) (0 : Int) (0 : Int) (0 : Int)) [] x1.ff v0 (0 : Int) y hy x1)) (hA := fun v1 v3 => (kJb (id := 6000013) (v3.fst, v3.snd, x1.fOp) (fun v4 ev4 v5 => (kIf (c := x1.fOp == 1) (kXj (alts := XD (x0, x1)) ev4 true (.here () rfl (.refl _) (.refl _)))
 (kIf (c := x1.fOp == 12) (kXj (alts := XD (x0, x1)) ev4 true (.here () rfl (.refl _) (.refl _)))
 (kXj (alts := XD (x0, x1)) ev4 false (.next (.here () rfl (.refl _) (.refl _)))))))
 (fun v4 => (kEr (enc := Qu) (x1.fa, (0 : Int))))
 (fun v4 => (kIf (c := v4.snd.snd == 2) (kW (sh := Qp) (Qg.mk (3 : Int) (0 : Int) (0 : Int) (0 : Int) (0 : Int)) lr fun v8 => (kEr (enc := Qu) (v8, (0 : Int))))
 (kIf (c := v4.snd.snd == 3) (kC (sh := XP) (Vv x0.fh x1.fb) fun v9 => (kEr (enc := Qu) (v9.fst.fa, (0 : Int))))
 (kIf (c := v4.snd.snd == 8) (kIx (enc := Qp) (l := v4.snd.fst) (k := (0 : Int)) fun v10 => (kEr (enc := Qu) (v10, (0 : Int))))
 (kJb (id := 6000023) (v4.fst, v4.snd.fst) (fun v11 ev11 v12 => (kIf (c := v4.snd.snd == 16) (kXj (alts := ZK x1) ev11 true (.here () rfl (.refl _) (.refl _)))
 (kIf (c := v4.snd.snd == 17) (kXj (alts := ZK x1) ev11 true (.here () rfl (.refl _) (.refl _)))
 (kIf (c := v4.snd.snd == 18) (kXj (alts := ZK x1) ev11 true (.here () rfl (.refl _) (.refl _)))
 (kXj (alts := ZK x1) ev11 false (.next (.here () rfl (.refl _) (.refl _))))))))
 (fun v11 => (kW (sh := Qp) (Qg.mk (0 : Int) (0 : Int) (0 : Int) (0 : Int) (0 : Int)) lr fun v14 => (kEr (enc := Qu) (v14, (0 : Int)))))
 (fun v11 => (kIx (enc := Qp) (l := v11.snd) (k := wr ((↑(List.map Qp v11.snd).length : Int) - (2 : Int))) fun v16 => (kIx (enc := Qp) (l := v11.snd) (k := wr ((↑(List.map Qp v11.snd).length : Int) - (1 : Int))) fun v17 => (kN _ (mLen (sh := Qp) v11.snd) fun v18 => (kN _ (mLen (sh := Qp) v11.snd) fun v19 => (kIf (c := !(v16.fv == v17.fv && (v16.fx == v17.fx && (v16.fB == v17.fB && (v16.fw == v17.fw && (v16.fC == v17.fC && true)))))) (kW (sh := Qp) (Qg.mk (0 : Int) (0 : Int) (0 : Int) (0 : Int) (0 : Int)) lr fun v20 => (kEr (enc := Qu) (v20, (10 : Int))))
 (kCb (Jc x1) (kW (sh := Qp) (Qg.mk (0 : Int) (0 : Int) (0 : Int) (0 : Int) (0 : Int)) lr fun v22 => (kEr (enc := Qu) (v22, (0 : Int))))
 (kN _ (mLen (sh := Qp) v11.snd) fun v23 => (kIx (enc := Qp) (l := v11.snd) (k := wr (v23 - (1 : Int))) fun v24 => (kEr (enc := Qu) (v24, (0 : Int)))))))))))))))))))
 (hB := fun v1 v25 => (kEr (enc := Qu) (v25.fst, v25.snd))))) h))
 (fun Zh QW Ou Ov x4 x6 x14 x15 x16 o h x3 =>
 Lp2 (hs := [(17, .split), (18, .e Qa), (23, .c Qu), (27, .split), (33, .z [{ slot := 30, own := 5 }] (some (.n Qp 33 (some .a))))]) (kb := [kk 3, kk 4, { slot := 6, own := 5 }]) (kbx := [kk 3, kk 4, { slot := 6, fz := true }]) ((kIfD (p := x16 < x15) (kIxR (l := x14) (k := x16) Ju fun v0 => (kC (sh := Qu) (Ou v0) fun v1 => (kIf (c := v1.snd != 0) (kT (nM (sh := Qp) x6) (kX (alts := X1 (x0, x3) (x14, x15)) (.inr (v1.fst, v1.snd)) (.next (.here _ rfl (.cons lr (.cons lr (.cons lr (.cons lr (.cons (LeV.undef (AV.sl (5 : Nat) (List.map Qp x6))) .nil))))) (.refl _)))))
 (kA (q := (x6.length + (1 : Nat)) * (40 : Nat) ≤ (140737488355328 : Nat) ∧ x6.length + (1 : Nat) ≤ (9223372036854775807 : Nat)) (sh := Qp) (l := x6) (kO (sh := Qp) (x6 ++ [v1.fst]) (mA (sh := Qp) x6 v1.fst) (nA x6 v1.fst) fun v2 => (kM0 (alts := X1 (x0, x3) (x14, x15)) (fun y hy => Ov x4 v2 x14 x15 (wr (x16 + 1)) y hy x3)))))))
 (kT (nM (sh := Qp) x6) (kX (alts := X1 (x0, x3) (x14, x15)) (.inl (x4, x6)) (.here _ rfl (.refl _) (.refl _))))) h))
theorem Wl (x0 x1 r) (h : Zh x0 x1 = some r) : PU 195 [.ip 5 [.agg [.sl 8 (List.map Qc x0.fh.fk), .sl 20 (List.map Q9 x0.fh.fd), .sl 1 (List.map eS x0.fp), .sl 1 (List.map eS x0.fg), .sl 1 (List.map eI x0.fu)]] 0 0, Qa x1] (Qu r) := (Wa x0).1 x1 r h
def J8 (s : Int) (u : ((List Qf) × Int)) (o : Int) : List Alt := l1 o (.exit 0) (fun x => [ii x]) (fun _ => [])
mutual
def Vc (x0 : Q3) (x1 : Int) : Option Int :=
 if x1 ≤ 1 then
 some x1
 else
 some (List.length x0.ff : Int) >>= fun v0 =>
 some (x0.ff, v0) >>= fun v1 =>
 Yi x1 1 x0.ff v0 0 >>= fun v3 =>
 some v3
 partial_fixpoint
def Yi (x1 : Int) (x5 : Int) (x12 : List Qf) (x13 : Int) (x14 : Int) : Option Int :=
 if x14 < x13 then
 Option.map Qf.f (ix x12 x14) >>= fun v0 =>
 Vc v0 (wr (x1 - (1 : Int))) >>= fun v1 =>
 Yi x1 (if true = true then max x5 (wr ((1 : Int) + v1)) else min x5 (wr ((1 : Int) + v1))) x12 x13 (wr (x14 + 1))
 else
 some x5
 partial_fixpoint
end
theorem Ry  : (∀ (x0 : Q3) (x1 : Int) (r : Int), Vc x0 x1 = some r → PU 228 [Qa x0, eI x1] (eI r)) ∧ (∀ (x1 : Int) (x5 : Int) (x12 : List Qf) (x13 : Int) (x14 : Int) (o : Int), Yi x1 x5 x12 x13 x14 = some o → LO 228 5 27 [1, 5, 12, 13, 14] [ii x1, ii x5, .sl 13 (List.map Qd x12), ii x13, ii x14] [] [5] (J8 x1 (x12, x13) o)) :=
 Vc.mutual_partial_correctness  _ _
 (fun Yi Oa x0 x1 r h  =>
 Pu2 (hs := [(9, .split), (13, .n eI 13 none), (3000006, .l [] [1, 5, 12, 13, 14] [] [5] [] (J8 x1))]) ((kIfD (p := x1 ≤ 1) (kEr (enc := eI) x1)
 (kN _ (mLen (sh := Qd) x0.ff) fun v0 => (kL1 (x0.ff, v0) (Oa x1 1 x0.ff v0 0) fun v1 v3 => (kEr (enc := eI) v3)))) h))
 (fun Vc Yi O9 Oa x1 x5 x12 x13 x14 o h  =>
 Lp2 (hs := [(15, .split), (16, .e Qa), (22, .c eI)]) (kb := []) (kbx := []) ((kIfD (p := x14 < x13) (kIxR (l := x12) (k := x14) Ju fun v0 => (kC (sh := eI) (O9 v0 (wr (x1 - (1 : Int)))) fun v1 => (kM0 (alts := J8 x1 (x12, x13)) (Oa x1 (if true = true then max x5 (wr ((1 : Int) + v1)) else min x5 (wr ((1 : Int) + v1))) x12 x13 (wr (x14 + 1))))))
 (kX (alts := J8 x1 (x12, x13)) x5 (.here _ rfl (.refl _) (.refl _)))) h))
theorem T8 (x0 x1 r) (h : Vc x0 x1 = some r) : PU 228 [Qa x0, eI x1] (eI r) := (Ry ).1 x0 x1 r h
def WB (x0 : Q3) : Option Int :=
 Vc x0 41 >>= fun v0 =>
 some v0
theorem T7 (x0 r) (h : WB x0 = some r) : PU 198 [Qa x0] (eI r) :=
 Pu2 (hs := [(4, .c eI)]) ((kC (sh := eI) (T8 x0 41) fun v0 => (kEr (enc := eI) v0)) h)
def Ue (x0 : gLin) : Option Bool :=
 if x0.fK == 0 then
 some (List.length x0.fL : Int) >>= fun v0 =>
 some (v0 == 0)
 else
 some false
theorem L7 (x0 r) (h : Ue x0 = some r) : PU 275 [Qb x0] (eB r) :=
 Pu2 (hs := [(5, .split), (9, .n eI 9 none)]) ((kIf (c := x0.fK == 0) (kN _ (mLen (sh := Q4) x0.fL) fun v0 => (kEr (enc := eB) (v0 == 0)))
 (kEr (enc := eB) false)) h)
def Jz (x0 : Q6) : Option Bool :=
 if x0.fH == [] then
 some (List.length x0.fAt : Int) >>= fun v0 =>
 some (v0 == 0)
 else
 Ue x0.fo >>= fun v1 =>
 some v1
theorem Is (x0 r) (h : Jz x0 = some r) : PU 278 [Q1 x0] (eB r) :=
 Pu2 (hs := [(5, .split), (8, .n eI 8 none), (12, .c eB)]) ((kIf (c := x0.fH == []) (kN _ (mLen (sh := Qb) x0.fAt) fun v0 => (kEr (enc := eB) (v0 == 0)))
 (kC (sh := eB) (L7 x0.fo) fun v1 => (kEr (enc := eB) v1))) h)
def Dw (x0 : Q6) : Option Bool :=
 Jz x0 >>= fun v0 =>
 some (!v0)
theorem HD (x0 r) (h : Dw x0 = some r) : PU 277 [Q1 x0] (eB r) :=
 Pu2 (hs := [(4, .c eB)]) ((kC (sh := eB) (Is x0) fun v0 => (kEr (enc := eB) (!v0))) h)
def Ze (s : List Q6) (u : Int) (o : Unit ⊕ Int) : List Alt := lp o (.exit 0) (fun _ => [.undef]) (fun _ => []) .ret (fun x => [ii x]) (fun _ => [])
def QQ (x0 : List Q6) (x7 : Int) (x8 : Int) : Option (Unit ⊕ Int) :=
 if x8 < x7 then
 ix x0 x8 >>= fun v0 =>
 Dw v0 >>= fun v1 => if v1 then
 some (.inr x8)
 else
 QQ x0 x7 (wr (x8 + 1))
 else
 some (.inl ())
 partial_fixpoint
theorem UR (x0 x7 x8 o) (h : QQ x0 x7 x8 = some o) : LO 339 2 19 [0, 1, 7, 8] [.sl 4 (List.map Q1 x0), .fn 277 [], ii x7, ii x8] [] [4] (Ze x0 x7 o) :=
 QQ.partial_correctness x0 x7 (fun x8 o => LO 339 2 19 [0, 1, 7, 8] [.sl 4 (List.map Q1 x0), .fn 277 [], ii x7, ii x8] [] [4] (Ze x0 x7 o))
 (fun QQ OV x8 o h  =>
 Lp2 (hs := [(9, .split), (14, .e Q1), (16, .cb)]) (kb := []) (kbx := []) ((kIfD (p := x8 < x7) (kIx (enc := Q1) (l := x0) (k := x8) fun v0 => (kCb (HD v0) (kX (alts := Ze x0 x7) (.inr x8) (.next (.here _ rfl (.refl _) (.refl _))))
 (kM0 (alts := Ze x0 x7) (OV (wr (x8 + 1))))))
 (kX (alts := Ze x0 x7) (.inl ()) (.here _ rfl (.refl _) (.refl _)))) h)) x8 o h
def K2 (x0 : List Q6) : Option Int :=
 some (List.length x0 : Int) >>= fun v0 =>
 some v0 >>= fun v1 =>
 QQ x0 v0 0 >>= fun v2 => (match v2 with
 | (.inl v3) =>
 some (-1 : Int)
 | (.inr v4) =>
 some v4)
theorem GJ (x0 r) (h : K2 x0 = some r) : PU 339 [KA x0, .fn 277 []] (eI r) :=
 Pu2 (hs := [(7, .n eI 7 none), (3000003, .l [] [0, 1, 7, 8] [] [4] [] (Ze x0))]) ((kN _ (mLen (sh := Q1) x0) fun v0 => (kL2 v0 (hL := (UR x0 v0 0)) (hA := fun v1 v3 => (kEr (enc := eI) (-1 : Int)))
 (hB := fun v1 v4 => (kEr (enc := eI) v4)))) h)
def Xp (x0 : List Q6) : Option Bool :=
 K2 x0 >>= fun v0 =>
 some (decide (0 ≤ v0))
theorem UO (x0 r) (h : Xp x0 = some r) : PU 276 [KA x0, .fn 277 []] (eB r) :=
 Pu2 (hs := [(7, .c eI)]) ((kC (sh := eI) (GJ x0) fun v0 => (kEr (enc := eB) (decide (0 ≤ v0)))) h)
def Jq (s : Q3) (u : Unit) (o : (Bool × Bool)) : List Alt := l1 o .normal (fun x => [.ptr 0 0 0, .bool (x.1), .bool (x.2)]) (fun _ => [.cells 0 (Qa s).cells])
def V2 (s : Q3) (u : (Bool × Bool × Bool × Bool)) (o : Bool) : List Alt := jb o (fun b => [.ptr 0 0 0, .bool (u.1), .bool (u.2.1), .bool (u.2.2.1), .bool (u.2.2.2), .bool b]) [.cells 0 (Qa s).cells]
def V3 (s : Q3) (u : (Bool × Bool × Bool)) (o : Bool) : List Alt := jb o (fun b => [.ptr 0 0 0, .bool (u.1), .bool (u.2.1), .bool (u.2.2), .bool b]) [.cells 0 (Qa s).cells]
def V4 (s : Q3) (u : (Bool × Bool)) (o : Bool) : List Alt := jb o (fun b => [.ptr 0 0 0, .bool (u.1), .bool (u.2), .bool b]) [.cells 0 (Qa s).cells]
def V5 (s : Q3) (u : Bool) (o : Bool) : List Alt := jb o (fun b => [.ptr 0 0 0, .bool u, .bool b]) [.cells 0 (Qa s).cells]
def YZ (s : Q3) (u : Unit) (o : Bool) : List Alt := jb o (fun b => [.ptr 0 0 0, .bool b]) [.cells 0 (Qa s).cells]
def GV (x0 : Q3) : Option Bool :=
 some () >>= fun v0 =>
 (if x0.fOp == 1 then
 some ((x0.fOp == 1), true)
 else
 some ((x0.fOp == 1), (x0.fOp == 12))) >>= fun v2 =>
 some (v2.fst, v2.snd, (x0.fOp == 2), (x0.fOp == 3)) >>= fun v3 =>
 (if x0.fOp < 1 then
 some true
 else
 if 18 < x0.fOp then
 some true
 else
 some false) >>= fun v4 => if v4 then
 some false
 else
 some (v3.snd.fst, v3.snd.snd.fst, v3.snd.snd.snd) >>= fun v7 =>
 (if v3.fst then
 some false
 else
 some ((gVal.mk (0 : Int) (0 : Int))) >>= fun v9 =>
 if !(x0.fy.fN == v9.fN && (x0.fy.fD == v9.fD && true)) then
 some true
 else
 some false) >>= fun v8 => if v8 then
 some false
 else
 some (v7.snd.fst, v7.snd.snd) >>= fun v12 =>
 (if v7.fst then
 some false
 else
 some ((Qg.mk (0 : Int) (0 : Int) (0 : Int) (0 : Int) (0 : Int))) >>= fun v14 =>
 if !(x0.fa.fv == v14.fv && (x0.fa.fx == v14.fx && (x0.fa.fB == v14.fB && (x0.fa.fw == v14.fw && (x0.fa.fC == v14.fC && true))))) then
 some true
 else
 some false) >>= fun v13 => if v13 then
 some false
 else
 some v12.snd >>= fun v17 =>
 (if v12.fst then
 some false
 else
 Ue x0.fo >>= fun v19 => if v19 then
 some false
 else
 some true) >>= fun v18 => if v18 then
 some false
 else
 some () >>= fun v22 =>
 (if v17 then
 some false
 else
 if !x0.fb == [] then
 some true
 else
 some (List.length x0.fi : Int) >>= fun v24 =>
 if 0 < v24 then
 some true
 else
 some false) >>= fun v23 => if v23 then
 some false
 else
 Xp x0.fi >>= fun v27 =>
 some (!v27)
theorem RA (x0 r) (h : GV x0 = some r) : PU 229 [Qa x0] (eB r) :=
 Pu2 (hs := [(12, .split), (27, .split), (31, .split), (34, .split), (39, .n Mz 39 none), (40, .split), (43, .split), (48, .n Qp 48 none), (49, .split), (52, .split), (57, .cb), (61, .split), (66, .split), (70, .n eI 70 none), (71, .split), (76, .c eB), (5000001, .l [] [] [] [1, 3, 4] [kk 1] (Jq x0)), (5000003, .l [] [] [] [1, 3, 4, 5, 6, 24] [kk 1] (V2 x0)), (5000005, .l [] [] [] [1, 4, 5, 6, 33] [kk 1] (V3 x0)), (5000007, .l [] [] [] [1, 5, 6, 42] [kk 1] (V4 x0)), (5000009, .l [] [] [] [1, 6, 51] [kk 1] (V5 x0)), (5000011, .l [] [] [] [1, 60] [kk 1] (YZ x0))]) ((kJ1 (id := 5000001) () (fun v0 ev0 v1 => (kIf (c := x0.fOp == 1) (kXj (alts := Jq x0) ev0 ((x0.fOp == 1), true) (.here _ rfl (.refl _) (.refl _)))
 (kXj (alts := Jq x0) ev0 ((x0.fOp == 1), (x0.fOp == 12)) (.here _ rfl (.refl _) (.refl _)))))
 (fun v0 v2 => (kJb (id := 5000003) (v2.fst, v2.snd, (x0.fOp == 2), (x0.fOp == 3)) (fun v3 ev3 v4 => (kIfD (p := x0.fOp < 1) (kXj (alts := V2 x0) ev3 true (.here () rfl (.refl _) (.refl _)))
 (kIfD (p := 18 < x0.fOp) (kXj (alts := V2 x0) ev3 true (.here () rfl (.refl _) (.refl _)))
 (kXj (alts := V2 x0) ev3 false (.next (.here () rfl (.refl _) (.refl _)))))))
 (fun v3 => (kEr (enc := eB) false))
 (fun v3 => (kJb (id := 5000005) (v3.snd.fst, v3.snd.snd.fst, v3.snd.snd.snd) (fun v7 ev7 v8 => (kIf (c := v3.fst) (kXj (alts := V3 x0) ev7 false (.next (.here () rfl (.refl _) (.refl _))))
 (kW (sh := Mz) (gVal.mk (0 : Int) (0 : Int)) lr fun v9 => (kIf (c := !(x0.fy.fN == v9.fN && (x0.fy.fD == v9.fD && true))) (kXj (alts := V3 x0) ev7 true (.here () rfl (.refl _) (.refl _)))
 (kXj (alts := V3 x0) ev7 false (.next (.here () rfl (.refl _) (.refl _))))))))
 (fun v7 => (kEr (enc := eB) false))
 (fun v7 => (kJb (id := 5000007) (v7.snd.fst, v7.snd.snd) (fun v12 ev12 v13 => (kIf (c := v7.fst) (kXj (alts := V4 x0) ev12 false (.next (.here () rfl (.refl _) (.refl _))))
 (kW (sh := Qp) (Qg.mk (0 : Int) (0 : Int) (0 : Int) (0 : Int) (0 : Int)) lr fun v14 => (kIf (c := !(x0.fa.fv == v14.fv && (x0.fa.fx == v14.fx && (x0.fa.fB == v14.fB && (x0.fa.fw == v14.fw && (x0.fa.fC == v14.fC && true)))))) (kXj (alts := V4 x0) ev12 true (.here () rfl (.refl _) (.refl _)))
 (kXj (alts := V4 x0) ev12 false (.next (.here () rfl (.refl _) (.refl _))))))))
 (fun v12 => (kEr (enc := eB) false))
 (fun v12 => (kJb (id := 5000009) v12.snd (fun v17 ev17 v18 => (kIf (c := v12.fst) (kXj (alts := V5 x0) ev17 false (.next (.here () rfl (.refl _) (.refl _))))
 (kCb (L7 x0.fo) (kXj (alts := V5 x0) ev17 false (.next (.here () rfl (.refl _) (.refl _))))
 (kXj (alts := V5 x0) ev17 true (.here () rfl (.refl _) (.refl _))))))
 (fun v17 => (kEr (enc := eB) false))
 (fun v17 => (kJb (id := 5000011) () (fun v22 ev22 v23 => (kIf (c := v17) (kXj (alts := YZ x0) ev22 false (.next (.here () rfl (.refl _) (.refl _))))
 (kIf (c := !x0.fb == []) (kXj (alts := YZ x0) ev22 true (.here () rfl (.refl _) (.refl _)))
 (kN _ (mLen (sh := Q1) x0.fi) fun v24 => (kIfD (p := 0 < v24) (kXj (alts := YZ x0) ev22 true (.here () rfl (.refl _) (.refl _)))
 (kXj (alts := YZ x0) ev22 false (.next (.here () rfl (.refl _) (.refl _)))))))))
 (fun v22 => (kEr (enc := eB) false))
 (fun v22 => (kC (sh := eB) (UO x0.fi) fun v27 => (kEr (enc := eB) (!v27))))))))))))))) h)
def ZX (s : (Int × Int)) (u : Unit) (o : Bool) : List Alt := jb o (fun b => [ii (s.1), ii (s.2), .bool b]) []
def Kx (x0 : Int) (x1 : Int) : Option Bool :=
 some () >>= fun v0 =>
 (if x0 == 16 then
 some true
 else
 if x0 == 17 then
 some true
 else
 if x0 == 18 then
 some true
 else
 some false) >>= fun v1 => if v1 then
 some true
 else
 if x0 == 11 then
 some (x1 == 0)
 else
 some false
theorem WI (x0 x1 r) (h : Kx x0 x1 = some r) : PU 282 [eI x0, eI x1] (eB r) :=
 Pu2 (hs := [(6, .split), (6, .split), (6, .split), (11, .split), (6000004, .l [] [] [] [0, 1, 6] [] (ZX (x0, x1)))]) ((kJb (id := 6000004) () (fun v0 ev0 v1 => (kIf (c := x0 == 16) (kXj (alts := ZX (x0, x1)) ev0 true (.here () rfl (.refl _) (.refl _)))
 (kIf (c := x0 == 17) (kXj (alts := ZX (x0, x1)) ev0 true (.here () rfl (.refl _) (.refl _)))
 (kIf (c := x0 == 18) (kXj (alts := ZX (x0, x1)) ev0 true (.here () rfl (.refl _) (.refl _)))
 (kXj (alts := ZX (x0, x1)) ev0 false (.next (.here () rfl (.refl _) (.refl _))))))))
 (fun v0 => (kEr (enc := eB) true))
 (fun v0 => (kIf (c := x0 == 11) (kEr (enc := eB) (x1 == 0))
 (kEr (enc := eB) false)))) h)
def Vm (s : Q3) (u : ((List Qf) × Int)) (o : Unit ⊕ Bool) : List Alt := lp o (.exit 0) (fun _ => [.undef]) (fun _ => []) .ret (fun x => [.bool x]) (fun _ => [])
def Yj (x1 : Q3) (x20 : List Qf) (x21 : Int) (x22 : Int) : Option (Unit ⊕ Bool) :=
 if x22 < x21 then
 Option.map Qf.f (ix x20 x22) >>= fun v0 =>
 Yv v0 >>= fun v1 =>
 Kx x1.fOp x22 >>= fun v2 =>
 if !v1 == v2 then
 some (.inr false)
 else
 Yj x1 x20 x21 (wr (x22 + 1))
 else
 some (.inl ())
 partial_fixpoint
theorem HE (x1 x20 x21 x22 o) (h : Yj x1 x20 x21 x22 = some o) : LO 232 4 35 [1, 20, 21, 22] [.ptr 0 0 0, .sl 13 (List.map Qd x20), ii x21, ii x22] [.cells 0 (Qa x1).cells] [2] (Vm x1 (x20, x21) o) :=
 Yj.partial_correctness x1 x20 x21 (fun x22 o => LO 232 4 35 [1, 20, 21, 22] [.ptr 0 0 0, .sl 13 (List.map Qd x20), ii x21, ii x22] [.cells 0 (Qa x1).cells] [2] (Vm x1 (x20, x21) o))
 (fun Yj Ob x22 o h  =>
 Lp2 (hs := [(23, .split), (25, .e Qa), (28, .c eB), (32, .c eB), (33, .split)]) (kb := [kk 1]) (kbx := []) ((kIfD (p := x22 < x21) (kIxR (l := x20) (k := x22) Ju fun v0 => (kC (sh := eB) (Jc v0) fun v1 => (kC (sh := eB) (WI x1.fOp x22) fun v2 => (kIf (c := !v1 == v2) (kX (alts := Vm x1 (x20, x21)) (.inr false) (.next (.here _ rfl (.refl _) (.refl _))))
 (kM0 (alts := Vm x1 (x20, x21)) (Ob (wr (x22 + 1))))))))
 (kX (alts := Vm x1 (x20, x21)) (.inl ()) (.here _ rfl (.refl _) (.refl _)))) h)) x22 o h
def Ym (s : Q3) (u : Unit) (o : Bool) : List Alt := jb o (fun b => [.ptr 0 0 0, .bool b]) [.cells 0 (Qa s).cells]
def Dx (x0 : Q3) : Option Bool :=
 some () >>= fun v0 =>
 (if x0.fOp == 1 then
 Y3 x0.fa >>= fun v2 =>
 if v2 != 0 then
 some true
 else
 some false
 else
 if x0.fOp == 12 then
 Y3 x0.fa >>= fun v3 =>
 if v3 != 0 then
 some true
 else
 some false
 else
 some false) >>= fun v1 => if v1 then
 some false
 else
 some (List.length x0.ff : Int) >>= fun v6 =>
 some (x0.ff, v6) >>= fun v7 =>
 Yj x0 x0.ff v6 0 >>= fun v8 => (match v8 with
 | (.inl v9) =>
 some true
 | (.inr v10) =>
 some v10)
theorem Tb (x0 r) (h : Dx x0 = some r) : PU 232 [Qa x0] (eB r) :=
 Pu2 (hs := [(7, .split), (11, .split), (16, .c eI), (17, .split), (21, .n eI 21 none), (3000005, .l [] [1, 20, 21, 22] [kk 1] [2] [] (Vm x0)), (5000001, .l [] [] [] [1, 18] [kk 1] (Ym x0))]) ((kJb (id := 5000001) () (fun v0 ev0 v1 => (kIf (c := x0.fOp == 1) (kC (sh := eI) (VD x0.fa) fun v2 => (kIf (c := v2 != 0) (kXj (alts := Ym x0) ev0 true (.here () rfl (.refl _) (.refl _)))
 (kXj (alts := Ym x0) ev0 false (.next (.here () rfl (.refl _) (.refl _))))))
 (kIf (c := x0.fOp == 12) (kC (sh := eI) (VD x0.fa) fun v3 => (kIf (c := v3 != 0) (kXj (alts := Ym x0) ev0 true (.here () rfl (.refl _) (.refl _)))
 (kXj (alts := Ym x0) ev0 false (.next (.here () rfl (.refl _) (.refl _))))))
 (kXj (alts := Ym x0) ev0 false (.next (.here () rfl (.refl _) (.refl _)))))))
 (fun v0 => (kEr (enc := eB) false))
 (fun v0 => (kN _ (mLen (sh := Qd) x0.ff) fun v6 => (kL2 (x0.ff, v6) (hL := (HE x0 x0.ff v6 0)) (hA := fun v7 v9 => (kEr (enc := eB) true))
 (hB := fun v7 v10 => (kEr (enc := eB) v10)))))) h)
def GW (x0 : Int) : Option Bool :=
 if 2 ≤ x0 then
 some (decide (x0 ≤ 31))
 else
 some false
theorem L8 (x0 r) (h : GW x0 = some r) : PU 383 [eI x0] (eB r) :=
 Pu2 (hs := [(4, .split)]) ((kIfD (p := 2 ≤ x0) (kEr (enc := eB) (decide (x0 ≤ 31)))
 (kEr (enc := eB) false)) h)
def Ce (x0 : Int) : Option Int :=
 GW x0 >>= fun v0 => if v0 then
 if 0 ≤ w6 (wr (x0 - (1 : Int))) then
 some (wr ((0 : Int) - wr ((1 : Int) * (2 : Int) ^ min (w6 (wr (x0 - (1 : Int)))).toNat (64 : Nat))))
 else none
 else
 some (0 : Int)
theorem EK (x0 r) (h : Ce x0 = some r) : PU 340 [eI x0] (eI r) :=
 Pu2 (hs := [(4, .cb), (9, .s)]) ((kCb (L8 x0) (kG (p := 0 ≤ w6 (wr (x0 - (1 : Int)))) (kEr (enc := eI) (wr ((0 : Int) - wr ((1 : Int) * (2 : Int) ^ min (w6 (wr (x0 - (1 : Int)))).toNat (64 : Nat))))))
 (kEr (enc := eI) (0 : Int))) h)
def Cd (x0 : Int) : Option Int :=
 GW x0 >>= fun v0 => if v0 then
 if 0 ≤ w6 (wr (x0 - (1 : Int))) then
 some (wr (wr ((1 : Int) * (2 : Int) ^ min (w6 (wr (x0 - (1 : Int)))).toNat (64 : Nat)) - (1 : Int)))
 else none
 else
 some (0 : Int)
theorem EJ (x0 r) (h : Cd x0 = some r) : PU 341 [eI x0] (eI r) :=
 Pu2 (hs := [(4, .cb), (9, .s)]) ((kCb (L8 x0) (kG (p := 0 ≤ w6 (wr (x0 - (1 : Int)))) (kEr (enc := eI) (wr (wr ((1 : Int) * (2 : Int) ^ min (w6 (wr (x0 - (1 : Int)))).toNat (64 : Nat)) - (1 : Int)))))
 (kEr (enc := eI) (0 : Int))) h)
def W6 (x0 : Qg) (x1 : gVal) : Option Bool :=
 YD x0 >>= fun v0 =>
 if v0 == 0 then
 if x1.fD == 1 then
 Ce x0.fx >>= fun v1 =>
 if v1 ≤ x1.fN then
 Cd x0.fx >>= fun v2 =>
 some (decide (x1.fN ≤ v2))
 else
 some false
 else
 some false
 else
 some false
theorem RB (x0 x1 r) (h : W6 x0 x1 = some r) : PU 283 [Qp x0, Mz x1] (eB r) :=
 Pu2 (hs := [(6, .c eI), (7, .split), (11, .split), (18, .c eI), (19, .split), (26, .c eI)]) ((kC (sh := eI) (DE x0) fun v0 => (kIf (c := v0 == 0) (kIf (c := x1.fD == 1) (kC (sh := eI) (EK x0.fx) fun v1 => (kIfD (p := v1 ≤ x1.fN) (kC (sh := eI) (EJ x0.fx) fun v2 => (kEr (enc := eB) (decide (x1.fN ≤ v2))))
 (kEr (enc := eB) false)))
 (kEr (enc := eB) false))
 (kEr (enc := eB) false))) h)
def W9 (x0 : Int) : Option Bool :=
 if (-2147483647 : Int) ≤ x0 then
 some (decide (x0 ≤ 2147483647))
 else
 some false
theorem RJ (x0 r) (h : W9 x0 = some r) : PU 284 [eI x0] (eB r) :=
 Pu2 (hs := [(4, .split)]) ((kIfD (p := (-2147483647 : Int) ≤ x0) (kEr (enc := eB) (decide (x0 ≤ 2147483647)))
 (kEr (enc := eB) false)) h)
def Cc (x0 : Int) : Option Bool :=
 if (-2147483647 : Int) ≤ x0 then
 some (decide (x0 ≤ 2147483647))
 else
 some false
theorem EF (x0 r) (h : Cc x0 = some r) : PU 342 [eI x0] (eB r) :=
 Pu2 (hs := [(4, .split)]) ((kIfD (p := (-2147483647 : Int) ≤ x0) (kEr (enc := eB) (decide (x0 ≤ 2147483647)))
 (kEr (enc := eB) false)) h)
def D6 (x0 : Int) : Option Int :=
 if x0 < 0 then
 some (w6 ((0 : Int) - w6 x0))
 else
 some (w6 x0)
theorem IW (x0 r) (h : D6 x0 = some r) : PU 344 [eI x0] (eU64 r) :=
 Pu2 (hs := [(4, .split)]) ((kIfD (p := x0 < 0) (kEr (enc := eU64) (w6 ((0 : Int) - w6 x0)))
 (kEr (enc := eU64) (w6 x0))) h)
def Ud (s : Unit) (u : Unit) (o : Int) : List Alt := l1 o (.exit 0) (fun x => [.int .u64 x]) (fun _ => [])
def Vs (x0 : Int) (x1 : Int) : Option Int :=
 if x1 != 0 then
 if x1 ≠ 0 then
 some (x0.tmod x1 : Int) >>= fun v0 =>
 Vs x1 v0
 else none
 else
 some x0
 partial_fixpoint
theorem RC (x0 x1 o) (h : Vs x0 x1 = some o) : LO 343 1 12 [0, 1] [.int .u64 x0, .int .u64 x1] [] [0] (Ud () () o) :=
 Vs.partial_correctness  (fun x0 x1 o => LO 343 1 12 [0, 1] [.int .u64 x0, .int .u64 x1] [] [0] (Ud () () o))
 (fun Vs Oc x0 x1 o h  =>
 Lp2 (hs := [(6, .split), (10, .s), (1, .n eU64 1 none)]) (kb := []) (kbx := []) ((kIf (c := x1 != 0) (kG (p := x1 ≠ 0) (kN (x0.tmod x1) rfl fun v0 => (kM0 (alts := Ud () ()) (Oc x1 v0))))
 (kX (alts := Ud () ()) x0 (.here _ rfl (.refl _) (.refl _)))) h)) x0 x1 o h
def Mj (x0 : Int) (x1 : Int) : Option Int :=
 some () >>= fun v0 =>
 Vs x0 x1 >>= fun v2 =>
 some v2
theorem Ax (x0 x1 r) (h : Mj x0 x1 = some r) : PU 343 [eU64 x0, eU64 x1] (eU64 r) :=
 Pu2 (hs := [(3000002, .l [] [0, 1] [] [0] [] (Ud ()))]) ((kL1 () (RC x0 x1) fun v0 v2 => (kEr (enc := eU64) v2)) h)
def Dy (x0 : gVal) : Option Bool :=
 if 1 ≤ x0.fD then
 if x0.fD ≤ 2147483647 then
 Cc x0.fN >>= fun v0 => if v0 then
 D6 x0.fN >>= fun v1 =>
 Mj v1 (w6 x0.fD) >>= fun v2 =>
 some (v2 == 1)
 else
 some false
 else
 some false
 else
 some false
theorem Tc (x0 r) (h : Dy x0 = some r) : PU 285 [Mz x0] (eB r) :=
 Pu2 (hs := [(5, .split), (9, .split), (14, .cb), (19, .c eU64), (23, .c eU64)]) ((kIfD (p := 1 ≤ x0.fD) (kIfD (p := x0.fD ≤ 2147483647) (kCb (EF x0.fN) (kC (sh := eU64) (IW x0.fN) fun v1 => (kC (sh := eU64) (Ax v1 (w6 x0.fD)) fun v2 => (kEr (enc := eB) (v2 == 1))))
 (kEr (enc := eB) false))
 (kEr (enc := eB) false))
 (kEr (enc := eB) false)) h)
def GY (x0 : Qg) (x1 : gVal) : Option Bool :=
 Y3 x0 >>= fun v0 =>
 if v0 != 0 then
 some false
 else
 if x0.fv == 2 then
 W6 x0 x1 >>= fun v1 =>
 some v1
 else
 if x0.fv == 3 then
 if x1.fD == 1 then
 W9 x1.fN >>= fun v2 =>
 some v2
 else
 some false
 else
 Dy x1 >>= fun v3 =>
 some v3
theorem RH (x0 x1 r) (h : GY x0 x1 = some r) : PU 233 [Qp x0, Mz x1] (eB r) :=
 Pu2 (hs := [(6, .c eI), (7, .split), (11, .split), (14, .c eB), (16, .split), (19, .split), (23, .c eB), (26, .c eB)]) ((kC (sh := eI) (VD x0) fun v0 => (kIf (c := v0 != 0) (kEr (enc := eB) false)
 (kIf (c := x0.fv == 2) (kC (sh := eB) (RB x0 x1) fun v1 => (kEr (enc := eB) v1))
 (kIf (c := x0.fv == 3) (kIf (c := x1.fD == 1) (kC (sh := eB) (RJ x1.fN) fun v2 => (kEr (enc := eB) v2))
 (kEr (enc := eB) false))
 (kC (sh := eB) (Tc x1) fun v3 => (kEr (enc := eB) v3)))))) h)
def Ys (s : Unit) (u : Int) (o : Bool) : List Alt := jb o (fun b => [ii u, .bool b]) []
def Yt (s : Unit) (u : Int) (o : Bool) : List Alt := jb o (fun b => [ii u, .bool b]) []
def Ux (x0 : Int) : Option Int :=
 some x0 >>= fun v0 =>
 (if x0 == 1 then
 some true
 else
 if x0 == 2 then
 some true
 else
 if x0 == 3 then
 some true
 else
 some false) >>= fun v1 => if v1 then
 some (0 : Int)
 else
 some v0 >>= fun v4 =>
 (if v0 == 8 then
 some true
 else
 if v0 == 12 then
 some true
 else
 if v0 == 18 then
 some true
 else
 some false) >>= fun v5 => if v5 then
 some (1 : Int)
 else
 if v4 == 11 then
 some (3 : Int)
 else
 some (2 : Int)
theorem HC (x0 r) (h : Ux x0 = some r) : PU 280 [eI x0] (eI r) :=
 Pu2 (hs := [(4, .split), (4, .split), (4, .split), (8, .split), (8, .split), (8, .split), (13, .split), (6000004, .l [] [] [] [3, 4] [] (Ys ())), (6000008, .l [] [] [] [3, 8] [] (Yt ()))]) ((kJb (id := 6000004) x0 (fun v0 ev0 v1 => (kIf (c := x0 == 1) (kXj (alts := Ys ()) ev0 true (.here () rfl (.refl _) (.refl _)))
 (kIf (c := x0 == 2) (kXj (alts := Ys ()) ev0 true (.here () rfl (.refl _) (.refl _)))
 (kIf (c := x0 == 3) (kXj (alts := Ys ()) ev0 true (.here () rfl (.refl _) (.refl _)))
 (kXj (alts := Ys ()) ev0 false (.next (.here () rfl (.refl _) (.refl _))))))))
 (fun v0 => (kEr (enc := eI) (0 : Int)))
 (fun v0 => (kJb (id := 6000008) v0 (fun v4 ev4 v5 => (kIf (c := v0 == 8) (kXj (alts := Yt ()) ev4 true (.here () rfl (.refl _) (.refl _)))
 (kIf (c := v0 == 12) (kXj (alts := Yt ()) ev4 true (.here () rfl (.refl _) (.refl _)))
 (kIf (c := v0 == 18) (kXj (alts := Yt ()) ev4 true (.here () rfl (.refl _) (.refl _)))
 (kXj (alts := Yt ()) ev4 false (.next (.here () rfl (.refl _) (.refl _))))))))
 (fun v4 => (kEr (enc := eI) (1 : Int)))
 (fun v4 => (kIf (c := v4 == 11) (kEr (enc := eI) (3 : Int))
 (kEr (enc := eI) (2 : Int))))))) h)
end Go.Proofs.YtkgphhemcglgnaaGreatDoor
end
noncomputable section
namespace Go.Proofs.YtkgphhemcglgnaaGreatDoor
open Go HY
set_option maxRecDepth 1000000
set_option linter.unusedVariables false
def Cb (x0 : Q6) : Option Bool :=
 if !x0.fH == [] then
 KY x0.fH >>= fun v0 =>
 some (!v0)
 else
 some false
theorem EE (x0 r) (h : Cb x0 = some r) : PU 279 [Q1 x0] (eB r) :=
 Pu2 (hs := [(5, .split), (9, .c eB)]) ((kIf (c := !x0.fH == []) (kC (sh := eB) (G4 x0.fH) fun v0 => (kEr (enc := eB) (!v0)))
 (kEr (enc := eB) false)) h)
def Zf (s : List Q6) (u : Int) (o : Unit ⊕ Int) : List Alt := lp o (.exit 0) (fun _ => [.undef]) (fun _ => []) .ret (fun x => [ii x]) (fun _ => [])
def QR (x0 : List Q6) (x7 : Int) (x8 : Int) : Option (Unit ⊕ Int) :=
 if x8 < x7 then
 ix x0 x8 >>= fun v0 =>
 Cb v0 >>= fun v1 => if v1 then
 some (.inr x8)
 else
 QR x0 x7 (wr (x8 + 1))
 else
 some (.inl ())
 partial_fixpoint
theorem US (x0 x7 x8 o) (h : QR x0 x7 x8 = some o) : LO 339 2 19 [0, 1, 7, 8] [.sl 4 (List.map Q1 x0), .fn 279 [], ii x7, ii x8] [] [4] (Zf x0 x7 o) :=
 QR.partial_correctness x0 x7 (fun x8 o => LO 339 2 19 [0, 1, 7, 8] [.sl 4 (List.map Q1 x0), .fn 279 [], ii x7, ii x8] [] [4] (Zf x0 x7 o))
 (fun QR OW x8 o h  =>
 Lp2 (hs := [(9, .split), (14, .e Q1), (16, .cb)]) (kb := []) (kbx := []) ((kIfD (p := x8 < x7) (kIx (enc := Q1) (l := x0) (k := x8) fun v0 => (kCb (EE v0) (kX (alts := Zf x0 x7) (.inr x8) (.next (.here _ rfl (.refl _) (.refl _))))
 (kM0 (alts := Zf x0 x7) (OW (wr (x8 + 1))))))
 (kX (alts := Zf x0 x7) (.inl ()) (.here _ rfl (.refl _) (.refl _)))) h)) x8 o h
def K3 (x0 : List Q6) : Option Int :=
 some (List.length x0 : Int) >>= fun v0 =>
 some v0 >>= fun v1 =>
 QR x0 v0 0 >>= fun v2 => (match v2 with
 | (.inl v3) =>
 some (-1 : Int)
 | (.inr v4) =>
 some v4)
theorem GK (x0 r) (h : K3 x0 = some r) : PU 339 [KA x0, .fn 279 []] (eI r) :=
 Pu2 (hs := [(7, .n eI 7 none), (3000003, .l [] [0, 1, 7, 8] [] [4] [] (Zf x0))]) ((kN _ (mLen (sh := Q1) x0) fun v0 => (kL2 v0 (hL := (US x0 v0 0)) (hA := fun v1 v3 => (kEr (enc := eI) (-1 : Int)))
 (hB := fun v1 v4 => (kEr (enc := eI) v4)))) h)
def Xq (x0 : List Q6) : Option Bool :=
 K3 x0 >>= fun v0 =>
 some (decide (0 ≤ v0))
theorem UP (x0 r) (h : Xq x0 = some r) : PU 276 [KA x0, .fn 279 []] (eB r) :=
 Pu2 (hs := [(7, .c eI)]) ((kC (sh := eI) (GK x0) fun v0 => (kEr (enc := eB) (decide (0 ≤ v0)))) h)
def Vl (s : Q3) (u : Unit) (o : Bool) : List Alt := jb o (fun b => [.ptr 0 0 0, .bool b]) [.cells 0 (Qa s).cells]
def Dv (x0 : Q3) : Option Bool :=
 some () >>= fun v0 =>
 (if x0.fOp == 3 then
 KY x0.fb >>= fun v2 => if v2 then
 some false
 else
 some true
 else
 some false) >>= fun v1 => if v1 then
 some false
 else
 Xq x0.fi >>= fun v5 =>
 some (!v5)
theorem Ta (x0 r) (h : Dv x0 = some r) : PU 230 [Qa x0] (eB r) :=
 Pu2 (hs := [(5, .split), (9, .cb), (14, .c eB), (5000001, .l [] [] [] [1, 11] [kk 1] (Vl x0))]) ((kJb (id := 5000001) () (fun v0 ev0 v1 => (kIf (c := x0.fOp == 3) (kCb (G4 x0.fb) (kXj (alts := Vl x0) ev0 false (.next (.here () rfl (.refl _) (.refl _))))
 (kXj (alts := Vl x0) ev0 true (.here () rfl (.refl _) (.refl _))))
 (kXj (alts := Vl x0) ev0 false (.next (.here () rfl (.refl _) (.refl _))))))
 (fun v0 => (kEr (enc := eB) false))
 (fun v0 => (kC (sh := eB) (UP x0.fi) fun v5 => (kEr (enc := eB) (!v5))))) h)
end Go.Proofs.YtkgphhemcglgnaaGreatDoor
end
noncomputable section
namespace Go.Proofs.YtkgphhemcglgnaaGreatDoor
open Go HY
set_option maxRecDepth 1000000
set_option linter.unusedVariables false
def W5 (x0 : Q6) : Option Bool :=
 some (List.length x0.fAt : Int) >>= fun v0 =>
 some (decide (6 < v0))
theorem Rz (x0 r) (h : W5 x0 = some r) : PU 281 [Q1 x0] (eB r) :=
 Pu2 (hs := [(5, .n eI 5 none)]) ((kN _ (mLen (sh := Qb) x0.fAt) fun v0 => (kEr (enc := eB) (decide (6 < v0)))) h)
def Zg (s : List Q6) (u : Int) (o : Unit ⊕ Int) : List Alt := lp o (.exit 0) (fun _ => [.undef]) (fun _ => []) .ret (fun x => [ii x]) (fun _ => [])
def QS (x0 : List Q6) (x7 : Int) (x8 : Int) : Option (Unit ⊕ Int) :=
 if x8 < x7 then
 ix x0 x8 >>= fun v0 =>
 W5 v0 >>= fun v1 => if v1 then
 some (.inr x8)
 else
 QS x0 x7 (wr (x8 + 1))
 else
 some (.inl ())
 partial_fixpoint
theorem UT (x0 x7 x8 o) (h : QS x0 x7 x8 = some o) : LO 339 2 19 [0, 1, 7, 8] [.sl 4 (List.map Q1 x0), .fn 281 [], ii x7, ii x8] [] [4] (Zg x0 x7 o) :=
 QS.partial_correctness x0 x7 (fun x8 o => LO 339 2 19 [0, 1, 7, 8] [.sl 4 (List.map Q1 x0), .fn 281 [], ii x7, ii x8] [] [4] (Zg x0 x7 o))
 (fun QS OX x8 o h  =>
 Lp2 (hs := [(9, .split), (14, .e Q1), (16, .cb)]) (kb := []) (kbx := []) ((kIfD (p := x8 < x7) (kIx (enc := Q1) (l := x0) (k := x8) fun v0 => (kCb (Rz v0) (kX (alts := Zg x0 x7) (.inr x8) (.next (.here _ rfl (.refl _) (.refl _))))
 (kM0 (alts := Zg x0 x7) (OX (wr (x8 + 1))))))
 (kX (alts := Zg x0 x7) (.inl ()) (.here _ rfl (.refl _) (.refl _)))) h)) x8 o h
def K4 (x0 : List Q6) : Option Int :=
 some (List.length x0 : Int) >>= fun v0 =>
 some v0 >>= fun v1 =>
 QS x0 v0 0 >>= fun v2 => (match v2 with
 | (.inl v3) =>
 some (-1 : Int)
 | (.inr v4) =>
 some v4)
theorem GL (x0 r) (h : K4 x0 = some r) : PU 339 [KA x0, .fn 281 []] (eI r) :=
 Pu2 (hs := [(7, .n eI 7 none), (3000003, .l [] [0, 1, 7, 8] [] [4] [] (Zg x0))]) ((kN _ (mLen (sh := Q1) x0) fun v0 => (kL2 v0 (hL := (UT x0 v0 0)) (hA := fun v1 v3 => (kEr (enc := eI) (-1 : Int)))
 (hB := fun v1 v4 => (kEr (enc := eI) v4)))) h)
def Xr (x0 : List Q6) : Option Bool :=
 K4 x0 >>= fun v0 =>
 some (decide (0 ≤ v0))
theorem UQ (x0 r) (h : Xr x0 = some r) : PU 276 [KA x0, .fn 281 []] (eB r) :=
 Pu2 (hs := [(7, .c eI)]) ((kC (sh := eI) (GL x0) fun v0 => (kEr (enc := eB) (decide (0 ≤ v0)))) h)
def Vz (s : Q3) (u : Unit) (o : Bool) : List Alt := jb o (fun b => [.ptr 0 0 0, .bool b]) [.cells 0 (Qa s).cells]
def Cy (x0 : Q3) : Option Bool :=
 some () >>= fun v0 =>
 (Ux x0.fOp >>= fun v2 =>
 some (List.length x0.ff : Int) >>= fun v3 =>
 if v3 != v2 then
 some true
 else
 some (List.length x0.fi : Int) >>= fun v4 =>
 if 6 < v4 then
 some true
 else
 some false) >>= fun v1 => if v1 then
 some false
 else
 Xr x0.fi >>= fun v7 =>
 some (!v7)
theorem Sr (x0 r) (h : Cy x0 = some r) : PU 231 [Qa x0] (eB r) :=
 Pu2 (hs := [(5, .n eI 5 none), (8, .c eI), (9, .split), (13, .n eI 13 none), (14, .split), (18, .c eB), (5000001, .l [] [] [] [1, 15] [kk 1] (Vz x0))]) ((kJb (id := 5000001) () (fun v0 ev0 v1 => (kC (sh := eI) (HC x0.fOp) fun v2 => (kN _ (mLen (sh := Qd) x0.ff) fun v3 => (kIf (c := v3 != v2) (kXj (alts := Vz x0) ev0 true (.here () rfl (.refl _) (.refl _)))
 (kN _ (mLen (sh := Q1) x0.fi) fun v4 => (kIfD (p := 6 < v4) (kXj (alts := Vz x0) ev0 true (.here () rfl (.refl _) (.refl _)))
 (kXj (alts := Vz x0) ev0 false (.next (.here () rfl (.refl _) (.refl _))))))))))
 (fun v0 => (kEr (enc := eB) false))
 (fun v0 => (kC (sh := eB) (UQ x0.fi) fun v7 => (kEr (enc := eB) (!v7))))) h)
end Go.Proofs.YtkgphhemcglgnaaGreatDoor
end
section
namespace Go.Proofs.YtkgphhemcglgnaaGreatDoor
open Go HY
set_option maxRecDepth 1000000
set_option linter.unusedVariables false
abbrev NxR (f r n : Nat) (ks : List Nat) (vs : List AV) (alts : List Alt) (xs : List (List AV)) (bs : List Box) : Prop := NxtR Tryz.prog gls [] n (rng Tryz.prog f (r + 1)).1 (rng Tryz.prog f (r + 1)).2.1 (rng Tryz.prog f (r + 1)).2.2 ks vs alts xs bs
section
variable {ρ : Type} {r : ρ}
theorem kIfE {c : Bool} {x y : Option ρ} {A B : Prop} (hA : c = true → x = some r → A) (hB : y = some r → B) (h : (if c = true then x else y) = some r) : (c = true → A) ∧ (c = false → B) := by
 cases c with
 | true => exact ⟨fun _ => hA rfl h, nofun⟩
 | false => exact ⟨nofun, fun _ => hB h⟩
theorem kRg {α υ : Type} {x : Option α} {k : α → Option ρ} {IT : List (List AV) → Prop} {R : List (List AV) → υ → α → Prop} {A : α → Prop} (xs : List (List AV)) (u : υ) (hit : IT xs) (hR : ∀ v, x = some v → R xs u v) (hA : ∀ v, k v = some r → A v) (h : (x >>= k) = some r) : ∃ xs u o, IT xs ∧ R xs u o ∧ A o := by
 cases x with
 | none => cases h
 | some v => exact ⟨xs, u, v, hit, hR v rfl, hA v h⟩
theorem kNx {f r' n : Nat} {ks : List Nat} {vs : List AV} {α : Type} {alts : α → List Alt} {xs : List (List AV)} {bs : List Box} {x : Option α} {o : α} (hR : ∀ o, x = some o → RG f r' n ks vs (alts o) xs bs) (h : x = some o) : LeVs vs vs ∧ NxR f r' n ks vs (alts o) xs bs := ⟨.refl _, ⟨bs, .refl _, hR o h⟩⟩
theorem kOt {α : Type} {alts : α → List Alt} {e : Exit} {vs : List AV} {bs : List Box} {o : α} (v : α) (hO : Out (alts v) e vs bs) (h : some v = some o) : LeVs vs vs ∧ Out (alts o) e vs bs := by cases h; exact ⟨.refl _, hO⟩
end
def GC (u : Unit) (o : Int) : List Alt := [⟨fun (x : Int) => x = o, .normal, fun x => [.ptr 0 0 0], fun x => [.cells 0 [.int .i64 x]]⟩, ⟨fun (x : Int) => x = o, .exit 0, fun x => [.ptr 0 0 0], fun x => [.cells 0 [.int .i64 x]]⟩]
noncomputable def J2 : List Qf → Int → Option Int
 | [], c => some c
 | e :: t, c => some (wr (c + 1)) >>= fun n => if (2000 : Int) < n then some n else J2 t n
theorem L6 : ∀ (l : List Qf) (c o : Int), J2 l c = some o → RG 199 3 12 [3] [.ptr 0 0 0] (GC () o) (l.map fun y => [Qa y.f]) [.cells 0 [.int .i64 c]]
 | [], c, o, h => by
  cases h
  exact Rg0 rfl (.here _ rfl (.refl _) (.refl _))
 | e :: t, c, o, h => Rg1 (hs := [(8, .n eI 8 none), (10, .split)]) (kb := [{ slot := 3 }]) (kbx := [{ slot := 3 }]) (by kernel_rfl) (by kernel_rfl)
  (kN _ (rfl : wr (c + 1) = _) (fun n => kIfD (p := (2000 : Int) < n) (kOt (alts := GC ()) n (.next (.here _ rfl (.refl _) (.refl _)))) (kNx (f := 199) (r' := 3) (n := 12) (ks := [3]) (vs := [.ptr 0 0 0]) (alts := GC ()) (xs := t.map fun y => [Qa y.f]) (bs := [.cells 0 [.int .i64 n]]) (L6 t n))) h)
noncomputable def Cx (x0 : Q3) : Option Int := Uo x0 >>= fun w => J2 (X7 (.mk w.1)) 0 >>= fun v => some v
theorem Sq (x0 : Q3) (r : Int) (h : Cx x0 = some r) : PU 199 [Qa x0] (eI r) :=
 Pu1 (hs := [(5, .c WT), (4000004, .l [] [3] [{ slot := 3 }] [3] [{ slot := 3 }] GC)]) (by kernel_rfl)
  (kC (sh := WT) (NJ x0) (fun w => kRg (IT := fun xs => ItOk Tryz.prog gls 139 [.ip 13 [Qa w.1] 0 0] xs) (R := fun xs (u : Unit) o => RG 199 3 12 [3] [.ptr 0 0 0] (GC u o) xs [.cells 0 [.int .i64 0]]) (A := fun o => (∀ x : Int, x = o → LeT (eI x) (eI r)) ∧ ∀ x : Int, x = o → LeT (eI x) (eI r)) _ () (EB w) (L6 _ 0)
   (fun v h => by cases h; exact ⟨fun x e => by subst e; exact .refl _, fun x e => by subst e; exact .refl _⟩)) h)
def JG (i : Q6) : List gLin := i.fo :: i.fAt
def Jj (x : Q3) : List gLin := x.fo :: (x.fi.map JG).flatten
abbrev HS := { x : Q3 // x.fi.length ≤ 4611686018427387904 ∧ ∀ i ∈ x.fi, i.fAt.length ≤ 4611686018427387904 }
def I2 (x : HS) : AV := .fn 286 [.ip 13 [Qa x.1] 0 0]
theorem fr_in {l : Nat} {xs : List (List AV)} {m n : Nat} {b : List Q6} {nb ib : Int} {a : List gLin} (hn : a.length = n) (hn2 : n ≤ 4611686018427387904) :
  ∀ (t p : List gLin) (k : Nat), a = p ++ t → k + t.length = m → (∀ (j : Nat) (y : gLin), t[j]? = some y → xs[k + j]? = some [Qb y]) →
   JLo 286 6 37 l xs [0, 13, 14, 15, 25, 26, 27] [yvl l, .sl 4 (b.map Q1), .int .i64 nb, .int .i64 ib, .sl 2 (a.map Qb), .int .i64 n, .int .i64 p.length] [] (some k) [0, 13, 14, 15] (.exit 2, [yvl l, .sl 4 (b.map Q1), .int .i64 nb, .int .i64 ib]) (.ret, [yvl l, .sl 4 (b.map Q1), .int .i64 nb, .int .i64 ib]) m
 | t, p, k, ha, hm, hx => by
  refine JL1 (φ := (decide ((p.length : Int) < n) = true → ∃ x : gLin, ((0 : Int) ≤ p.length ∧ (a.map Qb)[Int.toNat p.length]? = some (Qb x)) ∧ l = l ∧ xs[k]? = some [Qb x] ∧
   NxtJ Tryz.prog gls l xs 37 (V8 Tryz.prog 286 (6 + 1)) [0, 13, 14, 15, 25, 26, 27] [0, 13, 14, 15] (.exit 2, [yvl l, .sl 4 (b.map Q1), .int .i64 nb, .int .i64 ib]) (.ret, [yvl l, .sl 4 (b.map Q1), .int .i64 nb, .int .i64 ib]) m [yvl l, .sl 4 (b.map Q1), .int .i64 nb, .int .i64 ib, .sl 2 (a.map Qb), .int .i64 n, .int .i64 (wr ((p.length : Int) + 1))] [] (some (k + 1)) ∧
   JO (.exit 2, [yvl l, .sl 4 (b.map Q1), .int .i64 nb, .int .i64 ib]) (.ret, [yvl l, .sl 4 (b.map Q1), .int .i64 nb, .int .i64 ib]) m .ret none [yvl l, .sl 4 (b.map Q1), .int .i64 nb, .int .i64 ib] []) ∧
   (decide ((p.length : Int) < n) = false → JO (.exit 2, [yvl l, .sl 4 (b.map Q1), .int .i64 nb, .int .i64 ib]) (.ret, [yvl l, .sl 4 (b.map Q1), .int .i64 nb, .int .i64 ib]) m (.exit 2) (some k) [yvl l, .sl 4 (b.map Q1), .int .i64 nb, .int .i64 ib] []))
   (hs := [(28, .split), (29, .e Qb)]) (js := []) (kb := []) (by kernel_rfl) (by kernel_rfl) ⟨fun h => ?_, fun h => ?_⟩
  ·have h := of_decide_eq_true h
   cases t with
   | nil => subst ha; simp at hn; omega
   | cons e t =>
    have hlen : p.length < a.length := by rw [ha]; simp
    refine ⟨e, ⟨by omega, ?_⟩, rfl, hx 0 e rfl, ⟨_, _, ?_, .refl _, fr_in hn hn2 t (p ++ [e]) (k + 1) (by rw [ha]; simp) (by rw [← hm]; simp; omega) (fun j y hj => ?_)⟩, .b rfl rfl rfl⟩
    ·rw [List.getElem?_map, ha, Int.toNat_natCast, List.getElem?_append_right (Nat.le_refl _)]; simp
    ·rw [show wr ((p.length : Int) + 1) = ((p ++ [e]).length : Int) by rw [ZI (by omega)]; simp]
     exact .refl _
    ·rw [show k + 1 + j = k + (j + 1) by omega]
     exact hx (j + 1) y (by simpa using hj)
  ·have h := of_decide_eq_false h
   cases t with
   | nil => exact .a rfl (by rw [← hm]; rfl) rfl
   | cons e t => rw [ha] at hn; simp at hn; omega
theorem fr_out {l : Nat} {xs : List (List AV)} {m n : Nat} {b : List Q6} (hn : b.length = n) (hn2 : n ≤ 4611686018427387904) (hA : ∀ i ∈ b, i.fAt.length ≤ 4611686018427387904) :
  ∀ (t p : List Q6) (k : Nat), b = p ++ t → k + ((t.map JG).flatten).length = m → (∀ (j : Nat) (y : gLin), ((t.map JG).flatten)[j]? = some y → xs[k + j]? = some [Qb y]) →
   JLo 286 2 37 l xs [0, 13, 14, 15] [yvl l, .sl 4 (b.map Q1), .int .i64 n, .int .i64 p.length] [] (some k) [] (.exit 0, []) (.ret, []) m
 | t, p, k, ha, hm, hx => by
  refine JL1 (φ := (decide ((p.length : Int) < n) = true → ∃ x : Q6, ((0 : Int) ≤ p.length ∧ (b.map Q1)[Int.toNat p.length]? = some (Q1 x)) ∧ l = l ∧ xs[k]? = some [Qb x.fo] ∧
   (∃ q, JLo 286 6 37 l xs [0, 13, 14, 15, 25, 26, 27] [yvl l, .sl 4 (b.map Q1), .int .i64 n, .int .i64 p.length, .sl 2 (x.fAt.map Qb), .int .i64 ((x.fAt.map Qb).length : Nat), .int .i64 0] [] (some (k + 1)) [0, 13, 14, 15] (.exit 2, [yvl l, .sl 4 (b.map Q1), .int .i64 n, .int .i64 p.length]) (.ret, [yvl l, .sl 4 (b.map Q1), .int .i64 n, .int .i64 p.length]) q ∧
    NxtJ Tryz.prog gls l xs 37 (V8 Tryz.prog 286 (2 + 1)) [0, 13, 14, 15] [] (.exit 0, []) (.ret, []) m [yvl l, .sl 4 (b.map Q1), .int .i64 n, .int .i64 (wr ((p.length : Int) + 1))] [] (some q) ∧
    JO (.exit 0, []) (.ret, []) m .ret none [] []) ∧
   JO (.exit 0, []) (.ret, []) m .ret none [] []) ∧
   (decide ((p.length : Int) < n) = false → JO (.exit 0, []) (.ret, []) m (.exit 0) (some k) [] []))
   (hs := [(16, .split), (17, .e Q1)]) (js := [(7, ⟨[0, 13, 14, 15, 25, 26, 27], [], [0, 13, 14, 15], (.exit 2, [yvl l, .sl 4 (b.map Q1), .int .i64 n, .int .i64 p.length]), (.ret, [yvl l, .sl 4 (b.map Q1), .int .i64 n, .int .i64 p.length])⟩)]) (kb := []) (by kernel_rfl) (by kernel_rfl) ⟨fun h => ?_, fun h => ?_⟩
  ·have h := of_decide_eq_true h
   cases t with
   | nil => subst ha; simp at hn; omega
   | cons e t =>
    have hlen : p.length < b.length := by rw [ha]; simp
    have hAe := hA e (by rw [ha]; simp)
    have hfl : (((e :: t).map JG).flatten) = e.fo :: (e.fAt ++ (t.map JG).flatten) := by simp [JG]
    rw [hfl] at hm hx
    refine ⟨e, ⟨by omega, ?_⟩, rfl, hx 0 _ rfl, ⟨k + 1 + e.fAt.length, ?_, ⟨_, _, ?_, .refl _, fr_out hn hn2 hA t (p ++ [e]) (k + 1 + e.fAt.length) (by rw [ha]; simp) (by rw [← hm]; simp; omega) (fun j y hj => ?_)⟩, .b rfl rfl rfl⟩, .b rfl rfl rfl⟩
    ·rw [List.getElem?_map, ha, Int.toNat_natCast, List.getElem?_append_right (Nat.le_refl _)]; simp
    ·rw [List.length_map]
     exact fr_in (ib := p.length) (nb := n) rfl hAe e.fAt [] (k + 1) rfl rfl (fun j y hj => by
      rw [show k + 1 + j = k + (j + 1) by omega]
      refine hx (j + 1) y ?_
      rw [List.getElem?_cons_succ, List.getElem?_append_left (List.getElem?_eq_some_iff.1 hj).1]; exact hj)
    ·rw [show wr ((p.length : Int) + 1) = ((p ++ [e]).length : Int) by rw [ZI (by omega)]; simp]
     exact .refl _
    ·rw [show k + 1 + e.fAt.length + j = k + (e.fAt.length + j + 1) by omega]
     refine hx _ y ?_
     rw [List.getElem?_cons_succ, List.getElem?_append_right (Nat.le_add_right _ _), Nat.add_sub_cancel_left]; exact hj
  ·have h := of_decide_eq_false h
   cases t with
   | nil => exact .a rfl (by rw [← hm]; rfl) rfl
   | cons e t => rw [ha] at hn; simp at hn; omega
theorem FR (x : HS) : ItOk Tryz.prog gls 286 [.ip 13 [Qa x.1] 0 0] ((Jj x.1).map fun y => [Qb y]) :=
 ItOk.of (J4 (by kernel_rfl)) false fun l => by
  have hx : ∀ (j : Nat) (y : gLin), (Jj x.1)[j]? = some y → ((Jj x.1).map fun y => [Qb y])[j]? = some [Qb y] := fun j y hj => by rw [List.getElem?_map, hj]; rfl
  generalize hxs : ((Jj x.1).map fun y => [Qb y]) = xs at *
  have hl : xs.length = 1 + ((x.1.fi.map JG).flatten).length := by rw [← hxs, List.length_map]; simp only [Jj, List.length_cons]; omega
  refine JF1 (φ := l = l ∧ xs[0]? = some [Qb x.1.fo] ∧ (∃ q, JLo 286 2 37 l xs [0, 13, 14, 15] [yvl l, .sl 4 (x.1.fi.map Q1), .int .i64 ((x.1.fi.map Q1).length : Nat), .int .i64 0] [] (some 1) [] (.exit 0, []) (.ret, []) q ∧ JQ false xs.length (.tup []) (some q) ∧ JQ false xs.length (.tup []) none) ∧ JQ false xs.length (.tup []) none)
   (hs := []) (js := [(3, ⟨[0, 13, 14, 15], [], [], (.exit 0, []), (.ret, [])⟩)]) (by kernel_rfl) ⟨rfl, hx 0 _ rfl, ⟨1 + ((x.1.fi.map JG).flatten).length, ?_, ⟨rfl, .inl (by rw [hl])⟩, ⟨rfl, .inr rfl⟩⟩, ⟨rfl, .inr rfl⟩⟩
  rw [List.length_map]
  exact fr_out rfl x.2.1 x.2.2 x.1.fi [] 1 rfl rfl (fun j y hj => by
   rw [Nat.add_comm 1 j]
   exact hx (j + 1) y (by rw [Jj, List.getElem?_cons_succ]; exact hj))
open Classical in
noncomputable def Du (x0 : Q3) : Option HS := if h : x0.fi.length ≤ 4611686018427387904 ∧ ∀ i ∈ x0.fi, i.fAt.length ≤ 4611686018427387904 then some ⟨x0, h⟩ else none
theorem TW (x : Q3) (h : x.fi.length ≤ 4611686018427387904 ∧ ∀ i ∈ x.fi, i.fAt.length ≤ 4611686018427387904) : Du x = some ⟨x, h⟩ := dif_pos h
theorem T9 (x0 : Q3) (r : HS) (h : Du x0 = some r) : PU 234 [Qa x0] (I2 r) := by
 unfold Du at h
 split at h
 ·cases h
  exact Pu1 (φ := LeT (.fn 286 [.ip 13 [Qa x0] 0 0]) (.fn 286 [.ip 13 [Qa x0] 0 0])) (hs := []) (by kernel_rfl) (.refl _)
 ·cases h
def KU (u : Unit) (o : Bool) : List Alt := [⟨fun (x : Unit) => o = true, .normal, fun x => [.ptr 0 0 0], fun x => [.cells 0 [.int .i64 0]]⟩, ⟨fun (x : Unit) => o = false, .ret, fun x => [.ptr 0 0 0], fun x => [.cells 0 [.int .i64 1]]⟩]
noncomputable def Vd : List gLin → Option Bool
 | [] => some true
 | e :: t => XL e >>= fun v => if (v != (0 : Int)) = true then some false else Vd t
theorem CM : ∀ (l : List gLin) (o : Bool), Vd l = some o → RG 200 12 38 [2] [.ptr 0 0 0] (KU () o) (l.map fun y => [Qb y]) [.cells 0 [.int .i64 0]]
 | [], o, h => by
  cases h
  exact Rg0 rfl (.here () rfl (.refl _) (.refl _))
 | e :: t, o, h => Rg1 (hs := [(36, .c eI), (37, .split)]) (kb := [{ slot := 2 }]) (kbx := [{ slot := 2 }]) (by kernel_rfl) (by kernel_rfl)
  (kC (sh := eI) (VM e) (fun v => kIf (c := v != (0 : Int)) (kOt (alts := KU ()) false (.next (.here () rfl (.refl _) (.refl _)))) (kNx (f := 200) (r' := 12) (n := 38) (ks := [2]) (vs := [.ptr 0 0 0]) (alts := KU ()) (xs := t.map fun y => [Qb y]) (bs := [.cells 0 [.int .i64 0]]) (CM t))) h)
noncomputable def Ve (x0 : Q3) : Option Int := Du x0 >>= fun w => Vd (Jj w.1) >>= fun v => some (if v then 0 else 1)
noncomputable def U4 (x0 : Q3) : Option Int :=
 GV x0 >>= fun v0 => if v0 = true then (Dv x0 >>= fun v1 => if v1 = true then (Cy x0 >>= fun v2 => if v2 = true then (Dx x0 >>= fun v3 => if v3 = true then
  (if (x0.fOp == (1 : Int)) = true then GY x0.fa x0.fy >>= fun v4 => if v4 = true then Ve x0 else some 1 else Ve x0)
  else some 10) else some 11) else some 7) else some 5
theorem WC (x0 : Q3) (r : Int) (h : Ve x0 = some r) : ∃ w, PU 234 [Qa x0] (I2 w) ∧ ∃ xs u o, ItOk Tryz.prog gls 286 [.ip 13 [Qa w.1] 0 0] xs ∧ RG 200 12 38 [2] [.ptr 0 0 0] (KU u o) xs [.cells 0 [.int .i64 0]] ∧ (∀ x : Unit, o = true → LeT (eI 0) (eI r)) ∧ ∀ x : Unit, o = false → LeT (eI 1) (eI r) :=
 kC (sh := I2) (T9 x0) (fun w => kRg (IT := fun xs => ItOk Tryz.prog gls 286 [.ip 13 [Qa w.1] 0 0] xs) (R := fun xs (u : Unit) o => RG 200 12 38 [2] [.ptr 0 0 0] (KU u o) xs [.cells 0 [.int .i64 0]]) (A := fun o => (∀ x : Unit, o = true → LeT (eI 0) (eI r)) ∧ ∀ x : Unit, o = false → LeT (eI 1) (eI r)) _ () (FR w) (CM _)
   (fun v h => by cases h; exact ⟨fun x e => by subst e; exact .refl _, fun x e => by subst e; exact .refl _⟩)) h
theorem IV (x0 : Q3) (r : Int) (h : U4 x0 = some r) : PU 200 [Qa x0] (eI r) :=
 Pu1 (hs := [(6, .cb), (10, .cb), (14, .cb), (18, .cb), (23, .split), (29, .cb), (33, .c I2), (4000013, .l [] [2] [{ slot := 2 }] [2] [{ slot := 2 }] KU)]) (by kernel_rfl)
  (kCb (RA x0) (kCb (Ta x0) (kCb (Sr x0) (kCb (Tb x0) (kIf (c := x0.fOp == (1 : Int)) (kCb (RH x0.fa x0.fy) (WC x0 r) (kEr (enc := eI) 1)) (WC x0 r))
   (kEr (enc := eI) 10)) (kEr (enc := eI) 11)) (kEr (enc := eI) 7)) (kEr (enc := eI) 5) h)
def J7 (u : Unit) (o : Int) : List Alt := [⟨fun (x : Unit) => o = 0, .normal, fun x => [.ptr 0 0 0], fun x => [.cells 0 [.int .i64 0]]⟩, ⟨fun (x : Unit) => ¬ o = 0, .ret, fun x => [.ptr 0 0 0], fun x => [.cells 0 [.int .i64 o]]⟩]
noncomputable def Vu : List Qf → Option Int
 | [] => some 0
 | e :: t => U4 e.f >>= fun v => if (v != (0 : Int)) = true then some v else Vu t
theorem Wg : ∀ (l : List Qf) (o : Int), Vu l = some o → RG 171 6 19 [2] [.ptr 0 0 0] (J7 () o) (l.map fun y => [Qa y.f]) [.cells 0 [.int .i64 0]]
 | [], o, h => by
  cases h
  exact Rg0 rfl (.here () rfl (.refl _) (.refl _))
 | e :: t, o, h => Rg1 (hs := [(15, .c eI), (17, .split)]) (kb := [{ slot := 2 }]) (kbx := [{ slot := 2 }]) (by kernel_rfl) (by kernel_rfl)
  (kC (sh := eI) (IV e.f) (fun v => kIfE (c := v != (0 : Int)) (fun hc => kOt (alts := J7 ()) v (.next (.here () (by simpa using hc) (.refl _) (.refl _)))) (kNx (f := 171) (r' := 6) (n := 19) (ks := [2]) (vs := [.ptr 0 0 0]) (alts := J7 ()) (xs := t.map fun y => [Qa y.f]) (bs := [.cells 0 [.int .i64 0]]) (Wg t))) h)
noncomputable def Uw (x0 : Q3) : Option Int :=
 WB x0 >>= fun v0 => if (40 : Int) < v0 then some 13 else Cx x0 >>= fun v1 => if (2000 : Int) < v1 then some 2 else Uo x0 >>= fun w => Vu (X7 (.mk w.1)) >>= fun v => some v
theorem HB (x0 : Q3) (r : Int) (h : Uw x0 = some r) : PU 171 [Qa x0] (eI r) :=
 Pu1 (hs := [(6, .c eI), (7, .split), (9, .c eI), (10, .split), (12, .c WT), (4000007, .l [] [2] [{ slot := 2 }] [2] [{ slot := 2 }] J7)]) (by kernel_rfl)
  (kC (sh := eI) (T7 x0) (fun v0 => kIfD (p := (40 : Int) < v0) (kEr (enc := eI) 13) (kC (sh := eI) (Sq x0) (fun v1 => kIfD (p := (2000 : Int) < v1) (kEr (enc := eI) 2)
   (kC (sh := WT) (NJ x0) (fun w => kRg (IT := fun xs => ItOk Tryz.prog gls 139 [.ip 13 [Qa w.1] 0 0] xs) (R := fun xs (u : Unit) o => RG 171 6 19 [2] [.ptr 0 0 0] (J7 u o) xs [.cells 0 [.int .i64 0]]) (A := fun o => (∀ x : Unit, o = 0 → LeT (eI 0) (eI r)) ∧ ∀ x : Unit, ¬ o = 0 → LeT (eI o) (eI r)) _ () (EB w) (Wg _)
    (fun v h => by cases h; exact ⟨fun x e => by subst e; exact .refl _, fun x e => .refl _⟩)))))) h)
def hCk (c : Q0) : AV := .ip 5 [LD c] 0 0
def XA (s : Q3 × Q0) (u : Unit) (o : Int) : List Alt := [⟨fun (x : Unit) => o = 0, .normal, fun x => [.ip 1 [.agg [hCk s.2]] 0 0, .ptr 0 0 0, .ptr 1 0 0, .ptr 2 0 0], fun x => [.cells 0 (Qa s.1).cells, .cells 0 (Qp ⟨0, 0, 0, 0, 0⟩).cells, .cells 0 [.int .i64 0]]⟩,
 ⟨fun (x : Unit) => ¬ o = 0, .ret, fun x => [.ip 1 [.agg [hCk s.2]] 0 0, .ptr 0 0 0, .ptr 1 0 0, .ptr 2 0 0], fun x => [.cells 0 (Qa s.1).cells, .cells 0 (Qp ⟨0, 0, 0, 0, 0⟩).cells, .cells 0 [.int .i64 o]]⟩]
noncomputable def Xe (c : Q0) : List Qf → Option Int
 | [] => some 0
 | e :: t => KO c e.f >>= fun v => if (v != (0 : Int)) = true then some v else Xe c t
theorem J0 (c : Q0) (x : Q3) : ∀ (l : List Qf) (o : Int), Xe c l = some o → RG 162 5 30 [2, 3, 4, 5] [.ip 1 [.agg [hCk c]] 0 0, .ptr 0 0 0, .ptr 1 0 0, .ptr 2 0 0] (XA (x, c) () o) (l.map fun y => [Qa y.f]) [.cells 0 (Qa x).cells, .cells 0 (Qp ⟨0, 0, 0, 0, 0⟩).cells, .cells 0 [.int .i64 0]]
 | [], o, h => by
  cases h
  exact Rg0 rfl (.here () rfl (.refl _) (.refl _))
 | e :: t, o, h => Rg1 (hs := [(20, .c eI), (22, .split)]) (kb := [{ slot := 3 }, { slot := 4 }, { slot := 5 }]) (kbx := [{ slot := 3 }, { slot := 4 }, { slot := 5 }]) (by kernel_rfl) (by kernel_rfl)
  (kC (sh := eI) (Nf c e.f) (fun v => kIfE (c := v != (0 : Int)) (fun hc => kOt (alts := XA (x, c) ()) v (.next (.here () (by simpa using hc) (.refl _) (.refl _)))) (kNx (f := 162) (r' := 5) (n := 30) (ks := [2, 3, 4, 5]) (vs := [.ip 1 [.agg [hCk c]] 0 0, .ptr 0 0 0, .ptr 1 0 0, .ptr 2 0 0]) (alts := XA (x, c) ()) (xs := t.map fun y => [Qa y.f]) (bs := [.cells 0 (Qa x).cells, .cells 0 (Qp ⟨0, 0, 0, 0, 0⟩).cells, .cells 0 [.int .i64 0]]) (J0 c x t))) h)
noncomputable def ZL (c : Q0) (x : Q3) : Option (Qg × Int) :=
 Uw x >>= fun v0 => if (v0 != (0 : Int)) = true then some (⟨0, 0, 0, 0, 0⟩, v0) else Uo x >>= fun w => Xe c (X7 (.mk w.1)) >>= fun v => if v = 0 then Zh c x >>= fun q => some (q.1, q.2) else some (⟨0, 0, 0, 0, 0⟩, v)
theorem kSelP {r : Qg × Int} {p : Prop} [Decidable p] {x : Option (Qg × Int)} {y : Qg × Int} {A : Prop} (hA : x = some r → A) (h : (if p then x else some y) = some r) : (Unit → p → A) ∧ (Unit → ¬ p → LeT (Qu y) (Qu r)) := by
 by_cases hp : p
 ·rw [if_pos hp] at h; exact ⟨fun _ _ => hA h, fun _ e => absurd hp e⟩
 ·rw [if_neg hp] at h; cases h; exact ⟨fun _ e => absurd e hp, fun _ _ => .refl _⟩
theorem KL (c : Q0) (x : Q3) (r : Qg × Int) (h : ZL c x = some r) : PU 162 [hCk c, Qa x] (Qu r) :=
 Pu1 (hs := [(3, .z [{ slot := 2, fz := true }] none), (10, .c eI), (12, .split), (16, .c WT), (4000006, .l [] [2, 3, 4, 5] [{ slot := 3 }, { slot := 4 }, { slot := 5 }] [2, 3, 4, 5] [{ slot := 3 }, { slot := 4 }, { slot := 5 }] (XA (x, c))), (27, .c Qu)]) (by kernel_rfl)
  (kC (sh := eI) (HB x) (fun v0 => kIf (c := v0 != (0 : Int)) (kEr (enc := Qu) (⟨0, 0, 0, 0, 0⟩, v0))
   (kC (sh := WT) (NJ x) (fun w => kRg (IT := fun xs => ItOk Tryz.prog gls 139 [.ip 13 [Qa w.1] 0 0] xs) (R := fun xs (u : Unit) o => RG 162 5 30 [2, 3, 4, 5] [.ip 1 [.agg [hCk c]] 0 0, .ptr 0 0 0, .ptr 1 0 0, .ptr 2 0 0] (XA (x, c) u o) xs [.cells 0 (Qa x).cells, .cells 0 (Qp ⟨0, 0, 0, 0, 0⟩).cells, .cells 0 [.int .i64 0]])
    (A := fun o => (Unit → o = 0 → ∃ q, PU 195 [hCk c, Qa x] (Qu q) ∧ LeT (Qu q) (Qu r)) ∧ (Unit → ¬ o = 0 → LeT (Qu (⟨0, 0, 0, 0, 0⟩, o)) (Qu r))) _ () (EB w) (J0 c x _)
    (fun v => kSelP (kC (sh := Qu) (Wl c x) (fun q => kEr (enc := Qu) (q.1, q.2))))))) h)
end Go.Proofs.YtkgphhemcglgnaaGreatDoor
end
noncomputable section
namespace Go.Proofs.YtkgphhemcglgnaaGreatDoor
open Go HY
set_option maxRecDepth 1000000
set_option linter.unusedVariables false
def ZY (s : (Q0 × Qe)) (u : Qg) (o : Bool) : List Alt := jb o (fun b => [.ip 5 [.agg [.sl 8 (List.map Qc (s.1).fh.fk), .sl 20 (List.map Q9 (s.1).fh.fd), .sl 1 (List.map eS (s.1).fp), .sl 1 (List.map eS (s.1).fg), .sl 1 (List.map eI (s.1).fu)]] 0 0, .ptr 0 0 0, .ptr 1 0 0, .bool b]) [.cells 0 (Qm (s.2)).cells, .cells 0 (Qp u).cells]
def XQ (s : Unit) (u : Unit) (o : Bool) : List Alt := jb o (fun b => [.bool b]) []
def Ky (x0 : Q0) (x1 : Qe) : Option Int :=
 some ((Qv.mk (3 : Int) x1.fb (gVal.mk (0 : Int) (0 : Int)) (Qg.mk (0 : Int) (0 : Int) (0 : Int) (0 : Int) (0 : Int)) (gLin.mk (0 : Int) []) x1.fi [] : Q3)) >>= fun v0 =>
 ZL x0 v0 >>= fun v1 =>
 if v1.snd != 0 then
 some v1.snd
 else
 Y8 x0.fh x1.fb >>= fun v2 =>
 if v2.fst.fJ == 1 then
 some (1 : Int)
 else
 some v1.fst >>= fun v3 =>
 (if x1.fOp == 3 then
 if x1.fF < 1 then
 some true
 else
 if 4 < x1.fF then
 some true
 else
 some false
 else
 some false) >>= fun v4 => if v4 then
 some (1 : Int)
 else
 ZL x0 x1.fq >>= fun v7 =>
 if v7.snd != 0 then
 some v7.snd
 else
 some () >>= fun v8 =>
 (Yv x1.fq >>= fun v10 => if v10 then
 some true
 else
 if !(v7.fst.fv == v3.fv && (v7.fst.fx == v3.fx && (v7.fst.fB == v3.fB && (v7.fst.fw == v3.fw && (v7.fst.fC == v3.fC && true))))) then
 some true
 else
 some false) >>= fun v9 => if v9 then
 some (10 : Int)
 else
 some (0 : Int)
theorem WL (x0 x1 r) (h : Ky x0 x1 = some r) : PU 164 [.ip 5 [.agg [.sl 8 (List.map Qc x0.fh.fk), .sl 20 (List.map Q9 x0.fh.fd), .sl 1 (List.map eS x0.fp), .sl 1 (List.map eS x0.fg), .sl 1 (List.map eI x0.fu)]] 0 0, Qm x1] (eI r) :=
 Pu2 (hs := [(16, .n Qa 16 none), (17, .c Qu), (21, .split), (30, .c XP), (35, .split), (38, .split), (42, .split), (46, .split), (53, .c Qu), (57, .split), (61, .cb), (65, .split), (5000007, .l [] [] [] [0, 3, 5, 48] [kk 3, kk 5] (ZY (x0, x1))), (5000012, .l [] [] [] [66] [] (XQ ()))]) ((kW (sh := Qa) (Qv.mk (3 : Int) x1.fb (gVal.mk (0 : Int) (0 : Int)) (Qg.mk (0 : Int) (0 : Int) (0 : Int) (0 : Int) (0 : Int)) (gLin.mk (0 : Int) []) x1.fi [] : Q3) (LeV.agg (.cons lr (.cons lr (.cons lr (.cons lr (.cons lr (.cons lr (.cons lr (.cons lr (.cons lr (.cons lr (.cons (LeV.nil 2) (.cons lr (.cons (LeV.nil 13) .nil)))))))))))))) fun v0 => (kC (sh := Qu) (KL x0 v0) fun v1 => (kIf (c := v1.snd != 0) (kEr (enc := eI) v1.snd)
 (kC (sh := XP) (Vv x0.fh x1.fb) fun v2 => (kIf (c := v2.fst.fJ == 1) (kEr (enc := eI) (1 : Int))
 (kJb (id := 5000007) v1.fst (fun v3 ev3 v4 => (kIf (c := x1.fOp == 3) (kIfD (p := x1.fF < 1) (kXj (alts := ZY (x0, x1)) ev3 true (.here () rfl (.refl _) (.refl _)))
 (kIfD (p := 4 < x1.fF) (kXj (alts := ZY (x0, x1)) ev3 true (.here () rfl (.refl _) (.refl _)))
 (kXj (alts := ZY (x0, x1)) ev3 false (.next (.here () rfl (.refl _) (.refl _))))))
 (kXj (alts := ZY (x0, x1)) ev3 false (.next (.here () rfl (.refl _) (.refl _))))))
 (fun v3 => (kEr (enc := eI) (1 : Int)))
 (fun v3 => (kC (sh := Qu) (KL x0 x1.fq) fun v7 => (kIf (c := v7.snd != 0) (kEr (enc := eI) v7.snd)
 (kJb (id := 5000012) () (fun v8 ev8 v9 => (kCb (Jc x1.fq) (kXj (alts := XQ ()) ev8 true (.here () rfl (.refl _) (.refl _)))
 (kIf (c := !(v7.fst.fv == v3.fv && (v7.fst.fx == v3.fx && (v7.fst.fB == v3.fB && (v7.fst.fw == v3.fw && (v7.fst.fC == v3.fC && true)))))) (kXj (alts := XQ ()) ev8 true (.here () rfl (.refl _) (.refl _)))
 (kXj (alts := XQ ()) ev8 false (.next (.here () rfl (.refl _) (.refl _)))))))
 (fun v8 => (kEr (enc := eI) (10 : Int)))
 (fun v8 => (kEr (enc := eI) (0 : Int))))))))))))) h)
def YE (x0 : Q0) (x1 : Qe) : Option Int :=
 JC x1 >>= fun v0 => if v0 then
 if x1.fOp == 1 then
 KN x0 x1 >>= fun v1 =>
 some v1
 else
 if x1.fOp == 4 then
 ZL x0 x1.fq >>= fun v2 =>
 if v2.snd != 0 then
 some v2.snd
 else
 Yv x1.fq >>= fun v3 => if v3 then
 some (0 : Int)
 else
 some (10 : Int)
 else
 Ky x0 x1 >>= fun v4 =>
 some v4
 else
 some (5 : Int)
theorem Cg (x0 x1 r) (h : YE x0 x1 = some r) : PU 120 [.ip 5 [.agg [.sl 8 (List.map Qc x0.fh.fk), .sl 20 (List.map Q9 x0.fh.fd), .sl 1 (List.map eS x0.fp), .sl 1 (List.map eS x0.fg), .sl 1 (List.map eI x0.fu)]] 0 0, Qm x1] (eI r) :=
 Pu2 (hs := [(8, .cb), (13, .split), (16, .c eI), (18, .split), (23, .c Qu), (27, .split), (31, .cb), (35, .c eI)]) ((kCb (Ix x1) (kIf (c := x1.fOp == 1) (kC (sh := eI) (Nd x0 x1) fun v1 => (kEr (enc := eI) v1))
 (kIf (c := x1.fOp == 4) (kC (sh := Qu) (KL x0 x1.fq) fun v2 => (kIf (c := v2.snd != 0) (kEr (enc := eI) v2.snd)
 (kCb (Jc x1.fq) (kEr (enc := eI) (0 : Int))
 (kEr (enc := eI) (10 : Int)))))
 (kC (sh := eI) (WL x0 x1) fun v4 => (kEr (enc := eI) v4))))
 (kEr (enc := eI) (5 : Int))) h)
def QM (r : (Int × Q0)) : AV := eI r.1
def QK (r : (Int × Q0)) : List Box := [.cells 0 [.sl 8 (List.map Qc r.2.fh.fk), .sl 20 (List.map Q9 r.2.fh.fd), .ow 1 0 1 (List.length r.2.fp), .ow 2 0 1 (List.length r.2.fg), .ow 3 0 1 (List.length r.2.fu)], .own 0 1 (List.map eS r.2.fp), .own 0 1 (List.map eS r.2.fg), .own 0 1 (List.map eI r.2.fu)]
def Zb (s : List Q7) (u : Int) (o : Q0 ⊕ (Q0 × Int)) : List Alt := lp o (.exit 0) (fun _ => [.ptr 0 0 0, .undef]) (fun x => [.cells 0 [.sl 8 (List.map Qc x.fh.fk), .sl 20 (List.map Q9 x.fh.fd), .ow 1 0 1 (List.length x.fp), .ow 2 0 1 (List.length x.fg), .ow 3 0 1 (List.length x.fu)], .own 0 1 (List.map eS x.fp), .own 0 1 (List.map eS x.fg), .own 0 1 (List.map eI x.fu)]) .ret (fun x => [.ptr 0 0 0, ii x.2]) (fun x => [.cells 0 [.sl 8 (List.map Qc x.1.fh.fk), .sl 20 (List.map Q9 x.1.fh.fd), .ow 1 0 1 (List.length x.1.fp), .ow 2 0 1 (List.length x.1.fg), .ow 3 0 1 (List.length x.1.fu)], .own 0 1 (List.map eS x.1.fp), .own 0 1 (List.map eS x.1.fg), .own 0 1 (List.map eI x.1.fu)])
def Yb (s : ((List Q7) × Int)) (u : (Qe × Int × Int)) (o : Q0) : List Alt := l1 o .normal (fun _ => [.ptr 0 0 0, .sl 20 (List.map Q9 (s.1)), .ptr 4 0 0, ii (u.2.1), ii (s.2), ii (u.2.2)]) (fun x => [.cells 0 [.sl 8 (List.map Qc x.fh.fk), .sl 20 (List.map Q9 x.fh.fd), .ow 1 0 1 (List.length x.fp), .ow 2 0 1 (List.length x.fg), .ow 3 0 1 (List.length x.fu)], .own 0 1 (List.map eS x.fp), .own 0 1 (List.map eS x.fg), .own 0 1 (List.map eI x.fu), .cells 0 (Qm (u.1)).cells])
mutual
def QL (x0 : Q0) (x1 : List Q7) : Option (Int × Q0) :=
 some (List.length x1 : Int) >>= fun v0 =>
 some v0 >>= fun v1 =>
 Qy x0 x1 v0 0 >>= fun v2 => (match v2 with
 | (.inl v3) =>
 some ((0 : Int), v3)
 | (.inr v4) =>
 some (v4.snd, v4.fst))
 partial_fixpoint
def Qy (x0 : Q0) (x1 : List Q7) (x11 : Int) (x12 : Int) : Option (Q0 ⊕ (Q0 × Int)) :=
 if x12 < x11 then
 Option.map Q7.f (ix x1 x12) >>= fun v0 =>
 if (x0.fu.length + (1 : Nat)) * (8 : Nat) ≤ (140737488355328 : Nat) ∧ x0.fu.length + (1 : Nat) ≤ (9223372036854775807 : Nat) then
 some (x0.fu ++ [x12]) >>= fun v1 =>
 YE (Q0.mk x0.fh x0.fp x0.fg v1) v0 >>= fun v2 =>
 if v2 != 0 then
 some (.inr ((Q0.mk x0.fh x0.fp x0.fg v1), v2))
 else
 some ((↑x0.fg.length : Int) : Int) >>= fun v3 =>
 some (v0, v3, x12) >>= fun v4 =>
 (if v0.fOp == 1 then
 if (x0.fp.length + (1 : Nat)) * (16 : Nat) ≤ (140737488355328 : Nat) ∧ x0.fp.length + (1 : Nat) ≤ (9223372036854775807 : Nat) then
 if (x0.fg.length + (1 : Nat)) * (16 : Nat) ≤ (140737488355328 : Nat) ∧ x0.fg.length + (1 : Nat) ≤ (9223372036854775807 : Nat) then
 some (Q0.mk x0.fh (x0.fp ++ [v0.fb]) (x0.fg ++ [v0.fb]) v1)
 else none
 else none
 else
 some (Q0.mk x0.fh x0.fp x0.fg v1)) >>= fun v6 =>
 QL v6 v4.fst.fd >>= fun v7 =>
 if v7.fst != 0 then
 some (.inr (v7.snd, v7.fst))
 else
 if (0 : Int) = (0 : Int) ∧ 0 ≤ v4.snd.fst ∧ v4.snd.fst ≤ (↑v7.snd.fg.length : Int) then
 if List.length (List.take v4.snd.fst.toNat v7.snd.fg) = v4.snd.fst.toNat then
 some (List.take v4.snd.fst.toNat v7.snd.fg) >>= fun v8 =>
 if (0 : Int) = (0 : Int) ∧ 0 ≤ wr ((↑v7.snd.fu.length : Int) - (1 : Int)) ∧ wr ((↑v7.snd.fu.length : Int) - (1 : Int)) ≤ (↑v7.snd.fu.length : Int) then
 some ((↑v7.snd.fu.length : Int) : Int) >>= fun v9 =>
 if List.length (List.take ((wr ((↑v7.snd.fu.length : Int) - (1 : Int))).toNat) v7.snd.fu) = ((wr ((↑v7.snd.fu.length : Int) - (1 : Int))).toNat) then
 some (List.take ((wr ((↑v7.snd.fu.length : Int) - (1 : Int))).toNat) v7.snd.fu) >>= fun v10 =>
 Qy (Q0.mk v7.snd.fh v7.snd.fp v8 v10) x1 x11 (wr (v4.snd.snd + 1))
 else none
 else none
 else none
 else none
 else none
 else
 some (.inl x0)
 partial_fixpoint
end
theorem DB  : (∀ (x0 : Q0) (x1 : List Q7) (r : (Int × Q0)), QL x0 x1 = some r → PH 76 [.ptr 0 0 0, ZG x1] [.cells 0 [.sl 8 (List.map Qc x0.fh.fk), .sl 20 (List.map Q9 x0.fh.fd), .ow 1 0 1 (List.length x0.fp), .ow 2 0 1 (List.length x0.fg), .ow 3 0 1 (List.length x0.fu)], .own 0 1 (List.map eS x0.fp), .own 0 1 (List.map eS x0.fg), .own 0 1 (List.map eI x0.fu)] (QM r) (QK r)) ∧ (∀ (x0 : Q0) (x1 : List Q7) (x11 : Int) (x12 : Int) (o : Q0 ⊕ (Q0 × Int)), Qy x0 x1 x11 x12 = some o → LOp [.ptr 0 0 0] 76 2 96 [0, 1, 11, 12] [.ptr 0 0 0, .sl 20 (List.map Q9 x1), ii x11, ii x12] [.cells 0 [.sl 8 (List.map Qc x0.fh.fk), .sl 20 (List.map Q9 x0.fh.fd), .ow 1 0 1 (List.length x0.fp), .ow 2 0 1 (List.length x0.fg), .ow 3 0 1 (List.length x0.fu)], .own 0 1 (List.map eS x0.fp), .own 0 1 (List.map eS x0.fg), .own 0 1 (List.map eI x0.fu)] [0, 4] (Zb x1 x11 o)) :=
 QL.mutual_partial_correctness  _ _
 (fun Qy Ot x0 x1 r h  =>
 PuH2 (hs := [(11, .n eI 11 none), (3000003, .l [] [0, 1, 11, 12] [kk 0, { slot := 0, path := [2], own := 1 }, { slot := 0, path := [3], own := 1 }, { slot := 0, path := [4], own := 1 }] [0, 4] [kk 0, { slot := 0, path := [2], own := 1 }, { slot := 0, path := [3], own := 1 }, { slot := 0, path := [4], own := 1 }] (Zb x1))]) (kb := [kk 1, { slot := 1, path := [2], own := 1 }, { slot := 1, path := [3], own := 1 }, { slot := 1, path := [4], own := 1 }]) ((kN _ (mLen (sh := Q9) x1) fun v0 => (kL2 v0 (hL := (Ot x0 x1 v0 0)) (hA := fun v1 v3 => (kEH (enc := QM) (bt := QK) ((0 : Int), v3) ⟨.refl _, .refl _⟩))
 (hB := fun v1 v4 => (kEH (enc := QM) (bt := QK) (v4.snd, v4.fst) ⟨.refl _, .refl _⟩)))) h))
 (fun QL Qy Oq Ot x0 x1 x11 x12 o h  =>
 Lp1p (hs := [(13, .split), (17, .e Qm), (26, .z [{ slot := 23, own := 1 }] (some (.n eI 26 (some .a)))), (31, .c eI), (33, .split), (39, .n eI 39 none), (42, .split), (51, .a), (62, .a), (68, .h [kk 0, { slot := 0, path := [2], own := 1 }, { slot := 0, path := [3], own := 1 }, { slot := 0, path := [4], own := 1 }] QM QK), (70, .split), (78, .s), (90, .n eI 90 none), (92, .s), (79, .z [{ slot := 78, own := 1, cut := true }] (some (.n eS 78 none))), (93, .z [{ slot := 92, own := 1, cut := true }] (some (.n eI 92 none))), (6000012, .l [] [] [] [0, 1, 6, 8, 11, 12] [kk 0, { slot := 0, path := [2], own := 1 }, { slot := 0, path := [3], own := 1 }, { slot := 0, path := [4], own := 1 }, kk 6] (Yb (x1, x11)))]) (kb := [kk 0, { slot := 0, path := [2], own := 1 }, { slot := 0, path := [3], own := 1 }, { slot := 0, path := [4], own := 1 }]) (kbx := [kk 0, { slot := 0, path := [2], own := 1 }, { slot := 0, path := [3], own := 1 }, { slot := 0, path := [4], own := 1 }]) (by kernel_rfl) (by kernel_rfl) ((kIfD (p := x12 < x11) (kIxR (l := x1) (k := x12) Zy fun v0 => (kA (q := (x0.fu.length + (1 : Nat)) * (8 : Nat) ≤ (140737488355328 : Nat) ∧ x0.fu.length + (1 : Nat) ≤ (9223372036854775807 : Nat)) (sh := eI) (l := x0.fu) (kO (sh := eI) (x0.fu ++ [x12]) (mA (sh := eI) x0.fu x12) (nA x0.fu x12) fun v1 => (kT (nM (sh := eS) x0.fp) (kT (nM (sh := eS) x0.fg) (kT (nM (sh := eI) v1) (kC (sh := eI) (Cg (Q0.mk x0.fh x0.fp x0.fg v1) v0) fun v2 => (kIf (c := v2 != 0) (kX (alts := Zb x1 x11) (.inr ((Q0.mk x0.fh x0.fp x0.fg v1), v2)) (.next (.here _ rfl (.refl _) (.refl _))))
 (kN (↑x0.fg.length : Int) rfl fun v3 => (kJ1 (id := 6000012) (v0, v3, x12) (fun v4 ev4 v5 => (kIf (c := v0.fOp == 1) (kA (q := (x0.fp.length + (1 : Nat)) * (16 : Nat) ≤ (140737488355328 : Nat) ∧ x0.fp.length + (1 : Nat) ≤ (9223372036854775807 : Nat)) (sh := eS) (l := x0.fp) (kA (q := (x0.fg.length + (1 : Nat)) * (16 : Nat) ≤ (140737488355328 : Nat) ∧ x0.fg.length + (1 : Nat) ≤ (9223372036854775807 : Nat)) (sh := eS) (l := x0.fg) (kXj (alts := Yb (x1, x11)) ev4 (Q0.mk x0.fh (x0.fp ++ [v0.fb]) (x0.fg ++ [v0.fb]) v1) (.here _ rfl (.cons lr (.cons lr (.cons lr (.cons lr (.cons lr (.cons lr .nil)))))) (.cons (LeB.cells (0 : Nat) (.cons lr (.cons lr (.cons (LeV.owl (by simp : x0.fp.length + (1 : Nat) = List.length (x0.fp ++ [v0.fb]))) (.cons (LeV.owl (by simp : x0.fg.length + (1 : Nat) = List.length (x0.fg ++ [v0.fb]))) (.cons lr .nil)))))) (.cons (LeB.ownEq (mA (sh := eS) x0.fp v0.fb)) (.cons (LeB.ownEq (mA (sh := eS) x0.fg v0.fb)) (.cons (LeB.refl (Box.own (0 : Nat) (1 : Nat) (List.map eI v1))) (.cons (LeB.refl (Box.cells (0 : Nat) [ii v0.fOp, AV.str v0.fb, ii v0.fE, ii v0.fG, ii v0.fF, AV.sl (4 : Nat) (List.map Q1 v0.fi), ii v0.fq.fOp, AV.str v0.fq.fb, ii v0.fq.fy.fN, ii v0.fq.fy.fD, ii v0.fq.fa.fv, ii v0.fq.fa.fx, ii v0.fq.fa.fB, ii v0.fq.fa.fw, ii v0.fq.fa.fC, ii v0.fq.fo.fK, AV.sl (2 : Nat) (List.map Q4 v0.fq.fo.fL), AV.sl (4 : Nat) (List.map Q1 v0.fq.fi), AV.sl (13 : Nat) (List.map Qd v0.fq.ff), AV.sl (20 : Nat) (List.map Q9 v0.fd)])) .nil)))))))))
 (kXj (alts := Yb (x1, x11)) ev4 (Q0.mk x0.fh x0.fp x0.fg v1) (.here _ rfl (.refl _) (.refl _)))))
 (fun v4 v6 => (kH (sh := QM) (bt := QK) (Oq v6 v4.fst.fd) fun v7 => (kIf (c := v7.fst != 0) (kX (alts := Zb x1 x11) (.inr (v7.snd, v7.fst)) (.next (.here _ rfl (.refl _) (.refl _))))
 (kG (p := (0 : Int) = (0 : Int) ∧ 0 ≤ v4.snd.fst ∧ v4.snd.fst ≤ (↑v7.snd.fg.length : Int)) (kOc (sh := eS) (List.take v4.snd.fst.toNat v7.snd.fg) (mT (sh := eS) v7.snd.fg v4.snd.fst.toNat) fun v8 => (kG (p := (0 : Int) = (0 : Int) ∧ 0 ≤ wr ((↑v7.snd.fu.length : Int) - (1 : Int)) ∧ wr ((↑v7.snd.fu.length : Int) - (1 : Int)) ≤ (↑v7.snd.fu.length : Int)) (kN (↑v7.snd.fu.length : Int) rfl fun v9 => (kOc (sh := eI) (List.take ((wr ((↑v7.snd.fu.length : Int) - (1 : Int))).toNat) v7.snd.fu) (mT (sh := eI) v7.snd.fu ((wr ((↑v7.snd.fu.length : Int) - (1 : Int))).toNat)) fun v10 => (kM0 (alts := Zb x1 x11) (Ot (Q0.mk v7.snd.fh v7.snd.fp v8 v10) x1 x11 (wr (v4.snd.snd + 1))))))))))))))))))))))
 (kX (alts := Zb x1 x11) (.inl x0) (.here _ rfl (.refl _) (.refl _)))) h))
theorem DZ (x0 x1 r) (h : QL x0 x1 = some r) : PH 76 [.ptr 0 0 0, ZG x1] [.cells 0 [.sl 8 (List.map Qc x0.fh.fk), .sl 20 (List.map Q9 x0.fh.fd), .ow 1 0 1 (List.length x0.fp), .ow 2 0 1 (List.length x0.fg), .ow 3 0 1 (List.length x0.fu)], .own 0 1 (List.map eS x0.fp), .own 0 1 (List.map eS x0.fg), .own 0 1 (List.map eI x0.fu)] (QM r) (QK r) := (DB ).1 x0 x1 r h
def YA (s : Qq) (u : Unit) (o : Bool) : List Alt := jb o (fun b => [.ptr 0 0 0, .bool b]) [.cells 0 (Xf s).cells]
def KS (x0 : Qq) : Option (List Int × Int) :=
 Y9 x0.fd 40 >>= fun v0 => if v0 then
 some () >>= fun v1 =>
 (Xo x0.fd 2000 >>= fun v3 =>
 if 2000 < v3 then
 some true
 else
 some (List.length x0.fk : Int) >>= fun v4 =>
 if 128 < v4 then
 some true
 else
 some false) >>= fun v2 => if v2 then
 some ([], (2 : Int))
 else
 KM x0.fk >>= fun v7 =>
 if v7 != 0 then
 some ([], v7)
 else
 QL (Q0.mk x0 [] [] []) x0.fd >>= fun v8 =>
 if v8.fst != 0 then
 some (v8.snd.fu, v8.fst)
 else
 some ([], (0 : Int))
 else
 some ([], (13 : Int))
theorem Lk (x0 r) (h : KS x0 = some r) : PU 29 [Xf x0] (Dm r) :=
 Pu2 (hs := [(9, .cb), (13, .c eI), (14, .split), (18, .n eI 18 none), (19, .split), (23, .c eI), (25, .split), (33, .h [kk 0, { slot := 0, path := [2], own := 1 }, { slot := 0, path := [3], own := 1 }, { slot := 0, path := [4], own := 1 }] QM QK), (35, .split), (5000003, .l [] [] [] [1, 20] [kk 1] (YA x0))]) ((kCb (Iy x0.fd 40) (kJb (id := 5000003) () (fun v1 ev1 v2 => (kC (sh := eI) (Mn x0.fd 2000) fun v3 => (kIfD (p := 2000 < v3) (kXj (alts := YA x0) ev1 true (.here () rfl (.refl _) (.refl _)))
 (kN _ (mLen (sh := Qc) x0.fk) fun v4 => (kIfD (p := 128 < v4) (kXj (alts := YA x0) ev1 true (.here () rfl (.refl _) (.refl _)))
 (kXj (alts := YA x0) ev1 false (.next (.here () rfl (.refl _) (.refl _)))))))))
 (fun v1 => (kE (enc := Dm) ([], (2 : Int)) (LeT.tup (.cons (LeT.nil 1) (.cons (LeT.refl (ii (2 : Int))) .nil)))))
 (fun v1 => (kC (sh := eI) (Nc x0.fk) fun v7 => (kIf (c := v7 != 0) (kE (enc := Dm) ([], v7) (LeT.tup (.cons (LeT.nil 1) (.cons (LeT.refl (ii v7)) .nil))))
 (kH (sh := QM) (bt := QK) (DZ (Q0.mk x0 [] [] []) x0.fd) fun v8 => (kIf (c := v8.fst != 0) (kT (nM (sh := eI) v8.snd.fu) (kEr (enc := Dm) (v8.snd.fu, v8.fst)))
 (kE (enc := Dm) ([], (0 : Int)) (LeT.tup (.cons (LeT.nil 1) (.cons (LeT.refl (ii (0 : Int))) .nil))))))))))
 (kE (enc := Dm) ([], (13 : Int)) (LeT.tup (.cons (LeT.nil 1) (.cons (LeT.refl (ii (13 : Int))) .nil))))) h)
end Go.Proofs.YtkgphhemcglgnaaGreatDoor
end
