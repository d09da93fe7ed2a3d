/- Proved here: for every input of bulk at most 1048576 the law DependConflicts returns true, and its arguments read afterwards as they read before. Condition: the bound on the bulk of what is read (the statement's own). -/
import Derived.Test.YtokfigmmegifeaaGreatP7
import Derived.ChangeArms
import Derived.JoinedCond
import Derived.OpenShut
import Derived.ProofKit
import Derived.Test.YtokfigmmegifeaaGreatRows
import Derived.WalkKit
noncomputable section
namespace Go.Proofs.YtokfigmmegifeaaGreat
open Go HY
set_option maxRecDepth 1000000
set_option linter.unusedVariables false
def XK (s : (Qh × MO)) (u : List QT) (o : Bool) : List Alt := jb o (fun b => [.ptr 0 0 0, .ptr 1 0 0, .sl 22 (List.map Ql u), .bool b]) [.cells 0 (Qs (s.1)).cells, .cells 0 (TH (s.2)).cells]
def UH (x0 : Qh) (x1 : MO) : Option Bool :=
 WT x0 >>= fun v0 => if v0 then
 JZ x0 >>= fun v1 =>
 some v1.fst >>= fun v2 =>
 (if v1.snd != (0 : Int) then
 some true
 else
 some (List.length v1.fst : Int) >>= fun v4 =>
 if v4 == (0 : Int) then
 some true
 else
 some false) >>= fun v3 => if v3 then
 UL >>= fun v6 =>
 some v6
 else
 if (↑(List.map Ql v2).length : Int) ≠ (0 : Int) then
 ix v2 ((wr x1.f_0).tmod (↑(List.map Ql v2).length : Int)) >>= fun v8 =>
 if (↑(List.map Ql v2).length : Int) ≠ (0 : Int) then
 ix v2 ((wr x1.f_1).tmod (↑(List.map Ql v2).length : Int)) >>= fun v9 =>
 some (List.length v2 : Int) >>= fun v10 =>
 some (List.length v2 : Int) >>= fun v11 =>
 JW x0 v8.fOp v9.fOp >>= fun v12 =>
 Df x0 v8.fOp v9.fOp >>= fun v13 =>
 if v12 == v13 then
 JW x0 v9.fOp v8.fOp >>= fun v14 =>
 if (v12 == (0 : Int)) == (v14 == (0 : Int)) then
 UL >>= fun v15 =>
 some v15
 else
 some false
 else
 some false
 else none
 else none
 else
 UL >>= fun v16 =>
 some v16
theorem Mc (x0 : Qh) (x1 : MO) (r : Bool) (h : UH x0 x1 = some r) : PU 3 [Qs x0, TH x1] (eB r) :=
 Pu2 (hs := [(11, .cb), (13, .c eB), (16, .c YL), (20, .split), (23, .n eI 23 none), (24, .split), (26, .c eB), (32, .n eI 32 none), (33, .s), (34, .e Ql), (42, .n eI 42 none), (43, .s), (44, .e Ql), (50, .c eI), (55, .c eI), (56, .split), (63, .c eI), (65, .split), (68, .c eB), (5000004, .l [] [] [] [2, 3, 5, 25] [kk 2, kk 3] (XK (x0, x1)))]) ((kCb (PV x0) (kC (sh := YL) (Nk x0) fun v1 => (kJb (id := 5000004) v1.fst (fun v2 ev2 v3 => (kIf (c := v1.snd != (0 : Int)) (kXj (alts := XK (x0, x1)) ev2 true (.here () rfl (.refl _) (.refl _)))
 (kN _ (mLen (sh := Ql) v1.fst) fun v4 => (kIf (c := v4 == (0 : Int)) (kXj (alts := XK (x0, x1)) ev2 true (.here () rfl (.refl _) (.refl _)))
 (kXj (alts := XK (x0, x1)) ev2 false (.next (.here () rfl (.refl _) (.refl _))))))))
 (fun v2 => (kC (sh := eB) (Nd) fun v6 => (kEr (enc := eB) v6)))
 (fun v2 => (kG (p := (↑(List.map Ql v2).length : Int) ≠ (0 : Int)) (kIx (enc := Ql) (l := v2) (k := (wr x1.f_0).tmod (↑(List.map Ql v2).length : Int)) fun v8 => (kG (p := (↑(List.map Ql v2).length : Int) ≠ (0 : Int)) (kIx (enc := Ql) (l := v2) (k := (wr x1.f_1).tmod (↑(List.map Ql v2).length : Int)) fun v9 => (kN _ (mLen (sh := Ql) v2) fun v10 => (kN _ (mLen (sh := Ql) v2) fun v11 => (kC (sh := eI) (Nj x0 v8.fOp v9.fOp) fun v12 => (kC (sh := eI) (EL x0 v8.fOp v9.fOp) fun v13 => (kIf (c := v12 == v13) (kC (sh := eI) (Nj x0 v9.fOp v8.fOp) fun v14 => (kIf (c := (v12 == (0 : Int)) == (v14 == (0 : Int))) (kC (sh := eB) (Nd) fun v15 => (kEr (enc := eB) v15))
 (kEr (enc := eB) false)))
 (kEr (enc := eB) false)))))))))))))
 (kC (sh := eB) (Nd) fun v16 => (kEr (enc := eB) v16))) h)
end Go.Proofs.YtokfigmmegifeaaGreat
end
section
namespace Go.Proofs.YtokfigmmegifeaaGreat
open Go HY
set_option linter.unusedVariables false
set_option linter.unusedSimpArgs false
theorem Mu (m : Int) (x : Q2) (k : Int) (hx : Qo x ≤ 1048576) (h0 : 0 ≤ k) (h1 : k < x.fIdx.length) (n : Int) : wp (Ye m x n k 0) (fun _ => True) := by
 have hl : (x.fIdx[k.toNat]'(by omega)).fAt.length ≤ 1048576 := by
  have := Q0l (f := wIdx) (l := x.fIdx) (k := k.toNat) (by omega); have := Pm x; have := Mb (x.fIdx[k.toNat]'(by omega)); omega
 have hi : ix x.fIdx k = some (x.fIdx[k.toNat]'(by omega)) := by unfold ix; rw [if_pos h0, List.getElem?_eq_getElem]
 refine Cc (F := fun a i => Ye m x a k i) (x.fIdx[k.toNat]'(by omega)).fAt.length ?_ ?_ 0 n (by omega) (by omega)
 ·intro a
  rw [Ye]
  simp only [hi]
  repeat' (first | exact trivial | assumption | (intro _) | (refine And.intro ?_ ?_) | (refine Qg (by omega) (by omega) fun _ _ => ?_) | (simp only [zz, ↓reduceIte]) | (split) | omega | (exfalso; simp only [zl] at *; omega) | (simp_all; done))
 ·intro i a h0 h1 ih
  rw [Ye]
  have hw := QF h0 h1 (by omega)
  simp only [hi]
  repeat' (first | exact trivial | assumption | (intro _) | (refine And.intro ?_ ?_) | (exact ih _) | (rw [hw]; exact ih _) | (refine Qg (by omega) (by omega) fun _ _ => ?_) | (simp only [zz, ↓reduceIte]) | (split) | omega | (exfalso; simp only [zl] at *; omega) | (simp_all; done))
theorem RX (x1 : Int) (x2 : Q2) (hx : Qo x2 ≤ 1048576) (x5 : Int) (x6 : Int) (h0 : 0 ≤ x6) (h1 : x6 ≤ (x2.fIdx.length : Nat)) : wp (Yd x1 x2 x5 x6) (fun r => True) := by
 obtain ⟨hx1, hx2, hx3, hx4, hx5, hx6, hx7⟩ := Zp hx
 refine Cc (F := fun x5 x6 => Yd x1 x2 x5 x6) (x2.fIdx.length) ?_ ?_ x6 x5 h0 h1
 ·intro x5
  rw [Yd]
  repeat' (first | exact trivial | assumption | (intro _) | (refine And.intro ?_ ?_) | (refine Q5 (Mu _ _ _ hx (by omega) (by omega) _) fun _ _ => ?_) | (refine Qg (by omega) (by omega) fun _ _ => ?_) | (simp only [zz, ↓reduceIte]) | (split) | omega | (exfalso; simp only [zl] at *; omega) | (simp_all; done))
 ·intro x6 x5 h0 h1 ih
  rw [Yd]
  have hw := QF h0 h1 (by omega)
  have hw2 := QJ (n := x6 - 1) (by omega)
  repeat' (first | exact trivial | assumption | (intro _) | (refine And.intro ?_ ?_) | (exact ih _) | (rw [hw]; exact ih _) | (refine Q5 (Mu _ _ _ hx (by omega) (by omega) _) fun _ _ => ?_) | (refine Qg (by omega) (by omega) fun _ _ => ?_) | (simp only [zz, ↓reduceIte]) | (split) | omega | (exfalso; simp only [zl] at *; omega) | (simp_all; done))
theorem Af : ∀ e : Qb, Qo e.f ≤ 1048576 → ∀ m, wp (K1 e.f m) (fun _ => True) := Qb.ind fun x ih h m => by
 simp only [Qb.f_mk] at h ⊢
 obtain ⟨e1, e2, e3, e4, e5, e6, e7⟩ := Zp h
 have L : ∀ n, wp (XN m x n 0) (fun _ => True) := fun n => by
  refine Cc (F := fun a i => XN m x a i) x.fArgs.length ?_ ?_ 0 n (by omega) (by omega)
  ·intro a; rw [XN]; repeat' (first | exact trivial | assumption | (intro _) | (refine And.intro ?_ ?_) | (refine Qg (by omega) (by omega) fun _ _ => ?_) | (simp only [zz, ↓reduceIte]) | (split) | omega | (exfalso; simp only [zl] at *; omega) | (simp_all; done))
  ·intro i a h0 h1 ih2
   rw [XN]
   have hw := QF h0 h1 (by omega)
   repeat' (first | exact trivial | assumption | (intro _) | (refine And.intro ?_ ?_) | (exact ih2 _) | (rw [hw]; exact ih2 _) | (refine Q5 (ih _ (by assumption) (e7 _ (by assumption)) _) fun _ _ => ?_) | (refine Qg (by omega) (by omega) fun _ _ => ?_) | (simp only [zz, ↓reduceIte]) | (split) | omega | (exfalso; simp only [zl] at *; omega) | (simp_all; done))
 rw [K1]
 repeat' (first | exact trivial | assumption | (intro _) | (refine And.intro ?_ ?_) | (refine Q5 (L _) fun _ _ => ?_) | (refine Q5 (RX _ _ h _ 0 (by omega) (by omega)) fun _ _ => ?_) | (refine Qg (by omega) (by omega) fun _ _ => ?_) | (simp only [zz, ↓reduceIte]) | (split) | omega | (exfalso; simp only [zl] at *; omega) | (simp_all; done))
theorem IS (x : Q2) (h : Qo x ≤ 1048576) (m : Int) : wp (K1 x m) (fun _ => True) := Af (.mk x) h m
theorem DM {P : List Q9 → Prop} (h : ∀ l, wSum QA l ≤ 1048576 → (∀ a ∈ l, P a.f.fBody) → P l) : ∀ l, wSum QA l ≤ 1048576 → P l := by
 have key : ∀ s : Q9, QD s.f ≤ 1048576 → P s.f.fBody := Q9.ind fun x ih hx => by
  simp only [Q9.f_mk] at hx ⊢
  obtain ⟨e1, e2, e3, e4, e5, e6, e7⟩ := UQ hx
  exact h _ e6 fun a ha => ih a ha (e7 a ha)
 exact fun l hl => h l hl fun a ha => key a ((C5 hl).2 a ha)
theorem HU : ∀ l : List Q9, wSum QA l ≤ 1048576 → ∀ m, wp (Y7 l m) (fun _ => True) := DM fun l hl ih m => by
 obtain ⟨e1, e2⟩ := C5 hl
 have L : ∀ n, wp (Zq l m n 0) (fun _ => True) := fun n => by
  refine Cc (F := fun a i => Zq l m a i) l.length ?_ ?_ 0 n (by omega) (by omega)
  ·intro a; rw [Zq]; repeat' (first | exact trivial | assumption | (intro _) | (refine And.intro ?_ ?_) | (refine Qg (by omega) (by omega) fun _ _ => ?_) | (simp only [zz, ↓reduceIte]) | (split) | omega | (exfalso; simp only [zl] at *; omega) | (simp_all; done))
  ·intro i a h0 h1 ih2
   rw [Zq]
   have hw := QF h0 h1 (by omega)
   repeat' (first | exact trivial | assumption | (intro _) | (refine And.intro ?_ ?_) | (exact ih2 _) | (rw [hw]; exact ih2 _) | (refine Q5 (ih _ (by assumption) _) fun _ _ => ?_) | (refine Q5 (IS _ (UQ (e2 _ (by assumption))).2.1 _) fun _ _ => ?_) | (refine Q5 (IS _ (W_idx (e2 _ (by assumption)) (Nat.zero_le _)) _) fun _ _ => ?_) | (refine Qg (by omega) (by omega) fun _ _ => ?_) | (simp only [zz, ↓reduceIte]) | (split) | omega | (exfalso; simp only [zl] at *; omega) | (simp_all; done))
 rw [Y7]
 repeat' (first | exact trivial | assumption | (intro _) | (refine And.intro ?_ ?_) | (refine Q5 (L _) fun _ _ => ?_) | (refine Qg (by omega) (by omega) fun _ _ => ?_) | (simp only [zz, ↓reduceIte]) | (split) | omega | (exfalso; simp only [zl] at *; omega) | (simp_all; done))
theorem Ph : ∀ l : List Q9, wSum QA l ≤ 1048576 → ∀ m, wp (J5 l m) (fun _ => True) := DM fun l hl ih m => by
 obtain ⟨e1, e2⟩ := C5 hl
 have L : ∀ n, wp (Yl l m n 0) (fun _ => True) := fun n => by
  refine Cc (F := fun a i => Yl l m a i) l.length ?_ ?_ 0 n (by omega) (by omega)
  ·intro a; rw [Yl]; repeat' (first | exact trivial | assumption | (intro _) | (refine And.intro ?_ ?_) | (refine Qg (by omega) (by omega) fun _ _ => ?_) | (simp only [zz, ↓reduceIte]) | (split) | omega | (exfalso; simp only [zl] at *; omega) | (simp_all; done))
  ·intro i a h0 h1 ih2
   rw [Yl]
   have hw := QF h0 h1 (by omega)
   repeat' (first | exact trivial | assumption | (intro _) | (refine And.intro ?_ ?_) | (exact ih2 _) | (rw [hw]; exact ih2 _) | (refine Q5 (ih _ (by assumption) _) fun _ _ => ?_) | (refine Qg (by omega) (by omega) fun _ _ => ?_) | (simp only [zz, ↓reduceIte]) | (split) | omega | (exfalso; simp only [zl] at *; omega) | (simp_all; done))
 rw [J5]
 repeat' (first | exact trivial | assumption | (intro _) | (refine And.intro ?_ ?_) | (refine Q5 (L _) fun _ _ => ?_) | (refine Qg (by omega) (by omega) fun _ _ => ?_) | (simp only [zz, ↓reduceIte]) | (split) | omega | (exfalso; simp only [zl] at *; omega) | (simp_all; done))
theorem Ad (x0 : List Str) (x1 : Str) (hl : x0.length ≤ 1048576)  (x5 : Int) (h0 : 0 ≤ x5) (h1 : x5 ≤ (x0.length : Nat)) : wp (K8 x0 x1 x5) (fun r => True) := by
 refine ZR (F := fun x5 => K8 x0 x1 x5) (x0.length) ?_ ?_ x5  h0 h1
 ·skip
  rw [K8]
  repeat' (first | exact trivial | assumption | (intro _) | (refine And.intro ?_ ?_) | (refine Qg (by omega) (by omega) fun _ _ => ?_) | (simp only [zz, ↓reduceIte]) | (split) | omega | (exfalso; simp only [zl] at *; omega) | (simp_all; done))
 ·intro x5  h0 h1 ih
  rw [K8]
  have hw := QF h0 h1 (by omega)
  have hw2 := QJ (n := x5 - 1) (by omega)
  repeat' (first | exact trivial | assumption | (intro _) | (refine And.intro ?_ ?_) | (exact ih) | (rw [hw]; exact ih) | (refine Qg (by omega) (by omega) fun _ _ => ?_) | (simp only [zz, ↓reduceIte]) | (split) | omega | (exfalso; simp only [zl] at *; omega) | (simp_all; done))
theorem P6  : wp (CV ) (fun r => r.length ≤ 1048576) := by
 unfold CV
 repeat' (first | exact trivial | assumption | (intro _) | (refine And.intro ?_ ?_) | (decide) | (refine Qg (by omega) (by omega) fun _ _ => ?_) | (simp only [zz, ↓reduceIte]) | (split) | omega | (exfalso; simp only [zl] at *; omega) | (simp_all; done))
theorem Lq (x0 : List Str) (x1 : Str) (hl : x0.length ≤ 1048576) : wp (Da x0 x1) (fun r => True) := by
 unfold Da
 repeat' (first | exact trivial | assumption | (intro _) | (refine And.intro ?_ ?_) | (refine Q5 (Ad _ _ hl 0 (by omega) (by omega)) fun _ _ => ?_) | (refine Qg (by omega) (by omega) fun _ _ => ?_) | (simp only [zz, ↓reduceIte]) | (split) | omega | (exfalso; simp only [zl] at *; omega) | (simp_all; done))
theorem TT (x0 : Str) (hl : x0.length ≤ 1048576)  (x3 : Int) (h0 : 0 ≤ x3) (h1 : x3 ≤ (x0.length : Nat)) : wp (Yx x0 x3) (fun r => True) := by
 refine ZR (F := fun x3 => Yx x0 x3) (x0.length) ?_ ?_ x3  h0 h1
 ·skip
  rw [Yx]
  repeat' (first | exact trivial | assumption | (intro _) | (refine And.intro ?_ ?_) | (refine Qg (by omega) (by omega) fun _ _ => ?_) | (simp only [zz, ↓reduceIte]) | (split) | omega | (exfalso; simp only [zl] at *; omega) | (simp_all; done))
 ·intro x3  h0 h1 ih
  rw [Yx]
  have hw := QF h0 h1 (by omega)
  have hw2 := QJ (n := x3 - 1) (by omega)
  repeat' (first | exact trivial | assumption | (intro _) | (refine And.intro ?_ ?_) | (exact ih) | (rw [hw]; exact ih) | (refine Qg (by omega) (by omega) fun _ _ => ?_) | (simp only [zz, ↓reduceIte]) | (split) | omega | (exfalso; simp only [zl] at *; omega) | (simp_all; done))
theorem KC (x0 : Str) (hl : x0.length ≤ 1048576) : wp (VV x0) (fun r => True) := by
 unfold VV
 obtain ⟨w, hw, hw2⟩ := P6
 rw [hw]
 repeat' (first | exact trivial | assumption | (intro _) | (refine And.intro ?_ ?_) | (refine Q5 (Lq _ _ hw2) fun _ _ => ?_) | (refine Q5 (TT _ hl 0 (by omega) (by omega)) fun _ _ => ?_) | (refine Qg (by omega) (by omega) fun _ _ => ?_) | (simp only [zz, ↓reduceIte]) | (split) | omega | (exfalso; simp only [zl] at *; omega) | (simp_all; done))
theorem Eg (x0 : Qi) : wp (Xv x0) (fun r => True) := by
 unfold Xv
 repeat' (first | exact trivial | assumption | (intro _) | (refine And.intro ?_ ?_) | (refine Qg (by omega) (by omega) fun _ _ => ?_) | (simp only [zz, ↓reduceIte]) | (split) | omega | (exfalso; simp only [zl] at *; omega) | (simp_all; done))
theorem Ia (x0 : List Int) (hl : x0.length ≤ 1048576)  (x3 : Int) (h0 : 0 ≤ x3) (h1 : x3 ≤ (x0.length : Nat)) : wp (ZF x0 x3) (fun r => True) := by
 refine ZR (F := fun x3 => ZF x0 x3) (x0.length) ?_ ?_ x3  h0 h1
 ·skip
  rw [ZF]
  repeat' (first | exact trivial | assumption | (intro _) | (refine And.intro ?_ ?_) | (refine Qg (by omega) (by omega) fun _ _ => ?_) | (simp only [zz, ↓reduceIte]) | (split) | omega | (exfalso; simp only [zl] at *; omega) | (simp_all; done))
 ·intro x3  h0 h1 ih
  rw [ZF]
  have hw := QF h0 h1 (by omega)
  have hw2 := QJ (n := x3 - 1) (by omega)
  repeat' (first | exact trivial | assumption | (intro _) | (refine And.intro ?_ ?_) | (exact ih) | (rw [hw]; exact ih) | (refine Qg (by omega) (by omega) fun _ _ => ?_) | (simp only [zz, ↓reduceIte]) | (split) | omega | (exfalso; simp only [zl] at *; omega) | (simp_all; done))
theorem Lr (x0 : List Int) (hl : x0.length ≤ 1048576) (x4 : Int) (x5 : Int) (h0 : 0 ≤ x5) (h1 : x5 ≤ (x0.length : Nat)) : wp (Zs x0 x4 x5) (fun r => True) := by
 refine Cc (F := fun x4 x5 => Zs x0 x4 x5) (x0.length) ?_ ?_ x5 x4 h0 h1
 ·intro x4
  rw [Zs]
  repeat' (first | exact trivial | assumption | (intro _) | (refine And.intro ?_ ?_) | (refine Qg (by omega) (by omega) fun _ _ => ?_) | (simp only [zz, ↓reduceIte]) | (split) | omega | (exfalso; simp only [zl] at *; omega) | (simp_all; done))
 ·intro x5 x4 h0 h1 ih
  rw [Zs]
  have hw := QF h0 h1 (by omega)
  have hw2 := QJ (n := x5 - 1) (by omega)
  repeat' (first | exact trivial | assumption | (intro _) | (refine And.intro ?_ ?_) | (exact ih _) | (rw [hw]; exact ih _) | (refine Qg (by omega) (by omega) fun _ _ => ?_) | (simp only [zz, ↓reduceIte]) | (split) | omega | (exfalso; simp only [zl] at *; omega) | (simp_all; done))
theorem M7 (x0 : List Int) (hl : x0.length ≤ 1048576) : wp (Dc x0) (fun r => True) := by
 unfold Dc
 repeat' (first | exact trivial | assumption | (intro _) | (refine And.intro ?_ ?_) | (refine Q5 (Ia _ hl 0 (by omega) (by omega)) fun _ _ => ?_) | (refine Q5 (Lr _ hl _ 0 (by omega) (by omega)) fun _ _ => ?_) | (refine Qg (by omega) (by omega) fun _ _ => ?_) | (simp only [zz, ↓reduceIte]) | (split) | omega | (exfalso; simp only [zl] at *; omega) | (simp_all; done))
theorem Mv (x1 : Qh) (x3 : Int) (x4 : Qw) (hl : x1.fBufs.length ≤ 1048576) (k0 : 0 ≤ x3) (k1 : x3 < x1.fBufs.length) : wp (Yj x1 x3 x4 0) (fun _ => True) := by
 refine ZR (F := fun i => Yj x1 x3 x4 i) x3.toNat ?_ ?_ 0 (by omega) (by omega)
 ·have : (x3.toNat : Int) = x3 := by omega
  rw [this]; rw [Yj]; repeat' (first | exact trivial | assumption | (intro _) | (refine And.intro ?_ ?_) | (refine Qg (by omega) (by omega) fun _ _ => ?_) | (simp only [zz, ↓reduceIte]) | (split) | omega | (exfalso; simp only [zl] at *; omega) | (simp_all; done))
 ·intro i h0 h1 ih
  rw [Yj]
  have hw := QF h0 h1 (by omega)
  repeat' (first | exact trivial | assumption | (intro _) | (refine And.intro ?_ ?_) | (exact ih) | (rw [hw]; exact ih) | (refine Qg (by omega) (by omega) fun _ _ => ?_) | (simp only [zz, ↓reduceIte]) | (split) | omega | (exfalso; simp only [zl] at *; omega) | (simp_all; done))
theorem T7 (x1 : Qh) (hb : wSum wBuf x1.fBufs ≤ 1048576)  (x3 : Int) (h0 : 0 ≤ x3) (h1 : x3 ≤ (x1.fBufs.length : Nat)) : wp (Yi x1 x3) (fun r => True) := by
 obtain ⟨hb1, hb2⟩ := He hb
 refine ZR (F := fun x3 => Yi x1 x3) (x1.fBufs.length) ?_ ?_ x3  h0 h1
 ·skip
  rw [Yi]
  repeat' (first | exact trivial | assumption | (intro _) | (refine And.intro ?_ ?_) | (refine Q5 (KC _ (hb2 _ (by assumption)).1) fun _ _ => ?_) | (refine Q5 (Mv _ _ _ hb1 (by omega) (by omega)) fun _ _ => ?_) | (refine Q5 (Eg _) fun _ _ => ?_) | (refine Q5 (M7 _ (hb2 _ (by assumption)).2) fun _ _ => ?_) | (refine Qg (by omega) (by omega) fun _ _ => ?_) | (simp only [zz, ↓reduceIte]) | (split) | omega | (exfalso; simp only [zl] at *; omega) | (simp_all; done))
 ·intro x3  h0 h1 ih
  rw [Yi]
  have hw := QF h0 h1 (by omega)
  have hw2 := QJ (n := x3 - 1) (by omega)
  repeat' (first | exact trivial | assumption | (intro _) | (refine And.intro ?_ ?_) | (exact ih) | (rw [hw]; exact ih) | (refine Q5 (KC _ (hb2 _ (by assumption)).1) fun _ _ => ?_) | (refine Q5 (Mv _ _ _ hb1 (by omega) (by omega)) fun _ _ => ?_) | (refine Q5 (Eg _) fun _ _ => ?_) | (refine Q5 (M7 _ (hb2 _ (by assumption)).2) fun _ _ => ?_) | (refine Qg (by omega) (by omega) fun _ _ => ?_) | (simp only [zz, ↓reduceIte]) | (split) | omega | (exfalso; simp only [zl] at *; omega) | (simp_all; done))
theorem Pf (x0 : Qh) (hb : wSum wBuf x0.fBufs ≤ 1048576) : wp (DL x0) (fun r => True) := by
 obtain ⟨hb1, hb2⟩ := He hb
 unfold DL
 repeat' (first | exact trivial | assumption | (intro _) | (refine And.intro ?_ ?_) | (refine Q5 (T7 _ hb 0 (by omega) (by omega)) fun _ _ => ?_) | (refine Qg (by omega) (by omega) fun _ _ => ?_) | (simp only [zz, ↓reduceIte]) | (split) | omega | (exfalso; simp only [zl] at *; omega) | (simp_all; done))
end Go.Proofs.YtokfigmmegifeaaGreat
end
section
namespace Go.Proofs.YtokfigmmegifeaaGreat
open Go HY
set_option linter.unusedVariables false
set_option linter.unusedSimpArgs false
def CK (op : Int) : Int := if op = 1 ∨ op = 2 ∨ op = 3 then 0 else if op = 8 ∨ op = 12 ∨ op = 18 then 1 else if op = 11 then 3 else 2
def isC (x : Q2) : Bool := decide (13 ≤ x.fOp) && decide (x.fOp ≤ 18)
def J9 (op i : Int) : Bool := (op == 11 && i == 0) || op == 16 || op == 17 || op == 18
theorem P1 (op : Int) : DK op = some (CK op) := by
 unfold DK CK
 apply wp_eq
 repeat' (first | exact trivial | assumption | (intro _) | (refine And.intro ?_ ?_) | (grind) | (refine Qg (by omega) (by omega) fun _ _ => ?_) | (simp only [zz, ↓reduceIte]) | (split) | omega | (exfalso; simp only [zl] at *; omega) | (simp_all; done))
theorem I8 (x : Q2) : Zn x = some (isC x) := by
 unfold Zn isC
 apply wp_eq
 repeat' (first | exact trivial | assumption | (intro _) | (refine And.intro ?_ ?_) | (grind) | (refine Qg (by omega) (by omega) fun _ _ => ?_) | (simp only [zz, ↓reduceIte]) | (split) | omega | (exfalso; simp only [zl] at *; omega) | (simp_all; done))
theorem Aa (op i : Int) : Dr op i = some (J9 op i) := by
 unfold Dr J9
 apply wp_eq
 repeat' (first | exact trivial | assumption | (intro _) | (refine And.intro ?_ ?_) | (grind) | (refine Qg (by omega) (by omega) fun _ _ => ?_) | (simp only [zz, ↓reduceIte]) | (split) | omega | (exfalso; simp only [zl] at *; omega) | (simp_all; done))
theorem Pc (op : Int) : wp (DK op) (fun r => r = CK op) := ⟨_, P1 op, rfl⟩
theorem Uk (x : Q2) : wp (Zn x) (fun r => r = isC x) := ⟨_, I8 x, rfl⟩
theorem As (op i : Int) : wp (Dr op i) (fun r => r = J9 op i) := ⟨_, Aa op i, rfl⟩
theorem TU : ∀ e : Qb, Qo e.f ≤ 1048576 → ∀ m, wp (V4 e.f m) (fun _ => True) := Qb.ind fun x ih h m => by
 simp only [Qb.f_mk] at h ⊢
 obtain ⟨e1, e2, e3, e4, e5, e6, e7⟩ := Zp h
 have L : ∀ n, wp (XP m x n 0) (fun _ => True) := fun n => by
  refine Cc (F := fun a i => XP m x a i) x.fArgs.length ?_ ?_ 0 n (by omega) (by omega)
  ·intro a; rw [XP]; repeat' (first | exact trivial | assumption | (intro _) | (refine And.intro ?_ ?_) | (refine Qg (by omega) (by omega) fun _ _ => ?_) | (simp only [zz, ↓reduceIte]) | (split) | omega | (exfalso; simp only [zl] at *; omega) | (simp_all; done))
  ·intro i a h0 h1 ih2
   rw [XP]
   have hw := QF h0 h1 (by omega)
   repeat' (first | exact trivial | assumption | (intro _) | (refine And.intro ?_ ?_) | (exact ih2 _) | (rw [hw]; exact ih2 _) | (refine Q5 (ih _ (by assumption) (e7 _ (by assumption)) _) fun _ _ => ?_) | (refine Qg (by omega) (by omega) fun _ _ => ?_) | (simp only [zz, ↓reduceIte]) | (split) | omega | (exfalso; simp only [zl] at *; omega) | (simp_all; done))
 rw [V4]
 repeat' (first | exact trivial | assumption | (intro _) | (refine And.intro ?_ ?_) | (refine Q5 (L _) fun _ _ => ?_) | (refine Qg (by omega) (by omega) fun _ _ => ?_) | (simp only [zz, ↓reduceIte]) | (split) | omega | (exfalso; simp only [zl] at *; omega) | (simp_all; done))
theorem Aq : ∀ e : Qb, Qo e.f ≤ 1048576 → ∀ m, wp (J3 e.f m) (fun _ => True) := Qb.ind fun x ih h m => by
 simp only [Qb.f_mk] at h ⊢
 obtain ⟨e1, e2, e3, e4, e5, e6, e7⟩ := Zp h
 have L : ∀ n, wp (Yh m x n 0) (fun _ => True) := fun n => by
  refine Cc (F := fun a i => Yh m x a i) x.fArgs.length ?_ ?_ 0 n (by omega) (by omega)
  ·intro a; rw [Yh]; repeat' (first | exact trivial | assumption | (intro _) | (refine And.intro ?_ ?_) | (refine Qg (by omega) (by omega) fun _ _ => ?_) | (simp only [zz, ↓reduceIte]) | (split) | omega | (exfalso; simp only [zl] at *; omega) | (simp_all; done))
  ·intro i a h0 h1 ih2
   rw [Yh]
   have hw := QF h0 h1 (by omega)
   repeat' (first | exact trivial | assumption | (intro _) | (refine And.intro ?_ ?_) | (exact ih2 _) | (rw [hw]; exact ih2 _) | (refine Q5 (ih _ (by assumption) (e7 _ (by assumption)) _) fun _ _ => ?_) | (refine Qg (by omega) (by omega) fun _ _ => ?_) | (simp only [zz, ↓reduceIte]) | (split) | omega | (exfalso; simp only [zl] at *; omega) | (simp_all; done))
 rw [J3]
 repeat' (first | exact trivial | assumption | (intro _) | (refine And.intro ?_ ?_) | (refine Q5 (L _) fun _ _ => ?_) | (refine Qg (by omega) (by omega) fun _ _ => ?_) | (simp only [zz, ↓reduceIte]) | (split) | omega | (exfalso; simp only [zl] at *; omega) | (simp_all; done))
theorem Al (x0 : Q2) (hx : Qo x0 ≤ 1048576) : wp (CA x0) (fun r => True) := by
 obtain ⟨hx1, hx2, hx3, hx4, hx5, hx6, hx7⟩ := Zp hx
 unfold CA
 repeat' (first | exact trivial | assumption | (intro _) | (refine And.intro ?_ ?_) | (refine Q5 (TU (.mk x0) hx _) fun _ _ => ?_) | (refine Qg (by omega) (by omega) fun _ _ => ?_) | (simp only [zz, ↓reduceIte]) | (split) | omega | (exfalso; simp only [zl] at *; omega) | (simp_all; done))
theorem Pb (x0 : Q2) (hx : Qo x0 ≤ 1048576) : wp (W0 x0) (fun r => True) := by
 obtain ⟨hx1, hx2, hx3, hx4, hx5, hx6, hx7⟩ := Zp hx
 unfold W0
 repeat' (first | exact trivial | assumption | (intro _) | (refine And.intro ?_ ?_) | (refine Q5 (Aq (.mk x0) hx _) fun _ _ => ?_) | (refine Qg (by omega) (by omega) fun _ _ => ?_) | (simp only [zz, ↓reduceIte]) | (split) | omega | (exfalso; simp only [zl] at *; omega) | (simp_all; done))
theorem R5 (x1 : Q2) (hx : Qo x1 ≤ 1048576)  (x3 : Int) (h0 : 0 ≤ x3) (h1 : x3 ≤ (x1.fIdx.length : Nat)) : wp (XS x1 x3) (fun r => True) := by
 obtain ⟨hx1, hx2, hx3, hx4, hx5, hx6, hx7⟩ := Zp hx
 refine ZR (F := fun x3 => XS x1 x3) (x1.fIdx.length) ?_ ?_ x3  h0 h1
 ·skip
  rw [XS]
  repeat' (first | exact trivial | assumption | (intro _) | (refine And.intro ?_ ?_) | (refine Qg (by omega) (by omega) fun _ _ => ?_) | (simp only [zz, ↓reduceIte]) | (split) | omega | (exfalso; simp only [zl] at *; omega) | (simp_all; done))
 ·intro x3  h0 h1 ih
  rw [XS]
  have hw := QF h0 h1 (by omega)
  have hw2 := QJ (n := x3 - 1) (by omega)
  repeat' (first | exact trivial | assumption | (intro _) | (refine And.intro ?_ ?_) | (exact ih) | (rw [hw]; exact ih) | (refine Qg (by omega) (by omega) fun _ _ => ?_) | (simp only [zz, ↓reduceIte]) | (split) | omega | (exfalso; simp only [zl] at *; omega) | (simp_all; done))
theorem Ap (x0 : Q2) (hx : Qo x0 ≤ 1048576) : wp (CD x0) (fun r => True) := by
 obtain ⟨hx1, hx2, hx3, hx4, hx5, hx6, hx7⟩ := Zp hx
 unfold CD
 repeat' (first | exact trivial | assumption | (intro _) | (refine And.intro ?_ ?_) | (refine Q5 (R5 _ hx 0 (by omega) (by omega)) fun _ _ => ?_) | (refine Qg (by omega) (by omega) fun _ _ => ?_) | (simp only [zz, ↓reduceIte]) | (split) | omega | (exfalso; simp only [zl] at *; omega) | (simp_all; done))
theorem R4 (x1 : Q2) (hx : Qo x1 ≤ 1048576)  (x3 : Int) (h0 : 0 ≤ x3) (h1 : x3 ≤ (x1.fIdx.length : Nat)) : wp (XQ x1 x3) (fun r => True) := by
 obtain ⟨hx1, hx2, hx3, hx4, hx5, hx6, hx7⟩ := Zp hx
 refine ZR (F := fun x3 => XQ x1 x3) (x1.fIdx.length) ?_ ?_ x3  h0 h1
 ·skip
  rw [XQ]
  repeat' (first | exact trivial | assumption | (intro _) | (refine And.intro ?_ ?_) | (refine Q5 (KC _ (Wt (hx5 _ (by assumption))).1) fun _ _ => ?_) | (refine Qg (by omega) (by omega) fun _ _ => ?_) | (simp only [zz, ↓reduceIte]) | (split) | omega | (exfalso; simp only [zl] at *; omega) | (simp_all; done))
 ·intro x3  h0 h1 ih
  rw [XQ]
  have hw := QF h0 h1 (by omega)
  have hw2 := QJ (n := x3 - 1) (by omega)
  repeat' (first | exact trivial | assumption | (intro _) | (refine And.intro ?_ ?_) | (exact ih) | (rw [hw]; exact ih) | (refine Q5 (KC _ (Wt (hx5 _ (by assumption))).1) fun _ _ => ?_) | (refine Qg (by omega) (by omega) fun _ _ => ?_) | (simp only [zz, ↓reduceIte]) | (split) | omega | (exfalso; simp only [zl] at *; omega) | (simp_all; done))
theorem An (x0 : Q2) (hx : Qo x0 ≤ 1048576) : wp (CC x0) (fun r => True) := by
 obtain ⟨hx1, hx2, hx3, hx4, hx5, hx6, hx7⟩ := Zp hx
 unfold CC
 repeat' (first | exact trivial | assumption | (intro _) | (refine And.intro ?_ ?_) | (refine Q5 (R4 _ hx 0 (by omega) (by omega)) fun _ _ => ?_) | (refine Q5 (KC _ hx1) fun _ _ => ?_) | (refine Qg (by omega) (by omega) fun _ _ => ?_) | (simp only [zz, ↓reduceIte]) | (split) | omega | (exfalso; simp only [zl] at *; omega) | (simp_all; done))
theorem HX (x1 : Q2) (hx : Qo x1 ≤ 1048576)  (x3 : Int) (h0 : 0 ≤ x3) (h1 : x3 ≤ (x1.fIdx.length : Nat)) : wp (Xg x1 x3) (fun r => True) := by
 obtain ⟨hx1, hx2, hx3, hx4, hx5, hx6, hx7⟩ := Zp hx
 refine ZR (F := fun x3 => Xg x1 x3) (x1.fIdx.length) ?_ ?_ x3  h0 h1
 ·skip
  rw [Xg]
  repeat' (first | exact trivial | assumption | (intro _) | (refine And.intro ?_ ?_) | (refine Qg (by omega) (by omega) fun _ _ => ?_) | (simp only [zz, ↓reduceIte]) | (split) | omega | (exfalso; simp only [zl] at *; omega) | (simp_all; done))
 ·intro x3  h0 h1 ih
  rw [Xg]
  have hw := QF h0 h1 (by omega)
  have hw2 := QJ (n := x3 - 1) (by omega)
  repeat' (first | exact trivial | assumption | (intro _) | (refine And.intro ?_ ?_) | (exact ih) | (rw [hw]; exact ih) | (refine Qg (by omega) (by omega) fun _ _ => ?_) | (simp only [zz, ↓reduceIte]) | (split) | omega | (exfalso; simp only [zl] at *; omega) | (simp_all; done))
theorem TW (x0 : Q2) (hx : Qo x0 ≤ 1048576) : wp (C3 x0) (fun r => r = true → (x0.fArgs.length : Int) = CK x0.fOp) := by
 obtain ⟨hx1, hx2, hx3, hx4, hx5, hx6, hx7⟩ := Zp hx
 unfold C3
 repeat' (first | exact trivial | assumption | (intro _) | (refine And.intro ?_ ?_) | (refine Q5 (HX _ hx 0 (by omega) (by omega)) fun _ _ => ?_) | (refine Q5 (Pc _) fun _ _ => ?_) | (grind) | (refine Qg (by omega) (by omega) fun _ _ => ?_) | (simp only [zz, ↓reduceIte]) | (split) | omega | (exfalso; simp only [zl] at *; omega) | (simp_all; done))
structure okC (x : Q2) : Prop where
 ok : ∀ (i : Nat) (a : Qb), x.fArgs[i]? = some a → isC a.f = J9 x.fOp i
theorem IR (x0 : Qi) : wp (Xv x0) (fun r => r = true → x0.fKind = 2 → 2 ≤ x0.fBits ∧ x0.fBits ≤ 31 ∧ 0 ≤ x0.fFrac ∧ x0.fFrac ≤ 30) := by
 unfold Xv
 repeat' (first | exact trivial | assumption | (intro _) | (refine And.intro ?_ ?_) | (grind) | (refine Qg (by omega) (by omega) fun _ _ => ?_) | (simp only [zz, ↓reduceIte]) | (split) | omega | (exfalso; simp only [zl] at *; omega) | (simp_all; done))
theorem R6 (x : Q2) (hx : Qo x ≤ 1048576) : wp (XT x 0) (fun r => (r = .inl () ∧ okC x) ∨ r = .inr false) := by
 obtain ⟨hx1, hx2, hx3, hx4, hx5, hx6, hx7⟩ := Zp hx
 refine Cr (F := fun (_ : Unit) i => XT x i) x.fArgs.length (fun i _ => ∀ (j : Nat) (a : Qb), (j : Int) < i → x.fArgs[j]? = some a → isC a.f = J9 x.fOp j) ?_ ?_ 0 () (by omega) (by omega) (fun j a hj => by omega)
 ·intro _ hI
  rw [XT]
  simp only [zz, ↓reduceIte]
  exact .inl ⟨fun i a ha => hI i a (by have := (List.getElem?_eq_some_iff.1 ha).1; omega) ha⟩
 ·intro i _ h0 h1 hI ih
  rw [XT]
  have hw := QF h0 h1 (by omega)
  simp only [zz, ↓reduceIte]
  refine And.intro (fun _ => Lv.2 ⟨h0, by omega, ?_⟩) (fun h => absurd h1 h)
  refine Q5 (Uk _) fun u hu => ?_
  refine Q5 (As _ _) fun v hv => ?_
  refine And.intro (fun _ => .inr trivial) (fun hne => ?_)
  rw [hw]
  refine ih () fun j a hj ha => ?_
  by_cases hji : (j : Int) = i
  ·have : j = i.toNat := by omega
   subst this
   rw [List.getElem?_eq_getElem (by omega)] at ha
   cases ha
   rw [hu, hv] at hne
   have e2 : ((i.toNat : Nat) : Int) = i := by omega
   rw [e2]
   cases h5 : isC (x.fArgs[i.toNat]'(by omega)).f <;> cases h6 : J9 x.fOp i <;> simp_all
  ·exact hI j a (by omega) ha
theorem Ar (x0 : Q2) (hx : Qo x0 ≤ 1048576) : wp (CE x0) (fun r => r = true → okC x0 ∧ (x0.fOp = 1 → x0.fType.fKind = 2 → 2 ≤ x0.fType.fBits ∧ x0.fType.fBits ≤ 31)) := by
 unfold CE
 repeat' (first | exact trivial | assumption | (intro _) | (refine And.intro ?_ ?_) | (refine Q5 (R6 _ hx) fun _ _ => ?_) | (refine Q5 (IR _) fun _ _ => ?_) | (grind) | (refine Qg (by omega) (by omega) fun _ _ => ?_) | (simp only [zz, ↓reduceIte]) | (split) | omega | (exfalso; simp only [zl] at *; omega) | (simp_all; done))
theorem LP : ∀ (n : Nat) (a b : Int), b.natAbs < n → wp (JK a b) (fun _ => True)
 | 0, _, _, h => by omega
 | n + 1, a, b, h => by
  rw [JK]
  by_cases hb : b = 0
  ·subst hb; repeat' (first | exact trivial | assumption | (intro _) | (refine And.intro ?_ ?_) | (refine Qg (by omega) (by omega) fun _ _ => ?_) | (simp only [zz, ↓reduceIte]) | (split) | omega | (exfalso; simp only [zl] at *; omega) | (simp_all; done))
  ·have h2 : (a.tmod b).natAbs < b.natAbs := by rw [Int.natAbs_tmod]; exact Nat.mod_lt _ (by omega)
   repeat' (first | exact trivial | assumption | (intro _) | (refine And.intro ?_ ?_) | (refine Q5 (LP n _ _ (by omega)) fun _ _ => ?_) | (refine Qg (by omega) (by omega) fun _ _ => ?_) | (simp only [zz, ↓reduceIte]) | (split) | omega | (exfalso; simp only [zl] at *; omega) | (simp_all; done))
theorem RY (x0 : Int) (x1 : Int) : wp (No x0 x1) (fun r => True) := by
 unfold No
 repeat' (first | exact trivial | assumption | (intro _) | (refine And.intro ?_ ?_) | (refine Q5 (LP (x1.natAbs + 1) _ _ (by omega)) fun _ _ => ?_) | (refine Qg (by omega) (by omega) fun _ _ => ?_) | (simp only [zz, ↓reduceIte]) | (split) | omega | (exfalso; simp only [zl] at *; omega) | (simp_all; done))
theorem Bh (x0 : Qi) (x1 : gVal) (hv : x0.fKind = 2 → 1 ≤ x0.fBits ∧ x0.fBits ≤ 64) : wp (Ka x0 x1) (fun r => r = true → x0.fKind ≠ 2 → 1 ≤ x1.fD ∧ x1.fD ≤ 2147483647 ∧ -2147483647 ≤ x1.fN ∧ x1.fN ≤ 2147483647) := by
 have hk : x0.fKind = 2 → 0 ≤ wr (x0.fBits - 1) := fun h => by have := hv h; rw [QJ (by omega)]; omega
 unfold Ka
 repeat' (first | exact trivial | assumption | (intro _) | (refine And.intro ?_ ?_) | (refine Q5 (RY _ _) fun _ _ => ?_) | (grind) | (refine Qg (by omega) (by omega) fun _ _ => ?_) | (simp only [zz, ↓reduceIte]) | (split) | omega | (exfalso; simp only [zl] at *; omega) | (simp_all; done))
theorem IQ (x1 : gLin) (hx : wLin x1 ≤ 1048576)  (x3 : Int) (h0 : 0 ≤ x3) (h1 : x3 ≤ (x1.fL.length : Nat)) : wp (QQ x1 x3) (fun r => True) := by
 have hx1 := Gf x1
 refine ZR (F := fun x3 => QQ x1 x3) (x1.fL.length) ?_ ?_ x3  h0 h1
 ·skip
  rw [QQ]
  repeat' (first | exact trivial | assumption | (intro _) | (refine And.intro ?_ ?_) | (refine Q5 (KC _ (LM hx (by assumption))) fun _ _ => ?_) | ((rw [QJ (by omega)]; omega)) | (refine Qg (by omega) (by omega) fun _ _ => ?_) | (simp only [zz, ↓reduceIte]) | (split) | omega | (exfalso; simp only [zl] at *; omega) | (simp_all; done))
 ·intro x3  h0 h1 ih
  rw [QQ]
  have hw := QF h0 h1 (by omega)
  have hw2 := QJ (n := x3 - 1) (by omega)
  repeat' (first | exact trivial | assumption | (intro _) | (refine And.intro ?_ ?_) | (exact ih) | (rw [hw]; exact ih) | (refine Q5 (KC _ (LM hx (by assumption))) fun _ _ => ?_) | ((rw [QJ (by omega)]; omega)) | (refine Qg (by omega) (by omega) fun _ _ => ?_) | (simp only [zz, ↓reduceIte]) | (split) | omega | (exfalso; simp only [zl] at *; omega) | (simp_all; done))
theorem JG (x0 : gLin) (hx : wLin x0 ≤ 1048576) : wp (ZA x0) (fun r => True) := by
 have hx1 := Gf x0
 unfold ZA
 repeat' (first | exact trivial | assumption | (intro _) | (refine And.intro ?_ ?_) | (refine Q5 (IQ _ hx 0 (by omega) (by omega)) fun _ _ => ?_) | (refine Qg (by omega) (by omega) fun _ _ => ?_) | (simp only [zz, ↓reduceIte]) | (split) | omega | (exfalso; simp only [zl] at *; omega) | (simp_all; done))
theorem Nm (x : Q2) (k : Int) (hx : Qo x ≤ 1048576) (h0 : 0 ≤ k) (h1 : k < x.fIdx.length) : wp (Xf x k 0) (fun _ => True) := by
 obtain ⟨hx1, hx2, hx3, hx4, hx5, hx6, hx7⟩ := Zp hx
 have hm : x.fIdx[k.toNat]'(by omega) ∈ x.fIdx := List.getElem_mem _
 obtain ⟨i1, i2, i3, i4, i5⟩ := Wt (hx5 _ hm)
 have hi : ix x.fIdx k = some (x.fIdx[k.toNat]'(by omega)) := by unfold ix; rw [if_pos h0, List.getElem?_eq_getElem]
 refine ZR (F := fun i => Xf x k i) (x.fIdx[k.toNat]'(by omega)).fAt.length ?_ ?_ 0 (by omega) (by omega)
 ·rw [Xf]
  simp only [hi]
  repeat' (first | exact trivial | assumption | (intro _) | (refine And.intro ?_ ?_) | (refine Qg (by omega) (by omega) fun _ _ => ?_) | (simp only [zz, ↓reduceIte]) | (split) | omega | (exfalso; simp only [zl] at *; omega) | (simp_all; done))
 ·intro i h0 h1 ih
  rw [Xf]
  have hw := QF h0 h1 (by omega)
  simp only [hi]
  repeat' (first | exact trivial | assumption | (intro _) | (refine And.intro ?_ ?_) | (exact ih) | (rw [hw]; exact ih) | (refine Q5 (JG _ (i5 _ (by assumption))) fun _ _ => ?_) | (refine Qg (by omega) (by omega) fun _ _ => ?_) | (simp only [zz, ↓reduceIte]) | (split) | omega | (exfalso; simp only [zl] at *; omega) | (simp_all; done))
theorem HW (x1 : Q2) (hx : Qo x1 ≤ 1048576)  (x3 : Int) (h0 : 0 ≤ x3) (h1 : x3 ≤ (x1.fIdx.length : Nat)) : wp (Xe x1 x3) (fun r => True) := by
 obtain ⟨hx1, hx2, hx3, hx4, hx5, hx6, hx7⟩ := Zp hx
 refine ZR (F := fun x3 => Xe x1 x3) (x1.fIdx.length) ?_ ?_ x3  h0 h1
 ·skip
  rw [Xe]
  repeat' (first | exact trivial | assumption | (intro _) | (refine And.intro ?_ ?_) | (refine Q5 (JG _ (Wt (hx5 _ (by assumption))).2.1) fun _ _ => ?_) | (refine Q5 (Nm _ _ hx (by omega) (by omega)) fun _ _ => ?_) | (refine Qg (by omega) (by omega) fun _ _ => ?_) | (simp only [zz, ↓reduceIte]) | (split) | omega | (exfalso; simp only [zl] at *; omega) | (simp_all; done))
 ·intro x3  h0 h1 ih
  rw [Xe]
  have hw := QF h0 h1 (by omega)
  have hw2 := QJ (n := x3 - 1) (by omega)
  repeat' (first | exact trivial | assumption | (intro _) | (refine And.intro ?_ ?_) | (exact ih) | (rw [hw]; exact ih) | (refine Q5 (JG _ (Wt (hx5 _ (by assumption))).2.1) fun _ _ => ?_) | (refine Q5 (Nm _ _ hx (by omega) (by omega)) fun _ _ => ?_) | (refine Qg (by omega) (by omega) fun _ _ => ?_) | (simp only [zz, ↓reduceIte]) | (split) | omega | (exfalso; simp only [zl] at *; omega) | (simp_all; done))
theorem TV (x0 : Q2) (hx : Qo x0 ≤ 1048576) (hv : x0.fOp = 1 → x0.fType.fKind = 2 → 2 ≤ x0.fType.fBits ∧ x0.fType.fBits ≤ 31) : wp (DZ x0) (fun r => True) := by
 obtain ⟨hx1, hx2, hx3, hx4, hx5, hx6, hx7⟩ := Zp hx
 have hk : x0.fOp = 1 → x0.fType.fKind = 2 → 1 ≤ x0.fType.fBits ∧ x0.fType.fBits ≤ 64 := fun h h2 => by have := hv h h2; omega
 unfold DZ
 repeat' (first | exact trivial | assumption | (intro _) | (refine And.intro ?_ ?_) | (refine Q5 (JG _ hx2) fun _ _ => ?_) | (refine Q5 (HW _ hx 0 (by omega) (by omega)) fun _ _ => ?_) | (refine Q5 (Bh _ _ (hk (by assumption))) fun _ _ => ?_) | (refine Qg (by omega) (by omega) fun _ _ => ?_) | (simp only [zz, ↓reduceIte]) | (split) | omega | (exfalso; simp only [zl] at *; omega) | (simp_all; done))
inductive vE : Qb → Prop
 | mk (x : Q2) (h1 : (x.fArgs.length : Int) = CK x.fOp) (h2 : okC x) (h3 : x.fOp = 1 → x.fType.fKind = 2 → 2 ≤ x.fType.fBits ∧ x.fType.fBits ≤ 31) (h4 : ∀ a ∈ x.fArgs, vE a) : vE (.mk x)
theorem Ao : ∀ e : Qb, Qo e.f ≤ 1048576 → wp (J2 e.f) (fun r => r = 0 → vE e) := Qb.ind fun x ih h => by
 simp only [Qb.f_mk] at h ⊢
 obtain ⟨e1, e2, e3, e4, e5, e6, e7⟩ := Zp h
 have L : wp (XR x 0) (fun r => (r = .inl () ∧ ∀ a ∈ x.fArgs, vE a) ∨ ∃ c, r = .inr c ∧ c ≠ 0) := by
  refine Cr (F := fun (_ : Unit) i => XR x i) x.fArgs.length (fun i _ => ∀ (j : Nat) (a : Qb), (j : Int) < i → x.fArgs[j]? = some a → vE a) ?_ ?_ 0 () (by omega) (by omega) (fun j a hj => by omega)
  ·intro _ hI
   rw [XR]
   simp only [zz, ↓reduceIte]
   refine .inl fun a ha => ?_
   obtain ⟨j, hj, rfl⟩ := List.mem_iff_getElem.1 ha
   exact hI j _ (by omega) (List.getElem?_eq_getElem hj)
  ·intro i _ h0 h1 hI ih2
   rw [XR]
   have hw := QF h0 h1 (by omega)
   simp only [zz, ↓reduceIte]
   refine And.intro (fun _ => Lv.2 ⟨h0, by omega, ?_⟩) (fun h => absurd h1 h)
   refine Q5 (ih _ (List.getElem_mem _) (e7 _ (List.getElem_mem _))) fun r hr => ?_
   refine And.intro (fun hne => .inr ⟨r, rfl, by simpa using hne⟩) (fun hne => ?_)
   rw [hw]
   refine ih2 () fun j a hj ha => ?_
   by_cases hji : (j : Int) = i
   ·have : j = i.toNat := by omega
    subst this
    rw [List.getElem?_eq_getElem (by omega)] at ha
    cases ha
    exact hr (by simpa using hne)
   ·exact hI j a (by omega) ha
 rw [J2]
 simp only [zz, ↓reduceIte]
 refine Q5 (Ap _ h) fun b1 _ => And.intro (fun _ => ?_) (fun _ e => by cases e)
 refine Q5 (An _ h) fun b2 _ => And.intro (fun _ => ?_) (fun _ e => by cases e)
 refine Q5 (TW _ h) fun b3 h3 => And.intro (fun hb3 => ?_) (fun _ e => by cases e)
 refine Q5 (Ar _ h) fun b4 h4 => And.intro (fun hb4 => ?_) (fun _ e => by cases e)
 refine Q5 (TV _ h (h4 hb4).2) fun b5 _ => And.intro (fun _ => ?_) (fun _ e => by cases e)
 refine Q5 L fun r hr => ?_
 rcases hr with ⟨rfl, hv⟩ | ⟨c, rfl, hc⟩
 ·exact Z1.2 fun _ => .mk x (h3 hb3) (h4 hb4).1 (h4 hb4).2 hv
 ·exact Z1.2 fun e => absurd e hc
theorem M8 (x0 : Q2) (hx : Qo x0 ≤ 1048576) : wp (Uy x0) (fun r => r = 0 → vE (.mk x0)) := by
 unfold Uy
 simp only [zz, ↓reduceIte]
 refine Q5 (Al _ hx) fun b1 _ => And.intro (fun _ e => by cases e) (fun _ => ?_)
 refine Q5 (Pb _ hx) fun b2 _ => And.intro (fun _ e => by cases e) (fun _ => ?_)
 exact Q5 (Ao (.mk x0) hx) fun r hr => hr
end Go.Proofs.YtokfigmmegifeaaGreat
end
section
namespace Go.Proofs.YtokfigmmegifeaaGreat
open Go HY
set_option linter.unusedVariables false
set_option linter.unusedSimpArgs false
theorem Sh {R : Qb → Prop} (h : ∀ x : Q2, R (.mk x) → ∀ a ∈ x.fArgs, R a) : ∀ e, R e → ∀ a ∈ Zj e, R a := Qb.ind fun x ih hx a ha => by
 rw [DP, List.mem_cons, List.mem_flatten] at ha
 rcases ha with rfl | ⟨l, hl, ha⟩
 ·exact hx
 ·obtain ⟨b, hb, rfl⟩ := List.mem_map.1 hl
  exact ih b hb (h x hx b hb) a ha
theorem nodes_w (x : Q2) (N : Nat) (hx : Qo x ≤ N) : ∀ a ∈ Zj (.mk x), Qo a.f ≤ N :=
 Sh (R := fun a => Qo a.f ≤ N) (fun x h a ha => by have := Pk ha; simp only [Qb.f_mk] at h; omega) (.mk x) hx
theorem P0 : ∀ e : Qb, Qo e.f ≤ 1048576 → KA e.f = some (Zj e) := Qb.ind fun x ih h => by
 simp only [Qb.f_mk] at h ⊢
 obtain ⟨e1, e2, e3, e4, e5, e6, e7⟩ := Zp h
 have hw0 := S2 x
 have hpl := Ba x.fArgs
 have L : Yy x [.mk x] 0 = some ([.mk x] ++ Vk x.fArgs) := by
  refine V2 (F := fun a i => Yy x a i) (l := x.fArgs) (fun a t => a.length + (Vk t).length ≤ 1048576) (fun a t => a ++ Vk t) ?_ ?_ _ (by simp only [List.length_singleton]; omega)
  ·intro a hI
   rw [Yy]
   simp [Vk]
  ·intro i v t a h0 h1 hv hix hI ih2
   rw [Yy]
   have hw := QF h0 h1 (by omega)
   rw [Ud, List.length_append] at hI
   have hc : (a.length + (List.map Qm (Zj v)).length) * (160 : Nat) ≤ (140737488355328 : Nat) ∧ a.length + (List.map Qm (Zj v)).length ≤ (9223372036854775807 : Nat) := by rw [List.length_map]; omega
   simp only [Option.bind_eq_bind, Option.bind_some, h1, if_true, hix, Option.map_some, ih v hv (e7 v hv), if_pos hc, hw]
   rw [ih2 _ (by rw [List.length_append]; omega), Ud, List.append_assoc]
 rw [KA]
 simp only [Option.bind_eq_bind, Option.bind_some, L]
 rw [DP]; rfl
theorem Ee (x : Q2) (h : Qo x ≤ 1048576) : KA x = some (Zj (.mk x)) := P0 (.mk x) h
theorem E0 (x1 : Str) (x2 : Qh) (x4 : Qw) (hl : x2.fBufs.length ≤ 1048576)  (x6 : Int) (h0 : 0 ≤ x6) (h1 : x6 ≤ (x2.fBufs.length : Nat)) : wp (Z6 x1 x2 x4 x6) (fun r => True) := by
 refine ZR (F := fun x6 => Z6 x1 x2 x4 x6) (x2.fBufs.length) ?_ ?_ x6  h0 h1
 ·skip
  rw [Z6]
  repeat' (first | exact trivial | assumption | (intro _) | (refine And.intro ?_ ?_) | (refine Qg (by omega) (by omega) fun _ _ => ?_) | (simp only [zz, ↓reduceIte]) | (split) | omega | (exfalso; simp only [zl] at *; omega) | (simp_all; done))
 ·intro x6  h0 h1 ih
  rw [Z6]
  have hw := QF h0 h1 (by omega)
  have hw2 := QJ (n := x6 - 1) (by omega)
  repeat' (first | exact trivial | assumption | (intro _) | (refine And.intro ?_ ?_) | (exact ih) | (rw [hw]; exact ih) | (refine Qg (by omega) (by omega) fun _ _ => ?_) | (simp only [zz, ↓reduceIte]) | (split) | omega | (exfalso; simp only [zl] at *; omega) | (simp_all; done))
theorem Ul (x0 : Qh) (x1 : Str) (hl : x0.fBufs.length ≤ 1048576) : wp (Xs x0 x1) (fun r => True) := by
 unfold Xs
 repeat' (first | exact trivial | assumption | (intro _) | (refine And.intro ?_ ?_) | (refine Q5 (E0 _ _ _ hl 0 (by omega) (by omega)) fun _ _ => ?_) | (refine Qg (by omega) (by omega) fun _ _ => ?_) | (simp only [zz, ↓reduceIte]) | (split) | omega | (exfalso; simp only [zl] at *; omega) | (simp_all; done))
theorem R9 (l : List gLin) (b : List Qd) (i k : Int) (i0 : 0 ≤ i) (i1 : i < l.length) (k0 : 0 ≤ k) (k1 : k < (l[i.toNat]'(by omega)).fL.length) (hb : b.length ≤ 1048576) (x : Bool) : wp (X3 l b i k x 0) (fun _ => True) := by
 have hi : ix l i = some (l[i.toNat]'(by omega)) := by unfold ix; rw [if_pos i0, List.getElem?_eq_getElem]
 refine Cc (F := fun a j => X3 l b i k a j) b.length ?_ ?_ 0 x (by omega) (by omega)
 ·intro a
  rw [X3]
  repeat' (first | exact trivial | assumption | (intro _) | (refine And.intro ?_ ?_) | (refine Qg (by omega) (by omega) fun _ _ => ?_) | (simp only [zz, ↓reduceIte]) | (split) | omega | (exfalso; simp only [zl] at *; omega) | (simp_all; done))
 ·intro j a h0 h1 ih
  rw [X3]
  have hw := QF h0 h1 (by omega)
  simp only [hi]
  repeat' (first | exact trivial | assumption | (intro _) | (refine And.intro ?_ ?_) | (exact ih _) | (rw [hw]; exact ih _) | (refine Qg (by omega) (by omega) fun _ _ => ?_) | (simp only [zz, ↓reduceIte]) | (split) | omega | (exfalso; simp only [zl] at *; omega) | (simp_all; done))
theorem M9 (l : List gLin) (b : List Qd) (i : Int) (i0 : 0 ≤ i) (i1 : i < l.length) (hl : ∀ a ∈ l, wLin a ≤ 1048576) (hb : b.length ≤ 1048576) : wp (XV l b i 0) (fun _ => True) := by
 have hi : ix l i = some (l[i.toNat]'(by omega)) := by unfold ix; rw [if_pos i0, List.getElem?_eq_getElem]
 have h1 := Gf (l[i.toNat]'(by omega))
 have h2 := hl (l[i.toNat]'(by omega)) (List.getElem_mem _)
 refine ZR (F := fun k => XV l b i k) (l[i.toNat]'(by omega)).fL.length ?_ ?_ 0 (by omega) (by omega)
 ·rw [XV]
  simp only [hi]
  repeat' (first | exact trivial | assumption | (intro _) | (refine And.intro ?_ ?_) | (refine Qg (by omega) (by omega) fun _ _ => ?_) | (simp only [zz, ↓reduceIte]) | (split) | omega | (exfalso; simp only [zl] at *; omega) | (simp_all; done))
 ·intro k h0 h1 ih
  rw [XV]
  have hw := QF h0 h1 (by omega)
  simp only [hi]
  repeat' (first | exact trivial | assumption | (intro _) | (refine And.intro ?_ ?_) | (exact ih) | (rw [hw]; exact ih) | (refine Q5 (R9 _ _ _ _ i0 i1 h0 h1 hb _) fun _ _ => ?_) | (refine Qg (by omega) (by omega) fun _ _ => ?_) | (simp only [zz, ↓reduceIte]) | (split) | omega | (exfalso; simp only [zl] at *; omega) | (simp_all; done))
theorem R8 (x0 : List gLin) (x1 : List Qd) (hl : ∀ a ∈ x0, wLin a ≤ 1048576) (hn : x0.length ≤ 1099511627776) (hb : x1.length ≤ 1048576)  (x5 : Int) (h0 : 0 ≤ x5) (h1 : x5 ≤ (x0.length : Nat)) : wp (XU x0 x1 x5) (fun r => True) := by
 refine ZR (F := fun x5 => XU x0 x1 x5) (x0.length) ?_ ?_ x5  h0 h1
 ·skip
  rw [XU]
  repeat' (first | exact trivial | assumption | (intro _) | (refine And.intro ?_ ?_) | (refine Q5 (M9 _ _ _ (by omega) (by omega) hl hb) fun _ _ => ?_) | (refine Qg (by omega) (by omega) fun _ _ => ?_) | (simp only [zz, ↓reduceIte]) | (split) | omega | (exfalso; simp only [zl] at *; omega) | (simp_all; done))
 ·intro x5  h0 h1 ih
  rw [XU]
  have hw := QF h0 h1 (by omega)
  have hw2 := QJ (n := x5 - 1) (by omega)
  repeat' (first | exact trivial | assumption | (intro _) | (refine And.intro ?_ ?_) | (exact ih) | (rw [hw]; exact ih) | (refine Q5 (M9 _ _ _ (by omega) (by omega) hl hb) fun _ _ => ?_) | (refine Qg (by omega) (by omega) fun _ _ => ?_) | (simp only [zz, ↓reduceIte]) | (split) | omega | (exfalso; simp only [zl] at *; omega) | (simp_all; done))
theorem LS (x0 : List gLin) (x1 : List Qd) (hl : ∀ a ∈ x0, wLin a ≤ 1048576) (hn : x0.length ≤ 1099511627776) (hb : x1.length ≤ 1048576) : wp (Ds x0 x1) (fun r => True) := by
 unfold Ds
 repeat' (first | exact trivial | assumption | (intro _) | (refine And.intro ?_ ?_) | (refine Q5 (R8 _ _ hl hn hb 0 (by omega) (by omega)) fun _ _ => ?_) | (refine Qg (by omega) (by omega) fun _ _ => ?_) | (simp only [zz, ↓reduceIte]) | (split) | omega | (exfalso; simp only [zl] at *; omega) | (simp_all; done))
theorem Pg (l : List Qa) (hl : wSum wIdx l ≤ 1048576) : wp (W4 l) (fun r => r.length ≤ 1048576 ∧ ∀ a ∈ r, wLin a ≤ 1048576) := by
 have hn := Kf (f := wIdx) (l := l) NA
 have L : Yk l [] 0 = some ([] ++ (l.map fun x => x.fLin :: x.fAt).flatten) := by
  refine V2 (F := fun a i => Yk l a i) (l := l) (fun a t => a.length + wSum wIdx t ≤ 1048576) (fun a t => a ++ (t.map fun x => x.fLin :: x.fAt).flatten) ?_ ?_ _ (by simp only [List.length_nil]; omega)
  ·intro a hI
   rw [Yk]
   simp
  ·intro i v t a h0 h1 hv hix hI ih2
   rw [Yk]
   have hw := QF h0 h1 (by omega)
   rw [QI] at hI
   have := Mb v
   have hc : (a.length + (1 : Nat)) * (32 : Nat) ≤ (140737488355328 : Nat) ∧ a.length + (1 : Nat) ≤ (9223372036854775807 : Nat) := by omega
   have hd : ((a ++ [v.fLin]).length + (List.map Qj v.fAt).length) * (32 : Nat) ≤ (140737488355328 : Nat) ∧ (a ++ [v.fLin]).length + (List.map Qj v.fAt).length ≤ (9223372036854775807 : Nat) := by rw [List.length_map, List.length_append, List.length_singleton]; omega
   simp only [Option.bind_eq_bind, Option.bind_some, h1, if_true, hix, if_pos hc, if_pos hd, hw]
   rw [ih2 _ (by rw [List.length_append, List.length_append, List.length_singleton]; omega)]
   simp
 unfold W4
 simp only [Option.bind_eq_bind, Option.bind_some, L]
 have key : ∀ t : List Qa, (t.map fun x => x.fLin :: x.fAt).flatten.length ≤ wSum wIdx t := by
  intro t
  induction t with
  | nil => simp
  | cons a t ih => rw [List.map_cons, List.flatten_cons, List.length_append, QI, List.length_cons]; have := Mb a; omega
 refine Z1.2 ⟨by have := key l; rw [List.nil_append]; omega, fun a ha => ?_⟩
 rw [List.nil_append, List.mem_flatten] at ha
 obtain ⟨m, hm, ha⟩ := ha
 obtain ⟨x, hx, rfl⟩ := List.mem_map.1 hm
 have h1 := YI (f := wIdx) hx
 have h2 := Pn x
 have h3 := OJ x
 rcases List.mem_cons.1 ha with rfl | ha
 ·omega
 ·have := YI (f := wLin) ha; omega
theorem Ra (x3 : Qh) (x5 : Q2) (hx : Qo x5 ≤ 1048576) (hb : x3.fBufs.length ≤ 1048576)  (x9 : Int) (h0 : 0 ≤ x9) (h1 : x9 ≤ (x5.fIdx.length : Nat)) : wp (X5 x3 x5 x9) (fun r => True) := by
 obtain ⟨hx1, hx2, hx3, hx4, hx5, hx6, hx7⟩ := Zp hx
 refine ZR (F := fun x9 => X5 x3 x5 x9) (x5.fIdx.length) ?_ ?_ x9  h0 h1
 ·skip
  rw [X5]
  repeat' (first | exact trivial | assumption | (intro _) | (refine And.intro ?_ ?_) | (refine Q5 (Ul _ _ hb) fun _ _ => ?_) | (refine Qg (by omega) (by omega) fun _ _ => ?_) | (simp only [zz, ↓reduceIte]) | (split) | omega | (exfalso; simp only [zl] at *; omega) | (simp_all; done))
 ·intro x9  h0 h1 ih
  rw [X5]
  have hw := QF h0 h1 (by omega)
  have hw2 := QJ (n := x9 - 1) (by omega)
  repeat' (first | exact trivial | assumption | (intro _) | (refine And.intro ?_ ?_) | (exact ih) | (rw [hw]; exact ih) | (refine Q5 (Ul _ _ hb) fun _ _ => ?_) | (refine Qg (by omega) (by omega) fun _ _ => ?_) | (simp only [zz, ↓reduceIte]) | (split) | omega | (exfalso; simp only [zl] at *; omega) | (simp_all; done))
theorem IY (x0 : Qh) (x1 : List Qd) (x2 : Q2) (hb : x0.fBufs.length ≤ 1048576) (h1 : x1.length ≤ 1048576) (hx : Qo x2 ≤ 1048576) : wp (W5 x0 x1 x2) (fun r => True) := by
 obtain ⟨hx1, hx2, hx3, hx4, hx5, hx6, hx7⟩ := Zp hx
 have hi := Pm x2
 obtain ⟨l, hl, hl1, hl2⟩ := Pg x2.fIdx (by omega)
 unfold W5
 rw [hl]
 repeat' (first | exact trivial | assumption | (intro _) | (refine And.intro ?_ ?_) | (refine Q5 (LS [x2.fLin] x1 (by intro a ha; simp at ha; subst ha; exact hx2) (by simp) h1) fun _ _ => ?_) | (refine Q5 (LS l x1 hl2 (by omega) h1) fun _ _ => ?_) | (refine Q5 (Ul _ _ hb) fun _ _ => ?_) | (refine Q5 (Ra _ _ hx hb 0 (by omega) (by omega)) fun _ _ => ?_) | (refine Qg (by omega) (by omega) fun _ _ => ?_) | (simp only [zz, ↓reduceIte]) | (split) | omega | (exfalso; simp only [zl] at *; omega) | (simp_all; done))
theorem IX (x1 : List Qd) (x3 : Qh) (x6 : Qi) (x9 : List Qb) (hb : x3.fBufs.length ≤ 1048576) (hB : x1.length ≤ 1048576) (hl : ∀ a ∈ x9, Qo a.f ≤ 1048576) (hn : x9.length ≤ 1048576)  (x10 : Int) (h0 : 0 ≤ x10) (h1 : x10 ≤ (x9.length : Nat)) : wp (ZT x1 x3 x6 x9 x10) (fun r => True) := by
 refine ZR (F := fun x10 => ZT x1 x3 x6 x9 x10) (x9.length) ?_ ?_ x10  h0 h1
 ·skip
  rw [ZT]
  repeat' (first | exact trivial | assumption | (intro _) | (refine And.intro ?_ ?_) | (refine Q5 (IY _ _ _ hb hB (hl _ (by assumption))) fun _ _ => ?_) | (refine Qg (by omega) (by omega) fun _ _ => ?_) | (simp only [zz, ↓reduceIte]) | (split) | omega | (exfalso; simp only [zl] at *; omega) | (simp_all; done))
 ·intro x10  h0 h1 ih
  rw [ZT]
  have hw := QF h0 h1 (by omega)
  have hw2 := QJ (n := x10 - 1) (by omega)
  repeat' (first | exact trivial | assumption | (intro _) | (refine And.intro ?_ ?_) | (exact ih) | (rw [hw]; exact ih) | (refine Q5 (IY _ _ _ hb hB (hl _ (by assumption))) fun _ _ => ?_) | (refine Qg (by omega) (by omega) fun _ _ => ?_) | (simp only [zz, ↓reduceIte]) | (split) | omega | (exfalso; simp only [zl] at *; omega) | (simp_all; done))
theorem nonC {x : Q2} (h1 : (x.fArgs.length : Int) = CK x.fOp) (h2 : okC x) (hc : isC x = false) (k : x.fOp ≠ 1 ∧ x.fOp ≠ 2 ∧ x.fOp ≠ 3) : ∃ a ∈ x.fArgs, isC a.f = false := by
 by_cases h11 : x.fOp = 11
 ·have hl : 1 < x.fArgs.length := by rw [h11] at h1; simp [CK] at h1; omega
  refine ⟨x.fArgs[1], List.getElem_mem _, ?_⟩
  rw [h2.ok 1 _ (List.getElem?_eq_getElem hl), h11]; rfl
 ·have hl : 0 < x.fArgs.length := by
   simp only [CK] at h1
   repeat' split at h1
   all_goals omega
  refine ⟨x.fArgs[0], List.getElem_mem _, ?_⟩
  rw [h2.ok 0 _ (List.getElem?_eq_getElem hl)]
  unfold isC at hc
  unfold J9
  simp only [Bool.and_eq_false_iff, decide_eq_false_iff_not] at hc
  have h16 : x.fOp ≠ 16 ∧ x.fOp ≠ 17 ∧ x.fOp ≠ 18 := by omega
  simp [h11, h16]
theorem Au (n : Qh) (hb : n.fBufs.length ≤ 1048576) : ∀ e : Qb, Qo e.f ≤ 1048576 → vE e → wp (J4 n e.f) (fun _ => True) := Qb.ind fun x ih h hv => by
 simp only [Qb.f_mk] at h ⊢
 obtain ⟨e1, e2, e3, e4, e5, e6, e7⟩ := Zp h
 cases hv with
 | mk _ v1 v2 v3 v4 =>
 have L : wp (Xx n x (Qi.mk (0 : Int) (0 : Int) (0 : Int) (0 : Int) (0 : Int)) [] 0) (fun r => ∀ p, r = .inl p → (∃ a ∈ x.fArgs, isC a.f = false) → p.2 ≠ []) := by
  refine Cr (F := fun a i => Xx n x (Qi.mk (0 : Int) (0 : Int) (0 : Int) (0 : Int) (0 : Int)) a i) x.fArgs.length (fun i acc => (acc.length : Int) ≤ i ∧ ∀ (j : Nat) (a : Qb), (j : Int) < i → x.fArgs[j]? = some a → isC a.f = false → acc ≠ []) ?_ ?_ 0 [] (by omega) (by omega) ⟨by simp, fun j a hj => by omega⟩
  ·intro acc hI
   rw [Xx]
   simp only [zz, ↓reduceIte]
   intro p hp ⟨a, ha, hc⟩
   cases hp
   obtain ⟨j, hj, rfl⟩ := List.mem_iff_getElem.1 ha
   exact hI.2 j _ (by omega) (List.getElem?_eq_getElem hj) hc
  ·intro i acc h0 h1 hI ih2
   rw [Xx]
   have hw := QF h0 h1 (by omega)
   have hix : ix x.fArgs i = some (x.fArgs[i.toNat]'(by omega)) := by unfold ix; rw [if_pos h0, List.getElem?_eq_getElem]
   simp only [hix, hw]
   simp only [zz, ↓reduceIte]
   refine And.intro (fun _ => ?_) (fun h => absurd h1 h)
   refine Q5 (ih _ (List.getElem_mem _) (e7 _ (List.getElem_mem _)) (v4 _ (List.getElem_mem _))) fun r _ => ?_
   refine And.intro (fun _ p hp => by cases hp) (fun _ => ?_)
   refine Q5 (Uk _) fun c hc => ?_
   refine And.intro (fun hct => ?_) (fun hct => And.intro (fun _ => ?_) (fun hn => absurd (by omega) hn))
   ·refine ih2 _ ⟨by omega, fun j a hj ha hca => ?_⟩
    by_cases hji : (j : Int) = i
    ·have : j = i.toNat := by omega
     subst this
     rw [List.getElem?_eq_getElem (by omega)] at ha
     cases ha
     rw [hca] at hc; rw [hc] at hct; cases hct
    ·exact hI.2 j a (by omega) ha hca
   ·exact ih2 _ ⟨by simp; omega, fun j a hj ha hca => by simp⟩
 rw [J4]
 simp only [zz, ↓reduceIte]
 refine Q5 L fun r hr => ?_
 cases r with
 | inr p => exact Z1.2 trivial
 | inl p =>
  have hne : isC x = false → x.fOp ≠ 1 ∧ x.fOp ≠ 2 ∧ x.fOp ≠ 3 → 0 < p.2.length := fun hc hk => List.length_pos_iff.2 (hr p rfl (nonC v1 v2 hc hk))
  repeat' (first | exact trivial | assumption | (intro _) | (refine And.intro ?_ ?_) | (refine Q5 ((Ul _ _ hb)) fun _ _ => ?_) | (refine Q5 ((Uk _)) fun _ _ => ?_) | (refine Qg (by omega) (by omega) fun _ _ => ?_) | (simp only [zz, ↓reduceIte]) | (split) | omega | (have hq := hne (by simp_all; done) (by simp_all; done); refine Qg (by omega) (by omega) fun _ _ => ?_) | (exfalso; simp only [zl] at *; omega) | (simp_all; done))
end Go.Proofs.YtokfigmmegifeaaGreat
end
section
namespace Go.Proofs.YtokfigmmegifeaaGreat
open Go HY
set_option linter.unusedVariables false
set_option linter.unusedSimpArgs false
theorem Wm (x0 : Qh) (x1 : List Qd) (x2 : Q2) (hb : x0.fBufs.length ≤ 1048576) (hB : x1.length ≤ 1048576) (hx : Qo x2 ≤ 1048576) : wp (JA x0 x1 x2) (fun r => r.2 = 0 → vE (.mk x2)) := by
 have hn := nodes_w x2 _ hx
 have hl := FL x2
 unfold JA
 simp only [zz, ↓reduceIte]
 refine Q5 (M8 _ hx) fun b hb1 => And.intro (fun hne h => absurd h hne) (fun he => ?_)
 have hv := hb1 (by simpa using he)
 rw [Ee x2 hx]
 simp only [zz, ↓reduceIte]
 refine Q5 (IX x1 x0 _ _ hb hB hn (by omega) 0 (by omega) (by omega)) fun r _ => ?_
 cases r with
 | inl p =>
  simp only [zz, ↓reduceIte]
  exact Q5 (Au x0 hb (.mk x2) hx hv) fun _ _ _ => hv
 | inr p => exact Z1.2 fun _ => hv
theorem Ae (x2 : gLin) (x3 : gLin) (hx : wLin x2 ≤ 1048576) (he : x3.fL.length = x2.fL.length)  (x5 : Int) (h0 : 0 ≤ x5) (h1 : x5 ≤ (x2.fL.length : Nat)) : wp (K9 x2 x3 x5) (fun r => True) := by
 have hx1 := Gf x2
 refine ZR (F := fun x5 => K9 x2 x3 x5) (x2.fL.length) ?_ ?_ x5  h0 h1
 ·skip
  rw [K9]
  repeat' (first | exact trivial | assumption | (intro _) | (refine And.intro ?_ ?_) | (refine Qg (by omega) (by omega) fun _ _ => ?_) | (simp only [zz, ↓reduceIte]) | (split) | omega | (exfalso; simp only [zl] at *; omega) | (simp_all; done))
 ·intro x5  h0 h1 ih
  rw [K9]
  have hw := QF h0 h1 (by omega)
  have hw2 := QJ (n := x5 - 1) (by omega)
  repeat' (first | exact trivial | assumption | (intro _) | (refine And.intro ?_ ?_) | (exact ih) | (rw [hw]; exact ih) | (refine Qg (by omega) (by omega) fun _ _ => ?_) | (simp only [zz, ↓reduceIte]) | (split) | omega | (exfalso; simp only [zl] at *; omega) | (simp_all; done))
theorem Ny (x0 : gLin) (x1 : gLin) (hx : wLin x0 ≤ 1048576) : wp (DY x0 x1) (fun r => True) := by
 have hx1 := Gf x0
 unfold DY
 repeat' (first | exact trivial | assumption | (intro _) | (refine And.intro ?_ ?_) | (exact Q5 (Ae _ _ hx (by omega) 0 (by omega) (by omega)) fun r _ => by cases r <;> exact Z1.2 trivial) | (refine Qg (by omega) (by omega) fun _ _ => ?_) | (simp only [zz, ↓reduceIte]) | (split) | omega | (exfalso; simp only [zl] at *; omega) | (simp_all; done))
theorem TS (x0 : List gLin) (x1 : List gLin) (hn : x0.length ≤ 1048576) (hl : ∀ a ∈ x0, wLin a ≤ 1048576) (he : x1.length = x0.length)  (x5 : Int) (h0 : 0 ≤ x5) (h1 : x5 ≤ (x0.length : Nat)) : wp (Yw x0 x1 x5) (fun r => True) := by
 refine ZR (F := fun x5 => Yw x0 x1 x5) (x0.length) ?_ ?_ x5  h0 h1
 ·skip
  rw [Yw]
  repeat' (first | exact trivial | assumption | (intro _) | (refine And.intro ?_ ?_) | (refine Q5 (Ny _ _ (hl _ (by assumption))) fun _ _ => ?_) | (refine Qg (by omega) (by omega) fun _ _ => ?_) | (simp only [zz, ↓reduceIte]) | (split) | omega | (exfalso; simp only [zl] at *; omega) | (simp_all; done))
 ·intro x5  h0 h1 ih
  rw [Yw]
  have hw := QF h0 h1 (by omega)
  have hw2 := QJ (n := x5 - 1) (by omega)
  repeat' (first | exact trivial | assumption | (intro _) | (refine And.intro ?_ ?_) | (exact ih) | (rw [hw]; exact ih) | (refine Q5 (Ny _ _ (hl _ (by assumption))) fun _ _ => ?_) | (refine Qg (by omega) (by omega) fun _ _ => ?_) | (simp only [zz, ↓reduceIte]) | (split) | omega | (exfalso; simp only [zl] at *; omega) | (simp_all; done))
theorem O7 (x0 : List gLin) (x1 : List gLin) (hn : x0.length ≤ 1048576) (hl : ∀ a ∈ x0, wLin a ≤ 1048576) : wp (WE x0 x1) (fun r => True) := by
 unfold WE
 repeat' (first | exact trivial | assumption | (intro _) | (refine And.intro ?_ ?_) | (exact Q5 (TS _ _ hn hl (by omega) 0 (by omega) (by omega)) fun r _ => by cases r <;> exact Z1.2 trivial) | (refine Qg (by omega) (by omega) fun _ _ => ?_) | (simp only [zz, ↓reduceIte]) | (split) | omega | (exfalso; simp only [zl] at *; omega) | (simp_all; done))
theorem IP (x0 : Qa) (x1 : Qa) (hx : wIdx x0 ≤ 1048576) : wp (CU x0 x1) (fun r => True) := by
 obtain ⟨hx1, hx2, hx3, hx4, hx5⟩ := Wt hx
 unfold CU
 repeat' (first | exact trivial | assumption | (intro _) | (refine And.intro ?_ ?_) | (refine Q5 (Ny _ _ hx2) fun _ _ => ?_) | (refine Q5 (O7 _ _ hx4 hx5) fun _ _ => ?_) | (refine Qg (by omega) (by omega) fun _ _ => ?_) | (simp only [zz, ↓reduceIte]) | (split) | omega | (exfalso; simp only [zl] at *; omega) | (simp_all; done))
theorem HT (x0 : List Qa) (x1 : List Qa) (hn : x0.length ≤ 1048576) (hl : ∀ a ∈ x0, wIdx a ≤ 1048576) (he : x1.length = x0.length)  (x5 : Int) (h0 : 0 ≤ x5) (h1 : x5 ≤ (x0.length : Nat)) : wp (Xd x0 x1 x5) (fun r => True) := by
 refine ZR (F := fun x5 => Xd x0 x1 x5) (x0.length) ?_ ?_ x5  h0 h1
 ·skip
  rw [Xd]
  repeat' (first | exact trivial | assumption | (intro _) | (refine And.intro ?_ ?_) | (refine Q5 (IP _ _ (hl _ (by assumption))) fun _ _ => ?_) | (refine Qg (by omega) (by omega) fun _ _ => ?_) | (simp only [zz, ↓reduceIte]) | (split) | omega | (exfalso; simp only [zl] at *; omega) | (simp_all; done))
 ·intro x5  h0 h1 ih
  rw [Xd]
  have hw := QF h0 h1 (by omega)
  have hw2 := QJ (n := x5 - 1) (by omega)
  repeat' (first | exact trivial | assumption | (intro _) | (refine And.intro ?_ ?_) | (exact ih) | (rw [hw]; exact ih) | (refine Q5 (IP _ _ (hl _ (by assumption))) fun _ _ => ?_) | (refine Qg (by omega) (by omega) fun _ _ => ?_) | (simp only [zz, ↓reduceIte]) | (split) | omega | (exfalso; simp only [zl] at *; omega) | (simp_all; done))
theorem TR (x0 : List Qa) (x1 : List Qa) (hn : x0.length ≤ 1048576) (hl : ∀ a ∈ x0, wIdx a ≤ 1048576) : wp (DX x0 x1) (fun r => True) := by
 unfold DX
 repeat' (first | exact trivial | assumption | (intro _) | (refine And.intro ?_ ?_) | (exact Q5 (HT _ _ hn hl (by omega) 0 (by omega) (by omega)) fun r _ => by cases r <;> exact Z1.2 trivial) | (refine Qg (by omega) (by omega) fun _ _ => ?_) | (simp only [zz, ↓reduceIte]) | (split) | omega | (exfalso; simp only [zl] at *; omega) | (simp_all; done))
theorem P5 : ∀ e : Qb, Qo e.f ≤ 1048576 → ∀ y, wp (VU e.f y) (fun _ => True) := Qb.ind fun x ih h y => by
 simp only [Qb.f_mk] at h ⊢
 obtain ⟨e1, e2, e3, e4, e5, e6, e7⟩ := Zp h
 have L : ∀ m : List Qb, m.length = x.fArgs.length → wp (Yc x.fArgs m 0) (fun _ => True) := fun m hm => by
  refine ZR (F := fun i => Yc x.fArgs m i) x.fArgs.length ?_ ?_ 0 (by omega) (by omega)
  ·rw [Yc]; repeat' (first | exact trivial | assumption | (intro _) | (refine And.intro ?_ ?_) | (refine Qg (by omega) (by omega) fun _ _ => ?_) | (simp only [zz, ↓reduceIte]) | (split) | omega | (exfalso; simp only [zl] at *; omega) | (simp_all; done))
  ·intro i h0 h1 ih2
   rw [Yc]
   have hw := QF h0 h1 (by omega)
   repeat' (first | exact trivial | assumption | (intro _) | (refine And.intro ?_ ?_) | (exact ih2) | (rw [hw]; exact ih2) | (refine Q5 (ih _ (by assumption) (e7 _ (by assumption)) _) fun _ _ => ?_) | (refine Qg (by omega) (by omega) fun _ _ => ?_) | (simp only [zz, ↓reduceIte]) | (split) | omega | (exfalso; simp only [zl] at *; omega) | (simp_all; done))
 have M : ∀ m, wp (DH x.fArgs m) (fun _ => True) := fun m => by
  rw [DH]
  repeat' (first | exact trivial | assumption | (intro _) | (refine And.intro ?_ ?_) | (exact Q5 (L _ (by omega)) fun r _ => by cases r <;> exact Z1.2 trivial) | (refine Qg (by omega) (by omega) fun _ _ => ?_) | (simp only [zz, ↓reduceIte]) | (split) | omega | (exfalso; simp only [zl] at *; omega) | (simp_all; done))
 rw [VU]
 repeat' (first | exact trivial | assumption | (intro _) | (refine And.intro ?_ ?_) | (refine Q5 (Ny _ _ e2) fun _ _ => ?_) | (refine Q5 (TR _ _ e4 e5) fun _ _ => ?_) | (refine Q5 (M _) fun _ _ => ?_) | (refine Qg (by omega) (by omega) fun _ _ => ?_) | (simp only [zz, ↓reduceIte]) | (split) | omega | (exfalso; simp only [zl] at *; omega) | (simp_all; done))
theorem O6 (x y : Q2) (h : Qo x ≤ 1048576) : wp (VU x y) (fun _ => True) := P5 (.mk x) h y
theorem Av (x0 : Qc) (hx : QD x0 ≤ 1048576) : wp (CF x0) (fun r => True) := by
 obtain ⟨hx1, hx2, hx3, hx4, hx5, hx6, hx7⟩ := UQ hx
 unfold CF
 repeat' (first | exact trivial | assumption | (intro _) | (refine And.intro ?_ ?_) | (refine Q5 (O6 _ _ hx2) fun _ _ => ?_) | (refine Qg (by omega) (by omega) fun _ _ => ?_) | (simp only [zz, ↓reduceIte]) | (split) | omega | (exfalso; simp only [zl] at *; omega) | (simp_all; done))
theorem Aw (x0 : Qh) (x1 : List Qd) (x2 : Qc) (hb : x0.fBufs.length ≤ 1048576) (hB : x1.length ≤ 1048576) (hx : QD x2 ≤ 1048576) : wp (CG x0 x1 x2) (fun r => True) := by
 obtain ⟨hx1, hx2, hx3, hx4, hx5, hx6, hx7⟩ := UQ hx
 unfold CG
 repeat' (first | exact trivial | assumption | (intro _) | (refine And.intro ?_ ?_) | (refine Q5 (Wm _ _ _ hb hB (W_idx hx (Nat.le_refl _))) fun _ _ => ?_) | (refine Q5 (Wm _ _ _ hb hB hx2) fun _ _ => ?_) | (refine Q5 (Ul _ _ hb) fun _ _ => ?_) | (refine Q5 (Uk _) fun _ _ => ?_) | (refine Qg (by omega) (by omega) fun _ _ => ?_) | (simp only [zz, ↓reduceIte]) | (split) | omega | (exfalso; simp only [zl] at *; omega) | (simp_all; done))
theorem Oa (x0 : Qh) (x1 : List Qd) (x2 : List Str) (x3 : Qc) (hb : x0.fBufs.length ≤ 1048576) (hB : x1.length ≤ 1048576) (hU : x2.length ≤ 1048576) (hx : QD x3 ≤ 1048576) : wp (WS x0 x1 x2 x3) (fun r => r = 0 → (x3.fOp = 1 → x3.fMany ≤ 65536) ∧ (x3.fOp = 4 → vE (.mk x3.fExpr))) := by
 obtain ⟨hx1, hx2, hx3, hx4, hx5, hx6, hx7⟩ := UQ hx
 unfold WS
 repeat' (first | exact trivial | assumption | (intro _) | (refine And.intro ?_ ?_) | (refine Q5 (Av _ hx) fun _ _ => ?_) | (refine Q5 (Wm _ _ _ hb hB hx2) fun _ _ => ?_) | (refine Q5 (Ul _ _ hb) fun _ _ => ?_) | (refine Q5 (Uk _) fun _ _ => ?_) | (refine Q5 (KC _ hx1) fun _ _ => ?_) | (refine Q5 (Lq _ _ hU) fun _ _ => ?_) | (refine Q5 (Aw _ _ _ hb hB hx) fun _ _ => ?_) | (omega) | ((simp_all; done)) | ((exfalso; omega)) | (refine Qg (by omega) (by omega) fun _ _ => ?_) | (simp only [zz, ↓reduceIte]) | (split) | omega | (exfalso; simp only [zl] at *; omega) | (simp_all; done))
inductive vS : Q9 → Prop
 | mk (x : Qc) (h1 : x.fOp = 1 → x.fMany ≤ 65536) (h2 : x.fOp = 4 → vE (.mk x.fExpr)) (h3 : ∀ a ∈ x.fBody, vS a) : vS (.mk x)
end Go.Proofs.YtokfigmmegifeaaGreat
end
section
namespace Go.Proofs.YtokfigmmegifeaaGreat
open Go HY
set_option linter.unusedVariables false
set_option linter.unusedSimpArgs false
def maxL (l : List Nat) : Nat := l.foldr max 0
theorem Bx (a : Nat) (l : List Nat) : maxL (a :: l) = max a (maxL l) := rfl
theorem Q09 {a : Nat} {l : List Nat} (h : a ∈ l) : a ≤ maxL l := by
 induction l with
 | nil => cases h
 | cons b l ih =>
  rw [Bx]
  rcases List.mem_cons.1 h with rfl | h
  ·omega
  ·have := ih h; omega
def dp : Q9 → Nat
 | .mk x => 1 + maxL (x.fBody.attach.map fun a => dp a.1)
 termination_by e => SizeOf.sizeOf e
 decreasing_by exact Q9.lt a.2
def dpL (l : List Q9) : Nat := maxL (l.map dp)
theorem dp_f (s : Q9) : dp s = 1 + dpL s.f.fBody := by
 cases s with
 | mk x => rw [dp]; simp [dpL, Q9.f]
theorem dpL_mem {a : Q9} {l : List Q9} (h : a ∈ l) : dp a ≤ dpL l := Q09 (List.mem_map_of_mem h)
theorem Ab : ∀ l : List Q9, wSum QA l ≤ 1048576 → ∀ m : Int, 0 ≤ m → m ≤ 1000 → V5 l m = some (min (dpL l : Int) m) := DM fun l hl ih m hm0 hm1 => by
 obtain ⟨e1, e2⟩ := C5 hl
 have L : X4 l m 0 0 = some (max 0 (min (dpL l : Int) m)) := by
  by_cases hm : m = 0
  ·subst hm
   rw [X4]
   simp
   try omega
  refine V2 (F := fun a i => X4 l m a i) (l := l) (fun a t => 0 ≤ a ∧ a ≤ m) (fun a t => max a (min (dpL t : Int) m)) ?_ ?_ _ (by omega)
  ·intro a hI
   rw [X4]
   simp [dpL, maxL]
   omega
  ·intro i v t a h0 h1 hv hix hI ih2
   rw [X4]
   have hw := QF h0 h1 (by omega)
   have hw2 : wr (m - 1) = m - 1 := QJ (by omega)
   have hw3 : wr (1 + min (dpL v.f.fBody : Int) (m - 1)) = 1 + min (dpL v.f.fBody : Int) (m - 1) := QJ (by omega)
   have hmp : 0 < m := by omega
   simp only [Option.bind_eq_bind, Option.bind_some, h1, if_true, hmp, hix, Option.map_some, hw2, ih v hv (m - 1) (by omega) (by omega), hw3, hw]
   rw [ih2 _ (by omega)]
   have : dpL (v :: t) = max (dp v) (dpL t) := rfl
   rw [this, dp_f]
   congr 1
   omega
 rw [V5]
 simp only [Option.bind_eq_bind, Option.bind_some, L]
 congr 1
 omega
theorem Pe : ∀ l : List Q9, wSum QA l ≤ 1048576 → ∀ (n : Qh) (b : List Qd) (u : List Str) (w : List Int), n.fBufs.length ≤ 1048576 → b.length + wSum QA l ≤ 1048576 → u.length + wSum QA l ≤ 1048576 → w.length + wSum QA l ≤ 1048576 →
  wp (K2 n b u l w) (fun r => r.fUsed.length ≤ u.length + wSum QA l ∧ (r.fE = 0 → ∀ a ∈ l, vS a)) := DM fun l hl ih n b u w hb hB hU hW => by
 obtain ⟨e1, e2⟩ := C5 hl
 have L : wp (Xy b u l w n (QC.mk [] [] 0) 0) (fun r => (∃ p, r = .inl p ∧ p.1.length ≤ u.length + wSum QA l ∧ ∀ a ∈ l, vS a) ∨ ∃ p, r = .inr p ∧ p.fE ≠ 0 ∧ p.fUsed.length ≤ u.length + wSum QA l) := by
  refine UR (F := fun a i => Xy b a l w n (QC.mk [] [] 0) i) (l := l) (fun a t => a.length + wSum QA t ≤ u.length + wSum QA l ∧ ∃ p, l = p ++ t ∧ ∀ x ∈ p, vS x) ?_ ?_ u ⟨by omega, [], rfl, by simp⟩
  ·intro a ⟨hI, p, hp, hv⟩
   rw [Xy]
   rw [List.append_nil] at hp
   subst hp
   simp only [zz, ↓reduceIte]
   refine .inl ⟨_, rfl, by simp [QZ] at hI; exact hI, hv⟩
  ·intro i v t a h0 h1 hv hix _ ⟨hI, p, hp, hvp⟩ ih2
   rw [Xy]
   have hw := QF h0 h1 (by omega)
   obtain ⟨s1, s2, s3, s4, s5, s6, s7⟩ := UQ (e2 v hv)
   have hv1 := YI (f := QA) hv
   have hv2 := NI v.f
   rw [YV] at hv1
   rw [QI, YV] at hI
   simp only [hix, hw]
   simp only [zz, ↓reduceIte]
   refine And.intro (fun _ => ?_) (fun h => absurd h1 h)
   refine And.intro (fun _ => ?_) (fun h => absurd (by omega) h)
   refine And.intro (fun _ => ?_) (fun h => absurd (by simp; omega) h)
   refine Q5 (Oa n b a v.f hb (by omega) (by omega) (e2 v hv)) fun c hc => ?_
   refine And.intro (fun hne => .inr ⟨_, rfl, by simpa using hne, by simp⟩) (fun he => ?_)
   have hc := hc (by simpa using he)
   have key : ∀ (b' : List Qd) (u' : List Str), b'.length ≤ b.length + 1 → u'.length ≤ a.length + 1 → wp (K2 n b' u' v.f.fBody ([] ++ w ++ [i])) (fun a_1 => (a_1.fE ≠ 0 → (∃ p, (Sum.inr a_1 : ((List Str) × QC) ⊕ QC) = .inl p ∧ p.1.length ≤ u.length + wSum QA l ∧ ∀ a ∈ l, vS a) ∨ ∃ p, (Sum.inr a_1 : ((List Str) × QC) ⊕ QC) = .inr p ∧ p.fE ≠ 0 ∧ p.fUsed.length ≤ u.length + wSum QA l) ∧
     (¬ a_1.fE ≠ 0 → wp (Xy b a_1.fUsed l w n (QC.mk [] [] 0) (i + 1)) (fun r => (∃ p, r = .inl p ∧ p.1.length ≤ u.length + wSum QA l ∧ ∀ a ∈ l, vS a) ∨ ∃ p, r = .inr p ∧ p.fE ≠ 0 ∧ p.fUsed.length ≤ u.length + wSum QA l))) := by
    intro b' u' hb' hu'
    refine Q5 (ih v hv n b' u' ([] ++ w ++ [i]) hb (by omega) (by omega) (by simp; omega)) fun r hr => ?_
    refine And.intro (fun hne => .inr ⟨_, rfl, hne, by omega⟩) (fun he => ?_)
    refine ih2 _ ⟨by omega, p ++ [v], by rw [hp]; simp, fun x hx => ?_⟩
    rcases List.mem_append.1 hx with hx | hx
    ·exact hvp x hx
    ·rw [List.mem_singleton] at hx
     subst hx
     have : x = .mk x.f := (Q9.mk_f x).symm
     rw [this]
     exact .mk _ hc.1 hc.2 (hr.2 (by simpa using he))
   refine And.intro (fun hop => ?_) (fun hop => ?_)
   ·refine And.intro (fun _ => ?_) (fun h => absurd (by omega) h)
    refine And.intro (fun _ => ?_) (fun h => absurd (by simp; omega) h)
    refine And.intro (fun _ => ?_) (fun h => absurd (by omega) h)
    refine And.intro (fun _ => ?_) (fun h => absurd (by simp; omega) h)
    have := key ([] ++ b ++ [Qd.mk v.f.fName v.f.fMany]) ([] ++ a ++ [v.f.fName]) (by simp) (by simp)
    simp only [hix, hw, Z1]
    simpa using this
   ·have := key b a (by omega) (by omega)
    simp only [hix, hw, Z1]
    simpa using this
 rw [K2]
 simp only [zz, ↓reduceIte]
 refine Q5 L fun r hr => ?_
 rcases hr with ⟨p, rfl, h1, h2⟩ | ⟨p, rfl, h1, h2⟩
 ·exact Z1.2 ⟨h1, fun _ => h2⟩
 ·exact Z1.2 ⟨h2, fun h => absurd h h1⟩
theorem R7 (n : Qh) (h : JI n ≤ 1048576) : wp (Dd n) (fun r => r.2 = 0 → (∀ a ∈ n.fBody, vS a) ∧ dpL n.fBody ≤ 40) := by
 have hn : JI n = 1 + wSum wBuf n.fBufs + wSum QA n.fBody := rfl
 have hB : wSum wBuf n.fBufs ≤ 1048576 := by omega
 have hS : wSum QA n.fBody ≤ 1048576 := by omega
 obtain ⟨b1, b2⟩ := He hB
 unfold Dd
 rw [Ab _ hS 41 (by omega) (by omega)]
 simp only [zz, ↓reduceIte]
 refine And.intro (fun _ h => by cases h) (fun hd => ?_)
 refine Q5 (Ph _ hS _) fun k _ => ?_
 have rest : wp (DL n) (fun a => (¬a = 0 → (a = 0 → (∀ a ∈ n.fBody, vS a) ∧ dpL n.fBody ≤ 40)) ∧ (a = 0 → wp (K2 n [] [] n.fBody []) (fun a => a.fE = 0 → (∀ a ∈ n.fBody, vS a) ∧ dpL n.fBody ≤ 40))) := by
  refine Q5 (Pf _ hB) fun c _ => And.intro (fun h1 h2 => absurd h2 h1) (fun _ => ?_)
  refine Q5 (Pe _ hS n [] [] [] b1 (by simp; omega) (by simp; omega) (by simp; omega)) fun r hr h0 => ⟨hr.2 h0, by omega⟩
 repeat' (first | exact trivial | assumption | (intro _) | (refine And.intro ?_ ?_) | ((simpa using rest)) | ((intro h; cases h)) | (refine Qg (by omega) (by omega) fun _ _ => ?_) | (simp only [zz, ↓reduceIte]) | (split) | omega | (exfalso; simp only [zl] at *; omega) | (simp_all; done))
end Go.Proofs.YtokfigmmegifeaaGreat
end
section
namespace Go.Proofs.YtokfigmmegifeaaGreat
open Go HY
set_option linter.unusedVariables false
set_option linter.unusedSimpArgs false
theorem pow2 : ∀ k, k ≤ 64 → 1 ≤ (2 : Int) ^ k ∧ (k ≤ 30 → (2 : Int) ^ k ≤ 1073741824) := by decide
theorem Lt {n : Int} (h : 0 ≤ n ∧ n ≤ 18446744073709551615) : w6 n = n := by unfold w6; rw [IntKind.wrap_u64]; omega
def okT (t : Qi) : Prop := t.fKind = 2 → 2 ≤ t.fBits ∧ t.fBits ≤ 31 ∧ 0 ≤ t.fFrac ∧ t.fFrac ≤ 30
theorem RW (t : Qi) : wp (Xv t) (fun r => r = true → okT t) := IR t
theorem DR (t : Qi) (h : 0 ≤ t.fFrac ∧ t.fFrac ≤ 30) : wp (Uv t) (fun r => 1 ≤ r ∧ r ≤ 1073741824) := by
 unfold Uv
 have hu : w6 t.fFrac = t.fFrac := Lt (by omega)
 rw [hu, if_pos h.1]
 have hk : min t.fFrac.toNat 64 ≤ 30 := by omega
 obtain ⟨p1, p2⟩ := pow2 (min t.fFrac.toNat 64) (by omega)
 have p2 := p2 hk
 rw [QJ (by omega)]
 exact Z1.2 (by omega)
theorem Fv (F : Int → Int → Option Int) (hF : ∀ a b, F a b = if b != 0 then if b ≠ 0 then (some (a.tmod b : Int) >>= fun v => F b v) else none else some a) : ∀ (n : Nat) (a b : Int), b.natAbs < n → 0 ≤ a → 0 ≤ b → wp (F a b) (fun r => 0 ≤ r ∧ (a ≠ 0 ∨ b ≠ 0 → 1 ≤ r) ∧ r ∣ a ∧ r ∣ b)
 | 0, _, _, h, _, _ => by omega
 | n + 1, a, b, h, ha, hb => by
  rw [hF]
  by_cases h0 : b = 0
  ·subst h0
   simp only [bne_self_eq_false, Bool.false_eq_true, if_false]
   exact Z1.2 ⟨ha, by omega, ⟨1, by omega⟩, ⟨0, by omega⟩⟩
  ·have h2 : (a.tmod b).natAbs < b.natAbs := by rw [Int.natAbs_tmod]; exact Nat.mod_lt _ (by omega)
   have h3 : 0 ≤ a.tmod b := Int.tmod_nonneg _ ha
   rw [if_pos (by simpa using h0), if_pos h0]
   rw [OT, Z1]
   refine Q5 (Fv F hF n b (a.tmod b) (by omega) hb h3) fun r ⟨r0, r1, r2, r3⟩ => ⟨r0, fun _ => r1 (.inl h0), ?_, r2⟩
   have e := Int.mul_tdiv_add_tmod a b
   rw [← e]
   exact Int.dvd_add (Int.dvd_trans r2 ⟨_, rfl⟩) r3
theorem O8 (a b : Int) (ha : 0 ≤ a) (hb : 0 ≤ b) : wp (WP a b) (fun r => 0 ≤ r ∧ (a ≠ 0 ∨ b ≠ 0 → 1 ≤ r) ∧ r ∣ a ∧ r ∣ b) := by
 unfold WP
 simp only [zz, ↓reduceIte]
 exact Fv Vw (fun a b => by rw [Vw]) (b.natAbs + 1) a b (by omega) ha hb
theorem div_le {a g : Int} (ha : 0 ≤ a) (hg : 1 ≤ g) : 0 ≤ a.tdiv g ∧ a.tdiv g ≤ a := ⟨Int.tdiv_nonneg ha (by omega), Int.tdiv_le_self _ ha⟩
theorem div_pos {a g : Int} (ha : 1 ≤ a) (hg : 1 ≤ g) (hd : g ∣ a) : 1 ≤ a.tdiv g := by
 obtain ⟨c, rfl⟩ := hd
 rw [Int.mul_tdiv_cancel_left _ (by omega)]
 rcases Int.lt_or_le 0 c with h | h
 ·omega
 ·have : g * c ≤ 0 := Int.mul_nonpos_of_nonneg_of_nonpos (by omega) h
  omega
theorem P7 (s : Bool) (a b : Int) (ha : 0 ≤ a ∧ a ≤ 18446744073709551615) (hb : 1 ≤ b ∧ b ≤ 18446744073709551615) : wp (CW s a b) (fun r => a ≤ 2147483647 → b ≤ 2147483647 → 1 ≤ r.1.fD) := by
 unfold CW
 simp only [zz, ↓reduceIte]
 refine Q5 (O8 a b ha.1 (by omega)) fun g ⟨g0, g1, g2, g3⟩ => ?_
 have g1 := g1 (.inr (by omega))
 obtain ⟨d1, d2⟩ := div_le ha.1 g1
 obtain ⟨d3, d4⟩ := div_le (show 0 ≤ b by omega) g1
 have d5 := div_pos hb.1 g1 g3
 rw [Lt (by omega), Lt (by omega)]
 have w2 : b ≤ 2147483647 → wr (b.tdiv g) = b.tdiv g := fun h => QJ (by omega)
 repeat' (first | exact trivial | assumption | (intro _) | (refine And.intro ?_ ?_) | ((intro h1 h2; (try rw [w2 h2]); omega)) | (omega) | (refine Qg (by omega) (by omega) fun _ _ => ?_) | (simp only [zz, ↓reduceIte]) | (split) | omega | (exfalso; simp only [zl] at *; omega) | (simp_all; done))
theorem IT (x : Int) (h : -9223372036854775808 ≤ x ∧ x ≤ 9223372036854775807) : DI x = some (if x < 0 then -x else x) := by
 unfold DI
 split
 ·rw [QJ (n := x + 1) (by omega), QJ (n := 0 - (x + 1)) (by omega), Lt (n := 0 - (x + 1)) (by omega), Lt (by omega)]
  congr 1; omega
 ·rw [Lt (by omega)]
theorem Ct (a b : Int) (ha : -9223372036854775808 ≤ a ∧ a ≤ 9223372036854775807) (hb : -9223372036854775808 ≤ b ∧ b ≤ 9223372036854775807) : wp (Ub a b) (fun r => 1 ≤ b → b ≤ 2147483647 → -2147483647 ≤ a → a ≤ 2147483647 → 1 ≤ r.1.fD) := by
 unfold Ub
 rw [IT a ha, IT b hb]
 simp only [zz, ↓reduceIte]
 refine And.intro (fun h1 h2 => by omega) (fun h1 => ?_)
 refine Q5 (P7 _ _ _ (by split <;> omega) (by split <;> omega)) fun r hr h2 h3 h4 h5 => hr (by split <;> omega) (by split <;> omega)
theorem Cs (x0 : Qi) (x1 : gVal) (hv : okT x0) : wp (Ka x0 x1) (fun r => r = true → 1 ≤ x1.fD ∧ x1.fD ≤ 2147483647 ∧ -2147483647 ≤ x1.fN ∧ x1.fN ≤ 2147483647) := by
 have hk : x0.fKind = 2 → 0 ≤ wr (x0.fBits - 1) ∧ 1 ≤ wr (1 * 2 ^ min (wr (x0.fBits - 1)).toNat 64) ∧ wr (1 * 2 ^ min (wr (x0.fBits - 1)).toNat 64) ≤ 1073741824 := fun h => by
  have := hv h
  rw [QJ (n := x0.fBits - 1) (by omega)]
  obtain ⟨p1, p2⟩ := pow2 (min (x0.fBits - 1).toNat 64) (by omega)
  have p2 := p2 (by omega)
  rw [QJ (by omega)]
  omega
 unfold Ka
 simp only [zz, ↓reduceIte]
 refine And.intro (fun h2 => ?_) (fun h2 => ?_)
 ·obtain ⟨k1, k2, k3⟩ := hk h2
  refine And.intro (fun _ => ?_) (fun h => absurd k1 h)
  rw [QJ (n := 0 - wr (1 * 2 ^ min (wr (x0.fBits - 1)).toNat 64)) (by omega)]
  repeat' (first | exact trivial | assumption | (intro _) | (refine And.intro ?_ ?_) | ((intros; simp_all; done)) | (grind) | (refine Qg (by omega) (by omega) fun _ _ => ?_) | (simp only [zz, ↓reduceIte]) | (split) | omega | (exfalso; simp only [zl] at *; omega) | (simp_all; done))
 ·repeat' (first | exact trivial | assumption | (intro _) | (refine And.intro ?_ ?_) | (refine Q5 (RY _ _) fun _ _ => ?_) | (grind) | (refine Qg (by omega) (by omega) fun _ _ => ?_) | (simp only [zz, ↓reduceIte]) | (split) | omega | (exfalso; simp only [zl] at *; omega) | (simp_all; done))
theorem Ai (x0 : Qi) (x1 : gVal) (hv : okT x0) (h1 : 1 ≤ x1.fD ∧ x1.fD ≤ 2147483647 ∧ -2147483647 ≤ x1.fN ∧ x1.fN ≤ 2147483647) : wp (Cy x0 x1) (fun r => 1 ≤ r.fD) := by
 unfold Cy
 simp only [zz, ↓reduceIte]
 refine And.intro (fun h2 => ?_) (fun h2 => by omega)
 refine Q5 (DR x0 (by have := hv h2; omega)) fun s hs => ?_
 exact Q5 (Ct _ _ (by omega) (by omega)) fun r hr => hr (by omega) (by omega) (by omega) (by omega)
theorem Dx (a b : Int) (h : b ≠ 0) : wp (JM a b) (fun _ => True) := by
 unfold JM
 rw [if_pos h]
 repeat' (first | exact trivial | assumption | (intro _) | (refine And.intro ?_ ?_) | (refine Qg (by omega) (by omega) fun _ _ => ?_) | (simp only [zz, ↓reduceIte]) | (split) | omega | (exfalso; simp only [zl] at *; omega) | (simp_all; done))
theorem CL (a b c : Int) (h : b ≠ 0) : wp (UN a b c) (fun _ => True) := by
 unfold UN
 repeat' (first | exact trivial | assumption | (intro _) | (refine And.intro ?_ ?_) | (refine Q5 (Dx _ _ h) fun _ _ => ?_) | (refine Qg (by omega) (by omega) fun _ _ => ?_) | (simp only [zz, ↓reduceIte]) | (split) | omega | (exfalso; simp only [zl] at *; omega) | (simp_all; done))
theorem Em (x0 : Qi) (a : Int) (h : 2 ≤ x0.fBits ∧ x0.fBits ≤ 31) : wp (VW x0 a) (fun _ => True) := by
 unfold VW
 rw [QJ (n := x0.fBits - 1) (by omega), Lt (n := x0.fBits - 1) (by omega)]
 obtain ⟨p1, p2⟩ := pow2 (min (x0.fBits - 1).toNat 64) (by omega)
 have p2 := p2 (by omega)
 rw [QJ (n := 1 * 2 ^ min (x0.fBits - 1).toNat 64) (by omega)]
 have hne : wr (2 * (1 * 2 ^ min (x0.fBits - 1).toNat 64)) ≠ 0 := by rw [QJ (by omega)]; omega
 repeat' (first | exact trivial | assumption | (intro _) | (refine And.intro ?_ ?_) | (refine Q5 (Dx _ _ hne) fun _ _ => ?_) | (refine Qg (by omega) (by omega) fun _ _ => ?_) | (simp only [zz, ↓reduceIte]) | (split) | omega | (exfalso; simp only [zl] at *; omega) | (simp_all; done))
theorem P8 (x0 x1 : Qi) (x2 : gVal) : wp (CX x0 x1 x2) (fun _ => True) := by
 unfold CX
 simp only [zz, ↓reduceIte]
 refine Q5 (RW x0) fun a ha h1 => Q5 (RW x1) fun b hb h2 => Q5 (Cs x0 x2 (ha h1)) fun c hc h3 => ?_
 refine Q5 (Ai x0 x2 (ha h1) (hc h3)) fun d hd => And.intro (fun h4 => ?_) (fun h4 h5 => ?_)
 ·exact Dx _ _ (by omega)
 ·have := hb h2 h5
  refine Q5 (DR x1 (by omega)) fun s hs => Q5 (CL _ _ _ (by omega)) fun r _ => Em x1 r (by omega)
theorem Ag (x0 : Int) (x1 : Int) : wp (UM x0 x1) (fun r => True) := by
 unfold UM
 repeat' (first | exact trivial | assumption | (intro _) | (refine And.intro ?_ ?_) | (refine Qg (by omega) (by omega) fun _ _ => ?_) | (simp only [zz, ↓reduceIte]) | (split) | omega | (exfalso; simp only [zl] at *; omega) | (simp_all; done))
theorem okT1 (a b c d : Int) : okT (Qi.mk 1 a b c d) := fun h => by cases h
theorem UT (x0 : gVal) : wp (ZB x0) (fun r => r = true → 1 ≤ x0.fD ∧ x0.fD ≤ 2147483647 ∧ -2147483647 ≤ x0.fN ∧ x0.fN ≤ 2147483647) := by
 unfold ZB
 repeat' (first | exact trivial | assumption | (intro _) | (refine And.intro ?_ ?_) | (refine Q5 (Cs _ _ (okT1 _ _ _ _)) fun _ _ => ?_) | (refine Qg (by omega) (by omega) fun _ _ => ?_) | (simp only [zz, ↓reduceIte]) | (split) | omega | (exfalso; simp only [zl] at *; omega) | (simp_all; done))
theorem RZ (x0 : gVal) (x1 : gVal) : wp (DB x0 x1) (fun r => True) := by
 unfold DB
 repeat' (first | exact trivial | assumption | (intro _) | (refine And.intro ?_ ?_) | (refine Q5 (UT _) fun _ _ => ?_) | (refine Q5 (Ag _ _) fun _ _ => ?_) | (refine Qg (by omega) (by omega) fun _ _ => ?_) | (simp only [zz, ↓reduceIte]) | (split) | omega | (exfalso; simp only [zl] at *; omega) | (simp_all; done))
theorem Ah (x0 : Qi) (x1 : gVal) : wp (Dp x0 x1) (fun r => True) := by
 unfold Dp
 repeat' (first | exact trivial | assumption | (intro _) | (refine And.intro ?_ ?_) | (refine Q5 (RW _) fun _ _ => ?_) | (refine Q5 (Cs _ _ (by simp_all)) fun _ _ => ?_) | (refine Qg (by omega) (by omega) fun _ _ => ?_) | (simp only [zz, ↓reduceIte]) | (split) | omega | (exfalso; simp only [zl] at *; omega) | (simp_all; done))
theorem Wl (x0 : Qi) (x1 x2 : gVal) : wp (G5 x0 x1 x2) (fun _ => True) := by
 unfold G5
 repeat' (first | exact trivial | assumption | (intro _) | (refine And.intro ?_ ?_) | (refine Q5 (Ah _ _) fun _ _ => ?_) | (refine Q5 (RZ _ _) fun _ _ => ?_) | (refine Qg (by omega) (by omega) fun _ _ => ?_) | (simp only [zz, ↓reduceIte]) | (split) | omega | (exfalso; simp only [zl] at *; omega) | (simp_all; done))
theorem wrapNe {n : Int} (h : n ≠ 0) (h1 : -2147483648 ≤ n ∧ n ≤ 2147483648) : wr (0 - n) ≠ 0 := by rw [QJ (by omega)]; omega
theorem En (x0 : Int) (x1 : Qi) (x2 x3 : Int) (h : 2 ≤ x1.fBits ∧ x1.fBits ≤ 31 ∧ 0 ≤ x1.fFrac ∧ x1.fFrac ≤ 30) (h3 : -2147483647 ≤ x3 ∧ x3 ≤ 2147483647 ∨ x0 = 8) : wp (WQ x0 x1 x2 x3) (fun _ => True) := by
 have hf := fun a => Em x1 a ⟨h.1, h.2.1⟩
 unfold WQ
 simp only [zz, ↓reduceIte]
 refine And.intro (fun _ => hf _) (fun _ => And.intro (fun _ => hf _) (fun _ => And.intro (fun _ => ?_) (fun _ => And.intro (fun _ => hf _) (fun h8 => ?_))))
 ·exact Q5 (DR x1 (by omega)) fun s hs => Q5 (CL _ _ _ (by omega)) fun r _ => hf r
 ·intro h0
  refine And.intro (fun hn => ?_) (fun hn => ?_)
  ·refine Q5 (DR x1 (by omega)) fun s hs => Q5 (CL _ _ _ (wrapNe (by omega) (by omega))) fun r _ => hf r
  ·refine Q5 (DR x1 (by omega)) fun s hs => Q5 (CL _ _ _ (by omega)) fun r _ => hf r
theorem LR (x0 : Int) (x1 x2 : Int) (h3 : -2147483647 ≤ x2 ∧ x2 ≤ 2147483647 ∨ x0 = 8) : wp (Cz x0 x1 x2) (fun _ => True) := by
 have hw : x2 ≠ 0 → x0 = 7 → wr (0 - x2) ≠ 0 := fun h h7 => wrapNe h (by omega)
 unfold Cz
 repeat' (first | exact trivial | assumption | (intro _) | (refine And.intro ?_ ?_) | (refine Q5 (Dx _ _ (by simp_all; done)) fun _ _ => ?_) | (refine Q5 (Dx _ _ (by omega)) fun _ _ => ?_) | (refine Qg (by omega) (by omega) fun _ _ => ?_) | (simp only [zz, ↓reduceIte]) | (split) | omega | (exfalso; simp only [zl] at *; omega) | (simp_all; done))
theorem Na (n : Int) : -9223372036854775808 ≤ wr n ∧ wr n ≤ 9223372036854775807 := wrapR n
theorem Eh (x0 : gVal) (x1 : gVal) : wp (WK x0 x1) (fun r => True) := by
 unfold WK
 repeat' (first | exact trivial | assumption | (intro _) | (refine And.intro ?_ ?_) | (refine Q5 (UT _) fun _ _ => ?_) | (refine Q5 (Ct _ _ (Na _) (Na _)) fun _ _ => ?_) | (refine Qg (by omega) (by omega) fun _ _ => ?_) | (simp only [zz, ↓reduceIte]) | (split) | omega | (exfalso; simp only [zl] at *; omega) | (simp_all; done))
theorem El (x0 : gVal) (x1 : gVal) : wp (WO x0 x1) (fun r => True) := by
 unfold WO
 repeat' (first | exact trivial | assumption | (intro _) | (refine And.intro ?_ ?_) | (refine Q5 (UT _) fun _ _ => ?_) | (refine Q5 (Ct _ _ (Na _) (Na _)) fun _ _ => ?_) | (refine Qg (by omega) (by omega) fun _ _ => ?_) | (simp only [zz, ↓reduceIte]) | (split) | omega | (exfalso; simp only [zl] at *; omega) | (simp_all; done))
theorem Ej (x0 : gVal) (x1 : gVal) : wp (WM x0 x1) (fun r => True) := by
 unfold WM
 repeat' (first | exact trivial | assumption | (intro _) | (refine And.intro ?_ ?_) | (refine Q5 (UT _) fun _ _ => ?_) | (refine Q5 (Ct _ _ (Na _) (Na _)) fun _ _ => ?_) | (refine Qg (by omega) (by omega) fun _ _ => ?_) | (simp only [zz, ↓reduceIte]) | (split) | omega | (exfalso; simp only [zl] at *; omega) | (simp_all; done))
theorem Ei (x0 : gVal) (x1 : gVal) : wp (WL x0 x1) (fun r => True) := by
 unfold WL
 repeat' (first | exact trivial | assumption | (intro _) | (refine And.intro ?_ ?_) | (refine Q5 (UT _) fun _ _ => ?_) | (refine Q5 (Ct _ _ (Na _) (Na _)) fun _ _ => ?_) | (refine Qg (by omega) (by omega) fun _ _ => ?_) | (simp only [zz, ↓reduceIte]) | (split) | omega | (exfalso; simp only [zl] at *; omega) | (simp_all; done))
theorem Ek (x0 : gVal) : wp (WN x0) (fun r => True) := by
 unfold WN
 repeat' (first | exact trivial | assumption | (intro _) | (refine And.intro ?_ ?_) | (refine Q5 (UT _) fun _ _ => ?_) | (refine Qg (by omega) (by omega) fun _ _ => ?_) | (simp only [zz, ↓reduceIte]) | (split) | omega | (exfalso; simp only [zl] at *; omega) | (simp_all; done))
theorem LQ (x0 : Int) (x1 : Qi) (x2 x3 : gVal) : wp (Cx x0 x1 x2 x3) (fun _ => True) := by
 unfold Cx
 simp only [zz, ↓reduceIte]
 intro _ _
 refine Q5 (RW x1) fun a ha h1 => ?_
 refine Q5 (Cs x1 x2 (ha h1)) fun b hb h2 => ?_
 have hb := hb h2
 refine And.intro (fun h8 => Q5 (Cs x1 x3 (ha h1)) fun c hc h3 => ?_) (fun h8 => ?_)
 ·have hc := hc h3
  repeat' (first | exact trivial | assumption | (intro _) | (refine And.intro ?_ ?_) | (refine Q5 (Wl _ _ _) fun _ _ => ?_) | (refine Q5 (En _ _ _ _ (ha h1 (by assumption)) (by omega)) fun _ _ => ?_) | (refine Q5 (LR _ _ _ (by omega)) fun _ _ => ?_) | (refine Q5 (Eh _ _) fun _ _ => ?_) | (refine Q5 (El _ _) fun _ _ => ?_) | (refine Q5 (Ej _ _) fun _ _ => ?_) | (refine Q5 (Ei _ _) fun _ _ => ?_) | (refine Q5 (Ek _) fun _ _ => ?_) | (refine Qg (by omega) (by omega) fun _ _ => ?_) | (simp only [zz, ↓reduceIte]) | (split) | omega | (exfalso; simp only [zl] at *; omega) | (simp_all; done))
 ·repeat' (first | exact trivial | assumption | (intro _) | (refine And.intro ?_ ?_) | (refine Q5 (Wl _ _ _) fun _ _ => ?_) | (refine Q5 (En _ _ _ _ (ha h1 (by assumption)) (by omega)) fun _ _ => ?_) | (refine Q5 (LR _ _ _ (by omega)) fun _ _ => ?_) | (refine Q5 (Eh _ _) fun _ _ => ?_) | (refine Q5 (El _ _) fun _ _ => ?_) | (refine Q5 (Ej _ _) fun _ _ => ?_) | (refine Q5 (Ei _ _) fun _ _ => ?_) | (refine Q5 (Ek _) fun _ _ => ?_) | (refine Qg (by omega) (by omega) fun _ _ => ?_) | (simp only [zz, ↓reduceIte]) | (split) | omega | (exfalso; simp only [zl] at *; omega) | (simp_all; done))
theorem M6 (x0 : Int) : wp (KO x0) (fun r => True) := by
 unfold KO
 repeat' (first | exact trivial | assumption | (intro _) | (refine And.intro ?_ ?_) | (refine Qg (by omega) (by omega) fun _ _ => ?_) | (simp only [zz, ↓reduceIte]) | (split) | omega | (exfalso; simp only [zl] at *; omega) | (simp_all; done))
theorem T1 (x0 : Q0) (x2 : Int) : wp (DC x0 x2) (fun r => True) := by
 unfold DC
 repeat' (first | exact trivial | assumption | (intro _) | (refine And.intro ?_ ?_) | (refine Qg (by omega) (by omega) fun _ _ => ?_) | (simp only [zz, ↓reduceIte]) | (split) | omega | (exfalso; simp only [zl] at *; omega) | (simp_all; done))
theorem T2 (x0 : Q0) (x2 : Int) : wp (DD x0 x2) (fun r => True) := by
 unfold DD
 repeat' (first | exact trivial | assumption | (intro _) | (refine And.intro ?_ ?_) | (refine Qg (by omega) (by omega) fun _ _ => ?_) | (simp only [zz, ↓reduceIte]) | (split) | omega | (exfalso; simp only [zl] at *; omega) | (simp_all; done))
theorem T3 (x0 : Q0) (x2 : Int) : wp (DE x0 x2) (fun r => True) := by
 unfold DE
 repeat' (first | exact trivial | assumption | (intro _) | (refine And.intro ?_ ?_) | (refine Qg (by omega) (by omega) fun _ _ => ?_) | (simp only [zz, ↓reduceIte]) | (split) | omega | (exfalso; simp only [zl] at *; omega) | (simp_all; done))
theorem Aj (x : Q0) (k y : Int) (h : k = 0 ∨ k = 1 ∨ k = 2) : wp (V3 x k y) (fun _ => True) := by
 unfold V3
 rcases h with rfl | rfl | rfl
 ·simp only [if_true]; exact T1 _ _
 ·rw [if_neg (by omega)]; simp only [if_true]; exact T2 _ _
 ·rw [if_neg (by omega), if_neg (by omega)]; simp only [if_true]; exact T3 _ _
theorem M5 (x0 : Q0) (x1 : Int) (x2 : Int) : wp (Uw x0 x1 x2) (fun r => True) := by
 unfold Uw
 repeat' (first | exact trivial | assumption | (intro _) | (refine And.intro ?_ ?_) | (refine Q5 (Aj _ _ _ (by omega)) fun _ _ => ?_) | (refine Qg (by omega) (by omega) fun _ _ => ?_) | (simp only [zz, ↓reduceIte]) | (split) | omega | (exfalso; simp only [zl] at *; omega) | (simp_all; done))
theorem Pa (x0 : Q0) (x1 : Q0) : wp (CZ x0 x1) (fun r => True) := by
 unfold CZ
 repeat' (first | exact trivial | assumption | (intro _) | (refine And.intro ?_ ?_) | (refine Qg (by omega) (by omega) fun _ _ => ?_) | (simp only [zz, ↓reduceIte]) | (split) | omega | (exfalso; simp only [zl] at *; omega) | (simp_all; done))
theorem T4 (x0 : List Qd) (x1 : Str) (hl : x0.length ≤ 1048576)  (x6 : Int) (h0 : 0 ≤ x6) (h1 : x6 ≤ (x0.length : Nat)) : wp (Yf x0 x1 x6) (fun r => True) := by
 refine ZR (F := fun x6 => Yf x0 x1 x6) (x0.length) ?_ ?_ x6  h0 h1
 ·skip
  rw [Yf]
  repeat' (first | exact trivial | assumption | (intro _) | (refine And.intro ?_ ?_) | (refine Qg (by omega) (by omega) fun _ _ => ?_) | (simp only [zz, ↓reduceIte]) | (split) | omega | (exfalso; simp only [zl] at *; omega) | (simp_all; done))
 ·intro x6  h0 h1 ih
  rw [Yf]
  have hw := QF h0 h1 (by omega)
  have hw2 := QJ (n := x6 - 1) (by omega)
  repeat' (first | exact trivial | assumption | (intro _) | (refine And.intro ?_ ?_) | (exact ih) | (rw [hw]; exact ih) | (refine Qg (by omega) (by omega) fun _ _ => ?_) | (simp only [zz, ↓reduceIte]) | (split) | omega | (exfalso; simp only [zl] at *; omega) | (simp_all; done))
theorem IU (x0 : List Qd) (x1 : Str) (hl : x0.length ≤ 1048576) : wp (CY x0 x1) (fun r => True) := by
 unfold CY
 repeat' (first | exact trivial | assumption | (intro _) | (refine And.intro ?_ ?_) | (exact Q5 (T4 _ _ hl 0 (by omega) (by omega)) fun r _ => by cases r <;> exact Z1.2 trivial) | (refine Qg (by omega) (by omega) fun _ _ => ?_) | (simp only [zz, ↓reduceIte]) | (split) | omega | (exfalso; simp only [zl] at *; omega) | (simp_all; done))
theorem R2 (x0 : gLin) (hx : wLin x0 ≤ 1048576) : wp (Db x0) (fun r => True) := by
 have hx1 := Gf x0
 unfold Db
 repeat' (first | exact trivial | assumption | (intro _) | (refine And.intro ?_ ?_) | (refine Q5 (JG _ hx) fun _ _ => ?_) | (refine Qg (by omega) (by omega) fun _ _ => ?_) | (simp only [zz, ↓reduceIte]) | (split) | omega | (exfalso; simp only [zl] at *; omega) | (simp_all; done))
theorem Ak (x y : Q0) : wp (Dq x y) (fun _ => True) := by
 unfold Dq
 simp only [zz, ↓reduceIte]
theorem T0 (x1 : List Qd) (x2 : gLin) (hx : wLin x2 ≤ 1048576) (hl : x1.length ≤ 1048576) (x6 : Q0) (x7 : Q0) (x8 : Int) (h0 : 0 ≤ x8) (h1 : x8 ≤ (x2.fL.length : Nat)) : wp (Xw x1 x2 x6 x7 x8) (fun r => True) := by
 have hx1 := Gf x2
 refine loopUp2 (F := fun x6 x7 x8 => Xw x1 x2 x6 x7 x8) (x2.fL.length) ?_ ?_ x8 x6 x7 h0 h1
 ·intro x6 x7
  rw [Xw]
  repeat' (first | exact trivial | assumption | (intro _) | (refine And.intro ?_ ?_) | (refine Q5 (IU _ _ hl) fun _ _ => ?_) | (refine Q5 (M6 _) fun _ _ => ?_) | (refine Q5 (M5 _ _ _) fun _ _ => ?_) | (refine Qg (by omega) (by omega) fun _ _ => ?_) | (simp only [zz, ↓reduceIte]) | (split) | omega | (exfalso; simp only [zl] at *; omega) | (simp_all; done))
 ·intro x8 x6 x7 h0 h1 ih
  rw [Xw]
  have hw := QF h0 h1 (by omega)
  have hw2 := QJ (n := x8 - 1) (by omega)
  repeat' (first | exact trivial | assumption | (intro _) | (refine And.intro ?_ ?_) | (exact ih _ _) | (rw [hw]; exact ih _ _) | (refine Q5 (IU _ _ hl) fun _ _ => ?_) | (refine Q5 (M6 _) fun _ _ => ?_) | (refine Q5 (M5 _ _ _) fun _ _ => ?_) | (refine Qg (by omega) (by omega) fun _ _ => ?_) | (simp only [zz, ↓reduceIte]) | (split) | omega | (exfalso; simp only [zl] at *; omega) | (simp_all; done))
theorem P9 (x0 : gLin) (x1 : List Qd) (hx : wLin x0 ≤ 1048576) (hl : x1.length ≤ 1048576) : wp (GM x0 x1) (fun _ => True) := by
 unfold GM
 repeat' (first | exact trivial | assumption | (intro _) | (refine And.intro ?_ ?_) | (refine Q5 (R2 _ hx) fun _ _ => ?_) | (refine Q5 (M6 _) fun _ _ => ?_) | (refine Q5 (M5 _ _ _) fun _ _ => ?_) | (refine Q5 (T0 _ _ hx hl _ _ 0 (by omega) (by omega)) fun _ _ => ?_) | (refine Q5 (Pa _ _) fun _ _ => ?_) | (refine Q5 (Ak _ _) fun _ _ => ?_) | (refine Qg (by omega) (by omega) fun _ _ => ?_) | (simp only [zz, ↓reduceIte]) | (split) | omega | (exfalso; simp only [zl] at *; omega) | (simp_all; done))
end Go.Proofs.YtokfigmmegifeaaGreat
end
section
namespace Go.Proofs.YtokfigmmegifeaaGreat
open Go HY
set_option linter.unusedVariables false
set_option linter.unusedSimpArgs false
section
variable {Q : Qb → Prop} {x : Q2} (h : okC x)
include h
theorem S3 (k : Int) (n : Nat) (e : k = n) (hk : n < x.fArgs.length) (hq : ∀ a ∈ x.fArgs, isC a.f = J9 x.fOp k → Q a) : wp (ix x.fArgs k) Q := by
 subst e
 refine Lv.2 ⟨by omega, by omega, hq _ (List.getElem_mem _) ?_⟩
 exact h.ok n _ (List.getElem?_eq_getElem hk)
theorem Hv (hk : 0 < x.fArgs.length) (hq : ∀ a ∈ x.fArgs, isC a.f = J9 x.fOp 0 → Q a) : wp (ix x.fArgs 0) Q := S3 h 0 0 rfl hk hq
theorem Hw (hk : 1 < x.fArgs.length) (hq : ∀ a ∈ x.fArgs, isC a.f = J9 x.fOp 1 → Q a) : wp (ix x.fArgs 1) Q := S3 h 1 1 rfl hk hq
theorem wp_arg2 (hk : 2 < x.fArgs.length) (hq : ∀ a ∈ x.fArgs, isC a.f = J9 x.fOp 2 → Q a) : wp (ix x.fArgs 2) Q := S3 h 2 2 rfl hk hq
end
theorem T6 (s : Str) : wp (GO [] s) (fun r => r.2 = 9) := by
 unfold GO NN
 rw [Jz]
 simp only [zz, ↓reduceIte]
 simp [Z1]
theorem At (env : List Qd) (x : Q2) (hx : Qo x ≤ 1048576) (hl : env.length ≤ 1048576) : wp (W3 [] env x) (fun _ => True) := by
 obtain ⟨e1, e2, e3, e4, e5, e6, e7⟩ := Zp hx
 unfold W3
 simp only [zz, ↓reduceIte]
 refine fun _ => And.intro (fun _ => ?_) (fun _ => ?_)
 ·repeat' (first | exact trivial | assumption | (intro _) | (refine And.intro ?_ ?_) | (refine Q5 (P9 _ _ e2 hl) fun _ _ => ?_) | (refine Qg (by omega) (by omega) fun _ _ => ?_) | (simp only [zz, ↓reduceIte]) | (split) | omega | (exfalso; simp only [zl] at *; omega) | (simp_all; done))
 ·exact Q5 (T6 _) fun r hr h => by rw [hr] at h; exact absurd (by omega) h
theorem TY (env : List Qd) (hl : env.length ≤ 1048576) : ∀ e : Qb, Qo e.f ≤ 1048576 → vE e → (isC e.f = false → wp (Xn [] env e.f) (fun _ => True)) ∧ (isC e.f = true → wp (Xm [] env e.f) (fun _ => True)) := Qb.ind fun x ih h hv => by
 simp only [Qb.f_mk] at h ⊢
 obtain ⟨e1, e2, e3, e4, e5, e6, e7⟩ := Zp h
 cases hv with
 | mk _ v1 v2 v3 v4 =>
 have iv : ∀ a ∈ x.fArgs, isC a.f = false → wp (Xn [] env a.f) (fun _ => True) := fun a ha => (ih a ha (e7 a ha) (v4 a ha)).1
 have ic : ∀ a ∈ x.fArgs, isC a.f = true → wp (Xm [] env a.f) (fun _ => True) := fun a ha => (ih a ha (e7 a ha) (v4 a ha)).2
 constructor
 ·intro hc
  have hnc : x.fOp < 13 ∨ 18 < x.fOp := by unfold isC at hc; simp at hc; omega
  rw [Xn]
  simp only [zz, ↓reduceIte]
  refine And.intro (fun _ => At env x h hl) (fun h3 => And.intro (fun h11 => ?_) (fun h11 => ?_))
  ·have hn : x.fArgs.length = 3 := by rw [h11] at v1; simp [CK] at v1; omega
   refine Hv v2 (by omega) fun a ha hca => Q5 (ic a ha (by rw [hca, h11]; rfl)) fun r _ => fun _ => And.intro (fun _ => ?_) (fun _ => ?_)
   ·exact Hw v2 (by omega) fun b hb hcb => iv b hb (by rw [hcb, h11]; rfl)
   ·exact wp_arg2 v2 (by omega) fun b hb hcb => iv b hb (by rw [hcb, h11]; rfl)
  ·have hw : ∀ i, J9 x.fOp i = false := fun i => by unfold J9; simp; omega
   have hn : 1 ≤ x.fArgs.length ∧ (x.fOp ≠ 8 → x.fOp ≠ 12 → x.fArgs.length = 2) := by
    simp only [CK] at v1
    repeat' split at v1
    all_goals omega
   refine Hv v2 (by omega) fun a ha hca => Q5 (iv a ha (by rw [hca, hw])) fun r _ => fun _ => And.intro (fun _ => ?_) (fun h12 => ?_)
   ·repeat' (first | exact trivial | assumption | (intro _) | (refine And.intro ?_ ?_) | (refine Q5 (P8 _ _ _) fun _ _ => ?_) | (refine Qg (by omega) (by omega) fun _ _ => ?_) | (simp only [zz, ↓reduceIte]) | (split) | omega | (exfalso; simp only [zl] at *; omega) | (simp_all; done))
   ·refine And.intro (fun h8 => ?_) (fun h8 => ?_)
    ·refine Hw v2 (by have := hn.2 (by omega) h12; omega) fun b hb hcb => Q5 (iv b hb (by rw [hcb, hw])) fun r _ => ?_
     repeat' (first | exact trivial | assumption | (intro _) | (refine And.intro ?_ ?_) | (refine Q5 (LQ _ _ _ _) fun _ _ => ?_) | (refine Qg (by omega) (by omega) fun _ _ => ?_) | (simp only [zz, ↓reduceIte]) | (split) | omega | (exfalso; simp only [zl] at *; omega) | (simp_all; done))
    ·repeat' (first | exact trivial | assumption | (intro _) | (refine And.intro ?_ ?_) | (refine Q5 (LQ _ _ _ _) fun _ _ => ?_) | (refine Qg (by omega) (by omega) fun _ _ => ?_) | (simp only [zz, ↓reduceIte]) | (split) | omega | (exfalso; simp only [zl] at *; omega) | (simp_all; done))
 ·intro hc
  have hcc : 13 ≤ x.fOp ∧ x.fOp ≤ 18 := by unfold isC at hc; simpa using hc
  rw [Xm]
  simp only [zz, ↓reduceIte]
  refine And.intro (fun h16 => ?_) (fun h16 => ?_)
  ·have hw : ∀ i, J9 x.fOp i = true := fun i => by unfold J9; simp; omega
   have hn : 1 ≤ x.fArgs.length ∧ (x.fOp ≠ 18 → x.fArgs.length = 2) := by
    simp only [CK] at v1
    repeat' split at v1
    all_goals omega
   refine Hv v2 (by omega) fun a ha hca => Q5 (ic a ha (by rw [hca, hw])) fun r _ => ?_
   repeat' (first | exact trivial | assumption | (intro _) | (refine And.intro ?_ ?_) | ((refine Hw v2 (by have := hn.2 (by assumption); omega) fun b hb hcb => Q5 (ic b hb (by rw [hcb, hw])) fun r _ => ?_)) | (refine Qg (by omega) (by omega) fun _ _ => ?_) | (simp only [zz, ↓reduceIte]) | (split) | omega | (exfalso; simp only [zl] at *; omega) | (simp_all; done))
  ·have hw : ∀ i, J9 x.fOp i = false := fun i => by unfold J9; simp; omega
   have hn : x.fArgs.length = 2 := by
    simp only [CK] at v1
    repeat' split at v1
    all_goals omega
   refine Hv v2 (by omega) fun a ha hca => Q5 (iv a ha (by rw [hca, hw])) fun r _ => fun _ => ?_
   refine Hw v2 (by omega) fun b hb hcb => Q5 (iv b hb (by rw [hcb, hw])) fun r _ => ?_
   repeat' (first | exact trivial | assumption | (intro _) | (refine And.intro ?_ ?_) | (refine Q5 (Wl _ _ _) fun _ _ => ?_) | (refine Qg (by omega) (by omega) fun _ _ => ?_) | (simp only [zz, ↓reduceIte]) | (split) | omega | (exfalso; simp only [zl] at *; omega) | (simp_all; done))
theorem IW (env : List Qd) (x : Q2) (hx : Qo x ≤ 1048576) (hl : env.length ≤ 1048576) : wp (Gu [] env x) (fun _ => True) := by
 unfold Gu
 simp only [zz, ↓reduceIte]
 refine Q5 (M8 _ hx) fun r hr h0 => Q5 (Uk _) fun c hc hct => ?_
 exact (TY env hl (.mk x) hx (hr (by simpa using h0))).2 (by rw [← hct, hc]; rfl)
theorem T8 : ∀ e : Qb, Qo e.f ≤ 1048576 → wp (Ks e.f) (fun _ => True) := Qb.ind fun x ih h => by
 simp only [Qb.f_mk] at h ⊢
 obtain ⟨e1, e2, e3, e4, e5, e6, e7⟩ := Zp h
 have L : wp (Xi x 0) (fun _ => True) := by
  refine ZR (F := fun i => Xi x i) x.fArgs.length ?_ ?_ 0 (by omega) (by omega)
  ·rw [Xi]; repeat' (first | exact trivial | assumption | (intro _) | (refine And.intro ?_ ?_) | (refine Qg (by omega) (by omega) fun _ _ => ?_) | (simp only [zz, ↓reduceIte]) | (split) | omega | (exfalso; simp only [zl] at *; omega) | (simp_all; done))
  ·intro i h0 h1 ih2
   rw [Xi]
   have hw := QF h0 h1 (by omega)
   repeat' (first | exact trivial | assumption | (intro _) | (refine And.intro ?_ ?_) | (exact ih2) | (rw [hw]; exact ih2) | (refine Q5 (ih _ (by assumption) (e7 _ (by assumption))) fun _ _ => ?_) | (refine Qg (by omega) (by omega) fun _ _ => ?_) | (simp only [zz, ↓reduceIte]) | (split) | omega | (exfalso; simp only [zl] at *; omega) | (simp_all; done))
 rw [Ks]
 repeat' (first | exact trivial | assumption | (intro _) | (refine And.intro ?_ ?_) | (refine Q5 (L) fun _ _ => ?_) | (refine Qg (by omega) (by omega) fun _ _ => ?_) | (simp only [zz, ↓reduceIte]) | (split) | omega | (exfalso; simp only [zl] at *; omega) | (simp_all; done))
theorem T5 (x0 : List Str) (x1 : Str) (hl : x0.length ≤ 1048576)  (x5 : Int) (h0 : 0 ≤ x5) (h1 : x5 ≤ (x0.length : Nat)) : wp (Yg x0 x1 x5) (fun r => 0 ≤ r ∧ r ≤ x0.length) := by
 refine ZR (F := fun x5 => Yg x0 x1 x5) (x0.length) ?_ ?_ x5  h0 h1
 ·skip
  rw [Yg]
  repeat' (first | exact trivial | assumption | (intro _) | (refine And.intro ?_ ?_) | (refine Qg (by omega) (by omega) fun _ _ => ?_) | (simp only [zz, ↓reduceIte]) | (split) | omega | (exfalso; simp only [zl] at *; omega) | (simp_all; done))
 ·intro x5  h0 h1 ih
  rw [Yg]
  have hw := QF h0 h1 (by omega)
  have hw2 := QJ (n := x5 - 1) (by omega)
  repeat' (first | exact trivial | assumption | (intro _) | (refine And.intro ?_ ?_) | (exact ih) | (rw [hw]; exact ih) | (refine Qg (by omega) (by omega) fun _ _ => ?_) | (simp only [zz, ↓reduceIte]) | (split) | omega | (exfalso; simp only [zl] at *; omega) | (simp_all; done))
theorem IV (l : List Str) (s : Str) (hl : l.length ≤ 1048576) : wp (DJ l s) (fun r => r.length ≤ l.length + 1) := by
 unfold DJ
 simp only [zz, ↓reduceIte]
 refine Q5 (T5 l s hl 0 (by omega) (by omega)) fun k hk => ?_
 have hlen : ((List.take k.toNat l).length : Int) = k := by rw [List.length_take]; omega
 repeat' (first | exact trivial | assumption | (intro _) | (refine And.intro ?_ ?_) | ((simp; omega)) | (refine Qg (by omega) (by omega) fun _ _ => ?_) | (simp only [zz, ↓reduceIte]) | (split) | omega | (exfalso; simp only [zl] at *; omega) | (simp_all; done))
end Go.Proofs.YtokfigmmegifeaaGreat
end
section
namespace Go.Proofs.YtokfigmmegifeaaGreat
open Go HY
set_option linter.unusedVariables false
set_option linter.unusedSimpArgs false
def Lh (a : Qb) : Nat := 1 + a.f.fIdx.length
theorem By : ∀ e, wSum Lh (Zj e) ≤ XX e := Qb.ind fun x ih => by
 have h : ∀ l : List Qb, (∀ a ∈ l, wSum Lh (Zj a) ≤ XX a) → wSum Lh (Vk l) ≤ wSum XX l := by
  intro l
  induction l with
  | nil => intro _; simp [Vk, QZ]
  | cons a l ih => intro h; rw [Ud, QI, DU]; have := h a (by simp); have := ih fun b hb => h b (by simp [hb]); omega
 rw [DP, Um, QI]
 have := h _ ih
 unfold Vk at this
 have h2 := Kf (f := wIdx) (l := x.fIdx) NA
 simp only [Qb.f_mk, Qo, Lh]; omega
theorem R3 (l : List Qb) (i : Int) (i0 : 0 ≤ i) (i1 : i < l.length) (out : List Str) (hb : out.length + (l[i.toNat]'(by omega)).f.fIdx.length ≤ 1048576) : wp (X2 out l i 0) (fun r => r.length ≤ out.length + (l[i.toNat]'(by omega)).f.fIdx.length) := by
 have hi : ix l i = some (l[i.toNat]'(by omega)) := by unfold ix; rw [if_pos i0, List.getElem?_eq_getElem]
 refine Cr (F := fun a k => X2 a l i k) (l[i.toNat]'(by omega)).f.fIdx.length (fun k a => (a.length : Int) ≤ out.length + k) ?_ ?_ 0 out (by omega) (by omega) (by omega)
 ·intro a hI
  rw [X2]
  simp only [hi]
  simp only [zz, ↓reduceIte]
  omega
 ·intro k a h0 h1 hI ih
  rw [X2]
  have hw := QF h0 h1 (by omega)
  simp only [hi]
  simp only [zz, ↓reduceIte]
  refine And.intro (fun _ => ?_) (fun h => absurd h1 h)
  refine Qg h0 h1 fun v hv => And.intro (fun _ => Qg h0 h1 fun v2 hv2 => ?_) (fun _ => ?_)
  ·refine Q5 (IV a _ (by omega)) fun r hr => ?_
   rw [hw]; exact ih _ (by omega)
  ·rw [hw]; exact ih _ (by omega)
theorem Am (x : Q2) (hx : Qo x ≤ 1048576) : wp (CB x) (fun r => r.length ≤ 1048576) := by
 have hn := By (.mk x)
 rw [Um] at hn
 simp only [Qb.f_mk] at hn
 have hl := FL x
 have L : wp (X1 [] (Zj (.mk x)) 0) (fun r => r.length ≤ 1048576) := by
  refine UR (F := fun a i => X1 a (Zj (.mk x)) i) (l := Zj (.mk x)) (fun a t => a.length + wSum Lh t ≤ 1048576) ?_ ?_ [] (by simp only [List.length_nil]; omega)
  ·intro a hI
   rw [X1]
   simp only [zz, ↓reduceIte]
   omega
  ·intro i v t a h0 h1 hv hix ⟨p, hp, hpi⟩ hI ih
   rw [X1]
   have hw := QF h0 h1 (by omega)
   have hv2 : (Zj (.mk x))[i.toNat]'(by omega) = v := by
    unfold ix at hix; rw [if_pos h0, List.getElem?_eq_getElem (by omega)] at hix; exact Option.some.inj hix
   rw [QI] at hI
   unfold Lh at hI
   simp only [hix]
   simp only [zz, ↓reduceIte]
   have key : ∀ o : List Str, o.length ≤ a.length + 1 → wp (X2 o (Zj (.mk x)) i 0) (fun r => wp (X1 r (Zj (.mk x)) (wr (i + 1))) (fun r => r.length ≤ 1048576)) := by
    intro o ho
    refine Q5 (R3 (Zj (.mk x)) i h0 h1 o (by rw [hv2]; omega)) fun r hr => ?_
    rw [hw]
    rw [hv2] at hr
    exact ih _ (by unfold Lh; omega)
   refine And.intro (fun _ => And.intro (fun _ => ?_) (fun _ => key a (by omega))) (fun h => absurd h1 h)
   exact Q5 (IV a _ (by omega)) fun r hr => key r hr
 unfold CB
 rw [Ee x hx]
 repeat' (first | exact trivial | assumption | (intro _) | (refine And.intro ?_ ?_) | (refine Q5 (L) fun _ _ => ?_) | (refine Qg (by omega) (by omega) fun _ _ => ?_) | (simp only [zz, ↓reduceIte]) | (split) | omega | (exfalso; simp only [zl] at *; omega) | (simp_all; done))
theorem T9 : ∀ l : List Q9, wSum QA l ≤ 1048576 → ∀ ns : List Str, ns.length ≤ 1048576 → wp (Xz l ns) (fun _ => True) := DM fun l hl ih ns hns => by
 obtain ⟨e1, e2⟩ := C5 hl
 have L : wp (ZU l ns 0) (fun _ => True) := by
  refine ZR (F := fun i => ZU l ns i) l.length ?_ ?_ 0 (by omega) (by omega)
  ·rw [ZU]; repeat' (first | exact trivial | assumption | (intro _) | (refine And.intro ?_ ?_) | (refine Qg (by omega) (by omega) fun _ _ => ?_) | (simp only [zz, ↓reduceIte]) | (split) | omega | (exfalso; simp only [zl] at *; omega) | (simp_all; done))
  ·intro i h0 h1 ih2
   rw [ZU]
   have hw := QF h0 h1 (by omega)
   repeat' (first | exact trivial | assumption | (intro _) | (refine And.intro ?_ ?_) | (exact ih2) | (rw [hw]; exact ih2) | (refine Q5 (ih _ (by assumption) _ hns) fun _ _ => ?_) | (refine Q5 (Lq _ _ hns) fun _ _ => ?_) | (refine Qg (by omega) (by omega) fun _ _ => ?_) | (simp only [zz, ↓reduceIte]) | (split) | omega | (exfalso; simp only [zl] at *; omega) | (simp_all; done))
 rw [Xz]
 repeat' (first | exact trivial | assumption | (intro _) | (refine And.intro ?_ ?_) | (refine Q5 (L) fun _ _ => ?_) | (refine Qg (by omega) (by omega) fun _ _ => ?_) | (simp only [zz, ↓reduceIte]) | (split) | omega | (exfalso; simp only [zl] at *; omega) | (simp_all; done))
theorem IZ : ∀ l : List Q9, wSum QA l ≤ 1048576 → ∀ (out : List (List Int)) (way : List Int), out.length + wSum QA l ≤ 1048576 → way.length + wSum QA l ≤ 1048576 → wp (ZW out l way) (fun r => r.length ≤ out.length + wSum QA l) := DM fun l hl ih out way ho hway => by
 obtain ⟨e1, e2⟩ := C5 hl
 have L : wp (Z9 out l way 0) (fun r => r.length ≤ out.length + wSum QA l) := by
  refine UR (F := fun a i => Z9 a l way i) (l := l) (fun a t => a.length + wSum QA t ≤ out.length + wSum QA l) ?_ ?_ out (by omega)
  ·intro a hI
   rw [Z9]
   simp only [zz, ↓reduceIte]
   omega
  ·intro i v t a h0 h1 hv hix _ hI ih2
   rw [Z9]
   have hw := QF h0 h1 (by omega)
   have hv1 := YI (f := QA) hv
   have hv2 := NI v.f
   rw [YV] at hv1
   rw [QI, YV] at hI
   simp only [hix]
   simp only [zz, ↓reduceIte]
   have key : ∀ o : List (List Int), o.length ≤ a.length + 1 → wp (ZW o v.f.fBody ([] ++ way ++ [i])) (fun r => wp (Z9 r l way (wr (i + 1))) (fun r => r.length ≤ out.length + wSum QA l)) := by
    intro o ho2
    refine Q5 (ih v hv o ([] ++ way ++ [i]) (by omega) (by simp; omega)) fun r hr => ?_
    rw [hw]
    exact ih2 _ (by omega)
   have k1 := key (a ++ [[] ++ way ++ [i]]) (by simp)
   have k2 := key a (by omega)
   repeat' (first | exact trivial | assumption | (intro _) | (refine And.intro ?_ ?_) | (exact k1) | (exact k2) | (simp only [hix]) | (refine Qg (by omega) (by omega) fun _ _ => ?_) | (simp only [zz, ↓reduceIte]) | (split) | omega | (exfalso; simp only [zl] at *; omega) | (simp_all; done))
 rw [ZW]
 repeat' (first | exact trivial | assumption | (intro _) | (refine And.intro ?_ ?_) | (refine Q5 (L) fun _ _ => ?_) | (refine Qg (by omega) (by omega) fun _ _ => ?_) | (simp only [zz, ↓reduceIte]) | (split) | omega | (exfalso; simp only [zl] at *; omega) | (simp_all; done))
theorem TZ (l : List Q9) (hl : wSum QA l ≤ 1048576) : wp (Vx l) (fun _ => True) := by
 unfold Vx
 repeat' (first | exact trivial | assumption | (intro _) | (refine And.intro ?_ ?_) | (refine Q5 (IZ l hl [] [] (by simp; omega) (by simp; omega)) fun _ _ => ?_) | (refine Qg (by omega) (by omega) fun _ _ => ?_) | (simp only [zz, ↓reduceIte]) | (split) | omega | (exfalso; simp only [zl] at *; omega) | (simp_all; done))
theorem Pd (x0 : Int) (x1 : Int) : wp (W1 x0 x1) (fun r => True) := by
 unfold W1
 repeat' (first | exact trivial | assumption | (intro _) | (refine And.intro ?_ ?_) | (refine Qg (by omega) (by omega) fun _ _ => ?_) | (simp only [zz, ↓reduceIte]) | (split) | omega | (exfalso; simp only [zl] at *; omega) | (simp_all; done))
theorem DS (x0 : Int) (x1 : Int) (x2 : Int) : wp (Uz x0 x1 x2) (fun r => True) := by
 unfold Uz
 repeat' (first | exact trivial | assumption | (intro _) | (refine And.intro ?_ ?_) | (refine Q5 (Pd _ _) fun _ _ => ?_) | (refine Qg (by omega) (by omega) fun _ _ => ?_) | (simp only [zz, ↓reduceIte]) | (split) | omega | (exfalso; simp only [zl] at *; omega) | (simp_all; done))
theorem HZ (x1 : Int) (x2 : gLin) (hx : wLin x2 ≤ 1048576)  (x7 : Int) (h0 : 0 ≤ x7) (h1 : x7 ≤ (x2.fL.length : Nat)) : wp (Xh x1 x2 x7) (fun r => True) := by
 have hx1 := Gf x2
 refine ZR (F := fun x7 => Xh x1 x2 x7) (x2.fL.length) ?_ ?_ x7  h0 h1
 ·skip
  rw [Xh]
  repeat' (first | exact trivial | assumption | (intro _) | (refine And.intro ?_ ?_) | (refine Q5 (DS _ _ _) fun _ _ => ?_) | (refine Qg (by omega) (by omega) fun _ _ => ?_) | (simp only [zz, ↓reduceIte]) | (split) | omega | (exfalso; simp only [zl] at *; omega) | (simp_all; done))
 ·intro x7  h0 h1 ih
  rw [Xh]
  have hw := QF h0 h1 (by omega)
  have hw2 := QJ (n := x7 - 1) (by omega)
  repeat' (first | exact trivial | assumption | (intro _) | (refine And.intro ?_ ?_) | (exact ih) | (rw [hw]; exact ih) | (refine Q5 (DS _ _ _) fun _ _ => ?_) | (refine Qg (by omega) (by omega) fun _ _ => ?_) | (simp only [zz, ↓reduceIte]) | (split) | omega | (exfalso; simp only [zl] at *; omega) | (simp_all; done))
theorem TX (x0 : gLin) (x1 : Int) (hx : wLin x0 ≤ 1048576) : wp (GN x0 x1) (fun r => True) := by
 have hx1 := Gf x0
 unfold GN
 repeat' (first | exact trivial | assumption | (intro _) | (refine And.intro ?_ ?_) | (refine Q5 (DS _ _ _) fun _ _ => ?_) | (refine Q5 (HZ _ _ hx 0 (by omega) (by omega)) fun _ _ => ?_) | (refine Qg (by omega) (by omega) fun _ _ => ?_) | (simp only [zz, ↓reduceIte]) | (split) | omega | (exfalso; simp only [zl] at *; omega) | (simp_all; done))
theorem Ac (x : gLin) (hx : wLin x ≤ 1048576) : wp (QQ x 0) (fun r => (r = .inl () ∧ ∀ m ∈ x.fL, m.fBy ≠ 0) ∨ r = .inr false) := by
 have hx1 := Gf x
 refine UR (F := fun (_ : Unit) i => QQ x i) (l := x.fL) (fun _ t => ∃ p, x.fL = p ++ t ∧ ∀ m ∈ p, m.fBy ≠ 0) ?_ ?_ () ⟨[], rfl, by simp⟩
 ·intro _ ⟨p, hp, hm⟩
  rw [QQ]
  simp only [zz, ↓reduceIte]
  rw [hp, List.append_nil]
  exact .inl hm
 ·intro i v t _ h0 h1 hv hix _ ⟨p, hp, hm⟩ ih
  rw [QQ]
  have hw := QF h0 h1 (by omega)
  have hw2 := QJ (n := i - 1) (by omega)
  have hgo : v.fBy ≠ 0 → wp (QQ x (i + 1)) (fun r => (r = .inl () ∧ ∀ m ∈ x.fL, m.fBy ≠ 0) ∨ r = .inr false) := fun hb => ih () ⟨p ++ [v], by rw [hp]; simp, fun m hm2 => by
   rcases List.mem_append.1 hm2 with h | h
   ·exact hm m h
   ·rw [List.mem_singleton] at h; subst h; exact hb⟩
  simp only [hix]
  repeat' (first | exact trivial | assumption | (intro _) | (refine And.intro ?_ ?_) | (refine Q5 (KC _ (LM hx hv)) fun _ _ => ?_) | ((rw [hw]; exact hgo (by assumption))) | (refine Qg (by omega) (by omega) fun _ _ => ?_) | (simp only [zz, ↓reduceIte]) | (split) | omega | (exfalso; simp only [zl] at *; omega) | (simp_all; done))
theorem Bg (x : gLin) (hx : wLin x ≤ 1048576) : wp (ZA x) (fun r => r = true → ∀ m ∈ x.fL, m.fBy ≠ 0) := by
 unfold ZA
 simp only [zz, ↓reduceIte]
 refine Q5 (Ac x hx) fun r hr => ?_
 rcases hr with ⟨rfl, h⟩ | rfl
 ·exact Z1.2 fun _ => h
 ·exact Z1.2 fun h => by cases h
end Go.Proofs.YtokfigmmegifeaaGreat
end
section
namespace Go.Proofs.YtokfigmmegifeaaGreat
open Go HY
set_option linter.unusedVariables false
set_option linter.unusedSimpArgs false
theorem OK (k : Int) (l : List C8) : wLin (gLin.mk k l) = 1 + wSum Kz l := rfl
theorem Q0j (by_ : Int) (a b : gLin) (ha : wLin a ≤ 1048576) (hb : b.fL = []) (hz : ∀ m ∈ a.fL, m.fBy ≠ 0) (c : Bool) (k : Int) : wp (ZQ by_ a b c (gLin.mk k []) 0 0) (fun r => wLin r.2 ≤ wLin a) := by
 have ha1 := Gf a
 refine UR (F := fun (p : Bool × gLin) i => ZQ by_ a b p.1 p.2 i 0) (l := a.fL) (fun p t => p.2.fL.length + t.length ≤ a.fL.length ∧ wLin p.2 + wSum Kz t ≤ wLin a) ?_ ?_ (c, gLin.mk k []) ⟨by simp, by simp [wLin, QZ]⟩
 ·intro p hI
  rw [ZQ]
  simp only [zz, ↓reduceIte]
  rw [hb]
  simp [QZ] at hI ⊢
  omega
 ·intro i v t p h0 h1 hv hix _ hI ih
  rw [ZQ]
  have hw := QF h0 h1 (by omega)
  have hvz := hz v hv
  rw [QI, List.length_cons] at hI
  simp only [hb, hix]
  simp only [zz, ↓reduceIte]
  simp only [hix]
  simp only [zz, ↓reduceIte]
  have e0 : ((([] : List C8).length : Nat) : Int) = 0 := rfl
  refine And.intro (fun _ => ?_) (fun h => absurd h1 h)
  refine And.intro (fun _ => ?_) (fun h => absurd e0.symm h)
  refine And.intro (fun h => absurd h (by simp)) (fun _ => ?_)
  refine And.intro (fun _ => ?_) (fun h => absurd hvz h)
  refine Q5 (DS _ _ _) fun r _ => ?_
  rw [hw]
  have g1 : ∀ c', wp (ZQ by_ a b c' p.2 (i + 1) 0) (fun r => wLin r.2 ≤ wLin a) := fun c' => ih (c', p.2) ⟨by simp only; omega, by simp only; omega⟩
  have g2 : ∀ c', wp (ZQ by_ a b c' (gLin.mk p.2.fK (p.2.fL ++ [C8.mk v.fName r.1])) (i + 1) 0) (fun r => wLin r.2 ≤ wLin a) := fun c' => by
   refine ih (c', _) ⟨by simp only [List.length_append, List.length_singleton]; omega, ?_⟩
   have e1 : Kz (C8.mk v.fName r.1) = Kz v := rfl
   have e2 : wLin p.2 = 1 + wSum Kz p.2.fL := rfl
   simp only [OK, DU, QI, QZ, e1]; omega
  repeat' (first | exact trivial | assumption | (intro _) | (refine And.intro ?_ ?_) | (exact g1 _) | (exact g2 _) | (refine Qg (by omega) (by omega) fun _ _ => ?_) | (simp only [zz, ↓reduceIte]) | (split) | omega | (exfalso; simp only [zl] at *; omega) | (simp_all; done))
theorem O9 (a b : gLin) (by_ : Int) (ha : wLin a ≤ 1048576) (hb : b.fL = []) (hz : ∀ m ∈ a.fL, m.fBy ≠ 0) : wp (Cl a b by_) (fun r => wLin r.1 ≤ wLin a) := by
 have h1 := Mx a
 have e1 : wLin (gLin.mk 0 []) = 1 := rfl
 unfold Cl
 simp only [zz, ↓reduceIte]
 refine Q5 (DS _ _ _) fun r _ => Q5 (Q0j by_ a b ha hb hz _ _) fun p hp => ?_
 repeat' (first | exact trivial | assumption | (intro _) | (refine And.intro ?_ ?_) | (omega) | (refine Qg (by omega) (by omega) fun _ _ => ?_) | (simp only [zz, ↓reduceIte]) | (split) | omega | (exfalso; simp only [zl] at *; omega) | (simp_all; done))
theorem O5 (s : Str) (l : gLin) (hl : wLin l ≤ 1048576) (hz : ∀ m ∈ l.fL, m.fBy ≠ 0) : wp (QL s l 0 (gLin.mk l.fK []) 0) (fun r => wLin r.2 ≤ wLin l ∧ ∀ m ∈ r.2.fL, m.fBy ≠ 0) := by
 have hl1 := Gf l
 refine UR (F := fun (p : Int × gLin) i => QL s l p.1 p.2 i) (l := l.fL) (fun p t => p.2.fL.length + t.length ≤ l.fL.length ∧ wLin p.2 + wSum Kz t ≤ wLin l ∧ ∀ m ∈ p.2.fL, m.fBy ≠ 0) ?_ ?_ (0, gLin.mk l.fK []) ⟨by simp, by simp [wLin, QZ], by simp⟩
 ·intro p hI
  rw [QL]
  simp only [zz, ↓reduceIte]
  simp [QZ] at hI ⊢
  exact ⟨by omega, hI.2.2⟩
 ·intro i v t p h0 h1 hv hix _ hI ih
  rw [QL]
  have hw := QF h0 h1 (by omega)
  rw [QI, List.length_cons] at hI
  have g1 : ∀ c', wp (QL s l c' p.2 (i + 1)) (fun r => wLin r.2 ≤ wLin l ∧ ∀ m ∈ r.2.fL, m.fBy ≠ 0) := fun c' => ih (c', p.2) ⟨by simp only; omega, by simp only; omega, hI.2.2⟩
  have g2 : ∀ c', wp (QL s l c' (gLin.mk p.2.fK (p.2.fL ++ [v])) (i + 1)) (fun r => wLin r.2 ≤ wLin l ∧ ∀ m ∈ r.2.fL, m.fBy ≠ 0) := fun c' => by
   refine ih (c', _) ⟨by simp only [List.length_append, List.length_singleton]; omega, ?_, fun m hm => ?_⟩
   ·have e2 : wLin p.2 = 1 + wSum Kz p.2.fL := rfl
    simp only [OK, DU, QI, QZ]; omega
   ·rcases List.mem_append.1 hm with h | h
    ·exact hI.2.2 m h
    ·rw [List.mem_singleton] at h; subst h; exact hz _ hv
  simp only [hix, hw]
  simp only [zz, ↓reduceIte]
  rw [hw]
  repeat' (first | exact trivial | assumption | (intro _) | (refine And.intro ?_ ?_) | (exact g1 _) | (exact g2 _) | (refine Qg (by omega) (by omega) fun _ _ => ?_) | (simp only [zz, ↓reduceIte]) | (split) | omega | (exfalso; simp only [zl] at *; omega) | (simp_all; done))
theorem R1 (l : gLin) (s : Str) (to : gLin) (hl : wLin l ≤ 1048576) (hs : s.length ≤ 1048576) (ht : wLin to ≤ 1048576) (hto : to.fL = []) : wp (Yp l s to) (fun r => wLin r.1 ≤ wLin l) := by
 have h1 := Mx l
 have e1 : wLin (gLin.mk 0 []) = 1 := rfl
 unfold Yp
 simp only [zz, ↓reduceIte]
 have fin : (∀ m ∈ l.fL, m.fBy ≠ 0) → wp (QL s l 0 (gLin.mk l.fK []) 0) (fun a => (a.1 = 0 → wLin l ≤ wLin l) ∧ (¬a.1 = 0 → wp (GN to a.1) (fun a_1 => (a_1 = true → wp (Cl a.2 to a.1) (fun a => wLin a.1 ≤ wLin l)) ∧ (¬a_1 = true → wLin (gLin.mk 0 []) ≤ wLin l)))) := fun hz => by
  refine Q5 (O5 s l hl hz) fun p hp => And.intro (fun _ => Nat.le_refl _) (fun _ => ?_)
  refine Q5 (TX to _ ht) fun c _ => And.intro (fun _ => ?_) (fun _ => by omega)
  exact Q5 (O9 p.2 to p.1 (by omega) hto hp.2) fun r hr => by omega
 refine Q5 (Bg l hl) fun b1 hb1 => ?_
 repeat' (first | exact trivial | assumption | (intro _) | (refine And.intro ?_ ?_) | (refine Q5 (JG _ ht) fun _ _ => ?_) | (refine Q5 (KC _ hs) fun _ _ => ?_) | ((have fin := fin (hb1 (by assumption)); simpa using fin)) | (omega) | (refine Qg (by omega) (by omega) fun _ _ => ?_) | (simp only [zz, ↓reduceIte]) | (split) | omega | (exfalso; simp only [zl] at *; omega) | (simp_all; done))
theorem Bi (x : Qa) (s : Str) (to : gLin) (hx : wIdx x ≤ 1048576) (hs : s.length ≤ 1048576) (ht : wLin to ≤ 1048576) (hto : to.fL = []) : wp (Vi x s to) (fun r => wIdx r.1 ≤ wIdx x) := by
 obtain ⟨i1, i2, i3, i4, i5⟩ := Wt hx
 have hx0 : wIdx x = 1 + wLin x.fLin + x.fFrom.length + wSum wLin x.fAt := rfl
 have h1 := Mx x.fLin
 have e1 : wIdx (Qa.mk (gLin.mk 0 []) [] []) = 2 := rfl
 unfold Vi
 simp only [zz, ↓reduceIte]
 refine Q5 (R1 _ s to i2 hs ht hto) fun p hp => And.intro (fun _ => by omega) (fun _ => ?_)
 have L : wp (QV s x to (Qa.mk (gLin.mk 0 []) [] []) (Qa.mk p.1 x.fFrom []) 0) (fun r => (∃ q, r = .inl q ∧ wIdx q.2 ≤ wIdx x) ∨ (∃ q, r = .inr q ∧ wIdx q.1 ≤ wIdx x)) := by
  refine UR (F := fun (q : Qa) i => QV s x to (Qa.mk (gLin.mk 0 []) [] []) q i) (l := x.fAt) (fun q t => q.fAt.length + t.length ≤ x.fAt.length ∧ wIdx q + wSum wLin t ≤ wIdx x) ?_ ?_ (Qa.mk p.1 x.fFrom []) ⟨by simp, by simp only [wIdx, QZ]; omega⟩
  ·intro q hI
   rw [QV]
   simp only [zz, ↓reduceIte]
   rw [QZ] at hI
   exact .inl ⟨_, rfl, by simp only; omega⟩
  ·intro i v t q h0 h1 hv hix _ hI ih
   rw [QV]
   have hw := QF h0 h1 (by omega)
   rw [QI, List.length_cons] at hI
   simp only [hix, hw]
   simp only [zz, ↓reduceIte]
   refine And.intro (fun _ => ?_) (fun h => absurd h1 h)
   refine Q5 (R1 v s to (i5 v hv) hs ht hto) fun r hr => And.intro (fun _ => .inr ⟨_, rfl, by simp only; omega⟩) (fun _ => And.intro (fun _ => ?_) (fun h => absurd (by omega) h))
   refine ih _ ⟨by simp only [List.length_append, List.length_singleton]; omega, ?_⟩
   have e2 : wIdx q = 1 + wLin q.fLin + q.fFrom.length + wSum wLin q.fAt := rfl
   have e3 : wIdx (Qa.mk q.fLin q.fFrom (q.fAt ++ [r.1])) = 1 + wLin q.fLin + q.fFrom.length + wSum wLin (q.fAt ++ [r.1]) := rfl
   rw [e3, DU, QI, QZ]; omega
 refine Q5 L fun r hr => ?_
 rcases hr with ⟨q, rfl, hq⟩ | ⟨q, rfl, hq⟩
 ·exact Z1.2 hq
 ·exact Z1.2 hq
end Go.Proofs.YtokfigmmegifeaaGreat
end
section
namespace Go.Proofs.YtokfigmmegifeaaGreat
open Go HY
set_option linter.unusedVariables false
set_option linter.unusedSimpArgs false
theorem Nz (x : Q2) : Qo x = 1 + x.fName.length + wLin x.fLin + wSum wIdx x.fIdx + wSum XX x.fArgs := rfl
theorem Hu (x : Qc) : QD x = 1 + x.fName.length + wSum wIdx x.fIdx + Qo x.fExpr + wSum QA x.fBody := rfl
abbrev eE : Q2 := QO.mk (0 : Int) [] (gVal.mk (0 : Int) (0 : Int)) (Qi.mk (0 : Int) (0 : Int) (0 : Int) (0 : Int) (0 : Int)) (gLin.mk (0 : Int) []) [] []
theorem wE_e : Qo (QO.mk (0 : Int) [] (gVal.mk (0 : Int) (0 : Int)) (Qi.mk (0 : Int) (0 : Int) (0 : Int) (0 : Int) (0 : Int)) (gLin.mk (0 : Int) []) [] [] : Q2) = 2 := rfl
section
variable (s : Str) (to : gLin) (hs : s.length ≤ 1048576) (ht : wLin to ≤ 1048576) (hto : to.fL = [])
include hs ht hto
theorem t_Sub0 : ∀ e : Qb, Qo e.f ≤ 1048576 → wp (Zv e.f s to) (fun r => Qo r.1 ≤ Qo e.f) := Qb.ind fun x ih h => by
 simp only [Qb.f_mk] at h ⊢
 obtain ⟨e1, e2, e3, e4, e5, e6, e7⟩ := Zp h
 have hx := Nz x
 have h1 := Mx x.fLin
 have he := wE_e
 have L7 : ∀ l : gLin, wLin l ≤ wLin x.fLin → wp (Zk s x to eE (QO.mk x.fOp x.fName x.fVal x.fType l [] [] : Q2) 0) (fun r => (∃ q, r = .inl q ∧ q.2.fArgs = [] ∧ Qo q.2 + wSum XX x.fArgs ≤ Qo x) ∨ (∃ q, r = .inr q ∧ Qo q.1 ≤ Qo x)) := fun l hl => by
  refine UR (F := fun (q : Q2) i => Zk s x to eE q i) (l := x.fIdx) (fun q t => q.fArgs = [] ∧ q.fIdx.length + t.length ≤ x.fIdx.length ∧ Qo q + wSum wIdx t + wSum XX x.fArgs ≤ Qo x) ?_ ?_ _ ⟨rfl, by simp, by simp only [Nz, QZ]; omega⟩
  ·intro q hI
   rw [Zk]
   simp only [zz, ↓reduceIte]
   rw [QZ] at hI
   exact .inl ⟨_, rfl, hI.1, by simp only; omega⟩
  ·intro i v t q h0 h1 hv hix _ hI ih2
   rw [Zk]
   have hw := QF h0 h1 (by omega)
   rw [QI, List.length_cons] at hI
   simp only [hix, hw]
   simp only [zz, ↓reduceIte]
   refine And.intro (fun _ => ?_) (fun h => absurd h1 h)
   refine Q5 (Bi v s to (e5 v hv) hs ht hto) fun r hr => And.intro (fun _ => .inr ⟨_, rfl, by simp only; omega⟩) (fun _ => And.intro (fun _ => ?_) (fun h => absurd (by omega) h))
   refine ih2 _ ⟨hI.1, by simp only [List.length_append, List.length_singleton]; omega, ?_⟩
   have e2 := Nz q
   simp only [Nz, DU, QI, QZ]; omega
 have L14 : ∀ q0 y : Q2, q0.fArgs = [] → Qo q0 + wSum XX x.fArgs ≤ Qo x → wp (Ze s x to y q0 0) (fun r => (∃ q, r = .inl q ∧ Qo q.2 ≤ Qo x) ∨ (∃ q, r = .inr q ∧ Qo q.1 ≤ Qo x)) := fun q0 y hq0 hw0 => by
  refine UR (F := fun (q : Q2) i => Ze s x to y q i) (l := x.fArgs) (fun q t => q.fArgs.length + t.length ≤ x.fArgs.length ∧ Qo q + wSum XX t ≤ Qo x) ?_ ?_ _ ⟨by rw [hq0]; simp, hw0⟩
  ·intro q hI
   rw [Ze]
   simp only [zz, ↓reduceIte]
   rw [QZ] at hI
   exact .inl ⟨_, rfl, by simp only; omega⟩
  ·intro i v t q h0 h1 hv hix _ hI ih2
   rw [Ze]
   have hw := QF h0 h1 (by omega)
   rw [QI, List.length_cons, Um] at hI
   simp only [hix, hw]
   simp only [zz, ↓reduceIte]
   refine And.intro (fun _ => ?_) (fun h => absurd h1 h)
   refine Q5 (ih v hv (e7 v hv)) fun r hr => And.intro (fun _ => .inr ⟨_, rfl, by have := wE_e; simp only; omega⟩) (fun _ => And.intro (fun _ => ?_) (fun h => absurd (by omega) h))
   refine ih2 _ ⟨by simp only [List.length_append, List.length_singleton]; omega, ?_⟩
   have e3 : XX (Qb.mk r.1) = Qo r.1 := Um _
   have e4 : Qo (QO.mk q.fOp q.fName q.fVal q.fType q.fLin q.fIdx (q.fArgs ++ [Qb.mk r.1]) : Q2) = Qo q + XX (Qb.mk r.1) := by rw [Nz, Nz q]; simp only [DU, QI, QZ]; omega
   simp only [e4]
   omega
 rw [Zv]
 simp only [zz, ↓reduceIte]
 refine Q5 (R1 _ s to e2 hs ht hto) fun p hp => And.intro (fun _ => by have := wE_e; omega) (fun _ => ?_)
 refine Q5 (L7 p.1 hp) fun r hr => ?_
 rcases hr with ⟨q, rfl, hq0, hq⟩ | ⟨q, rfl, hq⟩
 ·simp only [zz, ↓reduceIte]
  refine Q5 (L14 q.2 q.1 hq0 hq) fun r hr => ?_
  rcases hr with ⟨q, rfl, hq⟩ | ⟨q, rfl, hq⟩
  ·exact Z1.2 hq
  ·exact Z1.2 hq
 ·exact Z1.2 hq
theorem t_Sub (x : Q2) (h : Qo x ≤ 1048576) : wp (Zv x s to) (fun r => Qo r.1 ≤ Qo x) := t_Sub0 s to hs ht hto (.mk x) h
theorem t_SubL : ∀ l : List Q9, wSum QA l ≤ 1048576 → wp (XE l s to) (fun r => wSum QA r.1 ≤ wSum QA l ∧ (r.2 = 0 → r.1.map (fun a => a.f.fOp) = l.map (fun a => a.f.fOp))) := DM fun l hl ih => by
 obtain ⟨e1, e2⟩ := C5 hl
 have L : wp (Zl l s to [] 0) (fun r => (∃ q, r = .inl q ∧ wSum QA q ≤ wSum QA l ∧ q.map (fun a => a.f.fOp) = l.map (fun a => a.f.fOp)) ∨ (∃ q, r = .inr q ∧ q.1 = [] ∧ q.2 ≠ 0)) := by
  refine UR (F := fun (q : List Q9) i => Zl l s to q i) (l := l) (fun q t => q.length + t.length ≤ l.length ∧ wSum QA q + wSum QA t ≤ wSum QA l ∧ ∃ p, l = p ++ t ∧ q.map (fun a => a.f.fOp) = p.map (fun a => a.f.fOp)) ?_ ?_ [] ⟨by simp, by simp [QZ], [], rfl, rfl⟩
  ·intro q ⟨h1, h2, p, hp, hq⟩
   rw [Zl]
   rw [List.append_nil] at hp
   simp only [zz, ↓reduceIte]
   rw [QZ] at h2
   exact .inl ⟨q, rfl, by omega, by rw [hp]; exact hq⟩
  ·intro i v t q h0 h1 hv hix _ ⟨k1, k2, p, hp, hq⟩ ih2
   rw [Zl]
   have hw := QF h0 h1 (by omega)
   rw [QI, YV] at k2
   rw [List.length_cons] at k1
   obtain ⟨s1, s2, s3, s4, s5, s6, s7⟩ := UQ (e2 v hv)
   have hv0 := Hu v.f
   simp only [hix, hw]
   simp only [zz, ↓reduceIte]
   refine And.intro (fun _ => ?_) (fun h => absurd h1 h)
   refine Q5 (t_Sub s to hs ht hto _ (W_idx (e2 v hv) (Nat.zero_le _))) fun r1 hr1 => And.intro (fun h => .inr ⟨_, rfl, rfl, h⟩) (fun _ => ?_)
   refine Q5 (t_Sub s to hs ht hto _ s2) fun r2 hr2 => And.intro (fun h => .inr ⟨_, rfl, rfl, h⟩) (fun _ => ?_)
   refine Q5 (ih v hv) fun r3 hr3 => And.intro (fun h => .inr ⟨_, rfl, rfl, h⟩) (fun h3 => And.intro (fun _ => ?_) (fun h => absurd (by omega) h))
   have hr1' := Nz r1.1
   have hl1 := Mx r1.1.fLin
   have k3 : Qo (QO.mk (3 : Int) [] (gVal.mk (0 : Int) (0 : Int)) (Qi.mk (0 : Int) (0 : Int) (0 : Int) (0 : Int) (0 : Int)) (gLin.mk (0 : Int) []) v.f.fIdx [] : Q2) = 2 + wSum wIdx v.f.fIdx := by rw [Nz]; simp only [QZ, List.length_nil, wLin]; omega
   rw [k3] at hr1
   refine ih2 _ ⟨by simp only [List.length_append, List.length_singleton]; omega, ?_, p ++ [v], by rw [hp]; simp, by rw [List.map_append, List.map_append, hq]; rfl⟩
   have e5 : QA (Q9.mk (Xc.mk v.f.fOp v.f.fName v.f.fMany v.f.fMark v.f.fFold r1.1.fIdx r2.1 r3.1)) = 1 + v.f.fName.length + wSum wIdx r1.1.fIdx + Qo r2.1 + wSum QA r3.1 := YV _
   rw [DU, QI, QZ, e5]
   omega
 rw [XE]
 simp only [zz, ↓reduceIte]
 refine Q5 L fun r hr => ?_
 rcases hr with ⟨q, rfl, h1, h2⟩ | ⟨q, rfl, h1, h2⟩
 ·exact Z1.2 ⟨h1, fun _ => h2⟩
 ·exact Z1.2 ⟨by simp [h1, QZ], fun h => absurd h h2⟩
end
theorem Ma (x : Qc) (env : List Qd) (hx : QD x ≤ 1048576) (hl : env.length ≤ 1048576) (hn : ∀ b ∈ env, b.fName.length ≤ 1048576) : wp (UB x env) (fun r => r.2 = 0 → QD r.1 ≤ QD x ∧ r.1.fOp = x.fOp) := by
 have L : ∀ y : Qc, wp (ZG env y [.mk x] 0) (fun r => (∃ q, r = .inl q ∧ ∃ z : Q9, q.2 = [z] ∧ QD z.f ≤ QD x ∧ z.f.fOp = x.fOp) ∨ ∃ q, r = .inr q ∧ q.2 ≠ 0) := fun y => by
  refine UR (F := fun (q : List Q9) i => ZG env y q i) (l := env) (fun q t => ∃ z : Q9, q = [z] ∧ QD z.f ≤ QD x ∧ z.f.fOp = x.fOp) ?_ ?_ [.mk x] ⟨_, rfl, Nat.le_refl _, rfl⟩
  ·intro q ⟨z, hz⟩
   rw [ZG]
   simp only [zz, ↓reduceIte]
   exact .inl ⟨_, rfl, z, hz⟩
  ·intro i v t q h0 h1 hv hix _ ⟨z, hz, hzw, hzo⟩ ih2
   rw [ZG]
   have hw := QF h0 h1 (by omega)
   subst hz
   simp only [hix, hw]
   simp only [zz, ↓reduceIte]
   refine And.intro (fun _ => ?_) (fun h => absurd h1 h)
   refine Q5 (t_SubL v.fName (gLin.mk v.fVal []) (hn v hv) (by simp [wLin, QZ]) rfl [z] (by rw [QI, QZ, YV]; omega)) fun r hr => And.intro (fun h => .inr ⟨_, rfl, h⟩) (fun h => ?_)
   have h2 := hr.2 (by simpa using h)
   obtain ⟨z', hz'⟩ : ∃ z', r.1 = [z'] := by
    have hlen := congrArg List.length h2
    simp at hlen
    exact List.length_eq_one_iff.1 hlen
   refine ih2 _ ⟨z', hz', ?_, ?_⟩
   ·have := hr.1
    simp only [hz', QI, QZ, YV] at this
    omega
   ·rw [hz'] at h2
    simp at h2
    rw [h2]; exact hzo
 unfold UB
 simp only [zz, ↓reduceIte]
 refine Q5 (L _) fun r hr => ?_
 rcases hr with ⟨q, rfl, z, hz, h1, h2⟩ | ⟨q, rfl, hq⟩
 ·simp only [zz, ↓reduceIte]
  rw [hz]
  refine Lv.2 ⟨by omega, by simp, ?_⟩
  simp [h1, h2]
 ·exact Z1.2 fun h => absurd h hq
end Go.Proofs.YtokfigmmegifeaaGreat
end
section
namespace Go.Proofs.YtokfigmmegifeaaGreat
open Go HY
set_option linter.unusedVariables false
set_option linter.unusedSimpArgs false
def cd : Q9 → Nat
 | .mk x => if x.fOp = 4 ∧ x.fBody.length = 1 then 1 + maxL (x.fBody.attach.map fun a => cd a.1) else 0
 termination_by e => SizeOf.sizeOf e
 decreasing_by exact Q9.lt a.2
theorem cd_mk (x : Qc) : cd (.mk x) = if x.fOp = 4 ∧ x.fBody.length = 1 then 1 + maxL (x.fBody.map cd) else 0 := by rw [cd]; simp
theorem cd_if (x : Qc) (s : Q9) (h : x.fOp = 4) (hb : x.fBody = [s]) : cd (.mk x) = 1 + cd s := by
 rw [cd_mk, hb, if_pos ⟨h, rfl⟩]
 simp [maxL]
theorem cd_no (x : Qc) (h : x.fOp ≠ 4) : cd (.mk x) = 0 := by rw [cd_mk, if_neg (fun k => h k.1)]
def wC1 (c : Qb) : Nat := 1 + Qo c.f
def wC (l : List Qb) : Nat := wSum wC1 l
theorem Tb : wC [] = 0 := rfl
theorem CT (c : Qb) (l : List Qb) : wC (c :: l) = (1 + Qo c.f) + wC l := QI (f := wC1)
theorem wC_app (l m : List Qb) : wC (l ++ m) = wC l + wC m := DU (f := wC1)
theorem wC_mem {c : Qb} {l : List Qb} (h : c ∈ l) : 1 + Qo c.f ≤ wC l := by
 have := YI (f := wC1) h
 exact this
theorem wC_set : ∀ (l : List Qb) (i : Nat) (c : Qb) (h : i < l.length), Qo c.f ≤ Qo (l[i]).f → wC (l.set i c) ≤ wC l
 | [], i, c, h, _ => by simp at h
 | a :: l, 0, c, h, hc => by
  rw [List.set_cons_zero, CT, CT]
  have : Qo c.f ≤ Qo a.f := hc
  omega
 | a :: l, i + 1, c, h, hc => by
  rw [List.set_cons_succ, CT, CT]
  have := wC_set l i c (by simpa using h) (by simpa using hc)
  omega
theorem OI : ∀ (l : List Qb) (k : Nat) (h : k < l.length), wC (l.take (k + 1)) = wC (l.take k) + (1 + Qo (l[k]).f)
 | [], k, h => by simp at h
 | a :: l, 0, h => by simp [CT, Tb]
 | a :: l, k + 1, h => by
  rw [List.take_succ_cons, List.take_succ_cons, CT, CT, OI l k (by simpa using h)]
  simp only [List.getElem_cons_succ]; omega
structure okSt (s : Q3) : Prop where
 len : s.fL.length ≤ 2048
 all : ∀ x ∈ s.fL, cd (.mk x.fOp) ≤ 40 ∧ QD x.fOp ≤ 1048576
theorem N7 (a b : Int) : okSt (Q3.mk [] a b) := ⟨by simp, by simp⟩
theorem Eo (l : List Qb) (hl : l.length ≤ 1048576) : ∀ (k : Nat), k ≤ l.length → ∀ op : Qc, wp (Y8 l op ((k : Int) - 1)) (fun r => cd (.mk r) ≤ cd (.mk op) + k ∧ QD r ≤ QD op + wC (l.take k))
 | 0, _, op => by
  rw [Y8]
  simp only [zz, ↓reduceIte]
  refine And.intro (fun h => by omega) (fun _ => by simp [Tb])
 | k + 1, hk, op => by
  rw [Y8]
  have e : ((k + 1 : Nat) : Int) - 1 = (k : Int) := by omega
  rw [e, QJ (n := (k : Int) - 1) (by omega)]
  simp only [zz, ↓reduceIte]
  refine And.intro (fun _ => Lv.2 ⟨by omega, by omega, ?_⟩) (fun h => absurd (by omega) h)
  refine Q5 (Eo l hl k (by omega) _) fun r hr => ?_
  have e2 : ∀ y : Q2, cd (.mk (Xc.mk (4 : Int) [] (0 : Int) (0 : Int) (0 : Int) [] y [Q9.mk op])) = 1 + cd (.mk op) := fun y => cd_if _ _ rfl rfl
  have e3 := OI l k (by omega)
  rw [e2] at hr
  have e4 : ∀ y : Q2, QD (Xc.mk (4 : Int) [] (0 : Int) (0 : Int) (0 : Int) [] y [Q9.mk op]) = 1 + Qo y + QD op := fun y => by
   rw [Hu]; simp only [QZ, QI, List.length_nil, YV, Q9.f_mk]; omega
  rw [e4] at hr
  simp only [Int.toNat_natCast] at hr
  omega
theorem Oc (env : List Qd) (x : QT) (hl : env.length ≤ 1048576) (h0 : x.fAt = []) : wp (Xj env x 0) (fun r => r.fOp = x.fOp) := by
 refine Cr (F := fun q i => Xj env q i) env.length (fun i q => (q.fAt.length : Int) ≤ i ∧ q.fOp = x.fOp) ?_ ?_ 0 x (by omega) (by omega) ⟨by rw [h0]; simp, rfl⟩
 ·intro q hI
  rw [Xj]
  simp only [zz, ↓reduceIte]
  exact hI.2
 ·intro i q h0 h1 hI ih
  rw [Xj]
  have hw := QF h0 h1 (by omega)
  simp only [zz, ↓reduceIte]
  refine And.intro (fun _ => Qg h0 h1 fun v _ => And.intro (fun _ => ?_) (fun h => absurd (by omega) h)) (fun h => absurd h1 h)
  rw [hw]
  exact ih _ ⟨by simp only [List.length_append, List.length_singleton]; omega, hI.2⟩
theorem Bj (env : List Qd) (conds : List Qb) (s0 : Q3) (hl : env.length ≤ 1048576) (hn : ∀ b ∈ env, b.fName.length ≤ 1048576) (hc : conds.length ≤ 40) (hw : wC conds ≤ 1048576) (h0 : okSt s0) : wp (XW env conds s0 0) (fun r => (∃ p, r = .inl p ∧ p.1.length = conds.length ∧ p.2 = s0 ∧ wC p.1 ≤ wC conds) ∨ ∃ p, r = .inr p ∧ okSt p) := by
 refine Cr (F := fun a i => XW env a s0 i) conds.length (fun _ a => a.length = conds.length ∧ wC a ≤ wC conds) ?_ ?_ 0 conds (by omega) (by omega) ⟨rfl, Nat.le_refl _⟩
 ·intro a hI
  rw [XW]
  rw [if_neg (by omega)]
  exact Z1.2 (.inl ⟨_, rfl, hI.1, rfl, hI.2⟩)
 ·intro i a h0 h1 hI ih
  rw [XW]
  have hw' := QF h0 h1 (by omega)
  have hil : i.toNat < a.length := by omega
  simp only [zz, ↓reduceIte]
  refine And.intro (fun _ => And.intro (fun _ => ?_) (fun h => absurd (by omega) h)) (fun h => absurd (by omega) h)
  refine wp_get.2 ⟨hil, ?_⟩
  have hv := wC_mem (List.getElem_mem hil)
  have hv2 := Nz (a[i.toNat]'hil).f
  refine Q5 (Ma _ env ?_ hl hn) fun r hr => And.intro (fun _ => .inr ⟨_, rfl, N7 _ _⟩) (fun h => ?_)
  ·rw [Hu]; simp only [QZ, List.length_nil]; omega
  have hr := (hr (by simpa using h)).1
  rw [Hu, Hu] at hr
  simp only [QZ, List.length_nil] at hr
  refine And.intro (fun _ => And.intro (fun _ => ?_) (fun h => absurd hil h)) (fun h => absurd (by omega) h)
  rw [hw']
  exact ih _ ⟨by simp [hI.1], Nat.le_trans (wC_set a i.toNat _ hil (by simp only [Qb.f_mk]; omega)) hI.2⟩
theorem Ax (s : Q3) (x : Qc) (num : Int) (env : List Qd) (conds : List Qb) (hs : okSt s) (hx : QD x ≤ 1048576) (hl : env.length ≤ 1048576) (hn : ∀ b ∈ env, b.fName.length ≤ 1048576) (hc : conds.length ≤ 40) (hw : wC conds + QD x ≤ 1048576) (hop : x.fOp ≠ 4) : wp (CH s x num env conds) okSt := by
 unfold CH
 simp only [zz, ↓reduceIte]
 refine Q5 (Ma x env hx hl hn) fun r hr => And.intro (fun _ => N7 _ _) (fun h => ?_)
 have hr := hr (by simpa using h)
 refine Q5 (Bj env conds _ hl hn hc (by omega) (N7 _ _)) fun p hp => ?_
 rcases hp with ⟨p, rfl, hp1, hp2, hp3⟩ | ⟨p, rfl, hp⟩
 ·simp only [zz, ↓reduceIte]
  have e : wr ((p.1.length : Int) - 1) = (p.1.length : Int) - 1 := QJ (by omega)
  rw [e]
  refine Q5 (Eo p.1 (by omega) p.1.length (Nat.le_refl _) r.1) fun q hq => ?_
  rw [cd_no r.1 (by rw [hr.2]; exact hop), List.take_length] at hq
  refine Q5 (Oc env _ hl rfl) fun y hy => And.intro (fun _ => N7 _ _) (fun h => And.intro (fun _ => ?_) (fun h => absurd (by have := hs.len; omega) h))
  refine ⟨by simp only [List.length_append, List.length_singleton]; omega, fun z hz => ?_⟩
  rcases List.mem_append.1 hz with hz | hz
  ·exact hs.all z hz
  ·rw [List.mem_singleton] at hz
   subst hz
   rw [hy]
   show cd (.mk q) ≤ 40 ∧ QD q ≤ 1048576
   omega
 ·exact Z1.2 hp
theorem Q0i {l : List Q9} {i : Int} (h0 : 0 ≤ i) (h1 : i < l.length) (hl : wSum QA l ≤ 1048576) : wSum QA (List.drop i.toNat (List.take (i + 1).toNat l)) ≤ 1048576 :=
 Nat.le_trans (Q0m ((List.drop_sublist _ _).trans (List.take_sublist _ _))) hl
theorem Pi : ∀ l : List Q9, wSum QA l ≤ 1048576 → (∀ a ∈ l, vS a) → ∀ (s : Q3) (num : Int) (env : List Qd) (conds : List Qb), okSt s → env.length + wSum QA l ≤ 1048576 → (∀ b ∈ env, b.fName.length ≤ 1048576) → conds.length + dpL l ≤ 40 → wC conds + wSum QA l ≤ 1048576 → wp (XY s l num env conds) okSt := DM (P := fun l => (∀ a ∈ l, vS a) → ∀ (s : Q3) (num : Int) (env : List Qd) (conds : List Qb), okSt s → env.length + wSum QA l ≤ 1048576 → (∀ b ∈ env, b.fName.length ≤ 1048576) → conds.length + dpL l ≤ 40 → wC conds + wSum QA l ≤ 1048576 → wp (XY s l num env conds) okSt) fun l hl ih hv s num env conds hs hE hN hC hW => by
 obtain ⟨e1, e2⟩ := C5 hl
 have L : wp (Zm l num env conds s (Q3.mk [] 0 0) 0) (fun r => (∃ p, r = .inl p ∧ okSt p.1) ∨ ∃ p, r = .inr p ∧ okSt p.2) := by
  refine UR (F := fun (q : Int × Q3 × Q3) i => Zm l q.1 env conds q.2.1 q.2.2 i) (l := l) (fun q _ => okSt q.2.1) ?_ ?_ (num, s, Q3.mk [] 0 0) hs
  ·intro q hI
   rw [Zm]
   simp only [zz, ↓reduceIte]
   exact .inl ⟨_, rfl, hI⟩
  ·intro i v t q h0 h1 hvm hix _ hI ih2
   rw [Zm]
   have hw := QF h0 h1 (by omega)
   obtain ⟨s1, s2, s3, s4, s5, s6, s7⟩ := UQ (e2 v hvm)
   have hv1 := YI (f := QA) hvm
   rw [YV] at hv1
   have hv2 := NI v.f
   have hv3 := OL v.f
   have hv5 := Hu v.f
   have hv4 := dpL_mem hvm
   rw [dp_f] at hv4
   have hvS := hv v hvm
   have hve : v = .mk v.f := (Q9.mk_f v).symm
   rw [hve] at hvS
   cases hvS with
   | mk _ k1 k2 k3 =>
   have hg : ∀ c s10 (st : Q3), okSt st → wp (Zm l c env conds st s10 (i + 1)) (fun r => (∃ p, r = .inl p ∧ okSt p.1) ∨ ∃ p, r = .inr p ∧ okSt p.2) := fun c s10 st hst => ih2 (c, st, s10) hst
   have hsm := Q0i h0 h1 hl
   simp only [hix, hw]
   simp only [zz, ↓reduceIte]
   simp only [hix, hw]
   simp only [zz, ↓reduceIte]
   refine And.intro (fun _ => And.intro (fun _ => ?_) (fun _ => .inl ⟨_, rfl, hI⟩)) (fun h => absurd h1 h)
   have tail : ∀ (s10 st : Q3), okSt st → ∀ Q', (∀ r, ((∃ p, r = .inl p ∧ okSt p.1) ∨ ∃ p, r = .inr p ∧ okSt p.2) → Q' r) → wp (Vx (List.drop i.toNat (List.take (i + 1).toNat l))) (fun a => wp (Zm l (wr (q.1 + a)) env conds st s10 (i + 1)) Q') := fun s10 st hst Q' hQ =>
    Q5 (TZ _ hsm) fun a _ => Q5 (hg _ _ _ hst) hQ
   refine And.intro (fun hf => ?_) (fun hf => And.intro (fun hc4 => ?_) (fun hc4 => ?_))
   ·
    have W : wp (X7 q.1 env conds q.2.1 q.2.2 v.f 0) (fun r => (∃ p, r = .inl p ∧ okSt p.1) ∨ ∃ p, r = .inr p ∧ okSt p.2) := by
     have hm := k1 hf
     have at_end : ∀ (st : Q3) (i : Int), okSt st → ¬ i < v.f.fMany → wp (X7 q.1 env conds st q.2.2 v.f i) (fun r => (∃ p, r = .inl p ∧ okSt p.1) ∨ ∃ p, r = .inr p ∧ okSt p.2) := fun st i hst hi => by
      rw [X7]
      simp only [zz, ↓reduceIte]
      simp only [hi]
      simp only [zz, ↓reduceIte]
      exact .inl ⟨_, rfl, hst⟩
     refine Cr (F := fun st i => X7 q.1 env conds st q.2.2 v.f i) v.f.fMany.toNat (fun _ st => okSt st) ?_ ?_ 0 q.2.1 (by omega) (by omega) hI
     ·intro st hst
      exact at_end st _ hst (by omega)
     ·intro k st g0 g1 hst ih3
      rw [X7]
      have hwk : wr (k + 1) = k + 1 := QJ (by omega)
      have hkm : k < v.f.fMany := by omega
      simp only [zz, ↓reduceIte]
      simp only [hwk]
      refine And.intro (fun _ => And.intro (fun _ => And.intro (fun _ => .inr ⟨_, rfl, N7 _ _⟩) (fun _ => ?_)) (fun _ => .inl ⟨_, rfl, hst⟩)) (fun h => absurd hkm h)
      refine And.intro (fun _ => And.intro (fun _ => And.intro (fun _ => ?_) (fun h => absurd (by simp) h)) (fun h => absurd (by simp; omega) h)) (fun h => absurd (by omega) h)
      refine Q5 (ih v hvm k3 _ _ _ _ ⟨hst.len, hst.all⟩ (by simp; omega) (fun b hb => ?_) (by omega) (by omega)) fun st' hst' => ih3 st' hst'
      simp only [List.nil_append, List.mem_append, List.mem_singleton] at hb
      rcases hb with hb | rfl
      ·exact hN b hb
      ·exact s1
    refine Q5 W fun r hr => ?_
    rcases hr with ⟨p, rfl, hp⟩ | ⟨p, rfl, hp⟩
    ·simp only [zz, ↓reduceIte]
     refine And.intro (fun _ => ?_) (fun h => absurd ⟨h0, by omega, by omega⟩ h)
     exact tail _ _ hp _ fun _ h => h
    ·exact Z1.2 (.inr ⟨_, rfl, hp⟩)
   ·
    have B : wp (GP q.2.1 v.f q.1 env conds) okSt := by
     rw [GP]
     simp only [zz, ↓reduceIte]
     refine Q5 (T8 (.mk v.f.fExpr) s2) fun b _ => And.intro (fun _ => ?_) (fun _ => ?_)
     ·refine Q5 (IW env _ s2 (by omega)) fun c _ => And.intro (fun _ => N7 _ _) (fun _ => And.intro (fun _ => ?_) (fun _ => hI))
      exact ih v hvm k3 _ _ _ _ hI (by omega) hN (by omega) (by omega)
     ·refine And.intro (fun _ => And.intro (fun _ => And.intro (fun _ => ?_) (fun h => absurd (by simp) h)) (fun h => absurd (by simp; omega) h)) (fun h => absurd (by omega) h)
      refine Q5 (ih v hvm k3 _ _ _ _ hI (by omega) hN (by simp; omega) ?_) fun st hst => ?_
      ·rw [List.nil_append, wC_app, CT, Tb]
       simp only [Qb.f_mk]; omega
      ·repeat' (first | exact trivial | assumption | (intro _) | (refine And.intro ?_ ?_) | (refine Q5 (Am _ s2) fun _ _ => ?_) | (refine Q5 (T9 _ s6 _ (by assumption)) fun _ _ => ?_) | (exact N7 _ _) | (exact hst) | (refine Qg (by omega) (by omega) fun _ _ => ?_) | (simp only [zz, ↓reduceIte]) | (split) | omega | (exfalso; simp only [zl] at *; omega) | (simp_all; done))
    refine Q5 B fun st hst => And.intro (fun _ => tail _ _ hst _ fun _ h => h) (fun h => absurd ⟨h0, by omega, by omega⟩ h)
   ·
    refine And.intro (fun _ => ?_) (fun h => absurd (by omega) h)
    refine Q5 (Ax _ v.f _ env ([] ++ conds) hI (e2 v hvm) (by omega) hN (by simp; omega) (by simp only [List.nil_append]; omega) hc4) fun st hst => And.intro (fun _ => tail _ _ hst _ fun _ h => h) (fun h => absurd ⟨h0, by omega, by omega⟩ h)
 rw [XY]
 simp only [zz, ↓reduceIte]
 refine Q5 L fun r hr => ?_
 rcases hr with ⟨p, rfl, hp⟩ | ⟨p, rfl, hp⟩
 ·exact Z1.2 hp
 ·exact Z1.2 hp
theorem Nn (n : Qh) (h : JI n ≤ 1048576) : wp (JZ n) (fun r => r.1.length ≤ 2048 ∧ ∀ x ∈ r.1, cd (.mk x.fOp) ≤ 40 ∧ QD x.fOp ≤ 1048576) := by
 have hn : JI n = 1 + wSum wBuf n.fBufs + wSum QA n.fBody := rfl
 unfold JZ
 simp only [zz, ↓reduceIte]
 refine Q5 (R7 n h) fun r hr => And.intro (fun _ => by simp) (fun h0 => ?_)
 have hr := hr (by simpa using h0)
 refine Q5 (Pi n.fBody (by omega) hr.1 _ 0 [] [] (N7 _ _) (by simp; omega) (by simp) (by simp; omega) (by rw [Tb]; omega)) fun s hs => And.intro (fun _ => by simp) (fun _ => ⟨hs.len, hs.all⟩)
theorem S0 (n : Qh) (m : Int) (h : JI n ≤ 1048576) : wp (C4 n m) (fun _ => True) := by
 have hn : JI n = 1 + wSum wBuf n.fBufs + wSum QA n.fBody := rfl
 unfold C4
 repeat' (first | exact trivial | assumption | (intro _) | (refine And.intro ?_ ?_) | (refine Q5 (HU _ (by omega) _) fun _ _ => ?_) | (refine Q5 (Nn _ h) fun _ _ => ?_) | (refine Qg (by omega) (by omega) fun _ _ => ?_) | (simp only [zz, ↓reduceIte]) | (split) | omega | (exfalso; simp only [zl] at *; omega) | (simp_all; done))
theorem Ob (n : Qh) (h : JI n ≤ 1048576) : wp (WT n) (fun _ => True) := by
 unfold WT
 repeat' (first | exact trivial | assumption | (intro _) | (refine And.intro ?_ ?_) | (refine Q5 (S0 _ _ h) fun _ _ => ?_) | (refine Qg (by omega) (by omega) fun _ _ => ?_) | (simp only [zz, ↓reduceIte]) | (split) | omega | (exfalso; simp only [zl] at *; omega) | (simp_all; done))
end Go.Proofs.YtokfigmmegifeaaGreat
end
section
namespace HY
open Go
section
variable {α β : Type}
theorem bS {a : α} {f : α → Option β} : (some a >>= f) = f a := rfl
theorem omS {a : α} {f : α → β} : Option.map f (some a) = some (f a) := rfl
theorem ite_f {a b : α} : (if (false = true) then a else b) = b := rfl
end
def ov (x y : Q6) : Bool := x.fBuffer == y.fBuffer && decide (max x.fFrom y.fFrom < min x.fTo y.fTo)
def ovL (a b : List Q6) : Bool := a.any fun x => b.any (ov x)
theorem Ow (x y : Q6) : ov x y = ov y x := by
 unfold ov
 rw [Int.max_comm, Int.min_comm]
 congr 1
 rw [Bool.eq_iff_iff]; simp only [beq_iff_eq]; exact eq_comm
theorem EP (a b : List Q6) : ovL a b = ovL b a := by
 unfold ovL
 rw [Bool.eq_iff_iff]
 simp only [List.any_eq_true]
 constructor
 ·rintro ⟨x, hx, y, hy, h⟩; exact ⟨y, hy, x, hx, by rw [Ow]; exact h⟩
 ·rintro ⟨x, hx, y, hy, h⟩; exact ⟨y, hy, x, hx, by rw [Ow]; exact h⟩
def Y0 (n : Int) : List Int → Option Int
 | [] => some n
 | v :: t => if v < 1 ∨ 4096 < n * v then none else Y0 (n * v) t
theorem Mt {n v : Int} {t : List Int} (h : v < 1 ∨ 4096 < n * v) : Y0 n (v :: t) = none := by rw [Y0, if_pos h]
theorem Lp {n v : Int} {t : List Int} (h : ¬ (v < 1 ∨ 4096 < n * v)) : Y0 n (v :: t) = Y0 (n * v) t := by rw [Y0, if_neg h]
def shOf (d : List Int) : Option Int := if d.length ≤ 6 then Y0 1 d else none
theorem Sr : ∀ {d : List Int} {n : Int}, (∃ v ∈ d, v < 1) → Y0 n d = none
 | [], n, h => by simp at h
 | v :: t, n, h => by
  simp only [Y0]
  split
  ·rfl
  ·rename_i hc
   obtain ⟨w, hw, h1⟩ := h
   rcases List.mem_cons.1 hw with rfl | hw
   ·omega
   ·exact Sr ⟨w, hw, h1⟩
def C6 (x : Qa) (d : Int) : Prop := x.fFrom ≠ [] ∨ x.fLin.fL ≠ [] ∨ x.fLin.fK < 0 ∨ d ≤ x.fLin.fK
instance (x : Qa) (d : Int) : Decidable (C6 x d) := by unfold C6; infer_instance
def offs (at_ : Int) : List Qa → List Int → Option Int
 | [], [] => some at_
 | x :: t, d :: e => if C6 x d then none else offs (at_ * d + x.fLin.fK) t e
 | _, _ => none
theorem FC : ∀ {idx : List Qa} {d : List Int} {a b : Int}, offs a idx d = some b → idx.length = d.length
 | [], [], _, _, _ => rfl
 | x :: t, d :: e, a, b, h => by
  simp only [offs] at h
  split at h
  ·cases h
  ·simp [FC h]
 | [], _ :: _, _, _, h => by cases h
 | _ :: _, [], _, _, h => by cases h
def Gv (bufs : List Qw) (name : Str) : Option Qw := bufs.find? fun b => b.fName == name
def US (n : Qh) (name : Str) (idx : List Qa) : List Q6 := match Gv n.fBufs name with
 | none => []
 | some b => match shOf b.fDims with
  | none => []
  | some m => match offs 0 idx b.fDims with
   | some a => [Q6.mk name a (a + 1)]
   | none => [Q6.mk name 0 m]
theorem N0 (n : Qh) (name : Str) (idx : List Qa) : (US n name idx).length ≤ 1 := by
 unfold US
 split
 ·simp
 ·split
  ·simp
  ·split <;> simp
def Mm (n : Qh) (x : Qa) : List Q6 := if x.fFrom = [] then [] else US n x.fFrom (x.fAt.map fun l => Qa.mk l [] [])
def YH (n : Qh) (idx : List Qa) : List Q6 := (idx.map (Mm n)).flatten
theorem IB (n : Qh) (x : Qa) : (Mm n x).length ≤ 1 := by
 unfold Mm; split
 ·simp
 ·exact N0 _ _ _
theorem GW (n : Qh) : ∀ idx : List Qa, (YH n idx).length ≤ idx.length
 | [] => by simp [YH]
 | x :: t => by
  have := GW n t
  have := IB n x
  simp only [YH, List.map_cons, List.flatten_cons, List.length_append, List.length_cons] at *; omega
def WY (n : Qh) (y : Q2) : List Q6 := if y.fOp = 3 then YH n y.fIdx ++ US n y.fName y.fIdx else []
def Dv (n : Qh) (l : List Qb) : List Q6 := (l.map fun y => WY n y.f).flatten
def J8 (n : Qh) (e : Q2) : List Q6 := Dv n (Zj (.mk e))
theorem MC (n : Qh) (e : Qb) (l : List Qb) : Dv n (e :: l) = WY n e.f ++ Dv n l := by simp [Dv]
theorem Be (n : Qh) (a b : List Qb) : Dv n (a ++ b) = Dv n a ++ Dv n b := by simp [Dv]
theorem So (n : Qh) (e : Q2) : J8 n e = WY n e ++ (e.fArgs.map fun a => J8 n a.f).flatten := by
 unfold J8
 rw [DP, MC]
 congr 1
 induction e.fArgs with
 | nil => rfl
 | cons a l ih => simp only [List.map_cons, List.flatten_cons, Be, ih, Qb.mk_f]
theorem Sn (n : Qh) (y : Q2) : (WY n y).length ≤ y.fIdx.length + 1 := by
 unfold WY; split
 ·have := GW n y.fIdx; have := N0 n y.fName y.fIdx; rw [List.length_append]; omega
 ·simp
theorem RQ (n : Qh) : ∀ e : Qb, (J8 n e.f).length ≤ XX e := Qb.ind fun x ih => by
 have h : ∀ l : List Qb, (∀ a ∈ l, (J8 n a.f).length ≤ XX a) → ((l.map fun a => J8 n a.f).flatten).length ≤ wSum XX l := by
  intro l
  induction l with
  | nil => intro _; simp
  | cons a l ih => intro h; simp only [List.map_cons, List.flatten_cons, List.length_append, QI]; have := h a (by simp); have := ih fun b hb => h b (by simp [hb]); omega
 have h1 := h _ ih
 have h2 := Sn n x
 have h3 := Kf (f := wIdx) (l := x.fIdx) NA
 have h4 := Mx x.fLin
 rw [Qb.f_mk, So, Um, Qb.f_mk, Qo, List.length_append]; omega
theorem WZ (n : Qh) (e : Q2) : (J8 n e).length ≤ Qo e := by have := RQ n (.mk e); rwa [Um, Qb.f_mk] at this
def Za (n : Qh) : Q9 → List Q6
 | .mk x => if x.fOp = 2 ∨ x.fOp = 3 then US n x.fName x.fIdx else if x.fOp = 1 ∨ x.fOp = 4 then (x.fBody.attach.map fun a => Za n a.1).flatten else []
 termination_by e => SizeOf.sizeOf e
 decreasing_by exact Q9.lt a.2
theorem Lw (n : Qh) (x : Qc) : Za n (.mk x) = if x.fOp = 2 ∨ x.fOp = 3 then US n x.fName x.fIdx else if x.fOp = 1 ∨ x.fOp = 4 then (x.fBody.map (Za n)).flatten else [] := by rw [Za]; simp
def Xa (n : Qh) : Q9 → List Q6
 | .mk x => if x.fOp = 2 ∨ x.fOp = 3 then YH n x.fIdx ++ J8 n x.fExpr else if x.fOp = 4 then J8 n x.fExpr ++ (x.fBody.attach.map fun a => Xa n a.1).flatten else if x.fOp = 1 then (x.fBody.attach.map fun a => Xa n a.1).flatten else []
 termination_by e => SizeOf.sizeOf e
 decreasing_by all_goals exact Q9.lt a.2
theorem Lo (n : Qh) (x : Qc) : Xa n (.mk x) = if x.fOp = 2 ∨ x.fOp = 3 then YH n x.fIdx ++ J8 n x.fExpr else if x.fOp = 4 then J8 n x.fExpr ++ (x.fBody.map (Xa n)).flatten else if x.fOp = 1 then (x.fBody.map (Xa n)).flatten else [] := by rw [Xa]; simp
def Gw : Q9 → Qc
 | .mk x => if h : x.fOp = 4 ∧ x.fBody.length = 1 then Gw (x.fBody[0]'(by omega)) else x
 termination_by e => SizeOf.sizeOf e
 decreasing_by exact Q9.lt (List.getElem_mem _)
theorem Sd {α : Type} {f : Q9 → List α} {l : List Q9} (h : ∀ a ∈ l, (f a).length ≤ QA a) : ((l.map f).flatten).length ≤ wSum QA l := by
 induction l with
 | nil => simp
 | cons a l ih => simp only [List.map_cons, List.flatten_cons, List.length_append, QI]; have := h a (by simp); have := ih fun b hb => h b (by simp [hb]); omega
theorem MG (n : Qh) : ∀ e : Q9, (Za n e).length ≤ QA e := Q9.ind fun x ih => by
 have h1 := Sd ih
 have h2 := N0 n x.fName x.fIdx
 have h3 := Po (.mk x)
 have h4 := NI x
 rw [Lw]
 rw [YV, Q9.f_mk] at *
 split
 ·omega
 ·split
  ·omega
  ·simp
theorem MF (n : Qh) : ∀ e : Q9, (Xa n e).length ≤ QA e := Q9.ind fun x ih => by
 have h1 := Sd ih
 have h2 := GW n x.fIdx
 have h5 := WZ n x.fExpr
 have h6 := Kf (f := wIdx) (l := x.fIdx) NA
 rw [Lo, YV, Q9.f_mk, QD]
 split
 ·rw [List.length_append]; omega
 ·split
  ·rw [List.length_append]; omega
  ·split
   ·omega
   ·simp
def C7 (n : Qh) (a b : Qc) : Int :=
 if ovL (Za n (.mk a)) (Xa n (.mk b)) = true then 1 else if ovL (Xa n (.mk a)) (Za n (.mk b)) = true then 2 else if ovL (Za n (.mk a)) (Za n (.mk b)) = true then (if (Gw (.mk a)).fOp = 3 ∧ (Gw (.mk b)).fOp = 3 then 4 else 3) else 0
theorem B5 (n : Qh) (a b : Qc) : (C7 n a b = 0) ↔ (C7 n b a = 0) := by
 unfold C7
 rw [EP (Za n (.mk b)) (Xa n (.mk a)), EP (Xa n (.mk b)) (Za n (.mk a)), EP (Za n (.mk b)) (Za n (.mk a))]
 cases ovL (Za n (.mk a)) (Xa n (.mk b)) <;> cases ovL (Xa n (.mk a)) (Za n (.mk b)) <;> cases ovL (Za n (.mk a)) (Za n (.mk b)) <;> simp
 split <;> split <;> simp
end HY
namespace HY
open Go
def GY : List Qa → List Int → Option (List Int)
 | [], _ => some []
 | _ :: _, [] => none
 | x :: t, d :: e => if C6 x d then none else (GY t e).map (x.fLin.fK :: ·)
def offL (a : Int) : List Int → List Int → Int
 | p :: q, d :: e => offL (a * d + p) q e
 | _, _ => a
def inR : List Int → List Int → Prop
 | p :: q, d :: e => 0 ≤ p ∧ p < d ∧ inR q e
 | _, _ => True
theorem FB {a : Int} {x : Qa} {t : List Qa} {d : Int} {e : List Int} (h : C6 x d) : offs a (x :: t) (d :: e) = none := by rw [offs, if_pos h]
theorem TL {a : Int} {x : Qa} {t : List Qa} {d : Int} {e : List Int} (h : ¬ C6 x d) : offs a (x :: t) (d :: e) = offs (a * d + x.fLin.fK) t e := by rw [offs, if_neg h]
theorem Ea : ∀ {idx : List Qa} {d : List Int} {a : Int}, GY idx d = none → offs a idx d = none
 | [], _, _, h => by cases h
 | _ :: _, [], _, _ => rfl
 | x :: t, d :: e, a, h => by
  by_cases hb : C6 x d
  ·exact FB hb
  ·rw [TL hb]
   simp only [GY, if_neg hb, Option.map_eq_none_iff] at h
   exact Ea h
theorem Eb : ∀ {idx : List Qa} {d q : List Int}, GY idx d = some q → q.length = idx.length ∧ inR q d ∧ ∀ a, (q.length = d.length → offs a idx d = some (offL a q d)) ∧ (q.length ≠ d.length → offs a idx d = none)
 | [], d, q, h => by
  cases h
  refine ⟨rfl, by cases d <;> trivial, fun a => ?_⟩
  cases d with
  | nil => exact ⟨fun _ => rfl, fun h => absurd rfl h⟩
  | cons d e => exact ⟨fun h => by simp at h, fun _ => rfl⟩
 | _ :: _, [], q, h => by cases h
 | x :: t, d :: e, q, h => by
  by_cases hb : C6 x d
  ·simp only [GY, if_pos hb] at h; cases h
  ·simp only [GY, if_neg hb, Option.map_eq_some_iff] at h
   obtain ⟨q', hq, rfl⟩ := h
   obtain ⟨h1, h2, h3⟩ := Eb hq
   have hb' : 0 ≤ x.fLin.fK ∧ x.fLin.fK < d := by unfold C6 at hb; omega
   refine ⟨by simp [h1], ⟨hb'.1, hb'.2, h2⟩, fun a => ?_⟩
   rw [TL hb]
   obtain ⟨h4, h5⟩ := h3 (a * d + x.fLin.fK)
   exact ⟨fun h => h4 (by simpa using h), fun h => h5 (by simpa using h)⟩
end HY
end
section
namespace Go.Proofs.YtokfigmmegifeaaGreat
open Go HY
set_option linter.unusedVariables false
set_option linter.unusedSimpArgs false
theorem I7 (x : Q6) (b : List Q6) (hl : b.length ≤ 1048576) : ZE x b b.length 0 = some (if b.any (ov x) then .inr true else .inl ()) := by
 refine MR (F := fun i => ZE x b b.length i) (l := b) (fun t => if t.any (ov x) then .inr true else .inl ()) ?_ ?_
 ·rw [ZE]; simp
 ·intro i y t h0 h1 hix ih
  rw [ZE, if_pos h1, hix]
  simp only [bS, QF h0 h1 (by omega), ih, List.any_cons]
  by_cases h2 : x.fBuffer == y.fBuffer
  ·by_cases h3 : max x.fFrom y.fFrom < min x.fTo y.fTo
   ·simp [ov, h2, h3, bS]
   ·simp [ov, h2, h3, bS]
  ·simp [ov, h2, bS]
theorem I6 (a b : List Q6) (ha : a.length ≤ 1048576) (hl : b.length ≤ 1048576) : ZD b a a.length 0 = some (if ovL a b then .inr true else .inl ()) := by
 refine MR (F := fun i => ZD b a a.length i) (l := a) (fun t => if ovL t b then .inr true else .inl ()) ?_ ?_
 ·rw [ZD]; simp [ovL]
 ·intro i y t h0 h1 hix ih
  rw [ZD, if_pos h1, hix]
  simp only [bS, I7 y b hl, QF h0 h1 (by omega), ih, ovL, List.any_cons]
  by_cases hb : b.any (ov y) = true <;> simp [bS, hb]
theorem Dl (a b : List Q6) (ha : a.length ≤ 1048576) (hl : b.length ≤ 1048576) : XO a b = some (ovL a b) := by
 unfold XO
 simp only [bS, I6 a b ha hl]
 cases ovL a b <;> simp [bS]
theorem IN (a : List Q6) (x : Q6) (k : Int) (b : List Q6) (hk : ix a k = some x) (hl : b.length ≤ 1048576) : ZY a b k 0 = some (if b.any (ov x) then .inr true else .inl ()) := by
 refine MR (F := fun i => ZY a b k i) (l := b) (fun t => if t.any (ov x) then .inr true else .inl ()) ?_ ?_
 ·rw [ZY]; simp [bS]
 ·intro i y t h0 h1 hix ih
  rw [ZY, bS, if_pos h1, hix, hk]
  simp only [bS, QF h0 h1 (by omega), ih, List.any_cons]
  by_cases h2 : x.fBuffer == y.fBuffer
  ·by_cases h3 : max x.fFrom y.fFrom < min x.fTo y.fTo
   ·simp [ov, h2, h3, bS]
   ·simp [ov, h2, h3, bS]
  ·simp [ov, h2, bS]
theorem IM (a b : List Q6) (ha : a.length ≤ 1048576) (hl : b.length ≤ 1048576) : ZX a b 0 = some (if ovL a b then .inr true else .inl ()) := by
 refine MR (F := fun i => ZX a b i) (l := a) (fun t => if ovL t b then .inr true else .inl ()) ?_ ?_
 ·rw [ZX]; simp [ovL, bS]
 ·intro i y t h0 h1 hix ih
  rw [ZX, bS, if_pos h1]
  simp only [bS, IN a y i b hix hl, QF h0 h1 (by omega), ih, ovL, List.any_cons]
  by_cases hb : b.any (ov y) = true <;> simp [bS, hb]
theorem Wj (a b : List Q6) (ha : a.length ≤ 1048576) (hl : b.length ≤ 1048576) : JB a b = some (ovL a b) := by
 unfold JB
 simp only [bS, IM a b ha hl]
 cases ovL a b <;> simp [bS]
theorem I9 (d : List Int) (hl : d.length ≤ 1048576) : ZI d d.length 0 = some (if d.any (fun v => decide (v < 1)) then .inr 1 else .inl ()) := by
 refine MR (F := fun i => ZI d d.length i) (l := d) (fun t => if t.any (fun v => decide (v < 1)) then .inr 1 else .inl ()) ?_ ?_
 ·rw [ZI]; simp
 ·intro i y t h0 h1 hix ih
  rw [ZI, if_pos h1, hix]
  simp only [bS, QF h0 h1 (by omega), ih, List.any_cons]
  by_cases h2 : y < 1 <;> simp [h2]
theorem OF {n v : Int} (hn : 1 ≤ n) : ((4096 : Int).tdiv n < v) ↔ 4096 < n * v := by
 rw [Int.tdiv_eq_ediv_of_nonneg (by omega), Int.ediv_lt_iff_lt_mul (by omega), Int.mul_comm]
theorem tdiv_le {n : Int} (hn : 1 ≤ n) : 0 ≤ (4096 : Int).tdiv n ∧ (4096 : Int).tdiv n ≤ 4096 := by
 rw [Int.tdiv_eq_ediv_of_nonneg (by omega)]
 exact ⟨Int.ediv_nonneg (by omega) (by omega), Int.ediv_le_self _ (by omega)⟩
theorem Ln (d : List Int) (hl : d.length ≤ 1048576) (hd : ∀ v ∈ d, 1 ≤ v) : Zt 1 d d.length 0 = some (if (Y0 1 d).isSome then .inl () else .inr 2) := by
 refine V2 (F := fun n i => Zt n d d.length i) (l := d) (fun n t => 1 ≤ n ∧ n ≤ 4096) (fun n t => if (Y0 n t).isSome then .inl () else .inr 2) ?_ ?_ 1 (by omega)
 ·intro n _
  rw [Zt]; simp [Y0]
 ·intro i y t n h0 h1 hm hix hI ih
  have hy := hd y hm
  have h4 := tdiv_le hI.1
  rw [Zt, if_pos h1, hix]
  simp only [bS, QF h0 h1 (by omega)]
  rw [if_pos (show n ≠ 0 by omega), QJ (by omega)]
  by_cases h2 : 4096 < n * y
  ·rw [if_pos ((OF hI.1).2 h2), Mt (.inr h2)]; rfl
  ·have hp : n ≤ n * y := by
    have := Int.mul_le_mul_of_nonneg_left hy (show 0 ≤ n by omega); rwa [Int.mul_one] at this
   rw [if_neg (fun h => h2 ((OF hI.1).1 h)), Lp (by omega), QJ (by omega)]
   exact ih _ (by omega)
theorem Dm (d : List Int) (hl : d.length ≤ 1048576) : ∃ v, Vy d = some v ∧ (v = 0 ↔ (shOf d).isSome) := by
 unfold Vy shOf
 simp only [bS]
 by_cases h6 : (6 : Int) < d.length
 ·rw [if_pos h6, if_neg (by omega)]
  exact ⟨_, rfl, by simp⟩
 ·rw [if_neg h6, if_pos (by omega), I9 d hl]
  by_cases ha : d.any (fun v => decide (v < 1)) = true
  ·rw [if_pos ha]
   refine ⟨1, rfl, ?_⟩
   rw [Sr (by simpa using ha)]; simp
  ·rw [if_neg ha, bS]
   simp only
   rw [Ln d hl (fun v hv => by
    have : ¬ v < 1 := fun h => ha (List.any_eq_true.2 ⟨v, hv, by simpa using h⟩)
    omega)]
   cases hs : (Y0 1 d).isSome <;> simp [bS]
theorem P3 (d : List Int) (m : Int) (hl : d.length ≤ 1048576) (h : shOf d = some m) : W7 d = some m := by
 obtain ⟨v, e1, e2⟩ := Dm d hl
 have hv : v = 0 := e2.2 (by rw [h]; rfl)
 subst hv
 have hr : Y0 1 d = some m := by unfold shOf at h; split at h; exact h; cases h
 unfold W7
 simp only [bS, e1]
 have L : Ym 1 d d.length 0 = some ((Y0 1 d).getD 0) := by
  refine V2 (F := fun n i => Ym n d d.length i) (l := d) (fun n t => 1 ≤ n ∧ n ≤ 4096 ∧ (Y0 n t).isSome) (fun n t => (Y0 n t).getD 0) ?_ ?_ 1 ⟨by omega, by omega, by rw [hr]; rfl⟩
  ·intro n _
   rw [Ym]; simp [Y0]
  ·intro i y t n h0 h1 hm hix hI ih
   obtain ⟨i1, i2, i3⟩ := hI
   simp only [Y0] at i3 ⊢
   split at i3
   ·cases i3
   ·rename_i hc
    rw [Ym, if_pos h1, hix]
    have hp : n ≤ n * y := by
     have := Int.mul_le_mul_of_nonneg_left (show 1 ≤ y by omega) (show 0 ≤ n by omega); rwa [Int.mul_one] at this
    simp only [bS, QF h0 h1 (by omega), if_neg hc]
    rw [QJ (by omega)]
    exact ih _ ⟨by omega, by omega, i3⟩
 rw [L, hr]; simp [bS]
theorem EW (d : List Int) (hl : d.length ≤ 1048576) : ∃ k, De d = some (k, (shOf d).isSome) ∧ ∀ m, shOf d = some m → k = m := by
 have L : ZH d 1 0 = some (match Y0 1 d with | some m => .inl m | none => .inr (0, false)) := by
  refine V2 (F := fun n i => ZH d n i) (l := d) (fun n t => 1 ≤ n ∧ n ≤ 4096) (fun n t => match Y0 n t with | some m => .inl m | none => .inr (0, false)) ?_ ?_ 1 (by omega)
  ·intro n _
   rw [ZH]; simp [Y0, bS]
  ·intro i y t n h0 h1 hm hix hI ih
   rw [ZH, bS, if_pos h1, hix]
   simp only [bS, QF h0 h1 (by omega), Y0]
   by_cases h2 : y < 1
   ·rw [if_pos h2, if_pos (.inl h2)]; rfl
   ·have hp : n ≤ n * y ∧ y ≤ n * y := by
     have a := Int.mul_le_mul_of_nonneg_left (show 1 ≤ y by omega) (show 0 ≤ n by omega)
     have b := Int.mul_le_mul_of_nonneg_right hI.1 (show 0 ≤ y by omega)
     rw [Int.mul_one] at a; rw [Int.one_mul] at b; exact ⟨a, b⟩
    rw [if_neg h2]
    by_cases h3 : 4096 < y
    ·rw [if_pos h3, if_pos (.inr (by omega))]; rfl
    ·have hu : n * y ≤ 4096 * 4096 := Int.mul_le_mul hI.2 (by omega) (by omega) (by omega)
     rw [if_neg h3]
     simp only [bS, ite_f, hix, Bool.false_eq_true, if_false]
     rw [QJ (by omega)]
     by_cases h4 : 4096 < n * y
     ·rw [if_pos h4, if_pos (.inr h4)]
     ·rw [if_neg h4, if_neg (by omega)]
      exact ih _ (by omega)
 unfold De
 simp only [bS, L]
 unfold shOf
 cases hs : Y0 1 d with
 | none => exact ⟨0, by simp [bS], by split <;> simp⟩
 | some m =>
  refine ⟨m, ?_, ?_⟩
  ·simp only [bS]
   by_cases h6 : d.length ≤ 6
   ·rw [if_pos h6]; simp; omega
   ·rw [if_neg h6]; simp; omega
  ·split
   ·simp
   ·simp
end Go.Proofs.YtokfigmmegifeaaGreat
end
section
namespace Go.Proofs.YtokfigmmegifeaaGreat
open Go HY
set_option linter.unusedVariables false
set_option linter.unusedSimpArgs false
theorem NZ {α : Type} {l p : List α} {x : α} {t : List α} (h : l = p ++ x :: t) : ix l p.length = some x := by
 unfold ix
 rw [if_pos (by omega), Int.toNat_natCast, h, List.getElem?_append_right (Nat.le_refl _)]; simp
theorem wrapL {k : Nat} (h : k ≤ 1048576) : wr ((k : Int) + 1) = ((k + 1 : Nat) : Int) := by rw [QJ (by omega)]; omega
def zBuf : Qw := Qw.mk [] (Qi.mk (0 : Int) (0 : Int) (0 : Int) (0 : Int) (0 : Int)) [] (0 : Int)
theorem MW (b : Qw) (h : b.fDims.length ≤ 1048576) : Jy b = some b := by
 unfold Jy G8
 rw [if_pos (by omega)]; rfl
theorem Lm (name : Str) (n : Qh) (z : Qw) (hl : n.fBufs.length ≤ 1048576) (hd : ∀ b ∈ n.fBufs, b.fDims.length ≤ 1048576) : Zr name n z n.fBufs.length 0 = some (match Gv n.fBufs name with | some b => .inr (b, true) | none => .inl z) := by
 refine V2 (F := fun (_ : Unit) i => Zr name n z n.fBufs.length i) (l := n.fBufs) (fun _ _ => True) (fun _ t => match Gv t name with | some b => .inr (b, true) | none => .inl z) ?_ ?_ () trivial
 ·intro _ _
  rw [Zr]; simp [Gv]
 ·intro i y t _ h0 h1 hm hix _ ih
  rw [Zr, if_pos h1, hix]
  simp only [bS, QF h0 h1 (by omega), Gv, List.find?_cons]
  by_cases h2 : (y.fName == name) = true
  ·rw [if_pos h2, h2, MW y (hd y hm)]; rfl
  ·rw [if_neg h2, show (y.fName == name) = false by simpa using h2]
   exact ih () trivial
theorem HQ (n : Qh) (name : Str) (hl : n.fBufs.length ≤ 1048576) (hd : ∀ b ∈ n.fBufs, b.fDims.length ≤ 1048576) : Gt n name = some (match Gv n.fBufs name with | some b => (b, true) | none => (zBuf, false)) := by
 unfold Gt
 simp only [bS, Lm name n _ hl hd]
 cases Gv n.fBufs name <;> rfl
theorem HR (name : Str) (n : Qh) (z : Qw) (hl : n.fBufs.length ≤ 1048576) : Z6 name n z 0 = some (match Gv n.fBufs name with | some b => .inr (b, true) | none => .inl z) := by
 refine MR (F := fun i => Z6 name n z i) (l := n.fBufs) (fun t => match Gv t name with | some b => .inr (b, true) | none => .inl z) ?_ ?_
 ·rw [Z6]; simp [Gv, bS]
 ·intro i y t h0 h1 hix ih
  rw [Z6, bS, if_pos h1, hix]
  simp only [bS, QF h0 h1 (by omega), Gv, List.find?_cons]
  by_cases h2 : (y.fName == name) = true
  ·rw [if_pos h2, h2]
  ·rw [if_neg h2, show (y.fName == name) = false by simpa using h2]
   exact ih
theorem TO (n : Qh) (name : Str) (hl : n.fBufs.length ≤ 1048576) : Xs n name = some (match Gv n.fBufs name with | some b => (b, true) | none => (zBuf, false)) := by
 unfold Xs
 simp only [bS, HR name n _ hl]
 cases Gv n.fBufs name <;> rfl
theorem S7 {l : List Qw} {name : Str} {b : Qw} (h : Gv l name = some b) : b ∈ l := List.mem_of_find?_eq_some h
theorem Ed (d p : List Int) (hl : d.length ≤ 1048576) : ∀ (t q pre pq : List Int) (a n : Int), d = pre ++ t → p = pq ++ q → pre.length = pq.length → q.length = t.length → inR q t → 0 ≤ a → a < n → n ≤ 4096 → (Y0 n t).isSome → Xk p a d d.length pre.length = some (.inl (offL a q t))
 | [], [], pre, pq, a, n, hd, hp, _, _, _, _, _, _, _ => by
  rw [Xk, if_neg (by rw [hd]; simp)]; rfl
 | [], _ :: _, _, _, _, _, _, _, _, hq, _, _, _, _, _ => by simp at hq
 | _ :: _, [], _, _, _, _, _, _, _, hq, _, _, _, _, _ => by simp at hq
 | v :: t, k :: q, pre, pq, a, n, hd, hp, hpl, hq, hr, h0, h1, h2, hs => by
  have hlt : pre.length < d.length := by rw [hd]; simp
  have hc : ¬ (v < 1 ∨ 4096 < n * v) := fun hc => by rw [Mt hc] at hs; cases hs
  rw [Lp hc] at hs
  have e1 : n * v = (n - 1) * v + v := by rw [Int.sub_mul]; omega
  have e2 : a * v ≤ (n - 1) * v := Int.mul_le_mul_of_nonneg_right (by omega) (by omega)
  have e3 : 0 ≤ a * v := Int.mul_nonneg h0 (by omega)
  obtain ⟨r1, r2, r3⟩ := hr
  rw [Xk, if_pos (by omega), NZ hd]
  have hix : ix p pre.length = some k := by rw [hpl]; exact NZ hp
  simp only [bS, hix]
  rw [if_neg (by omega), if_neg (by omega)]
  simp only [bS, Bool.false_eq_true, if_false]
  rw [QJ (n := a * v) (by omega), QJ (n := a * v + k) (by omega), wrapL (by omega)]
  have := Ed d p hl t q (pre ++ [v]) (pq ++ [k]) (a * v + k) (n * v) (by rw [hd]; simp) (by rw [hp]; simp) (by simp [hpl]) (by simpa using hq) r3 (by omega) (by omega) (by omega) hs
  simp only [List.length_append, List.length_singleton] at this
  exact this
theorem TP (d q : List Int) (hl : d.length ≤ 1048576) (hv : (shOf d).isSome) (hq : q.length = d.length) (hr : inR q d) : Ui d q = some (offL 0 q d, true) := by
 obtain ⟨v, e1, e2⟩ := Dm d hl
 have := e2.2 hv
 subst this
 have hs : (Y0 1 d).isSome := by unfold shOf at hv; split at hv; exact hv; cases hv
 unfold Ui
 simp only [bS, e1]
 have h := Ed d q hl d q [] [] 0 1 rfl rfl rfl hq hr (by omega) (by omega) (by omega) hs
 simp only [List.length_nil, Int.ofNat_zero, Int.cast_ofNat_Int] at h
 have e : ((0 : Int) != 0) = false := rfl
 have e' : ((q.length : Int) != (d.length : Int)) = false := by rw [hq]; simp
 simp only [e, e', Bool.false_eq_true, if_false, bS]
 rw [show Xk q 0 d (↑d.length) 0 = some (.inl (offL 0 q d)) from h]
 rfl
theorem HS (d q : List Int) (hl : d.length ≤ 1048576) (hv : (shOf d).isSome) (hq : q.length ≠ d.length) : Ui d q = some (0, false) := by
 obtain ⟨v, e1, e2⟩ := Dm d hl
 have := e2.2 hv
 subst this
 unfold Ui
 simp only [bS, e1]
 have e : ((0 : Int) != 0) = false := rfl
 have e' : ((q.length : Int) != (d.length : Int)) = true := by simp; omega
 simp only [e, e', Bool.false_eq_true, if_false, if_true, bS]
theorem Ef (b : Qw) (whole : List Q6) (idx : List Qa) (hl : idx.length ≤ 1048576) (hd : b.fDims.length ≤ 1048576) : ∀ (t pre : List Qa) (e pd p : List Int), idx = pre ++ t → (b.fDims = pd ++ e) → (pre.length = pd.length) → p.length = pre.length →
  ZL b whole p idx idx.length pre.length = some (match GY t e with | some q => .inl (p ++ q) | none => .inr whole)
 | [], pre, e, pd, p, hi, _, _, _ => by
  rw [ZL, if_neg (by rw [hi]; simp)]
  simp [GY]
 | x :: t, pre, [], pd, p, hi, hdd, hpl, hp => by
  have hlt : pre.length < idx.length := by rw [hi]; simp
  rw [ZL, if_pos (by omega), NZ hi]
  have hle : (((b.fDims.map eI).length : Nat) : Int) ≤ (pre.length : Int) := by rw [List.length_map, hdd]; simp; omega
  simp only [bS, hle, if_true, ite_self, GY]
 | x :: t, pre, v :: e, pd, p, hi, hdd, hpl, hp => by
  have hlt : pre.length < idx.length := by rw [hi]; simp
  have hlt2 : pd.length < b.fDims.length := by rw [hdd]; simp
  rw [ZL, if_pos (by omega), NZ hi]
  have hix : ix b.fDims pre.length = some v := by rw [hpl]; exact NZ hdd
  have hle : ¬ (((b.fDims.map eI).length : Nat) : Int) ≤ (pre.length : Int) := by rw [List.length_map]; omega
  have hL : ((0 : Int) < (((x.fLin.fL.map Qf).length : Nat) : Int)) ↔ x.fLin.fL ≠ [] := by
   rw [List.length_map]; cases x.fLin.fL <;> simp
  have hF : ((!x.fFrom == []) = true) ↔ x.fFrom ≠ [] := by simp
  simp only [bS, hix, hle, if_false]
  by_cases hb : C6 x v
  ·have : (if (!x.fFrom == []) = true then some true else if (0 : Int) < (((x.fLin.fL.map Qf).length : Nat) : Int) then some true else if x.fLin.fK < 0 then some true else if v ≤ x.fLin.fK then some true else some false) = some true := by
    rcases hb with h | h | h | h
    ·rw [if_pos (hF.2 h)]
    ·rw [if_pos (hL.2 h), ite_self]
    ·rw [if_pos h, ite_self, ite_self]
    ·rw [if_pos h, ite_self, ite_self, ite_self]
   rw [this]
   simp only [bS, if_true, GY, if_pos hb]
  ·have hn : x.fFrom = [] ∧ x.fLin.fL = [] ∧ ¬ x.fLin.fK < 0 ∧ ¬ v ≤ x.fLin.fK := by
    unfold C6 at hb
    refine ⟨Classical.byContradiction fun h => hb (.inl h), Classical.byContradiction fun h => hb (.inr (.inl h)), fun h => hb (.inr (.inr (.inl h))), fun h => hb (.inr (.inr (.inr h)))⟩
   rw [if_neg (fun h => hF.1 h hn.1), if_neg (fun h => hL.1 h hn.2.1), if_neg hn.2.2.1, if_neg hn.2.2.2]
   simp only [bS, Bool.false_eq_true, if_false]
   rw [if_pos (by omega), wrapL (by omega)]
   have := Ef b whole idx hl hd t (pre ++ [x]) e (pd ++ [v]) (p ++ [x.fLin.fK]) (by rw [hi]; simp) (by rw [hdd]; simp) (by simp [hpl]) (by simp [hp])
   simp only [List.length_append, List.length_singleton] at this
   rw [this]
   simp only [GY, if_neg hb]
   cases GY t e <;> simp
theorem Ov : ∀ (q d : List Int) (a n : Int), inR q d → q.length = d.length → 0 ≤ a → a < n → n ≤ 4096 → (Y0 n d).isSome → 0 ≤ offL a q d ∧ offL a q d < 4096
 | [], [], a, n, _, _, h0, h1, h2, _ => ⟨h0, by show a < 4096; omega⟩
 | [], _ :: _, _, _, _, hq, _, _, _, _ => by simp at hq
 | _ :: _, [], _, _, _, hq, _, _, _, _ => by simp at hq
 | k :: q, v :: t, a, n, hr, hq, h0, h1, h2, hs => by
  have hc : ¬ (v < 1 ∨ 4096 < n * v) := fun hc => by rw [Mt hc] at hs; cases hs
  rw [Lp hc] at hs
  have e1 : n * v = (n - 1) * v + v := by rw [Int.sub_mul]; omega
  have e2 : a * v ≤ (n - 1) * v := Int.mul_le_mul_of_nonneg_right (by omega) (by omega)
  have e3 : 0 ≤ a * v := Int.mul_nonneg h0 (by omega)
  obtain ⟨r1, r2, r3⟩ := hr
  exact Ov q t (a * v + k) (n * v) r3 (by simpa using hq) (by omega) (by omega) (by omega) hs
theorem WD (n : Qh) (name : Str) (idx : List Qa) (hl : idx.length ≤ 1048576) (hb : n.fBufs.length ≤ 1048576) (hd : ∀ b ∈ n.fBufs, b.fDims.length ≤ 1048576) : Vz n name idx = some (US n name idx) := by
 unfold Vz US
 rw [HQ n name hb hd]
 cases hbo : Gv n.fBufs name with
 | none => rfl
 | some b =>
  have hdl := hd b (S7 hbo)
  obtain ⟨v, e1, e2⟩ := Dm b.fDims hdl
  simp only [bS, if_true, e1]
  cases hs : shOf b.fDims with
  | none =>
   have hv : (v != 0) = true := by rw [hs] at e2; simp at e2; simpa using e2
   rw [hv]; rfl
  | some m =>
   have hv : v = 0 := e2.2 (by rw [hs]; rfl)
   subst hv
   have e : ((0 : Int) != 0) = false := rfl
   simp only [e, Bool.false_eq_true, if_false, bS, P3 b.fDims m hdl hs]
   have hL := Ef b [Q6.mk name 0 m] idx hl hdl idx [] b.fDims [] [] rfl rfl rfl rfl
   rw [show ZL b [Q6.mk name 0 m] [] idx (↑idx.length) 0 = _ from hL]
   cases hp : GY idx b.fDims with
   | none => rw [Ea hp]; rfl
   | some q =>
    obtain ⟨h1, h2, h3⟩ := Eb hp
    obtain ⟨h4, h5⟩ := h3 0
    simp only [bS, List.nil_append]
    by_cases hq : q.length = b.fDims.length
    ·have hsz : (Y0 1 b.fDims).isSome := by unfold shOf at hs; split at hs; rw [hs]; rfl; cases hs
     have hlt := Ov q b.fDims 0 1 h2 hq (by omega) (by omega) (by omega) hsz
     rw [TP b.fDims q hdl (by rw [hs]; rfl) hq h2, h4 hq]
     simp only [bS, if_true]
     rw [QJ (by omega)]
    ·rw [HS b.fDims q hdl (by rw [hs]; rfl) hq, h5 hq]
     simp only [bS, Bool.false_eq_true, if_false]
theorem Mr (b : Qw) (idx : List Qa) (hl : idx.length ≤ 1048576) : ∀ (t pre : List Qa) (e pd : List Int) (a n : Int), idx = pre ++ t → b.fDims = pd ++ e → pre.length = pd.length → t.length = e.length → 0 ≤ a → a < n → n ≤ 4096 → (Y0 n e).isSome →
  ∃ k, Zd idx b a true pre.length = some (k, (offs a t e).isSome) ∧ ∀ v, offs a t e = some v → k = v ∧ 0 ≤ k ∧ k < 4096
 | [], pre, [], pd, a, n, hi, _, _, _, h0, h1, h2, _ => by
  refine ⟨a, ?_, fun v hv => by cases hv; omega⟩
  rw [Zd]
  simp only [bS]
  rw [if_neg (by rw [hi]; simp)]; rfl
 | [], _, _ :: _, _, _, _, _, _, _, hq, _, _, _, _ => by simp at hq
 | _ :: _, _, [], _, _, _, _, _, _, hq, _, _, _, _ => by simp at hq
 | x :: t, pre, v :: e, pd, a, n, hi, hdd, hpl, hq, h0, h1, h2, hs => by
  have hlt : pre.length < idx.length := by rw [hi]; simp
  have hc : ¬ (v < 1 ∨ 4096 < n * v) := fun hc => by rw [Mt hc] at hs; cases hs
  rw [Lp hc] at hs
  have e1 : n * v = (n - 1) * v + v := by rw [Int.sub_mul]; omega
  have e2 : a * v ≤ (n - 1) * v := Int.mul_le_mul_of_nonneg_right (by omega) (by omega)
  have e3 : 0 ≤ a * v := Int.mul_nonneg h0 (by omega)
  have hixd : ix b.fDims pre.length = some v := by rw [hpl]; exact NZ hdd
  have hixi : ix idx pre.length = some x := NZ hi
  have hL : ((0 : Int) < ((x.fLin.fL.length : Nat) : Int)) ↔ x.fLin.fL ≠ [] := by
   cases x.fLin.fL <;> simp
  have hF : ((!x.fFrom == []) = true) ↔ x.fFrom ≠ [] := by simp
  rw [Zd]
  simp only [bS]
  rw [if_pos (show (pre.length : Int) < idx.length by omega)]
  simp only [bS, if_true, hixi, hixd]
  by_cases hb : C6 x v
  ·have : (if (!x.fFrom == []) = true then some true else if (0 : Int) < ((x.fLin.fL.length : Nat) : Int) then some true else if x.fLin.fK < 0 then some true else if v ≤ x.fLin.fK then some true else some false) = some true := by
    rcases hb with h | h | h | h
    ·rw [if_pos (hF.2 h)]
    ·rw [if_pos (hL.2 h), ite_self]
    ·rw [if_pos h, ite_self, ite_self]
    ·rw [if_pos h, ite_self, ite_self, ite_self]
   rw [this]
   simp only [bS, if_true]
   rw [FB hb]
   refine ⟨a, ?_, fun v hv => by cases hv⟩
   rw [Zd]
   simp only [bS, Bool.false_eq_true, if_false, ite_self]
   rfl
  ·have hn : x.fFrom = [] ∧ x.fLin.fL = [] ∧ ¬ x.fLin.fK < 0 ∧ ¬ v ≤ x.fLin.fK := by
    unfold C6 at hb
    refine ⟨Classical.byContradiction fun h => hb (.inl h), Classical.byContradiction fun h => hb (.inr (.inl h)), fun h => hb (.inr (.inr (.inl h))), fun h => hb (.inr (.inr (.inr h)))⟩
   rw [if_neg (fun h => hF.1 h hn.1), if_neg (fun h => hL.1 h hn.2.1), if_neg hn.2.2.1, if_neg hn.2.2.2]
   simp only [bS, Bool.false_eq_true, if_false]
   rw [QJ (n := a * v) (by omega), QJ (n := a * v + x.fLin.fK) (by omega), wrapL (by omega), TL hb]
   have := Mr b idx hl t (pre ++ [x]) e (pd ++ [v]) (a * v + x.fLin.fK) (n * v) (by rw [hi]; simp) (by rw [hdd]; simp) (by simp [hpl]) (by simpa using hq) (by omega) (by omega) (by omega) hs
   simp only [List.length_append, List.length_singleton] at this
   exact this
theorem WC (n : Qh) (name : Str) (idx : List Qa) (hl : idx.length ≤ 1048576) (hb : n.fBufs.length ≤ 1048576) (hd : ∀ b ∈ n.fBufs, b.fDims.length ≤ 1048576) : Uh n name idx = some (US n name idx) := by
 unfold Uh US
 rw [TO n name hb]
 cases hbo : Gv n.fBufs name with
 | none => rfl
 | some b =>
  have hdl := hd b (S7 hbo)
  obtain ⟨k, e1, e2⟩ := EW b.fDims hdl
  simp only [bS, if_true, e1]
  cases hs : shOf b.fDims with
  | none => rfl
  | some m =>
   have hk := e2 m hs
   subst hk
   have hsz : (Y0 1 b.fDims).isSome := by unfold shOf at hs; split at hs; rw [hs]; rfl; cases hs
   simp only [Option.isSome_some, if_true, bS, List.length_map]
   by_cases hq : idx.length = b.fDims.length
   ·obtain ⟨j, f1, f2⟩ := Mr b idx hl idx [] b.fDims [] 0 1 rfl rfl rfl hq (by omega) (by omega) (by omega) hsz
    have e : ((idx.length : Int) == (b.fDims.length : Int)) = true := by rw [hq]; simp
    rw [e, show Zd idx b 0 true 0 = _ from f1]
    cases ho : offs 0 idx b.fDims with
    | none => rfl
    | some a =>
     obtain ⟨rfl, g1, g2⟩ := f2 a ho
     simp only [bS, Option.isSome_some, if_true]
     rw [QJ (by omega)]
   ·have e : ((idx.length : Int) == (b.fDims.length : Int)) = false := by simp; omega
    have hn : offs 0 idx b.fDims = none := by
     cases ho : offs 0 idx b.fDims with
     | none => rfl
     | some a => exact absurd (FC ho) hq
    have : Zd idx b 0 false 0 = some (0, false) := by
     rw [Zd]
     simp only [bS, Bool.false_eq_true, if_false, ite_self]
    rw [e, this, hn]
    rfl
end Go.Proofs.YtokfigmmegifeaaGreat
end
section
namespace Go.Proofs.YtokfigmmegifeaaGreat
open Go HY
set_option linter.unusedVariables false
set_option linter.unusedSimpArgs false
structure okN (n : Qh) : Prop where
 len : n.fBufs.length ≤ 1048576
 dims : ∀ b ∈ n.fBufs, b.fDims.length ≤ 1048576
theorem okN.of {n : Qh} (h : JI n ≤ 1048576) : okN n := by
 have hn : JI n = 1 + wSum wBuf n.fBufs + wSum QA n.fBody := rfl
 obtain ⟨h1, h2⟩ := He (l := n.fBufs) (by omega)
 exact ⟨h1, fun b hb => (h2 b hb).2⟩
theorem FZ (l : List gLin) (hl : l.length ≤ 1048576) : ZZ [] l l.length 0 = some (l.map fun x => Qa.mk x [] []) := by
 have := V2 (F := fun a i => ZZ a l l.length i) (l := l) (fun a t => a.length + t.length ≤ 1048576) (fun a t => a ++ t.map fun x => Qa.mk x [] []) (by
  intro a _
  rw [ZZ]; simp) (by
  intro i y t a h0 h1 hm hix hI ih
  simp only [List.length_cons] at hI
  rw [ZZ, if_pos h1, hix]
  simp only [bS, QF h0 h1 (by omega)]
  rw [if_pos (by omega), ih _ (by simp; omega)]
  simp) [] (by simpa using hl)
 simpa using this
theorem EY (idx : List Qa) (k : Int) (x : Qa) (hk : ix idx k = some x) (hl : x.fAt.length ≤ 1048576) : ZV idx k [] 0 = some (x.fAt.map fun x => Qa.mk x [] []) := by
 have := V2 (F := fun a i => ZV idx k a i) (l := x.fAt) (fun a t => a.length + t.length ≤ 1048576) (fun a t => a ++ t.map fun x => Qa.mk x [] []) (by
  intro a _
  rw [ZV, hk]; simp [bS]) (by
  intro i y t a h0 h1 hm hix hI ih
  simp only [List.length_cons] at hI
  rw [ZV, hk, bS, bS, if_pos h1, bS, hix]
  simp only [bS, QF h0 h1 (by omega)]
  rw [if_pos (by omega), ih _ (by simp; omega)]
  simp) [] (by simpa using hl)
 simpa using this
theorem Se {n : Qh} {x : Qa} (h : (x.fFrom == []) = true) : Mm n x = [] := by
 unfold Mm; rw [if_pos (by simpa using h)]
theorem On {n : Qh} {x : Qa} (h : ¬ (x.fFrom == []) = true) : Mm n x = US n x.fFrom (x.fAt.map fun l => Qa.mk l [] []) := by
 unfold Mm; rw [if_neg (by simpa using h)]
theorem LG (n : Qh) (x : Qa) (t : List Qa) : YH n (x :: t) = Mm n x ++ YH n t := by simp [YH]
theorem Ms (n : Qh) (idx : List Qa) (hn : okN n) (hl : idx.length ≤ 1048576) (ha : ∀ x ∈ idx, x.fAt.length ≤ 1048576) : JC n idx = some (YH n idx) := by
 have L := V2 (F := fun a i => Zx n a idx idx.length i) (l := idx) (fun a t => a.length + t.length ≤ 1048576) (fun a t => a ++ YH n t) (by
  intro a _
  rw [Zx]; simp [YH]) (by
  intro i y t a h0 h1 hm hix hI ih
  simp only [List.length_cons] at hI
  rw [Zx, if_pos h1, hix]
  simp only [bS, QF h0 h1 (by omega), LG]
  by_cases h2 : (y.fFrom == []) = true
  ·rw [if_pos h2, Se h2, ih _ (by omega)]; simp
  ·rw [if_neg h2, FZ y.fAt (ha y hm), bS, WD n y.fFrom _ (by simpa using ha y hm) hn.len hn.dims, bS, ← On h2]
   have := IB n y
   rw [if_pos (by rw [List.length_map]; omega), ih _ (by rw [List.length_append]; omega)]; simp) [] (by simpa using hl)
 unfold JC
 simp only [bS]
 rw [show Zx n [] idx (↑idx.length) 0 = _ from L]
 simp [bS]
theorem Mq (n : Qh) (idx : List Qa) (hn : okN n) (hl : idx.length ≤ 1048576) (ha : ∀ x ∈ idx, x.fAt.length ≤ 1048576) : G7 n idx = some (YH n idx) := by
 have L := V2 (F := fun a i => Zw idx n a i) (l := idx) (fun a t => a.length + t.length ≤ 1048576) (fun a t => a ++ YH n t) (by
  intro a _
  rw [Zw]; simp [YH, bS]) (by
  intro i y t a h0 h1 hm hix hI ih
  simp only [List.length_cons] at hI
  rw [Zw, bS, if_pos h1, hix]
  simp only [bS, QF h0 h1 (by omega), LG, hix]
  by_cases h2 : (y.fFrom == []) = true
  ·rw [if_pos h2, Se h2, ih _ (by omega)]; simp
  ·rw [if_neg h2, EY idx i y hix (ha y hm), bS, WC n y.fFrom _ (by simpa using ha y hm) hn.len hn.dims, bS, ← On h2]
   have := IB n y
   rw [if_pos (by rw [List.length_map]; omega), ih _ (by rw [List.length_append]; omega)]; simp) [] (by simpa using hl)
 unfold G7
 simp only [bS]
 rw [show Zw idx n [] 0 = _ from L]
 simp [bS]
theorem RI {l : List Qa} (h : ∀ i ∈ l, wIdx i ≤ 1048576) : ∀ x ∈ l, x.fAt.length ≤ 1048576 := fun x hx => by have := Mb x; have := h x hx; omega
theorem FQ {n : Qh} {y : Q2} (h : (y.fOp == (3 : Int)) = true) : WY n y = YH n y.fIdx ++ US n y.fName y.fIdx := by unfold WY; rw [if_pos (by simpa using h)]
theorem FR {n : Qh} {y : Q2} (h : ¬ (y.fOp == (3 : Int)) = true) : WY n y = [] := by unfold WY; rw [if_neg (by simpa using h)]
theorem Sp (n : Qh) (hn : okN n) : ∀ (l : List Qb) (out : List Q6), (∀ e ∈ l, Qo e.f ≤ 1048576) → out.length + (Dv n l).length ≤ 1099511627776 → XB n l out = some (out ++ Dv n l)
 | [], out, _, _ => by simp [XB, Dv]
 | e :: t, out, he, hs => by
  rw [MC, List.length_append] at hs
  obtain ⟨e1, e2, e3, e4, e5, e6, e7⟩ := Zp (he e (by simp))
  have ih := fun o => Sp n hn t o fun a ha => he a (by simp [ha])
  rw [XB, MC]
  by_cases h : (e.f.fOp == (3 : Int)) = true
  ·rw [FQ h] at hs ⊢
   rw [List.length_append] at hs
   rw [if_pos h, Ms n e.f.fIdx hn e4 (RI e5), bS, if_pos (by omega), WD n _ _ e4 hn.len hn.dims, bS, if_pos (by omega), ih _ (by simp only [List.length_append]; omega)]
   simp
  ·rw [FR h] at hs ⊢
   rw [if_neg h, ih _ (by simpa using hs)]
   simp
theorem LK (n : Qh) (x : Q2) (hn : okN n) (hx : Qo x ≤ 1048576) : UO n x = some (J8 n x) := by
 unfold UO Ck
 rw [dif_pos (by omega), bS]
 have hl := WZ n x
 have h := Sp n hn (Zj (.mk x)) [] (Sh (R := fun a => Qo a.f ≤ 1048576) (fun y hy a ha => by have := Pk ha; simp only [Qb.f_mk] at hy; omega) (.mk x) hx) (by
  have : (Dv n (Zj (.mk x))).length ≤ Qo x := hl
  simp; omega)
 rw [h]; rfl
theorem P2 (n : Qh) (hn : okN n) : ∀ e : Qb, Qo e.f ≤ 1048576 → K3 n e.f = some (J8 n e.f) := Qb.ind fun x ih hx => by
 rw [Qb.f_mk] at hx ⊢
 obtain ⟨e1, e2, e3, e4, e5, e6, e7⟩ := Zp hx
 have hxe : Qo x = 1 + x.fName.length + wLin x.fLin + wSum wIdx x.fIdx + wSum XX x.fArgs := rfl
 have hr1 := Sn n x
 have hil := Kf (f := wIdx) (l := x.fIdx) NA
 have hll := Mx x.fLin
 have L : ∀ a : List Q6, a.length + wSum XX x.fArgs ≤ 1048576 → XA n x a 0 = some (a ++ (x.fArgs.map fun b => J8 n b.f).flatten) := fun a ha =>
  V2 (F := fun a i => XA n x a i) (l := x.fArgs) (fun a t => a.length + wSum XX t ≤ 1048576) (fun a t => a ++ (t.map fun b => J8 n b.f).flatten) (by
   intro a _
   rw [XA]; simp [bS]) (by
   intro i y t a h0 h1 hm hix hI ih2
   rw [QI] at hI
   have hy := RQ n y
   rw [XA, bS, if_pos h1, hix, omS, bS, ih y hm (e7 y hm), bS]
   simp only [QF h0 h1 (by omega)]
   rw [if_pos (by rw [List.length_map]; omega), bS, ih2 _ (by rw [List.length_append]; omega)]
   simp) a ha
 rw [K3, bS]
 have tail : ∀ a : List Q6, a = WY n x → ((some a >>= fun v6 => some () >>= fun v7 => XA n x v6 (0 : Int) >>= fun v9 => some v9) : Option (List Q6)) = some (J8 n x) := fun a ha => by
  subst ha
  rw [bS, bS, L _ (by omega), bS, So]
 by_cases h : (x.fOp == (3 : Int)) = true
 ·have hg := GW n x.fIdx
  have hr := N0 n x.fName x.fIdx
  rw [if_pos h, Mq n x.fIdx hn e4 (RI e5), bS, if_pos ⟨rfl, by rw [List.length_map]; omega⟩, bS, WC n _ _ e4 hn.len hn.dims, bS, if_pos (by rw [List.length_map]; simp; omega), bS]
  exact tail _ (by rw [FQ h]; rfl)
 ·rw [if_neg h]
  exact tail _ (by rw [FR h])
theorem LI (n : Qh) (x : Q2) (hn : okN n) (hx : Qo x ≤ 1048576) : K3 n x = some (J8 n x) := P2 n hn (.mk x) hx
theorem op23 {x : Qc} : ((if x.fOp == (2 : Int) then some true else if x.fOp == (3 : Int) then some true else some false) : Option Bool) = some (decide (x.fOp = 2 ∨ x.fOp = 3)) := by
 by_cases h2 : x.fOp = 2 <;> by_cases h3 : x.fOp = 3 <;> simp [h2, h3]
theorem LL (x : Qc) : Dt x = some (decide (x.fOp = 2 ∨ x.fOp = 3)) := by
 unfold Dt
 by_cases h2 : x.fOp = 2 <;> by_cases h3 : x.fOp = 3 <;> simp [h2, h3]
theorem op14 {x : Qc} : ((if x.fOp == (1 : Int) then some true else if x.fOp == (4 : Int) then some true else some false) : Option Bool) = some (decide (x.fOp = 1 ∨ x.fOp = 4)) := by
 by_cases h2 : x.fOp = 1 <;> by_cases h3 : x.fOp = 4 <;> simp [h2, h3]
theorem MY (n : Qh) (hn : okN n) : ∀ e : Q9, QD e.f ≤ 1048576 → Ku n e.f = some (Za n e) := Q9.ind fun x ih hx => by
 rw [Q9.f_mk] at hx ⊢
 obtain ⟨e1, e2, e3, e4, e5, e6, e7⟩ := UQ hx
 have L : Xl n [] x.fBody x.fBody.length 0 = some ((x.fBody.map (Za n)).flatten) := by
  have := V2 (F := fun a i => Xl n a x.fBody x.fBody.length i) (l := x.fBody) (fun a t => a.length + wSum QA t ≤ 1048576) (fun a t => a ++ (t.map (Za n)).flatten) (by
   intro a _
   rw [Xl]; simp) (by
   intro i y t a h0 h1 hm hix hI ih2
   rw [QI] at hI
   have hy := MG n y
   rw [Xl, if_pos h1, hix, omS, bS, ih y hm (e7 y hm), bS]
   simp only [QF h0 h1 (by omega)]
   rw [if_pos (by rw [List.length_map]; omega), bS, ih2 _ (by rw [List.length_append]; omega)]
   simp) [] (by simpa using e6)
  simpa using this
 rw [Ku, LL, bS, Lw]
 by_cases h : x.fOp = 2 ∨ x.fOp = 3
 ·rw [if_pos (by simpa using h), if_pos h, WD n _ _ e3 hn.len hn.dims, bS]
 ·rw [if_neg (by simpa using h), if_neg h, bS, op14, bS]
  by_cases h2 : x.fOp = 1 ∨ x.fOp = 4
  ·rw [if_pos (by simpa using h2), if_pos h2]
   simp only [bS, L]
  ·rw [if_neg (by simpa using h2), if_neg h2]
theorem MX (n : Qh) (hn : okN n) : ∀ e : Q9, QD e.f ≤ 1048576 → Kt n e.f = some (Za n e) := Q9.ind fun x ih hx => by
 rw [Q9.f_mk] at hx ⊢
 obtain ⟨e1, e2, e3, e4, e5, e6, e7⟩ := UQ hx
 have L : (x.fOp = 1 ∨ x.fOp = 4) → ZK n x [] 0 = some ((x.fBody.map (Za n)).flatten) := fun ho => by
  have := V2 (F := fun a i => ZK n x a i) (l := x.fBody) (fun a t => a.length + wSum QA t ≤ 1048576) (fun a t => a ++ (t.map (Za n)).flatten) (by
   intro a _
   rw [ZK]; simp [bS]) (by
   intro i y t a h0 h1 hm hix hI ih2
   rw [QI] at hI
   have hy := MG n y
   rw [ZK, bS]
   simp only [bS]
   rw [if_pos h1, op14, bS, if_pos (by simpa using ho), hix, omS, bS, ih y hm (e7 y hm), bS]
   simp only [QF h0 h1 (by omega)]
   rw [if_pos (by rw [List.length_map]; omega), ih2 _ (by rw [List.length_append]; omega)]
   simp) [] (by simpa using e6)
  simpa using this
 rw [Kt, bS, op23, bS, Lw]
 by_cases h : x.fOp = 2 ∨ x.fOp = 3
 ·rw [if_pos (by simpa using h), if_pos h, WC n _ _ e3 hn.len hn.dims, bS]
 ·rw [if_neg (by simpa using h), if_neg h, bS]
  by_cases h2 : x.fOp = 1 ∨ x.fOp = 4
  ·rw [if_pos h2, L h2, bS]
  ·rw [if_neg h2, ZK]
   simp only [bS]
   rw [op14]
   simp [h2, bS]
   try (split <;> simp [bS])
theorem LJ (n : Qh) (hn : okN n) : ∀ e : Q9, QD e.f ≤ 1048576 → V7 n e.f = some (Xa n e) := Q9.ind fun x ih hx => by
 rw [Q9.f_mk] at hx ⊢
 obtain ⟨e1, e2, e3, e4, e5, e6, e7⟩ := UQ hx
 have hxe : QD x = 1 + x.fName.length + wSum wIdx x.fIdx + Qo x.fExpr + wSum QA x.fBody := rfl
 have L : ∀ a : List Q6, a.length + wSum QA x.fBody ≤ 1048576 → X8 n a x.fBody x.fBody.length 0 = some (a ++ (x.fBody.map (Xa n)).flatten) := fun a ha =>
  V2 (F := fun a i => X8 n a x.fBody x.fBody.length i) (l := x.fBody) (fun a t => a.length + wSum QA t ≤ 1048576) (fun a t => a ++ (t.map (Xa n)).flatten) (by
   intro a _
   rw [X8]; simp) (by
   intro i y t a h0 h1 hm hix hI ih2
   rw [QI] at hI
   have hy := MF n y
   rw [X8, if_pos h1, hix, omS, bS, ih y hm (e7 y hm), bS]
   simp only [QF h0 h1 (by omega)]
   rw [if_pos (by rw [List.length_map]; omega), bS, ih2 _ (by rw [List.length_append]; omega)]
   simp) a ha
 have hg := GW n x.fIdx
 have hr := WZ n x.fExpr
 have hil := Kf (f := wIdx) (l := x.fIdx) NA
 rw [V7, LL, bS, Lo]
 by_cases h : x.fOp = 2 ∨ x.fOp = 3
 ·rw [if_pos (by simpa using h), if_pos h, Ms n _ hn e3 (RI e4), bS, LK n _ hn e2, bS, if_pos (by rw [List.length_map]; omega), bS]
 ·rw [if_neg (by simpa using h), if_neg h]
  by_cases h4 : x.fOp = 4
  ·rw [if_pos (by simpa using h4), if_pos h4, LK n _ hn e2]
   simp only [bS]
   rw [L _ (by omega), bS]
  ·rw [if_neg (by simpa using h4), if_neg h4]
   by_cases h1 : x.fOp = 1
   ·rw [if_neg (by simp [h1]), if_pos h1]
    simp only [bS]
    rw [L [] (by simp; omega), bS]; simp
   ·rw [if_pos (by simpa using h1), if_neg h1]
theorem LH (n : Qh) (hn : okN n) : ∀ e : Q9, QD e.f ≤ 1048576 → V6 n e.f = some (Xa n e) := Q9.ind fun x ih hx => by
 rw [Q9.f_mk] at hx ⊢
 obtain ⟨e1, e2, e3, e4, e5, e6, e7⟩ := UQ hx
 have hxe : QD x = 1 + x.fName.length + wSum wIdx x.fIdx + Qo x.fExpr + wSum QA x.fBody := rfl
 have L : (x.fOp = 1 ∨ x.fOp = 4) → ∀ a : List Q6, a.length + wSum QA x.fBody ≤ 1048576 → X6 n x a 0 = some (a ++ (x.fBody.map (Xa n)).flatten) := fun ho a ha =>
  V2 (F := fun a i => X6 n x a i) (l := x.fBody) (fun a t => a.length + wSum QA t ≤ 1048576) (fun a t => a ++ (t.map (Xa n)).flatten) (by
   intro a _
   rw [X6]; simp [bS]) (by
   intro i y t a h0 h1 hm hix hI ih2
   rw [QI] at hI
   have hy := MF n y
   rw [X6, bS]
   simp only [bS]
   rw [if_pos h1, op14, bS, if_pos (by simpa using ho), hix, omS, bS, ih y hm (e7 y hm), bS]
   simp only [QF h0 h1 (by omega)]
   rw [if_pos (by rw [List.length_map]; omega), ih2 _ (by rw [List.length_append]; omega)]
   simp) a ha
 have hg := GW n x.fIdx
 have hr := WZ n x.fExpr
 have hil := Kf (f := wIdx) (l := x.fIdx) NA
 rw [V6, bS, op23, bS, Lo]
 by_cases h : x.fOp = 2 ∨ x.fOp = 3
 ·rw [if_pos (by simpa using h), if_pos h, Mq n _ hn e3 (RI e4), bS, LI n _ hn e2, bS, if_pos (by rw [List.length_map]; omega), bS]
 ·rw [if_neg (by simpa using h), if_neg h, bS]
  by_cases h4 : x.fOp = 4
  ·rw [if_pos (by simpa using h4), if_pos h4, LI n _ hn e2]
   simp only [bS]
   rw [L (.inr h4) _ (by omega), bS]
  ·rw [if_neg (by simpa using h4), if_neg h4]
   by_cases h1 : x.fOp = 1
   ·rw [if_pos h1]
    simp only [bS]
    rw [L (.inl h1) [] (by simp; omega), bS]; simp
   ·rw [if_neg h1]
    simp only [bS]
    rw [X6]
    simp only [bS]
    rw [op14]
    simp [h1, h4, bS]
    try (split <;> simp [bS])
theorem Fm (x : Qc) (y : Q9) (h : x.fOp = 4) (hb : x.fBody = [y]) : Gw (.mk x) = Gw y := by
 rw [Gw, dif_pos ⟨h, by rw [hb]; rfl⟩]; simp [hb]
theorem Fn (x : Qc) (h : ¬ (x.fOp = 4 ∧ x.fBody.length = 1)) : Gw (.mk x) = x := by rw [Gw, dif_neg h]
theorem one_of {x : Qc} (h : x.fBody.length = 1) : ∃ y, x.fBody = [y] := List.length_eq_one_iff.1 h
theorem EV : ∀ e : Q9, Ke e.f = some (Gw e) := Q9.ind fun x ih => by
 rw [Q9.f_mk, Ke]
 simp only [bS]
 by_cases h : x.fOp = 4 ∧ x.fBody.length = 1
 ·obtain ⟨y, hy⟩ := one_of h.2
  rw [Fm x y h.1 hy]
  simp only [h.1, hy, beq_self_eq_true, if_true, List.length_singleton, bS]
  have hz : ix [y] 0 = some y := rfl
  have := ih y (by rw [hy]; simp)
  simp [bS, hz, omS, this]
 ·rw [Fn x h]
  by_cases h4 : x.fOp = 4
  ·have h1 : ¬ x.fBody.length = 1 := fun e => h ⟨h4, e⟩
   have : ((x.fBody.length : Int) == 1) = false := by simp; omega
   simp [h4, this, bS]
  ·simp [h4, bS]
theorem A9 (x : Qc) : Cw x = some (Gw (.mk x)) := by
 unfold Cw
 have := EV (.mk x)
 rw [Q9.f_mk] at this
 simp only [bS, this]
theorem RT : ∀ e : Q9, ∀ i : Int, 0 ≤ i → i + cd e ≤ 40 → KP e.f i = some (Gw e) := Q9.ind fun x ih i h0 hi => by
 rw [Q9.f_mk, KP]
 simp only [bS]
 rw [if_pos (by omega)]
 by_cases h : x.fOp = 4 ∧ x.fBody.length = 1
 ·obtain ⟨y, hy⟩ := one_of h.2
  rw [Fm x y h.1 hy]
  rw [cd_if x y h.1 hy] at hi
  have hz : ix [y] 0 = some y := rfl
  simp only [h.1, hy, beq_self_eq_true, if_true, List.length_singleton, bS, Int.ofNat_one, Int.cast_ofNat_Int, hz, omS]
  rw [QJ (n := i + 1) (by omega)]
  have := ih y (by rw [hy]; simp) (i + 1) (by omega) (by omega)
  simp [bS, this]
 ·rw [Fn x h]
  by_cases h4 : x.fOp = 4
  ·have h1 : ¬ x.fBody.length = 1 := fun e => h ⟨h4, e⟩
   have : ((x.fBody.length : Int) == 1) = false := by simp; omega
   simp [h4, this, bS]
  ·simp [h4, bS]
theorem IL (x : Qc) (h : cd (.mk x) ≤ 40) : W6 x = some (Gw (.mk x)) := by
 unfold W6
 have := RT (.mk x) 0 (by omega) (by omega)
 rw [Q9.f_mk] at this
 simp only [bS, this]
theorem RK {n : Qh} {x : Qc} (h : QD x ≤ 1048576) : (Za n (.mk x)).length ≤ 1048576 ∧ (Xa n (.mk x)).length ≤ 1048576 := by
 have h1 := MG n (.mk x)
 have h2 := MF n (.mk x)
 rw [YV, Q9.f_mk] at h1 h2
 exact ⟨by omega, by omega⟩
theorem Nl (n : Qh) (a b : Qc) (hn : okN n) (ha : QD a ≤ 1048576) (hb : QD b ≤ 1048576) : JW n a b = some (C7 n a b) := by
 have wa := MY n hn (.mk a) ha
 have wb := MY n hn (.mk b) hb
 have ra := LJ n hn (.mk a) ha
 have rb := LJ n hn (.mk b) hb
 rw [Q9.f_mk] at wa wb ra rb
 obtain ⟨a1, a2⟩ := RK (n := n) ha
 obtain ⟨b1, b2⟩ := RK (n := n) hb
 unfold JW WI Cj C7
 simp only [bS, wa, wb, ra, rb, A9, Dl _ _ a1 b2, Dl _ _ a2 b1, Dl _ _ a1 b1]
 by_cases c1 : ovL (Za n (.mk a)) (Xa n (.mk b)) = true
 ·simp [c1, bS]
 ·by_cases c2 : ovL (Xa n (.mk a)) (Za n (.mk b)) = true
  ·simp [c1, c2, bS]
  ·by_cases c3 : ovL (Za n (.mk a)) (Za n (.mk b)) = true
   ·by_cases f1 : (Gw (.mk a)).fOp = 3 <;> by_cases f2 : (Gw (.mk b)).fOp = 3 <;> simp [c1, c2, c3, f1, f2, bS]
   ·simp [c1, c2, c3, bS]
theorem EX (n : Qh) (a b : Qc) (hn : okN n) (ha : QD a ≤ 1048576) (hb : QD b ≤ 1048576) (ca : cd (.mk a) ≤ 40) (cb : cd (.mk b) ≤ 40) : Df n a b = some (C7 n a b) := by
 have wa := MX n hn (.mk a) ha
 have wb := MX n hn (.mk b) hb
 have ra := LH n hn (.mk a) ha
 have rb := LH n hn (.mk b) hb
 rw [Q9.f_mk] at wa wb ra rb
 obtain ⟨a1, a2⟩ := RK (n := n) ha
 obtain ⟨b1, b2⟩ := RK (n := n) hb
 unfold Df Np Nc C7
 simp only [bS, wa, wb, ra, rb, IL _ ca, IL _ cb, Wj _ _ a1 b2, Wj _ _ a2 b1, Wj _ _ a1 b1]
 by_cases c1 : ovL (Za n (.mk a)) (Xa n (.mk b)) = true
 ·simp [c1, bS]
 ·by_cases c2 : ovL (Xa n (.mk a)) (Za n (.mk b)) = true
  ·simp [c1, c2, bS]
  ·by_cases c3 : ovL (Za n (.mk a)) (Za n (.mk b)) = true
   ·by_cases f1 : (Gw (.mk a)).fOp = 3 <;> by_cases f2 : (Gw (.mk b)).fOp = 3 <;> simp [c1, c2, c3, f1, f2, bS]
   ·simp [c1, c2, c3, bS]
end Go.Proofs.YtokfigmmegifeaaGreat
end
section
namespace Go.Proofs.YtokfigmmegifeaaGreat
open Go HY
set_option linter.unusedVariables false
theorem ix_mod {l : List QT} {k : Int} (h : l ≠ []) (h0 : 0 ≤ k) : ∃ v, ix l (k.tmod (l.length : Nat)) = some v ∧ v ∈ l := by
 have hl : 0 < l.length := List.length_pos_iff.2 h
 have h1 : 0 ≤ k.tmod (l.length : Nat) := Int.tmod_nonneg _ h0
 have h2 : k.tmod (l.length : Nat) < (l.length : Nat) := Int.tmod_lt_of_pos _ (by omega)
 have h3 : (k.tmod (l.length : Nat)).toNat < l.length := by omega
 exact ⟨l[(k.tmod (l.length : Nat)).toNat], by unfold ix; rw [if_pos h1, List.getElem?_eq_getElem h3], List.getElem_mem _⟩
theorem s_alive : UL = some true := by
 unfold UL
 simp only [bS, Dl [_] [_] (by simp) (by simp)]
 rfl
theorem Me (n : Qh) (x : MO) (h : JI n ≤ 1048576) (h0 : 0 ≤ x.f_0 ∧ x.f_0 < 65536) (h1 : 0 ≤ x.f_1 ∧ x.f_1 < 65536) : UH n x = some true := by
 have hn := okN.of h
 obtain ⟨b, e1, _⟩ := Ob n h
 obtain ⟨r, e2, hr1, hr2⟩ := Nn n h
 unfold UH
 rw [e1]
 simp only [bS, s_alive]
 cases b with
 | false => rfl
 | true =>
  simp only [if_true, e2, bS]
  by_cases he : (r.2 != (0 : Int)) = true
  ·rw [if_pos he]; rfl
  ·rw [if_neg he]
   by_cases hl : r.1 = []
   ·rw [hl]; rfl
   ·have hlen : ((r.1.length : Int) == (0 : Int)) = false := by
     have := List.length_pos_iff.2 hl
     simp; omega
    obtain ⟨a, ha, ham⟩ := ix_mod (k := x.f_0) hl h0.1
    obtain ⟨c, hc, hcm⟩ := ix_mod (k := x.f_1) hl h1.1
    obtain ⟨a1, a2⟩ := hr2 a ham
    obtain ⟨c1, c2⟩ := hr2 c hcm
    have hne : (((r.1.map Ql).length : Nat) : Int) ≠ 0 := by rw [List.length_map]; simpa using hlen
    simp only [hlen, Bool.false_eq_true, if_false, bS]
    rw [if_pos hne, QJ (n := x.f_0) (by omega), QJ (n := x.f_1) (by omega)]
    rw [List.length_map] at hne
    simp only [List.length_map, ha, hc, bS, if_pos hne]
    rw [Nl n _ _ hn a2 c2, EX n _ _ hn a2 c2 a1 c1, Nl n _ _ hn c2 a2]
    have hz : ((C7 n a.fOp c.fOp == (0 : Int)) == (C7 n c.fOp a.fOp == (0 : Int))) = true := by
     have := B5 n a.fOp c.fOp
     by_cases hq : C7 n a.fOp c.fOp = 0
     ·have := this.1 hq; simp [hq, this]
     ·have : C7 n c.fOp a.fOp ≠ 0 := fun e => hq (this.2 e)
      rw [show (C7 n a.fOp c.fOp == (0 : Int)) = false by simpa using hq, show (C7 n c.fOp a.fOp == (0 : Int)) = false by simpa using this]; rfl
    simp only [bS, beq_self_eq_true, if_true, hz]
end Go.Proofs.YtokfigmmegifeaaGreat
end
section
namespace HY
open Go Go.RowKit
def HV.full (w : World) : HV := fun b o => w.cell? ⟨b, o, none⟩
theorem Q06 (w : World) : HV.sat (HV.full w) w := fun _ _ _ h => h
def RelL (H : HV) (avs : List AV) (cs : List Value) : Prop := avs.length = cs.length ∧ ∀ (j : Nat) (a : AV) (v : Value), avs[j]? = some a → cs[j]? = some v → a.one = true ∧ RelI H a v
theorem RelL.nil {H : HV} : RelL H [] [] := ⟨rfl, fun j a v h => by simp at h⟩
theorem RelL.one {H : HV} {a : AV} {v : Value} (h1 : a.one = true) (h : RelI H a v) : RelL H [a] [v] := ⟨rfl, fun j x u hx hu => by
 cases j with
 | zero => simp at hx hu; subst hx; subst hu; exact ⟨h1, h⟩
 | succ j => simp at hx⟩
theorem RelL.append {H : HV} {a b : List AV} {c d : List Value} (h : RelL H a c) (k : RelL H b d) : RelL H (a ++ b) (c ++ d) := by
 refine ⟨by simp [h.1, k.1], fun j x u hx hu => ?_⟩
 rw [List.getElem?_append] at hx hu
 split at hx
 ·rename_i hj; rw [if_pos (by rw [← h.1]; exact hj)] at hu; exact h.2 j x u hx hu
 ·rename_i hj; rw [if_neg (by rw [← h.1]; exact hj), ← h.1] at hu; exact k.2 _ x u hx hu
section
variable {H : Type} {enc : TypeId × Value → H} {P : Program} {w : World} {base : Nat} {spare : Nat → Bool} {held : Bool}
def X9 (enc : TypeId × Value → H) (P : Program) (w : World) (base : Nat) (spare : Nat → Bool) (held : Bool) (n : Nat) (t : TypeId) {α : Type} (E : α → List AV) (I : α → DataW H → Prop) : Prop :=
 ∀ fuel cs d ps, fuel ≤ n → DataW.trod enc P w base spare held fuel t cs = some (d, ps) → ∃ a, I a d ∧ RelL (HV.full w) (E a) cs
theorem BC (n : Nat) {t : TypeId} {k : IntKind} (ht : P.underlying t = some (.int k)) :
  X9 enc P w base spare held n t (fun a : Int => [.int k a]) (fun a d => (Lit.int k a).wf = true ∧ d = .lit (.int k a)) := fun fuel cs d ps _ h => by
 obtain ⟨m, rfl, he, hw⟩ := DataW.trod_int ht h
 cases he
 exact ⟨m, ⟨hw, rfl⟩, .one rfl (.int k m)⟩
theorem FS (n : Nat) {t : TypeId} (ht : P.underlying t = some .string) :
  X9 enc P w base spare held n t (fun a : List UInt8 => [.str a]) (fun a d => a.length ≤ maxLen ∧ d = .lit (.string a)) := fun fuel cs d ps _ h => by
 obtain ⟨m, rfl, he, hl⟩ := DataW.trod_string ht h
 cases he
 refine ⟨m.data.toList, ⟨by rw [Array.length_toList]; exact hl, rfl⟩, .one rfl ?_⟩
 have := RelI.str (H := HV.full w) m.data.toList
 simpa using this
def SliceI {α : Type} (I : α → DataW H → Prop) (l : List α) (d : DataW H) : Prop :=
 l.length ≤ maxLen ∧ ((l = [] ∧ d = .nil) ∨ ∃ elems spare, d = .slice elems spare ∧ elems.length = l.length ∧ ∀ (i : Nat) (a : α) (e : DataW H), l[i]? = some a → elems[i]? = some e → I a e)
theorem E6 {α β : Type} (R : Nat → α → β → Prop) : ∀ (l : List β) (k : Nat), (∀ i b, l[i]? = some b → ∃ a, R (k + i) a b) → ∃ azz : List α, azz.length = l.length ∧ ∀ i a b, azz[i]? = some a → l[i]? = some b → R (k + i) a b
 | [], k, _ => ⟨[], rfl, fun i a b h => by simp at h⟩
 | b :: l, k, h => by
  obtain ⟨a, ha⟩ := h 0 b rfl
  obtain ⟨azz, hl, has⟩ := E6 R l (k + 1) (fun i b' hb => by
   have := h (i + 1) b' hb
   rw [show k + 1 + i = k + (i + 1) by omega]; exact this)
  refine ⟨a :: azz, by simp [hl], fun i x y hx hy => ?_⟩
  cases i with
  | zero => simp at hx hy; subst hx; subst hy; exact ha
  | succ i =>
   have := has i x y hx hy
   rw [show k + 1 + i = k + (i + 1) by omega] at this; exact this
theorem O1 {n : Nat} {t e : TypeId} {sz : Nat} {α : Type} {E : α → List AV} {I : α → DataW H → Prop} (F : α → AV) (ht : P.underlying t = some (.slice e)) (hc : P.cellsOf e = sz) (hpos : 0 < sz) (hF : ∀ a, (F a).cells = E a) (he : X9 enc P w base spare held n e E I) :
  X9 enc P w base spare held (n + 1) t (fun l : List α => [.sl sz (l.map F)]) (SliceI I) := fun fuel cs d ps hfu h => by
 rcases DataW.trod_slice ht h with ⟨rfl, hx⟩ | ⟨a, len, cap, elems, rest, m, rfl, rfl, hx, hb, hl, hm, hlen, hel, _, _⟩
 ·cases hx
  exact ⟨[], ⟨Nat.zero_le _, .inl ⟨rfl, rfl⟩⟩, .one rfl (.sl0 _ _ _ (Nat.zero_le _))⟩
 ·cases hx
  subst hc
  have hel' : ∀ i b, elems[i]? = some b → ∃ x : α, I x b.1 ∧ ∃ cs', w.cells? base (a.add ((0 + i) * P.cellsOf e)) (P.cellsOf e) = some cs' ∧ RelL (HV.full w) (E x) cs' := fun i b hb => by
   have hi : i < len := by rw [← hlen]; exact (List.getElem?_eq_some_iff.1 hb).1
   have := hel i hi
   rw [hb] at this
   obtain ⟨cs', h1, h2⟩ := Option.bind_eq_some_iff.1 this
   obtain ⟨x, hx, hr⟩ := he m cs' b.1 b.2 (by omega) h2
   exact ⟨x, hx, cs', by rw [Nat.zero_add]; exact h1, hr⟩
  obtain ⟨azz, hal, has⟩ := E6 (fun i (x : α) (b : DataW H × List MemPlace) => I x b.1 ∧ ∃ cs', w.cells? base (a.add (i * P.cellsOf e)) (P.cellsOf e) = some cs' ∧ RelL (HV.full w) (E x) cs') elems 0 hel'
  have hget : ∀ i x, azz[i]? = some x → ∃ b, elems[i]? = some b := fun i x hx => by
   have : i < azz.length := (List.getElem?_eq_some_iff.1 hx).1
   exact ⟨_, List.getElem?_eq_getElem (by omega)⟩
  refine ⟨azz, ⟨by omega, .inr ⟨_, _, rfl, by simp [hal], fun i x e' hx he' => ?_⟩⟩, .one rfl ?_⟩
  ·rw [List.getElem?_map, Option.map_eq_some_iff] at he'
   obtain ⟨b, hb', rfl⟩ := he'
   exact (has i x b hx hb').1
  ·by_cases h0 : azz = []
   ·subst h0
    have : len = 0 := by rw [← hlen, ← hal]; rfl
    subst this
    exact .sl0 _ _ _ hm
   ·have hlen' : (azz.map F).length = len := by simp [hal, hlen]
    have h00 : 0 < azz.length := List.length_pos_iff.2 h0
    obtain ⟨b0, hb0⟩ := hget 0 azz[0] (List.getElem?_eq_getElem h00)
    obtain ⟨_, cs0, hc0, _⟩ := has 0 _ _ (List.getElem?_eq_getElem h00) hb0
    obtain ⟨_, hcl, hcell⟩ := World.cells?_some hc0
    have hspot : a.spot = none := by
     have := hcell 0 hpos
     rw [List.getElem?_eq_getElem (by omega)] at this
     have := World.cell?_spot this
     simpa [Addr.add] using this
    obtain ⟨ab, ao, asp⟩ := a
    simp only at hspot
    subst hspot
    rw [← hlen']
    refine .sl (P.cellsOf e) (azz.map F) ab ao cap (fun i j => (w.cell? ⟨ab, ao + i * P.cellsOf e + j, none⟩).getD Go.undef) hpos (by omega) hm (fun i x hx => ?_) (fun i x j c hx hj => ?_) (fun i x j c hx hj => ?_)
    all_goals
     rw [List.getElem?_map, Option.map_eq_some_iff] at hx
     obtain ⟨y, hy, rfl⟩ := hx
     obtain ⟨b, hb'⟩ := hget i y hy
     obtain ⟨_, cs', hc', hr⟩ := has i y b hy hb'
     obtain ⟨_, hcl', hcell'⟩ := World.cells?_some hc'
    ·rw [hF, hr.1, hcl']
    all_goals
     rw [hF] at hj
     have hjl : j < P.cellsOf e := by
      have := (List.getElem?_eq_some_iff.1 hj).1
      rw [hr.1, hcl'] at this; exact this
     have hcj : cs'[j]? = some (cs'[j]'(by omega)) := List.getElem?_eq_getElem (by omega)
     have hw := hcell' j hjl
     rw [hcj] at hw
     have hadd : ((⟨ab, ao, none⟩ : Addr).add ((0 + i) * P.cellsOf e)).add j = ⟨ab, ao + i * P.cellsOf e + j, none⟩ := by
      rw [Nat.zero_add]
      unfold Addr.add
      split <;> split <;> simp_all
     rw [hadd] at hw
     obtain ⟨h1, h2⟩ := hr.2 j c _ hj hcj
    ·simp only [HV.full, hw, Option.getD_some, true_and]
     exact h2.oneCell h1
    ·simp only [hw, Option.getD_some]
     exact h2
def NE (P : Program) : Nat → List Field → Nat → Bool
 | o, [], o' => o == o'
 | o, f :: fs, o' => f.offset == o && NE P (o + P.cellsOf f.type) fs o'
def N3 (enc : TypeId × Value → H) (P : Program) (w : World) (base : Nat) (spare : Nat → Bool) (held : Bool) (n : Nat) (fs : List Field) {α : Type} (E : α → List AV) (I : α → List (DataW H) → Prop) : Prop :=
 ∀ (fuel o o' : Nat) (cs : List Value) (xs : List (DataW H × List MemPlace)), fuel ≤ n → xs.length = fs.length → NE P o fs o' = true → cs.length = o' →
  (∀ (i : Nat) (f : Field), fs[i]? = some f → DataW.trod enc P w base spare held fuel f.type ((cs.drop f.offset).take (P.cellsOf f.type)) = xs[i]?) → ∃ a, I a (xs.map (·.1)) ∧ RelL (HV.full w) (E a) (cs.drop o)
theorem B7 (n : Nat) : N3 enc P w base spare held n [] (fun _ : Unit => []) (fun _ ds => ds = []) := fun fuel o o' cs xs _ hl hf hc _ => by
 simp only [NE, beq_iff_eq] at hf
 have : xs = [] := List.length_eq_zero_iff.1 hl
 subst this
 refine ⟨(), rfl, ?_⟩
 rw [List.drop_of_length_le (by omega)]
 exact .nil
theorem PZ {n : Nat} {f : Field} {fs : List Field} {α β : Type} {E1 : α → List AV} {I1 : α → DataW H → Prop} {E2 : β → List AV} {I2 : β → List (DataW H) → Prop}
  (h1 : X9 enc P w base spare held n f.type E1 I1) (h2 : N3 enc P w base spare held n fs E2 I2) :
  N3 enc P w base spare held n (f :: fs) (fun x : α × β => E1 x.1 ++ E2 x.2) (fun x ds => ∃ d ds', ds = d :: ds' ∧ I1 x.1 d ∧ I2 x.2 ds') := fun fuel o o' cs xs hfu hl hf hc hx => by
 simp only [NE, Bool.and_eq_true, beq_iff_eq] at hf
 obtain ⟨ho, hf⟩ := hf
 cases xs with
 | nil => simp at hl
 | cons x xs =>
  have h0 := hx 0 f rfl
  simp only [List.getElem?_cons_zero] at h0
  obtain ⟨a, ha, hra⟩ := h1 fuel _ x.1 x.2 hfu h0
  obtain ⟨b, hb, hrb⟩ := h2 fuel (o + P.cellsOf f.type) o' cs xs hfu (by simpa using hl) hf hc (fun i g hg => hx (i + 1) g hg)
  refine ⟨(a, b), ⟨x.1, xs.map (·.1), rfl, ha, hb⟩, ?_⟩
  have := hra.append hrb
  rw [ho, ← List.drop_drop, List.take_append_drop] at this
  exact this
theorem FT {n : Nat} {t : TypeId} {fs : Array Field} {α : Type} {E : α → List AV} {I : α → List (DataW H) → Prop} (ht : P.underlying t = some (.struct fs)) (hf : NE P 0 fs.toList (P.cellsOf t) = true)
  (h : N3 enc P w base spare held n fs.toList E I) : X9 enc P w base spare held (n + 1) t E (fun a d => ∃ ds, d = .agg ds ∧ I a ds) := fun fuel cs d ps hfu hh => by
 obtain ⟨xs, m, rfl, hx, hc, hl, hel⟩ := DataW.trod_struct ht hh
 cases hx
 obtain ⟨a, ha, hr⟩ := h m 0 _ cs xs (by omega) (by simpa using hl) hf hc (fun i f hfi => hel i f (by rw [← Array.getElem?_toList]; exact hfi))
 exact ⟨a, ⟨_, rfl, ha⟩, by simpa using hr⟩
theorem X9.to {n : Nat} {t : TypeId} {α β : Type} {E : α → List AV} {I : α → DataW H → Prop} (h : X9 enc P w base spare held n t E I) (g : α → β) {E' : β → List AV} {I' : β → DataW H → Prop} (hE : ∀ a, E' (g a) = E a) (hI : ∀ a d, I a d → I' (g a) d) :
  X9 enc P w base spare held n t E' I' := fun fuel cs d ps hfu hh => by
 obtain ⟨a, ha, hr⟩ := h fuel cs d ps hfu hh
 exact ⟨g a, hI a d ha, by rw [hE]; exact hr⟩
theorem X9.le {n m : Nat} {t : TypeId} {α : Type} {E : α → List AV} {I : α → DataW H → Prop} (h : X9 enc P w base spare held n t E I) (hm : m ≤ n) : X9 enc P w base spare held m t E I :=
 fun fuel cs d ps hfu hh => h fuel cs d ps (Nat.le_trans hfu hm) hh
theorem X9.arg {t : TypeId} {α : Type} {E : α → List AV} {I : α → DataW H → Prop} (h : ∀ n, X9 enc P w base spare held n t E I) {v : Value} {d : DataW H} {ps : List MemPlace} (hd : DataW.Trod enc P w base spare held t v d ps) :
  ∃ a, I a d ∧ RelL (HV.full w) (E a) v.cells.toList := by
 obtain ⟨fuel, hf⟩ := hd
 exact h fuel fuel _ _ _ (Nat.le_refl _) hf
end
end HY
end
section
namespace HY
open Go Go.RowKit Go.ChangeShapes Go.WideShapes Go.ChangeAt
theorem LT {H : Type} {enc : TypeId × Value → H} {P : Program} (hl : laidOutB P = true) {W W' : World} (hb : Below W.heap.size W W') : ∀ {ts : List TypeId} {vs : List Value} {ds : List (DataW H)} {ps : List MemPlace},
  (∀ t ∈ ts, P.readableRec t = true ∧ t < P.types.size) → DataW.TrodAll enc P W 0 (fun _ => true) true ts vs ds ps → (∀ p ∈ ps, p.block < W.heap.size) → DataW.TrodAll enc P W' 0 (fun b => decide (b < W.heap.size)) true ts vs ds ps
 | [], [], [], _, _, h, _ => h
 | t :: ts, v :: vs, d :: ds, _, ht, ⟨p, q, h1, h2, e⟩, hp =>
  ⟨p, q, Below.trod hl (ht t (List.mem_cons_self ..)).1 (ht t (List.mem_cons_self ..)).2 h1 hb (fun x hx => hp x (by rw [e]; exact List.mem_append_left _ hx)),
   LT hl hb (fun t' h' => ht t' (List.mem_cons_of_mem _ h')) h2 (fun x hx => hp x (by rw [e]; exact List.mem_append_right _ hx)), e⟩
 | [], _ :: _, _, _, _, h, _ => h.elim
 | [], [], _ :: _, _, _, h, _ => h.elim
 | _ :: _, [], _, _, _, h, _ => h.elim
 | _ :: _, _ :: _, [], _, _, h, _ => h.elim
structure LawOk (P : Program) (f : Func) (tb : TypeId) : Prop where
 laid : laidOutB P = true
 pars : (f.params.toList.all fun t => P.readableRec t && decide (t < P.types.size)) = true
 res : f.resultTypes = #[tb]
 bool : P.underlying tb = some .bool
theorem Bz {H : Type} {enc : TypeId × Value → H} {P : Program} {f : Func} {tb : TypeId} (hok : LawOk P f tb) {s : ChangeSpec} {W W' : World} {args : Array Value} {ds gs : List (DataW H)} {before : List MemPlace} (hv : s.vars = [])
  (hW : DataW.Whole enc P f.params.toList s.vars false W args.toList ds gs before) (hfn : s.fn H (ds ++ gs) = { results := [.lit (.bool true)], args := ds }) (hb : Below W.heap.size W W') : s.post enc P f false true false false W args (.bool true) W' := by
 have hlt := hW.lt
 have hW' := hW
 obtain ⟨p, q, hA, hV, rfl, _, _⟩ := hW
 rw [hv] at hV
 obtain ⟨rfl, rfl⟩ : gs = [] ∧ q = [] := by
  cases gs with
  | nil => exact ⟨rfl, hV⟩
  | cons => exact hV.elim
 have hp := hok.pars
 rw [List.all_eq_true] at hp
 refine ⟨ds, [], p ++ [], [], p, [], hW', ?_, ?_, ?_, hb.frame _, fun h => by cases h⟩
 ·rw [hfn, hok.res]
  exact ⟨[], [], shut_bool hok.bool _, rfl, rfl⟩
 ·rw [hfn]
  exact LT hok.laid hb (fun t ht => by have := hp t ht; simp only [Bool.and_eq_true, decide_eq_true_eq] at this; exact this) hA (fun x hx => hlt x (List.mem_append_left _ hx))
 ·rw [hfn, hv]; exact rfl
end HY
end
section
namespace Go.Proofs.YtokfigmmegifeaaGreat
open Go HY Go.RowKit Go.ChangeShapes Go.WideShapes Go.ChangeAt
set_option linter.unusedVariables false
section
variable {H : Type} {enc : TypeId × Value → H} {P : Program} {w : World} {base : Nat} {spare : Nat → Bool} {held : Bool}
theorem Dn {α : Type} (l : List α) : wSum (fun _ => 1) l = l.length := by
 induction l with
 | nil => rfl
 | cons a l ih => rw [QI, ih, List.length_cons]; omega
theorem rwZero {α : Type} (t : TypeId) (E : α → List AV) {I : α → DataW H → Prop} : X9 enc P w base spare held 0 t E I := fun fuel cs d ps hf h => by
 obtain rfl : fuel = 0 := by omega
 simp [DataW.trod] at h
theorem Gz (n : Nat) {t : TypeId} {k : IntKind} (ht : P.underlying t = some (.int k)) : X9 enc P w base spare held n t (fun a : Int => [.int k a]) (fun _ d => 1 ≤ Rows.uptoBulk d) :=
 (BC n ht).to id (fun _ => rfl) fun a d h => by obtain ⟨_, rfl⟩ := h; simp [Rows.uptoBulk]
theorem RS (n : Nat) {t : TypeId} (ht : P.underlying t = some .string) : X9 enc P w base spare held n t (fun a : Str => [.str a]) (fun a d => a.length + 1 ≤ Rows.uptoBulk d) :=
 (FS n ht).to id (fun _ => rfl) fun a d h => by obtain ⟨_, rfl⟩ := h; simp [Rows.uptoBulk]
theorem Fi {α : Type} {f : α → Nat} : ∀ (l : List α) (ds : List (DataW H)), ds.length = l.length → (∀ (i : Nat) (a : α) (e : DataW H), l[i]? = some a → ds[i]? = some e → f a ≤ Rows.uptoBulk e) → wSum f l ≤ Rows.uptoBulkAll ds
 | [], _, _, _ => by rw [QZ]; omega
 | a :: l, [], h, _ => by simp at h
 | a :: l, d :: ds, h, hi => by
  have h0 := hi 0 a d rfl rfl
  have := Fi (f := f) l ds (by simpa using h) fun i b e hb he => hi (i + 1) b e (by simpa using hb) (by simpa using he)
  rw [QI]; simp only [Rows.uptoBulkAll]; omega
theorem Ce {n : Nat} {t e : TypeId} {sz : Nat} {α : Type} {E : α → List AV} {f : α → Nat} (F : α → AV) (ht : P.underlying t = some (.slice e)) (hc : P.cellsOf e = sz) (hpos : 0 < sz) (hF : ∀ a, (F a).cells = E a) (he : X9 enc P w base spare held n e E (fun a d => f a ≤ Rows.uptoBulk d)) :
  X9 enc P w base spare held (n + 1) t (fun l : List α => [.sl sz (l.map F)]) (fun l d => wSum f l + 1 ≤ Rows.uptoBulk d) :=
 (O1 F ht hc hpos hF he).to id (fun _ => rfl) fun l d h => by
  obtain ⟨_, ⟨rfl, rfl⟩ | ⟨elems, sp, rfl, hl, hi⟩⟩ := h
  ·simp [Rows.uptoBulk, QZ]
  ·have := Fi (f := f) l elems hl hi
   simp only [Rows.uptoBulk, id]; omega
theorem Nw (n : Nat) : N3 enc P w base spare held n [] (fun _ : Unit => []) (fun _ ds => 0 ≤ Rows.uptoBulkAll ds) := fun fuel o o' cs xs hf hl hb hc hx => by
 obtain ⟨a, _, h⟩ := B7 n fuel o o' cs xs hf hl hb hc hx
 exact ⟨a, Nat.zero_le _, h⟩
theorem Zh {n : Nat} {f : Field} {fs : List Field} {α β : Type} {E1 : α → List AV} {w1 : α → Nat} {E2 : β → List AV} {w2 : β → Nat}
  (h1 : X9 enc P w base spare held n f.type E1 (fun a d => w1 a ≤ Rows.uptoBulk d)) (h2 : N3 enc P w base spare held n fs E2 (fun a ds => w2 a ≤ Rows.uptoBulkAll ds)) :
  N3 enc P w base spare held n (f :: fs) (fun x : α × β => E1 x.1 ++ E2 x.2) (fun x ds => w1 x.1 + w2 x.2 ≤ Rows.uptoBulkAll ds) := fun fuel o o' cs xs hf hl hb hc hx => by
 obtain ⟨a, ⟨d, ds, e, i1, i2⟩, h⟩ := PZ h1 h2 fuel o o' cs xs hf hl hb hc hx
 exact ⟨a, by rw [e]; simp only [Rows.uptoBulkAll]; omega, h⟩
theorem Dk {n : Nat} {t : TypeId} {fs : Array Field} {α : Type} {E : α → List AV} {f : α → Nat} (ht : P.underlying t = some (.struct fs)) (hf : NE P 0 fs.toList (P.cellsOf t) = true)
  (h : N3 enc P w base spare held n fs.toList E (fun a ds => f a ≤ Rows.uptoBulkAll ds)) : X9 enc P w base spare held (n + 1) t E (fun a d => f a + 1 ≤ Rows.uptoBulk d) :=
 (FT ht hf h).to id (fun _ => rfl) fun a d hd => by
  obtain ⟨ds, rfl, h⟩ := hd
  simp only [Rows.uptoBulk, id]; omega
end
theorem u3 : Tryz.prog.underlying 3 = some (.int .i64) := by kernel_rfl
theorem u34 : Tryz.prog.underlying 34 = some (.slice 3) := by kernel_rfl
theorem c34 : Tryz.prog.cellsOf 3 = 1 := by kernel_rfl
theorem u9 : Tryz.prog.underlying 9 = some .string := by kernel_rfl
theorem u2 : Tryz.prog.underlying 2 = some (.int .i64) := by kernel_rfl
theorem u40 : Tryz.prog.underlying 40 = some (.slice 190) := by kernel_rfl
theorem c40 : Tryz.prog.cellsOf 190 = 2 := by kernel_rfl
theorem u130 : Tryz.prog.underlying 130 = some (.slice 42) := by kernel_rfl
theorem c130 : Tryz.prog.cellsOf 42 = 2 := by kernel_rfl
theorem u43 : Tryz.prog.underlying 43 = some (.slice 45) := by kernel_rfl
theorem c43 : Tryz.prog.cellsOf 45 = 13 := by kernel_rfl
theorem u35 : Tryz.prog.underlying 35 = some (.slice 132) := by kernel_rfl
theorem c35 : Tryz.prog.cellsOf 132 = 4 := by kernel_rfl
theorem u23 : Tryz.prog.underlying 23 = some (.slice 47) := by kernel_rfl
theorem c23 : Tryz.prog.cellsOf 47 = 20 := by kernel_rfl
theorem u22 : Tryz.prog.underlying 22 = some (.slice 100) := by kernel_rfl
theorem c22 : Tryz.prog.cellsOf 100 = 8 := by kernel_rfl
section
variable {H : Type} (enc : TypeId × Value → H) (w : World) (base : Nat) (spare : Nat → Bool) (held : Bool)
theorem FP (n : Nat) : X9 enc Tryz.prog w base spare held n 39 (fun x : Qi => (Qy x).cells) (fun x d => 1 ≤ Rows.uptoBulk d) :=
 ((Dk Tryz.underlying39 (by kernel_rfl) (Zh (Gz n u3) (Zh (Gz n u3) (Zh (Gz n u3) (Zh (Gz n u3) (Zh (Gz n u3) (Nw n))))))).to (fun x => Qi.mk x.1 x.2.1 x.2.2.1 x.2.2.2.1 x.2.2.2.2.1) (fun _ => rfl) (fun a d h => by first | omega | (simp only [Kz, wLin, wIdx, Qo, QD, wBuf, JI, Dn] at *; omega))).le (Nat.le_succ n)
theorem Bd (n : Nat) : X9 enc Tryz.prog w base spare held n 100 (fun x : Qw => (Qx x).cells) (fun x d => wBuf x ≤ Rows.uptoBulk d) :=
 ((Dk Tryz.underlying100 (by kernel_rfl) (Zh (RS n u9) (Zh (FP enc w base spare held n) (Zh ((Ce eI u34 c34 (by decide) (fun _ => rfl) (Gz n u3)).le (Nat.le_succ _)) (Zh (Gz n u3) (Nw n)))))).to (fun x => Qw.mk x.1 x.2.1 x.2.2.1 x.2.2.2.1) (fun _ => rfl) (fun a d h => by first | omega | (simp only [Kz, wLin, wIdx, Qo, QD, wBuf, JI, Dn] at *; omega))).le (Nat.le_succ n)
theorem Q0e (n : Nat) : X9 enc Tryz.prog w base spare held n 190 (fun x : C8 => (Qf x).cells) (fun x d => Kz x ≤ Rows.uptoBulk d) :=
 ((Dk Tryz.underlying190 (by kernel_rfl) (Zh (RS n u9) (Zh (Gz n u2) (Nw n)))).to (fun x => C8.mk x.1 x.2.1) (fun _ => rfl) (fun a d h => by first | omega | (simp only [Kz, wLin, wIdx, Qo, QD, wBuf, JI, Dn] at *; omega))).le (Nat.le_succ n)
theorem TN (n : Nat) : X9 enc Tryz.prog w base spare held n 42 (fun x : gLin => (Qj x).cells) (fun x d => wLin x ≤ Rows.uptoBulk d) :=
 ((Dk Tryz.underlying42 (by kernel_rfl) (Zh (Gz n u2) (Zh ((Ce Qf u40 c40 (by decide) (fun _ => rfl) (Q0e enc w base spare held n)).le (Nat.le_succ _)) (Nw n)))).to (fun x => gLin.mk x.1 x.2.1) (fun _ => rfl) (fun a d h => by first | omega | (simp only [Kz, wLin, wIdx, Qo, QD, wBuf, JI, Dn] at *; omega))).le (Nat.le_succ n)
theorem Sm (n : Nat) : X9 enc Tryz.prog w base spare held n 132 (fun x : Qa => (Q4 x).cells) (fun x d => wIdx x ≤ Rows.uptoBulk d) :=
 ((Dk Tryz.underlying132 (by kernel_rfl) (Zh (TN enc w base spare held n) (Zh (RS n u9) (Zh ((Ce Qj u130 c130 (by decide) (fun _ => rfl) (TN enc w base spare held n)).le (Nat.le_succ _)) (Nw n))))).to (fun x => Qa.mk x.1 x.2.1 x.2.2.1) (fun _ => rfl) (fun a d h => by first | omega | (simp only [Kz, wLin, wIdx, Qo, QD, wBuf, JI, Dn] at *; omega))).le (Nat.le_succ n)
theorem rd_gVal (n : Nat) : X9 enc Tryz.prog w base spare held n 37 (fun x : gVal => (Qk x).cells) (fun x d => 1 ≤ Rows.uptoBulk d) :=
 ((Dk Tryz.underlying37 (by kernel_rfl) (Zh (Gz n u2) (Zh (Gz n u2) (Nw n)))).to (fun x => gVal.mk x.1 x.2.1) (fun _ => rfl) (fun a d h => by first | omega | (simp only [Kz, wLin, wIdx, Qo, QD, wBuf, JI, Dn] at *; omega))).le (Nat.le_succ n)
theorem FN : ∀ n, X9 enc Tryz.prog w base spare held n 45 (fun x : Q2 => (Q8 x).cells) (fun x d => Qo x ≤ Rows.uptoBulk d)
 | 0 => rwZero _ _
 | n + 1 => (Dk Tryz.underlying45 (by kernel_rfl) (Zh (Gz n u3) (Zh (RS n u9) (Zh (rd_gVal enc w base spare held n) (Zh (FP enc w base spare held n) (Zh (TN enc w base spare held n) (Zh ((Ce Q4 u35 c35 (by decide) (fun _ => rfl) (Sm enc w base spare held n)).le (Nat.le_succ _)) (Zh ((Ce (f := XX) Qm u43 c43 (by decide) (fun _ => rfl) ((FN n).to Qb.mk (fun x => by rw [N5]) (fun x d h => by rw [Um]; exact h))).le (Nat.le_succ _)) (Nw n))))))))).to (fun x => (QO.mk x.1 x.2.1 x.2.2.1 x.2.2.2.1 x.2.2.2.2.1 x.2.2.2.2.2.1 x.2.2.2.2.2.2.1 : Q2)) (fun _ => rfl) (fun a d h => by first | omega | (simp only [Kz, wLin, wIdx, Qo, QD, wBuf, JI, Dn] at *; omega))
theorem FO : ∀ n, X9 enc Tryz.prog w base spare held n 47 (fun x : Qc => (Qn x).cells) (fun x d => QD x ≤ Rows.uptoBulk d)
 | 0 => rwZero _ _
 | n + 1 => (Dk Tryz.underlying47 (by kernel_rfl) (Zh (Gz n u3) (Zh (RS n u9) (Zh (Gz n u3) (Zh (Gz n u3) (Zh (Gz n u3) (Zh ((Ce Q4 u35 c35 (by decide) (fun _ => rfl) (Sm enc w base spare held n)).le (Nat.le_succ _)) (Zh (FN enc w base spare held n) (Zh ((Ce (f := QA) Qq u23 c23 (by decide) (fun _ => rfl) ((FO n).to Q9.mk (fun x => by rw [Mj]) (fun x d h => by rw [YV]; exact h))).le (Nat.le_succ _)) (Nw n)))))))))).to (fun x => (Xc.mk x.1 x.2.1 x.2.2.1 x.2.2.2.1 x.2.2.2.2.1 x.2.2.2.2.2.1 x.2.2.2.2.2.2.1 x.2.2.2.2.2.2.2.1 : Qc)) (fun _ => rfl) (fun a d h => by first | omega | (simp only [Kz, wLin, wIdx, Qo, QD, wBuf, JI, Dn] at *; omega))
theorem BA (n : Nat) : X9 enc Tryz.prog w base spare held n 47 (fun x : Q9 => (Qq x).cells) (fun x d => QA x ≤ Rows.uptoBulk d) := (FO enc w base spare held n).to Q9.mk (fun x => by rw [Mj]) (fun x d h => by rw [YV]; exact h)
theorem Q0f (n : Nat) : X9 enc Tryz.prog w base spare held n 25 (fun x : Qh => (Qs x).cells) (fun x d => JI x ≤ Rows.uptoBulk d) :=
 ((Dk Tryz.underlying25 (by kernel_rfl) (Zh ((Ce Qx u22 c22 (by decide) (fun _ => rfl) (Bd enc w base spare held n)).le (Nat.le_succ _)) (Zh ((Ce (f := QA) Qq u23 c23 (by decide) (fun _ => rfl) (BA enc w base spare held n)).le (Nat.le_succ _)) (Nw n)))).to (fun x => Qh.mk x.1 x.2.1) (fun _ => rfl) (fun a d h => by first | omega | (simp only [Kz, wLin, wIdx, Qo, QD, wBuf, JI, Dn] at *; omega))).le (Nat.le_succ n)
set_option maxRecDepth 100000 in
theorem BB {n : Nat} {t e : TypeId} {k : IntKind} (ht : Tryz.prog.underlying t = some (.array 2 e)) (he : Tryz.prog.underlying e = some (.int k)) (hc : Tryz.prog.cellsOf e = 1) (hc2 : Tryz.prog.cellsOf t = 2) : X9 enc Tryz.prog w base spare held n t (fun x : Int × Int => [.int k x.1, .int k x.2]) (fun x d => (Lit.int k x.1).wf = true ∧ (Lit.int k x.2).wf = true) := fun fuel cs d ps hf h => by
 obtain ⟨xs, m, rfl, hx, hcl, hxl, hel⟩ := DataW.trod_array ht h
 rw [hc2] at hcl
 match cs, hcl with
 | [c0, c1], _ =>
  have h0 := hel 0 (by omega)
  have h1 := hel 1 (by omega)
  rw [hc] at h0 h1
  match xs, hxl with
  | [x0, x1], _ =>
   obtain ⟨a, r0, _, w0⟩ := DataW.trod_int he h0
   obtain ⟨b, r1, _, w1⟩ := DataW.trod_int he h1
   simp at r0 r1
   subst r0; subst r1
   refine ⟨(a, b), ⟨w0, w1⟩, rfl, fun j y u hy hu => ?_⟩
   match j with
   | 0 => simp at hy hu; subst hy; subst hu; exact ⟨rfl, .int _ _⟩
   | 1 => simp at hy hu; subst hy; subst hu; exact ⟨rfl, .int _ _⟩
   | j + 2 => simp at hy
end
theorem own : ownKnob Tryz.prog.godebug = none := by kernel_rfl
theorem u27 : Tryz.prog.underlying 27 = some (.array 2 26) := by kernel_rfl
theorem u26 : Tryz.prog.underlying 26 = some (.int .u16) := by kernel_rfl
theorem lawOk : LawOk Tryz.prog Tryz.f3 4 := ⟨by kernel_rfl, by kernel_rfl, by kernel_rfl, by kernel_rfl⟩
theorem FD {P : Program} {w : World} {r : Reach} {base : Nat} {t e : TypeId} {n : Nat} {v : Value} (ht : P.underlying t = some (.array n e)) (h : Value.okWide P w r base t v) : ∃ cs, v = .agg cs ∧ cs.size = P.cellsOf t := by
 simp only [Value.okWide, ht] at h
 obtain ⟨cs, h1, h2, _⟩ := h
 exact ⟨cs, h1, h2⟩
theorem RelL.agg {K : HV} {ys : List AV} {cs : Array Value} (h : RelL K ys (Value.agg cs).cells.toList) : RelI K (.agg ys) (.agg cs) := by
 have hc : (Value.agg cs).cells = cs := rfl
 rw [hc] at h
 refine .agg ys cs (by rw [h.1]; simp) (fun v hv => ?_) fun j a v ha hv => (h.2 j a v ha (by simpa using hv)).2
 obtain ⟨j, hj, rfl⟩ := Array.mem_iff_getElem.1 hv
 have hl : j < ys.length := by rw [h.1]; simpa using hj
 obtain ⟨h1, h2⟩ := h.2 j ys[j] cs[j] (List.getElem?_eq_getElem hl) (by simp [hj])
 exact h2.oneCell h1
theorem B9 {P : Program} {gl : Nat → AV} {f : FuncId} {args : List AV} (hent : NL P f) (h : Pu P gl f args (.bool true)) {W : World} {vs : Array Value} (hl : args.length = vs.size) (hgl : ∀ g, RelI (HV.full W) (gl g) (.pointer (some ⟨g, 0, none⟩))) (hgv : GvOk gl (fun k => k < W.heap.size) W)
  (hr : ∀ (j : Nat) (x : AV) (v : Value), args[j]? = some x → vs[j]? = some v → RelI (HV.full W) x v) : Calls P f vs W fun e W' => e = .returned (.bool true) ∧ Below W.heap.size W W' := by
 refine (Ans.calls (he := hent) <| h.ok (fun _ => ⟨0, 0, 0⟩) (HV.full W) (fun k => k < W.heap.size) (HV.full W) W vs
  { sat := Q06 W, old := fun _ _ _ => rfl, low := fun _ h => h, fresh := fun _ _ => Zc _, box := (fun _ _ hh => by rw [Zc] at hh; cases hh), sepR := (fun _ _ hh => by rw [Zc] at hh; cases hh), injR := (fun _ _ _ _ hh => by rw [Zc] at hh; cases hh), gv := hgv, gl := hgl, ty := (fun _ _ _ hh => by rw [Zc] at hh; cases hh) } hl
  (fun j x v hx hv => .imm _ _ (hr j x v hx hv))).mono fun e W' hpost => ?_
 obtain ⟨v, m', H', he, hb, _, hv⟩ := hpost
 have := hv.bool_inv
 subst this
 exact ⟨he, hb.toB⟩
theorem u16_lt {a : Int} (h : (Lit.int .u16 a).wf = true) : 0 ≤ a ∧ a < 65536 := by
 have : 0 ≤ a ∧ a ≤ 65535 := by simpa [Lit.wf, IntKind.min, IntKind.max, IntKind.signed, IntKind.bits] using h
 omega
set_option maxRecDepth 100000 in
theorem Q01 (H : Type) (enc : TypeId × Value → H) (W : World) (base : Nat) (args : Array Value) (ds gs : List (DataW H)) (before : List MemPlace)
  (hval : ∀ (j : Nat) t v, Tryz.f3.params[j]? = some t → args[j]? = some v → Value.okWide Tryz.prog W .any base t v)
  (hW : DataW.Whole enc Tryz.prog Tryz.f3.params.toList Rows.dependConflictsSpec.vars false W args.toList ds gs before) (hk : Rows.uptoSmall H (ds ++ gs) = true) :
  Calls Tryz.prog 3 args W fun e W' => ∃ v, e = .returned v ∧ Rows.dependConflictsSpec.post enc Tryz.prog Tryz.f3 false true false false W args v W' := by
 have hW' := hW
 obtain ⟨p, q, hA0, hV, rfl, hfz, hnd⟩ := hW
 have hA : DataW.TrodAll enc Tryz.prog W 0 (fun _ => true) true Tryz.f3.params.toList args.toList ds p := hA0
 rw [Tryz.params3] at hA hval
 obtain ⟨v0, vs0, d0, ds0, p0, q0, hargs0, rfl, rfl, h0, r0⟩ := trodAll_cons hA
 obtain ⟨v1, vs1, d1, ds1, p1, q1, hargs1, rfl, rfl, h1, r1⟩ := trodAll_cons r0
 obtain ⟨rfl, rfl, rfl⟩ := trodAll_nil r1
 obtain rfl : args = #[v0, v1] := by cases args; simp_all
 obtain ⟨rfl, rfl⟩ := trodVars_none hV
 have hk2 := of_decide_eq_true hk
 simp only [List.append_nil, Rows.uptoBulkAll] at hk2
 obtain ⟨c0, rfl, _⟩ := okWide_struct Tryz.underlying25 (hval 0 25 v0 rfl rfl)
 obtain ⟨c1, rfl, _⟩ := FD u27 (hval 1 27 v1 rfl rfl)
 obtain ⟨n, hn, hx⟩ := X9.arg (fun k => Q0f enc W 0 (fun _ => true) true k) h0
 obtain ⟨y, ⟨hy0, hy1⟩, hy⟩ := X9.arg (fun k => BB enc W 0 (fun _ => true) true (n := k) u27 u26 (by kernel_rfl) (by kernel_rfl)) h1
 have hF := Me n (MO.mk y.1 y.2) (by omega) (u16_lt hy0) (u16_lt hy1)
 refine (B9 (Ni (by kernel_rfl)) (Mc n _ true hF) (W := W) rfl (fun g => .undef _) (fun g sz cs hg => by cases hg) fun j z v hz hv => ?_).mono fun e W' ⟨he, hb⟩ => ⟨_, he, Bz lawOk rfl hW' rfl hb⟩
 match j with
 | 0 => cases hz; cases hv; exact RelL.agg hx
 | 1 => cases hz; cases hv; exact RelL.agg hy
 | j + 2 => cases hz
set_option maxRecDepth 100000 in
theorem lifted (os : Os) (started : os.Started) (H : Type) (enc : TypeId × Value → H) (F : Stop.Interp) :
  ReturnsInHanded {} Tryz.checked os 3 .any ((Rows.OpenSpec.upto Rows.dependConflictsSpec).pre6 enc Tryz.prog Tryz.f3 Rows.dependConflictsUptoRow.domain false) (((Rows.OpenSpec.upto Rows.dependConflictsSpec).at F).post enc Tryz.prog Tryz.f3 false true false false) := by
 refine returnsInHanded_of_cond (C := Tryz.checked) (s := Rows.OpenSpec.upto Rows.dependConflictsSpec) (k := Rows.uptoSmall) rfl own started (by kernel_rfl) Tryz.func3
  (OpenSpec.witness (enc := enc) (C := Tryz.checked) (s := Rows.OpenSpec.upto Rows.dependConflictsSpec) (k := Rows.uptoSmall) rfl false ⟨#[], #[.agg #[.slice none 0 0, .slice none 0 0], .agg #[.int .u16 0, .int .u16 0]], []⟩ 8 (by kernel_rfl) (by kernel_rfl) (by kernel_rfl)
   (x := ([.agg [.nil, .nil], .agg [.lit (.int .u16 0), .lit (.int .u16 0)]], [], [])) (by kernel_rfl) rfl (by kernel_rfl)) ?_
 intro W base args ds gs before hval hW _ hk _
 exact Q01 H enc W base args ds gs before hval hW hk
theorem proved : Rows.DependConflictsUptoSaid :=
 OpenClaim.holds_of_cond 3 Tryz.f3 rfl rfl rfl rfl rfl rfl rfl ⟨rfl, rfl, rfl, rfl, rfl⟩ rfl rfl rfl rfl rfl (by kernel_rfl) Tryz.func3 (by kernel_rfl)
  (of_decide_eq_true (by kernel_rfl)) (by unfold Func.isWrapper; first | (rw [if_pos (by decide +kernel)]; kernel_rfl) | (rw [if_neg (by decide +kernel)]; exact ⟨rfl, rfl⟩))
  (fun os started H enc _ F => lifted os started H enc F)
end Go.Proofs.YtokfigmmegifeaaGreat
end
