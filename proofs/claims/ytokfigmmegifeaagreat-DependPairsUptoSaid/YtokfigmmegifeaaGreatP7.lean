/- Proved in the last of these texts: for every input of bulk at most 1048576 the law returns true and its arguments read afterwards as they read before. This text: a part of the proof. -/
import Derived.Test.YtokfigmmegifeaaGreatP6
import Derived.ChangeArms
import Derived.Ground.Names2Prog
import Derived.Ground.SlsfProg
import Derived.JoinedCond
import Derived.OpenShut
import Derived.ProofKit
import Derived.Shelf.GgSortFunc.InsertionK
import Derived.Shelf.SlSortCmp.NoneTotal
import Derived.Shelf.Small.Wraps
import Derived.Test.YtokfigmmegifeaaGreatProg
import Derived.Test.YtokfigmmegifeaaGreatRows
import Derived.WalkKit
section
namespace Go.Proofs.YtokfigmmegifeaaGreat
open Go HY
set_option linter.unusedVariables false
set_option linter.unusedSimpArgs false
theorem L1 (m : Int) (x : Q1) (k : Int) (hx : Qn x ≤ 1048576) (h0 : 0 ≤ k) (h1 : k < x.fIdx.length) (n : Int) : wp (Yn m x n k 0) (fun _ => True) := by
 have hl : (x.fIdx[k.toNat]'(by omega)).fAt.length ≤ 1048576 := by
  have := Q1y (f := wIdx) (l := x.fIdx) (k := k.toNat) (by omega); have := O8 x; have := MJ (x.fIdx[k.toNat]'(by omega)); omega
 have hi : ix x.fIdx k = some (x.fIdx[k.toNat]'(by omega)) := by unfold ix; rw [if_pos h0, List.getElem?_eq_getElem]
 refine CC (F := fun a i => Yn m x a k i) (x.fIdx[k.toNat]'(by omega)).fAt.length ?_ ?_ 0 n (by omega) (by omega)
 ·intro a
  rw [Yn]
  simp only [hi]
  repeat' (first | exact trivial | assumption | (intro _) | (refine And.intro ?_ ?_) | (refine Qf (by omega) (by omega) fun _ _ => ?_) | (simp only [zz, ↓reduceIte]) | (split) | omega | (exfalso; simp only [zl] at *; omega) | (simp_all; done))
 ·intro i a h0 h1 ih
  rw [Yn]
  have hw := QH h0 h1 (by omega)
  simp only [hi]
  repeat' (first | exact trivial | assumption | (intro _) | (refine And.intro ?_ ?_) | (exact ih _) | (rw [hw]; exact ih _) | (refine Qf (by omega) (by omega) fun _ _ => ?_) | (simp only [zz, ↓reduceIte]) | (split) | omega | (exfalso; simp only [zl] at *; omega) | (simp_all; done))
theorem Tz (x1 : Int) (x2 : Q1) (hx : Qn x2 ≤ 1048576) (x5 : Int) (x6 : Int) (h0 : 0 ≤ x6) (h1 : x6 ≤ (x2.fIdx.length : Nat)) : wp (Ym x1 x2 x5 x6) (fun r => True) := by
 obtain ⟨hx1, hx2, hx3, hx4, hx5, hx6, hx7⟩ := Zv hx
 refine CC (F := fun x5 x6 => Ym x1 x2 x5 x6) (x2.fIdx.length) ?_ ?_ x6 x5 h0 h1
 ·intro x5
  rw [Ym]
  repeat' (first | exact trivial | assumption | (intro _) | (refine And.intro ?_ ?_) | (refine Q4 (L1 _ _ _ hx (by omega) (by omega) _) fun _ _ => ?_) | (refine Qf (by omega) (by omega) fun _ _ => ?_) | (simp only [zz, ↓reduceIte]) | (split) | omega | (exfalso; simp only [zl] at *; omega) | (simp_all; done))
 ·intro x6 x5 h0 h1 ih
  rw [Ym]
  have hw := QH h0 h1 (by omega)
  have hw2 := QQ (n := x6 - 1) (by omega)
  repeat' (first | exact trivial | assumption | (intro _) | (refine And.intro ?_ ?_) | (exact ih _) | (rw [hw]; exact ih _) | (refine Q4 (L1 _ _ _ hx (by omega) (by omega) _) fun _ _ => ?_) | (refine Qf (by omega) (by omega) fun _ _ => ?_) | (simp only [zz, ↓reduceIte]) | (split) | omega | (exfalso; simp only [zl] at *; omega) | (simp_all; done))
theorem AT : ∀ e : Q9, Qn e.f ≤ 1048576 → ∀ m, wp (Kc e.f m) (fun _ => True) := Q9.ind fun x ih h m => by
 simp only [Q9.f_mk] at h ⊢
 obtain ⟨e1, e2, e3, e4, e5, e6, e7⟩ := Zv h
 have L : ∀ n, wp (XV m x n 0) (fun _ => True) := fun n => by
  refine CC (F := fun a i => XV m x a i) x.fArgs.length ?_ ?_ 0 n (by omega) (by omega)
  ·intro a; rw [XV]; repeat' (first | exact trivial | assumption | (intro _) | (refine And.intro ?_ ?_) | (refine Qf (by omega) (by omega) fun _ _ => ?_) | (simp only [zz, ↓reduceIte]) | (split) | omega | (exfalso; simp only [zl] at *; omega) | (simp_all; done))
  ·intro i a h0 h1 ih2
   rw [XV]
   have hw := QH h0 h1 (by omega)
   repeat' (first | exact trivial | assumption | (intro _) | (refine And.intro ?_ ?_) | (exact ih2 _) | (rw [hw]; exact ih2 _) | (refine Q4 (ih _ (by assumption) (e7 _ (by assumption)) _) fun _ _ => ?_) | (refine Qf (by omega) (by omega) fun _ _ => ?_) | (simp only [zz, ↓reduceIte]) | (split) | omega | (exfalso; simp only [zl] at *; omega) | (simp_all; done))
 rw [Kc]
 repeat' (first | exact trivial | assumption | (intro _) | (refine And.intro ?_ ?_) | (refine Q4 (L _) fun _ _ => ?_) | (refine Q4 (Tz _ _ h _ 0 (by omega) (by omega)) fun _ _ => ?_) | (refine Qf (by omega) (by omega) fun _ _ => ?_) | (simp only [zz, ↓reduceIte]) | (split) | omega | (exfalso; simp only [zl] at *; omega) | (simp_all; done))
theorem Hy (x : Q1) (h : Qn x ≤ 1048576) (m : Int) : wp (Kc x m) (fun _ => True) := AT (.mk x) h m
theorem Cg {P : List Q7 → Prop} (h : ∀ l, wSum QG l ≤ 1048576 → (∀ a ∈ l, P a.f.fBody) → P l) : ∀ l, wSum QG l ≤ 1048576 → P l := by
 have key : ∀ s : Q7, QB s.f ≤ 1048576 → P s.f.fBody := Q7.ind fun x ih hx => by
  simp only [Q7.f_mk] at hx ⊢
  obtain ⟨e1, e2, e3, e4, e5, e6, e7⟩ := G8 hx
  exact h _ e6 fun a ha => ih a ha (e7 a ha)
 exact fun l hl => h l hl fun a ha => key a ((Cw hl).2 a ha)
theorem EB : ∀ l : List Q7, wSum QG l ≤ 1048576 → ∀ m, wp (Yg l m) (fun _ => True) := Cg fun l hl ih m => by
 obtain ⟨e1, e2⟩ := Cw hl
 have L : ∀ n, wp (Zw l m n 0) (fun _ => True) := fun n => by
  refine CC (F := fun a i => Zw l m a i) l.length ?_ ?_ 0 n (by omega) (by omega)
  ·intro a; rw [Zw]; repeat' (first | exact trivial | assumption | (intro _) | (refine And.intro ?_ ?_) | (refine Qf (by omega) (by omega) fun _ _ => ?_) | (simp only [zz, ↓reduceIte]) | (split) | omega | (exfalso; simp only [zl] at *; omega) | (simp_all; done))
  ·intro i a h0 h1 ih2
   rw [Zw]
   have hw := QH h0 h1 (by omega)
   repeat' (first | exact trivial | assumption | (intro _) | (refine And.intro ?_ ?_) | (exact ih2 _) | (rw [hw]; exact ih2 _) | (refine Q4 (ih _ (by assumption) _) fun _ _ => ?_) | (refine Q4 (Hy _ (G8 (e2 _ (by assumption))).2.1 _) fun _ _ => ?_) | (refine Q4 (Hy _ (W_idx (e2 _ (by assumption)) (Nat.zero_le _)) _) fun _ _ => ?_) | (refine Qf (by omega) (by omega) fun _ _ => ?_) | (simp only [zz, ↓reduceIte]) | (split) | omega | (exfalso; simp only [zl] at *; omega) | (simp_all; done))
 rw [Yg]
 repeat' (first | exact trivial | assumption | (intro _) | (refine And.intro ?_ ?_) | (refine Q4 (L _) fun _ _ => ?_) | (refine Qf (by omega) (by omega) fun _ _ => ?_) | (simp only [zz, ↓reduceIte]) | (split) | omega | (exfalso; simp only [zl] at *; omega) | (simp_all; done))
theorem O3 : ∀ l : List Q7, wSum QG l ≤ 1048576 → ∀ m, wp (Jg l m) (fun _ => True) := Cg fun l hl ih m => by
 obtain ⟨e1, e2⟩ := Cw hl
 have L : ∀ n, wp (Yu l m n 0) (fun _ => True) := fun n => by
  refine CC (F := fun a i => Yu l m a i) l.length ?_ ?_ 0 n (by omega) (by omega)
  ·intro a; rw [Yu]; repeat' (first | exact trivial | assumption | (intro _) | (refine And.intro ?_ ?_) | (refine Qf (by omega) (by omega) fun _ _ => ?_) | (simp only [zz, ↓reduceIte]) | (split) | omega | (exfalso; simp only [zl] at *; omega) | (simp_all; done))
  ·intro i a h0 h1 ih2
   rw [Yu]
   have hw := QH h0 h1 (by omega)
   repeat' (first | exact trivial | assumption | (intro _) | (refine And.intro ?_ ?_) | (exact ih2 _) | (rw [hw]; exact ih2 _) | (refine Q4 (ih _ (by assumption) _) fun _ _ => ?_) | (refine Qf (by omega) (by omega) fun _ _ => ?_) | (simp only [zz, ↓reduceIte]) | (split) | omega | (exfalso; simp only [zl] at *; omega) | (simp_all; done))
 rw [Jg]
 repeat' (first | exact trivial | assumption | (intro _) | (refine And.intro ?_ ?_) | (refine Q4 (L _) fun _ _ => ?_) | (refine Qf (by omega) (by omega) fun _ _ => ?_) | (simp only [zz, ↓reduceIte]) | (split) | omega | (exfalso; simp only [zl] at *; omega) | (simp_all; done))
theorem AR (x0 : List Str) (x1 : Str) (hl : x0.length ≤ 1048576)  (x5 : Int) (h0 : 0 ≤ x5) (h1 : x5 ≤ (x0.length : Nat)) : wp (Kj x0 x1 x5) (fun r => True) := by
 refine ZQ (F := fun x5 => Kj x0 x1 x5) (x0.length) ?_ ?_ x5  h0 h1
 ·skip
  rw [Kj]
  repeat' (first | exact trivial | assumption | (intro _) | (refine And.intro ?_ ?_) | (refine Qf (by omega) (by omega) fun _ _ => ?_) | (simp only [zz, ↓reduceIte]) | (split) | omega | (exfalso; simp only [zl] at *; omega) | (simp_all; done))
 ·intro x5  h0 h1 ih
  rw [Kj]
  have hw := QH h0 h1 (by omega)
  have hw2 := QQ (n := x5 - 1) (by omega)
  repeat' (first | exact trivial | assumption | (intro _) | (refine And.intro ?_ ?_) | (exact ih) | (rw [hw]; exact ih) | (refine Qf (by omega) (by omega) fun _ _ => ?_) | (simp only [zz, ↓reduceIte]) | (split) | omega | (exfalso; simp only [zl] at *; omega) | (simp_all; done))
theorem PP  : wp (Wr ) (fun r => r.length ≤ 1048576) := by
 unfold Wr
 repeat' (first | exact trivial | assumption | (intro _) | (refine And.intro ?_ ?_) | (decide) | (refine Qf (by omega) (by omega) fun _ _ => ?_) | (simp only [zz, ↓reduceIte]) | (split) | omega | (exfalso; simp only [zl] at *; omega) | (simp_all; done))
theorem I0 (x0 : List Str) (x1 : Str) (hl : x0.length ≤ 1048576) : wp (DA x0 x1) (fun r => True) := by
 unfold DA
 repeat' (first | exact trivial | assumption | (intro _) | (refine And.intro ?_ ?_) | (refine Q4 (AR _ _ hl 0 (by omega) (by omega)) fun _ _ => ?_) | (refine Qf (by omega) (by omega) fun _ _ => ?_) | (simp only [zz, ↓reduceIte]) | (split) | omega | (exfalso; simp only [zl] at *; omega) | (simp_all; done))
theorem Sw (x0 : Str) (hl : x0.length ≤ 1048576)  (x3 : Int) (h0 : 0 ≤ x3) (h1 : x3 ≤ (x0.length : Nat)) : wp (YG x0 x3) (fun r => True) := by
 refine ZQ (F := fun x3 => YG x0 x3) (x0.length) ?_ ?_ x3  h0 h1
 ·skip
  rw [YG]
  repeat' (first | exact trivial | assumption | (intro _) | (refine And.intro ?_ ?_) | (refine Qf (by omega) (by omega) fun _ _ => ?_) | (simp only [zz, ↓reduceIte]) | (split) | omega | (exfalso; simp only [zl] at *; omega) | (simp_all; done))
 ·intro x3  h0 h1 ih
  rw [YG]
  have hw := QH h0 h1 (by omega)
  have hw2 := QQ (n := x3 - 1) (by omega)
  repeat' (first | exact trivial | assumption | (intro _) | (refine And.intro ?_ ?_) | (exact ih) | (rw [hw]; exact ih) | (refine Qf (by omega) (by omega) fun _ _ => ?_) | (simp only [zz, ↓reduceIte]) | (split) | omega | (exfalso; simp only [zl] at *; omega) | (simp_all; done))
theorem KN (x0 : Str) (hl : x0.length ≤ 1048576) : wp (J6 x0) (fun r => True) := by
 unfold J6
 obtain ⟨w, hw, hw2⟩ := PP
 rw [hw]
 repeat' (first | exact trivial | assumption | (intro _) | (refine And.intro ?_ ?_) | (refine Q4 (I0 _ _ hw2) fun _ _ => ?_) | (refine Q4 (Sw _ hl 0 (by omega) (by omega)) fun _ _ => ?_) | (refine Qf (by omega) (by omega) fun _ _ => ?_) | (simp only [zz, ↓reduceIte]) | (split) | omega | (exfalso; simp only [zl] at *; omega) | (simp_all; done))
theorem ES (x0 : Qg) : wp (XC x0) (fun r => True) := by
 unfold XC
 repeat' (first | exact trivial | assumption | (intro _) | (refine And.intro ?_ ?_) | (refine Qf (by omega) (by omega) fun _ _ => ?_) | (simp only [zz, ↓reduceIte]) | (split) | omega | (exfalso; simp only [zl] at *; omega) | (simp_all; done))
theorem IK (x0 : List Int) (hl : x0.length ≤ 1048576)  (x3 : Int) (h0 : 0 ≤ x3) (h1 : x3 ≤ (x0.length : Nat)) : wp (ZL x0 x3) (fun r => True) := by
 refine ZQ (F := fun x3 => ZL x0 x3) (x0.length) ?_ ?_ x3  h0 h1
 ·skip
  rw [ZL]
  repeat' (first | exact trivial | assumption | (intro _) | (refine And.intro ?_ ?_) | (refine Qf (by omega) (by omega) fun _ _ => ?_) | (simp only [zz, ↓reduceIte]) | (split) | omega | (exfalso; simp only [zl] at *; omega) | (simp_all; done))
 ·intro x3  h0 h1 ih
  rw [ZL]
  have hw := QH h0 h1 (by omega)
  have hw2 := QQ (n := x3 - 1) (by omega)
  repeat' (first | exact trivial | assumption | (intro _) | (refine And.intro ?_ ?_) | (exact ih) | (rw [hw]; exact ih) | (refine Qf (by omega) (by omega) fun _ _ => ?_) | (simp only [zz, ↓reduceIte]) | (split) | omega | (exfalso; simp only [zl] at *; omega) | (simp_all; done))
theorem I3 (x0 : List Int) (hl : x0.length ≤ 1048576) (x4 : Int) (x5 : Int) (h0 : 0 ≤ x5) (h1 : x5 ≤ (x0.length : Nat)) : wp (Zy x0 x4 x5) (fun r => True) := by
 refine CC (F := fun x4 x5 => Zy x0 x4 x5) (x0.length) ?_ ?_ x5 x4 h0 h1
 ·intro x4
  rw [Zy]
  repeat' (first | exact trivial | assumption | (intro _) | (refine And.intro ?_ ?_) | (refine Qf (by omega) (by omega) fun _ _ => ?_) | (simp only [zz, ↓reduceIte]) | (split) | omega | (exfalso; simp only [zl] at *; omega) | (simp_all; done))
 ·intro x5 x4 h0 h1 ih
  rw [Zy]
  have hw := QH h0 h1 (by omega)
  have hw2 := QQ (n := x5 - 1) (by omega)
  repeat' (first | exact trivial | assumption | (intro _) | (refine And.intro ?_ ?_) | (exact ih _) | (rw [hw]; exact ih _) | (refine Qf (by omega) (by omega) fun _ _ => ?_) | (simp only [zz, ↓reduceIte]) | (split) | omega | (exfalso; simp only [zl] at *; omega) | (simp_all; done))
theorem MF (x0 : List Int) (hl : x0.length ≤ 1048576) : wp (DC x0) (fun r => True) := by
 unfold DC
 repeat' (first | exact trivial | assumption | (intro _) | (refine And.intro ?_ ?_) | (refine Q4 (IK _ hl 0 (by omega) (by omega)) fun _ _ => ?_) | (refine Q4 (I3 _ hl _ 0 (by omega) (by omega)) fun _ _ => ?_) | (refine Qf (by omega) (by omega) fun _ _ => ?_) | (simp only [zz, ↓reduceIte]) | (split) | omega | (exfalso; simp only [zl] at *; omega) | (simp_all; done))
theorem L2 (x1 : Qb) (x3 : Int) (x4 : Qw) (hl : x1.fBufs.length ≤ 1048576) (k0 : 0 ≤ x3) (k1 : x3 < x1.fBufs.length) : wp (Ys x1 x3 x4 0) (fun _ => True) := by
 refine ZQ (F := fun i => Ys x1 x3 x4 i) x3.toNat ?_ ?_ 0 (by omega) (by omega)
 ·have : (x3.toNat : Int) = x3 := by omega
  rw [this]; rw [Ys]; repeat' (first | exact trivial | assumption | (intro _) | (refine And.intro ?_ ?_) | (refine Qf (by omega) (by omega) fun _ _ => ?_) | (simp only [zz, ↓reduceIte]) | (split) | omega | (exfalso; simp only [zl] at *; omega) | (simp_all; done))
 ·intro i h0 h1 ih
  rw [Ys]
  have hw := QH h0 h1 (by omega)
  repeat' (first | exact trivial | assumption | (intro _) | (refine And.intro ?_ ?_) | (exact ih) | (rw [hw]; exact ih) | (refine Qf (by omega) (by omega) fun _ _ => ?_) | (simp only [zz, ↓reduceIte]) | (split) | omega | (exfalso; simp only [zl] at *; omega) | (simp_all; done))
theorem TJ (x1 : Qb) (hb : wSum wBuf x1.fBufs ≤ 1048576)  (x3 : Int) (h0 : 0 ≤ x3) (h1 : x3 ≤ (x1.fBufs.length : Nat)) : wp (Yr x1 x3) (fun r => True) := by
 obtain ⟨hb1, hb2⟩ := HM hb
 refine ZQ (F := fun x3 => Yr x1 x3) (x1.fBufs.length) ?_ ?_ x3  h0 h1
 ·skip
  rw [Yr]
  repeat' (first | exact trivial | assumption | (intro _) | (refine And.intro ?_ ?_) | (refine Q4 (KN _ (hb2 _ (by assumption)).1) fun _ _ => ?_) | (refine Q4 (L2 _ _ _ hb1 (by omega) (by omega)) fun _ _ => ?_) | (refine Q4 (ES _) fun _ _ => ?_) | (refine Q4 (MF _ (hb2 _ (by assumption)).2) fun _ _ => ?_) | (refine Qf (by omega) (by omega) fun _ _ => ?_) | (simp only [zz, ↓reduceIte]) | (split) | omega | (exfalso; simp only [zl] at *; omega) | (simp_all; done))
 ·intro x3  h0 h1 ih
  rw [Yr]
  have hw := QH h0 h1 (by omega)
  have hw2 := QQ (n := x3 - 1) (by omega)
  repeat' (first | exact trivial | assumption | (intro _) | (refine And.intro ?_ ?_) | (exact ih) | (rw [hw]; exact ih) | (refine Q4 (KN _ (hb2 _ (by assumption)).1) fun _ _ => ?_) | (refine Q4 (L2 _ _ _ hb1 (by omega) (by omega)) fun _ _ => ?_) | (refine Q4 (ES _) fun _ _ => ?_) | (refine Q4 (MF _ (hb2 _ (by assumption)).2) fun _ _ => ?_) | (refine Qf (by omega) (by omega) fun _ _ => ?_) | (simp only [zz, ↓reduceIte]) | (split) | omega | (exfalso; simp only [zl] at *; omega) | (simp_all; done))
theorem PZ (x0 : Qb) (hb : wSum wBuf x0.fBufs ≤ 1048576) : wp (Cf x0) (fun r => True) := by
 obtain ⟨hb1, hb2⟩ := HM hb
 unfold Cf
 repeat' (first | exact trivial | assumption | (intro _) | (refine And.intro ?_ ?_) | (refine Q4 (TJ _ hb 0 (by omega) (by omega)) fun _ _ => ?_) | (refine Qf (by omega) (by omega) fun _ _ => ?_) | (simp only [zz, ↓reduceIte]) | (split) | omega | (exfalso; simp only [zl] at *; omega) | (simp_all; done))
end Go.Proofs.YtokfigmmegifeaaGreat
end
section
namespace Go.Proofs.YtokfigmmegifeaaGreat
open Go HY
set_option linter.unusedVariables false
set_option linter.unusedSimpArgs false
def We (op : Int) : Int := if op = 1 ∨ op = 2 ∨ op = 3 then 0 else if op = 8 ∨ op = 12 ∨ op = 18 then 1 else if op = 11 then 3 else 2
def isC (x : Q1) : Bool := decide (13 ≤ x.fOp) && decide (x.fOp ≤ 18)
def Jl (op i : Int) : Bool := (op == 11 && i == 0) || op == 16 || op == 17 || op == 18
theorem PK (op : Int) : Ce op = some (We op) := by
 unfold Ce We
 apply Fo
 repeat' (first | exact trivial | assumption | (intro _) | (refine And.intro ?_ ?_) | (grind) | (refine Qf (by omega) (by omega) fun _ _ => ?_) | (simp only [zz, ↓reduceIte]) | (split) | omega | (exfalso; simp only [zl] at *; omega) | (simp_all; done))
theorem II (x : Q1) : Zu x = some (isC x) := by
 unfold Zu isC
 apply Fo
 repeat' (first | exact trivial | assumption | (intro _) | (refine And.intro ?_ ?_) | (grind) | (refine Qf (by omega) (by omega) fun _ _ => ?_) | (simp only [zz, ↓reduceIte]) | (split) | omega | (exfalso; simp only [zl] at *; omega) | (simp_all; done))
theorem AN (op i : Int) : DR op i = some (Jl op i) := by
 unfold DR Jl
 apply Fo
 repeat' (first | exact trivial | assumption | (intro _) | (refine And.intro ?_ ?_) | (grind) | (refine Qf (by omega) (by omega) fun _ _ => ?_) | (simp only [zz, ↓reduceIte]) | (split) | omega | (exfalso; simp only [zl] at *; omega) | (simp_all; done))
theorem PW (op : Int) : wp (Ce op) (fun r => r = We op) := ⟨_, PK op, rfl⟩
theorem Ux (x : Q1) : wp (Zu x) (fun r => r = isC x) := ⟨_, II x, rfl⟩
theorem F7 (op i : Int) : wp (DR op i) (fun r => r = Jl op i) := ⟨_, AN op i, rfl⟩
theorem Sx : ∀ e : Q9, Qn e.f ≤ 1048576 → ∀ m, wp (Vf e.f m) (fun _ => True) := Q9.ind fun x ih h m => by
 simp only [Q9.f_mk] at h ⊢
 obtain ⟨e1, e2, e3, e4, e5, e6, e7⟩ := Zv h
 have L : ∀ n, wp (XX m x n 0) (fun _ => True) := fun n => by
  refine CC (F := fun a i => XX m x a i) x.fArgs.length ?_ ?_ 0 n (by omega) (by omega)
  ·intro a; rw [XX]; repeat' (first | exact trivial | assumption | (intro _) | (refine And.intro ?_ ?_) | (refine Qf (by omega) (by omega) fun _ _ => ?_) | (simp only [zz, ↓reduceIte]) | (split) | omega | (exfalso; simp only [zl] at *; omega) | (simp_all; done))
  ·intro i a h0 h1 ih2
   rw [XX]
   have hw := QH h0 h1 (by omega)
   repeat' (first | exact trivial | assumption | (intro _) | (refine And.intro ?_ ?_) | (exact ih2 _) | (rw [hw]; exact ih2 _) | (refine Q4 (ih _ (by assumption) (e7 _ (by assumption)) _) fun _ _ => ?_) | (refine Qf (by omega) (by omega) fun _ _ => ?_) | (simp only [zz, ↓reduceIte]) | (split) | omega | (exfalso; simp only [zl] at *; omega) | (simp_all; done))
 rw [Vf]
 repeat' (first | exact trivial | assumption | (intro _) | (refine And.intro ?_ ?_) | (refine Q4 (L _) fun _ _ => ?_) | (refine Qf (by omega) (by omega) fun _ _ => ?_) | (simp only [zz, ↓reduceIte]) | (split) | omega | (exfalso; simp only [zl] at *; omega) | (simp_all; done))
theorem F5 : ∀ e : Q9, Qn e.f ≤ 1048576 → ∀ m, wp (Je e.f m) (fun _ => True) := Q9.ind fun x ih h m => by
 simp only [Q9.f_mk] at h ⊢
 obtain ⟨e1, e2, e3, e4, e5, e6, e7⟩ := Zv h
 have L : ∀ n, wp (Yq m x n 0) (fun _ => True) := fun n => by
  refine CC (F := fun a i => Yq m x a i) x.fArgs.length ?_ ?_ 0 n (by omega) (by omega)
  ·intro a; rw [Yq]; repeat' (first | exact trivial | assumption | (intro _) | (refine And.intro ?_ ?_) | (refine Qf (by omega) (by omega) fun _ _ => ?_) | (simp only [zz, ↓reduceIte]) | (split) | omega | (exfalso; simp only [zl] at *; omega) | (simp_all; done))
  ·intro i a h0 h1 ih2
   rw [Yq]
   have hw := QH h0 h1 (by omega)
   repeat' (first | exact trivial | assumption | (intro _) | (refine And.intro ?_ ?_) | (exact ih2 _) | (rw [hw]; exact ih2 _) | (refine Q4 (ih _ (by assumption) (e7 _ (by assumption)) _) fun _ _ => ?_) | (refine Qf (by omega) (by omega) fun _ _ => ?_) | (simp only [zz, ↓reduceIte]) | (split) | omega | (exfalso; simp only [zl] at *; omega) | (simp_all; done))
 rw [Je]
 repeat' (first | exact trivial | assumption | (intro _) | (refine And.intro ?_ ?_) | (refine Q4 (L _) fun _ _ => ?_) | (refine Qf (by omega) (by omega) fun _ _ => ?_) | (simp only [zz, ↓reduceIte]) | (split) | omega | (exfalso; simp only [zl] at *; omega) | (simp_all; done))
theorem F0 (x0 : Q1) (hx : Qn x0 ≤ 1048576) : wp (W0 x0) (fun r => True) := by
 obtain ⟨hx1, hx2, hx3, hx4, hx5, hx6, hx7⟩ := Zv hx
 unfold W0
 repeat' (first | exact trivial | assumption | (intro _) | (refine And.intro ?_ ?_) | (refine Q4 (Sx (.mk x0) hx _) fun _ _ => ?_) | (refine Qf (by omega) (by omega) fun _ _ => ?_) | (simp only [zz, ↓reduceIte]) | (split) | omega | (exfalso; simp only [zl] at *; omega) | (simp_all; done))
theorem PV (x0 : Q1) (hx : Qn x0 ≤ 1048576) : wp (Wx x0) (fun r => True) := by
 obtain ⟨hx1, hx2, hx3, hx4, hx5, hx6, hx7⟩ := Zv hx
 unfold Wx
 repeat' (first | exact trivial | assumption | (intro _) | (refine And.intro ?_ ?_) | (refine Q4 (F5 (.mk x0) hx _) fun _ _ => ?_) | (refine Qf (by omega) (by omega) fun _ _ => ?_) | (simp only [zz, ↓reduceIte]) | (split) | omega | (exfalso; simp only [zl] at *; omega) | (simp_all; done))
theorem RH (x1 : Q1) (hx : Qn x1 ≤ 1048576)  (x3 : Int) (h0 : 0 ≤ x3) (h1 : x3 ≤ (x1.fIdx.length : Nat)) : wp (Y0 x1 x3) (fun r => True) := by
 obtain ⟨hx1, hx2, hx3, hx4, hx5, hx6, hx7⟩ := Zv hx
 refine ZQ (F := fun x3 => Y0 x1 x3) (x1.fIdx.length) ?_ ?_ x3  h0 h1
 ·skip
  rw [Y0]
  repeat' (first | exact trivial | assumption | (intro _) | (refine And.intro ?_ ?_) | (refine Qf (by omega) (by omega) fun _ _ => ?_) | (simp only [zz, ↓reduceIte]) | (split) | omega | (exfalso; simp only [zl] at *; omega) | (simp_all; done))
 ·intro x3  h0 h1 ih
  rw [Y0]
  have hw := QH h0 h1 (by omega)
  have hw2 := QQ (n := x3 - 1) (by omega)
  repeat' (first | exact trivial | assumption | (intro _) | (refine And.intro ?_ ?_) | (exact ih) | (rw [hw]; exact ih) | (refine Qf (by omega) (by omega) fun _ _ => ?_) | (simp only [zz, ↓reduceIte]) | (split) | omega | (exfalso; simp only [zl] at *; omega) | (simp_all; done))
theorem F4 (x0 : Q1) (hx : Qn x0 ≤ 1048576) : wp (W6 x0) (fun r => True) := by
 obtain ⟨hx1, hx2, hx3, hx4, hx5, hx6, hx7⟩ := Zv hx
 unfold W6
 repeat' (first | exact trivial | assumption | (intro _) | (refine And.intro ?_ ?_) | (refine Q4 (RH _ hx 0 (by omega) (by omega)) fun _ _ => ?_) | (refine Qf (by omega) (by omega) fun _ _ => ?_) | (simp only [zz, ↓reduceIte]) | (split) | omega | (exfalso; simp only [zl] at *; omega) | (simp_all; done))
theorem RF (x1 : Q1) (hx : Qn x1 ≤ 1048576)  (x3 : Int) (h0 : 0 ≤ x3) (h1 : x3 ≤ (x1.fIdx.length : Nat)) : wp (XY x1 x3) (fun r => True) := by
 obtain ⟨hx1, hx2, hx3, hx4, hx5, hx6, hx7⟩ := Zv hx
 refine ZQ (F := fun x3 => XY x1 x3) (x1.fIdx.length) ?_ ?_ x3  h0 h1
 ·skip
  rw [XY]
  repeat' (first | exact trivial | assumption | (intro _) | (refine And.intro ?_ ?_) | (refine Q4 (KN _ (N2 (hx5 _ (by assumption))).1) fun _ _ => ?_) | (refine Qf (by omega) (by omega) fun _ _ => ?_) | (simp only [zz, ↓reduceIte]) | (split) | omega | (exfalso; simp only [zl] at *; omega) | (simp_all; done))
 ·intro x3  h0 h1 ih
  rw [XY]
  have hw := QH h0 h1 (by omega)
  have hw2 := QQ (n := x3 - 1) (by omega)
  repeat' (first | exact trivial | assumption | (intro _) | (refine And.intro ?_ ?_) | (exact ih) | (rw [hw]; exact ih) | (refine Q4 (KN _ (N2 (hx5 _ (by assumption))).1) fun _ _ => ?_) | (refine Qf (by omega) (by omega) fun _ _ => ?_) | (simp only [zz, ↓reduceIte]) | (split) | omega | (exfalso; simp only [zl] at *; omega) | (simp_all; done))
theorem F2 (x0 : Q1) (hx : Qn x0 ≤ 1048576) : wp (W5 x0) (fun r => True) := by
 obtain ⟨hx1, hx2, hx3, hx4, hx5, hx6, hx7⟩ := Zv hx
 unfold W5
 repeat' (first | exact trivial | assumption | (intro _) | (refine And.intro ?_ ?_) | (refine Q4 (RF _ hx 0 (by omega) (by omega)) fun _ _ => ?_) | (refine Q4 (KN _ hx1) fun _ _ => ?_) | (refine Qf (by omega) (by omega) fun _ _ => ?_) | (simp only [zz, ↓reduceIte]) | (split) | omega | (exfalso; simp only [zl] at *; omega) | (simp_all; done))
theorem ED (x1 : Q1) (hx : Qn x1 ≤ 1048576)  (x3 : Int) (h0 : 0 ≤ x3) (h1 : x3 ≤ (x1.fIdx.length : Nat)) : wp (Xn x1 x3) (fun r => True) := by
 obtain ⟨hx1, hx2, hx3, hx4, hx5, hx6, hx7⟩ := Zv hx
 refine ZQ (F := fun x3 => Xn x1 x3) (x1.fIdx.length) ?_ ?_ x3  h0 h1
 ·skip
  rw [Xn]
  repeat' (first | exact trivial | assumption | (intro _) | (refine And.intro ?_ ?_) | (refine Qf (by omega) (by omega) fun _ _ => ?_) | (simp only [zz, ↓reduceIte]) | (split) | omega | (exfalso; simp only [zl] at *; omega) | (simp_all; done))
 ·intro x3  h0 h1 ih
  rw [Xn]
  have hw := QH h0 h1 (by omega)
  have hw2 := QQ (n := x3 - 1) (by omega)
  repeat' (first | exact trivial | assumption | (intro _) | (refine And.intro ?_ ?_) | (exact ih) | (rw [hw]; exact ih) | (refine Qf (by omega) (by omega) fun _ _ => ?_) | (simp only [zz, ↓reduceIte]) | (split) | omega | (exfalso; simp only [zl] at *; omega) | (simp_all; done))
theorem Sz (x0 : Q1) (hx : Qn x0 ≤ 1048576) : wp (Cu x0) (fun r => r = true → (x0.fArgs.length : Int) = We x0.fOp) := by
 obtain ⟨hx1, hx2, hx3, hx4, hx5, hx6, hx7⟩ := Zv hx
 unfold Cu
 repeat' (first | exact trivial | assumption | (intro _) | (refine And.intro ?_ ?_) | (refine Q4 (ED _ hx 0 (by omega) (by omega)) fun _ _ => ?_) | (refine Q4 (PW _) fun _ _ => ?_) | (grind) | (refine Qf (by omega) (by omega) fun _ _ => ?_) | (simp only [zz, ↓reduceIte]) | (split) | omega | (exfalso; simp only [zl] at *; omega) | (simp_all; done))
structure okC (x : Q1) : Prop where
 ok : ∀ (i : Nat) (a : Q9), x.fArgs[i]? = some a → isC a.f = Jl x.fOp i
theorem Hx (x0 : Qg) : wp (XC x0) (fun r => r = true → x0.fKind = 2 → 2 ≤ x0.fBits ∧ x0.fBits ≤ 31 ∧ 0 ≤ x0.fFrac ∧ x0.fFrac ≤ 30) := by
 unfold XC
 repeat' (first | exact trivial | assumption | (intro _) | (refine And.intro ?_ ?_) | (grind) | (refine Qf (by omega) (by omega) fun _ _ => ?_) | (simp only [zz, ↓reduceIte]) | (split) | omega | (exfalso; simp only [zl] at *; omega) | (simp_all; done))
theorem RI (x : Q1) (hx : Qn x ≤ 1048576) : wp (Y1 x 0) (fun r => (r = .inl () ∧ okC x) ∨ r = .inr false) := by
 obtain ⟨hx1, hx2, hx3, hx4, hx5, hx6, hx7⟩ := Zv hx
 refine Gv (F := fun (_ : Unit) i => Y1 x i) x.fArgs.length (fun i _ => ∀ (j : Nat) (a : Q9), (j : Int) < i → x.fArgs[j]? = some a → isC a.f = Jl x.fOp j) ?_ ?_ 0 () (by omega) (by omega) (fun j a hj => by omega)
 ·intro _ hI
  rw [Y1]
  simp only [zz, ↓reduceIte]
  exact .inl ⟨fun i a ha => hI i a (by have := (List.getElem?_eq_some_iff.1 ha).1; omega) ha⟩
 ·intro i _ h0 h1 hI ih
  rw [Y1]
  have hw := QH h0 h1 (by omega)
  simp only [zz, ↓reduceIte]
  refine And.intro (fun _ => I7.2 ⟨h0, by omega, ?_⟩) (fun h => absurd h1 h)
  refine Q4 (Ux _) fun u hu => ?_
  refine Q4 (F7 _ _) fun v hv => ?_
  refine And.intro (fun _ => .inr trivial) (fun hne => ?_)
  rw [hw]
  refine ih () fun j a hj ha => ?_
  by_cases hji : (j : Int) = i
  ·have : j = i.toNat := by omega
   subst this
   rw [List.getElem?_eq_getElem (by omega)] at ha
   cases ha
   rw [hu, hv] at hne
   have e2 : ((i.toNat : Nat) : Int) = i := by omega
   rw [e2]
   cases h5 : isC (x.fArgs[i.toNat]'(by omega)).f <;> cases h6 : Jl x.fOp i <;> simp_all
  ·exact hI j a (by omega) ha
theorem F6 (x0 : Q1) (hx : Qn x0 ≤ 1048576) : wp (W7 x0) (fun r => r = true → okC x0 ∧ (x0.fOp = 1 → x0.fType.fKind = 2 → 2 ≤ x0.fType.fBits ∧ x0.fType.fBits ≤ 31)) := by
 unfold W7
 repeat' (first | exact trivial | assumption | (intro _) | (refine And.intro ?_ ?_) | (refine Q4 (RI _ hx) fun _ _ => ?_) | (refine Q4 (Hx _) fun _ _ => ?_) | (grind) | (refine Qf (by omega) (by omega) fun _ _ => ?_) | (simp only [zz, ↓reduceIte]) | (split) | omega | (exfalso; simp only [zl] at *; omega) | (simp_all; done))
theorem Ip : ∀ (n : Nat) (a b : Int), b.natAbs < n → wp (U0 a b) (fun _ => True)
 | 0, _, _, h => by omega
 | n + 1, a, b, h => by
  rw [U0]
  by_cases hb : b = 0
  ·subst hb; repeat' (first | exact trivial | assumption | (intro _) | (refine And.intro ?_ ?_) | (refine Qf (by omega) (by omega) fun _ _ => ?_) | (simp only [zz, ↓reduceIte]) | (split) | omega | (exfalso; simp only [zl] at *; omega) | (simp_all; done))
  ·have h2 : (a.tmod b).natAbs < b.natAbs := by rw [Int.natAbs_tmod]; exact Nat.mod_lt _ (by omega)
   repeat' (first | exact trivial | assumption | (intro _) | (refine And.intro ?_ ?_) | (refine Q4 (Ip n _ _ (by omega)) fun _ _ => ?_) | (refine Qf (by omega) (by omega) fun _ _ => ?_) | (simp only [zz, ↓reduceIte]) | (split) | omega | (exfalso; simp only [zl] at *; omega) | (simp_all; done))
theorem TA (x0 : Int) (x1 : Int) : wp (NW x0 x1) (fun r => True) := by
 unfold NW
 repeat' (first | exact trivial | assumption | (intro _) | (refine And.intro ?_ ?_) | (refine Q4 (Ip (x1.natAbs + 1) _ _ (by omega)) fun _ _ => ?_) | (refine Qf (by omega) (by omega) fun _ _ => ?_) | (simp only [zz, ↓reduceIte]) | (split) | omega | (exfalso; simp only [zl] at *; omega) | (simp_all; done))
theorem Q05 (x0 : Qg) (x1 : gVal) (hv : x0.fKind = 2 → 1 ≤ x0.fBits ∧ x0.fBits ≤ 64) : wp (Kl x0 x1) (fun r => r = true → x0.fKind ≠ 2 → 1 ≤ x1.fD ∧ x1.fD ≤ 2147483647 ∧ -2147483647 ≤ x1.fN ∧ x1.fN ≤ 2147483647) := by
 have hk : x0.fKind = 2 → 0 ≤ wr (x0.fBits - 1) := fun h => by have := hv h; rw [QQ (by omega)]; omega
 unfold Kl
 repeat' (first | exact trivial | assumption | (intro _) | (refine And.intro ?_ ?_) | (refine Q4 (TA _ _) fun _ _ => ?_) | (grind) | (refine Qf (by omega) (by omega) fun _ _ => ?_) | (simp only [zz, ↓reduceIte]) | (split) | omega | (exfalso; simp only [zl] at *; omega) | (simp_all; done))
theorem Hw (x1 : gLin) (hx : wLin x1 ≤ 1048576)  (x3 : Int) (h0 : 0 ≤ x3) (h1 : x3 ≤ (x1.fL.length : Nat)) : wp (QX x1 x3) (fun r => True) := by
 have hx1 := Gz x1
 refine ZQ (F := fun x3 => QX x1 x3) (x1.fL.length) ?_ ?_ x3  h0 h1
 ·skip
  rw [QX]
  repeat' (first | exact trivial | assumption | (intro _) | (refine And.intro ?_ ?_) | (refine Q4 (KN _ (LM hx (by assumption))) fun _ _ => ?_) | ((rw [QQ (by omega)]; omega)) | (refine Qf (by omega) (by omega) fun _ _ => ?_) | (simp only [zz, ↓reduceIte]) | (split) | omega | (exfalso; simp only [zl] at *; omega) | (simp_all; done))
 ·intro x3  h0 h1 ih
  rw [QX]
  have hw := QH h0 h1 (by omega)
  have hw2 := QQ (n := x3 - 1) (by omega)
  repeat' (first | exact trivial | assumption | (intro _) | (refine And.intro ?_ ?_) | (exact ih) | (rw [hw]; exact ih) | (refine Q4 (KN _ (LM hx (by assumption))) fun _ _ => ?_) | ((rw [QQ (by omega)]; omega)) | (refine Qf (by omega) (by omega) fun _ _ => ?_) | (simp only [zz, ↓reduceIte]) | (split) | omega | (exfalso; simp only [zl] at *; omega) | (simp_all; done))
theorem JY (x0 : gLin) (hx : wLin x0 ≤ 1048576) : wp (ZG x0) (fun r => True) := by
 have hx1 := Gz x0
 unfold ZG
 repeat' (first | exact trivial | assumption | (intro _) | (refine And.intro ?_ ?_) | (refine Q4 (Hw _ hx 0 (by omega) (by omega)) fun _ _ => ?_) | (refine Qf (by omega) (by omega) fun _ _ => ?_) | (simp only [zz, ↓reduceIte]) | (split) | omega | (exfalso; simp only [zl] at *; omega) | (simp_all; done))
theorem NU (x : Q1) (k : Int) (hx : Qn x ≤ 1048576) (h0 : 0 ≤ k) (h1 : k < x.fIdx.length) : wp (Xm x k 0) (fun _ => True) := by
 obtain ⟨hx1, hx2, hx3, hx4, hx5, hx6, hx7⟩ := Zv hx
 have hm : x.fIdx[k.toNat]'(by omega) ∈ x.fIdx := List.getElem_mem _
 obtain ⟨i1, i2, i3, i4, i5⟩ := N2 (hx5 _ hm)
 have hi : ix x.fIdx k = some (x.fIdx[k.toNat]'(by omega)) := by unfold ix; rw [if_pos h0, List.getElem?_eq_getElem]
 refine ZQ (F := fun i => Xm x k i) (x.fIdx[k.toNat]'(by omega)).fAt.length ?_ ?_ 0 (by omega) (by omega)
 ·rw [Xm]
  simp only [hi]
  repeat' (first | exact trivial | assumption | (intro _) | (refine And.intro ?_ ?_) | (refine Qf (by omega) (by omega) fun _ _ => ?_) | (simp only [zz, ↓reduceIte]) | (split) | omega | (exfalso; simp only [zl] at *; omega) | (simp_all; done))
 ·intro i h0 h1 ih
  rw [Xm]
  have hw := QH h0 h1 (by omega)
  simp only [hi]
  repeat' (first | exact trivial | assumption | (intro _) | (refine And.intro ?_ ?_) | (exact ih) | (rw [hw]; exact ih) | (refine Q4 (JY _ (i5 _ (by assumption))) fun _ _ => ?_) | (refine Qf (by omega) (by omega) fun _ _ => ?_) | (simp only [zz, ↓reduceIte]) | (split) | omega | (exfalso; simp only [zl] at *; omega) | (simp_all; done))
theorem EC (x1 : Q1) (hx : Qn x1 ≤ 1048576)  (x3 : Int) (h0 : 0 ≤ x3) (h1 : x3 ≤ (x1.fIdx.length : Nat)) : wp (Xl x1 x3) (fun r => True) := by
 obtain ⟨hx1, hx2, hx3, hx4, hx5, hx6, hx7⟩ := Zv hx
 refine ZQ (F := fun x3 => Xl x1 x3) (x1.fIdx.length) ?_ ?_ x3  h0 h1
 ·skip
  rw [Xl]
  repeat' (first | exact trivial | assumption | (intro _) | (refine And.intro ?_ ?_) | (refine Q4 (JY _ (N2 (hx5 _ (by assumption))).2.1) fun _ _ => ?_) | (refine Q4 (NU _ _ hx (by omega) (by omega)) fun _ _ => ?_) | (refine Qf (by omega) (by omega) fun _ _ => ?_) | (simp only [zz, ↓reduceIte]) | (split) | omega | (exfalso; simp only [zl] at *; omega) | (simp_all; done))
 ·intro x3  h0 h1 ih
  rw [Xl]
  have hw := QH h0 h1 (by omega)
  have hw2 := QQ (n := x3 - 1) (by omega)
  repeat' (first | exact trivial | assumption | (intro _) | (refine And.intro ?_ ?_) | (exact ih) | (rw [hw]; exact ih) | (refine Q4 (JY _ (N2 (hx5 _ (by assumption))).2.1) fun _ _ => ?_) | (refine Q4 (NU _ _ hx (by omega) (by omega)) fun _ _ => ?_) | (refine Qf (by omega) (by omega) fun _ _ => ?_) | (simp only [zz, ↓reduceIte]) | (split) | omega | (exfalso; simp only [zl] at *; omega) | (simp_all; done))
theorem Sy (x0 : Q1) (hx : Qn x0 ≤ 1048576) (hv : x0.fOp = 1 → x0.fType.fKind = 2 → 2 ≤ x0.fType.fBits ∧ x0.fType.fBits ≤ 31) : wp (Ct x0) (fun r => True) := by
 obtain ⟨hx1, hx2, hx3, hx4, hx5, hx6, hx7⟩ := Zv hx
 have hk : x0.fOp = 1 → x0.fType.fKind = 2 → 1 ≤ x0.fType.fBits ∧ x0.fType.fBits ≤ 64 := fun h h2 => by have := hv h h2; omega
 unfold Ct
 repeat' (first | exact trivial | assumption | (intro _) | (refine And.intro ?_ ?_) | (refine Q4 (JY _ hx2) fun _ _ => ?_) | (refine Q4 (EC _ hx 0 (by omega) (by omega)) fun _ _ => ?_) | (refine Q4 (Q05 _ _ (hk (by assumption))) fun _ _ => ?_) | (refine Qf (by omega) (by omega) fun _ _ => ?_) | (simp only [zz, ↓reduceIte]) | (split) | omega | (exfalso; simp only [zl] at *; omega) | (simp_all; done))
inductive vE : Q9 → Prop
 | mk (x : Q1) (h1 : (x.fArgs.length : Int) = We x.fOp) (h2 : okC x) (h3 : x.fOp = 1 → x.fType.fKind = 2 → 2 ≤ x.fType.fBits ∧ x.fType.fBits ≤ 31) (h4 : ∀ a ∈ x.fArgs, vE a) : vE (.mk x)
theorem F3 : ∀ e : Q9, Qn e.f ≤ 1048576 → wp (Jd e.f) (fun r => r = 0 → vE e) := Q9.ind fun x ih h => by
 simp only [Q9.f_mk] at h ⊢
 obtain ⟨e1, e2, e3, e4, e5, e6, e7⟩ := Zv h
 have L : wp (XZ x 0) (fun r => (r = .inl () ∧ ∀ a ∈ x.fArgs, vE a) ∨ ∃ c, r = .inr c ∧ c ≠ 0) := by
  refine Gv (F := fun (_ : Unit) i => XZ x i) x.fArgs.length (fun i _ => ∀ (j : Nat) (a : Q9), (j : Int) < i → x.fArgs[j]? = some a → vE a) ?_ ?_ 0 () (by omega) (by omega) (fun j a hj => by omega)
  ·intro _ hI
   rw [XZ]
   simp only [zz, ↓reduceIte]
   refine .inl fun a ha => ?_
   obtain ⟨j, hj, rfl⟩ := List.mem_iff_getElem.1 ha
   exact hI j _ (by omega) (List.getElem?_eq_getElem hj)
  ·intro i _ h0 h1 hI ih2
   rw [XZ]
   have hw := QH h0 h1 (by omega)
   simp only [zz, ↓reduceIte]
   refine And.intro (fun _ => I7.2 ⟨h0, by omega, ?_⟩) (fun h => absurd h1 h)
   refine Q4 (ih _ (List.getElem_mem _) (e7 _ (List.getElem_mem _))) fun r hr => ?_
   refine And.intro (fun hne => .inr ⟨r, rfl, by simpa using hne⟩) (fun hne => ?_)
   rw [hw]
   refine ih2 () fun j a hj ha => ?_
   by_cases hji : (j : Int) = i
   ·have : j = i.toNat := by omega
    subst this
    rw [List.getElem?_eq_getElem (by omega)] at ha
    cases ha
    exact hr (by simpa using hne)
   ·exact hI j a (by omega) ha
 rw [Jd]
 simp only [zz, ↓reduceIte]
 refine Q4 (F4 _ h) fun b1 _ => And.intro (fun _ => ?_) (fun _ e => by cases e)
 refine Q4 (F2 _ h) fun b2 _ => And.intro (fun _ => ?_) (fun _ e => by cases e)
 refine Q4 (Sz _ h) fun b3 h3 => And.intro (fun hb3 => ?_) (fun _ e => by cases e)
 refine Q4 (F6 _ h) fun b4 h4 => And.intro (fun hb4 => ?_) (fun _ e => by cases e)
 refine Q4 (Sy _ h (h4 hb4).2) fun b5 _ => And.intro (fun _ => ?_) (fun _ e => by cases e)
 refine Q4 L fun r hr => ?_
 rcases hr with ⟨rfl, hv⟩ | ⟨c, rfl, hc⟩
 ·exact Z4.2 fun _ => .mk x (h3 hb3) (h4 hb4).1 (h4 hb4).2 hv
 ·exact Z4.2 fun e => absurd e hc
theorem MG (x0 : Q1) (hx : Qn x0 ≤ 1048576) : wp (UN x0) (fun r => r = 0 → vE (.mk x0)) := by
 unfold UN
 simp only [zz, ↓reduceIte]
 refine Q4 (F0 _ hx) fun b1 _ => And.intro (fun _ e => by cases e) (fun _ => ?_)
 refine Q4 (PV _ hx) fun b2 _ => And.intro (fun _ e => by cases e) (fun _ => ?_)
 exact Q4 (F3 (.mk x0) hx) fun r hr => hr
end Go.Proofs.YtokfigmmegifeaaGreat
end
section
namespace Go.Proofs.YtokfigmmegifeaaGreat
open Go HY
set_option linter.unusedVariables false
set_option linter.unusedSimpArgs false
theorem SV {R : Q9 → Prop} (h : ∀ x : Q1, R (.mk x) → ∀ a ∈ x.fArgs, R a) : ∀ e, R e → ∀ a ∈ Zq e, R a := Q9.ind fun x ih hx a ha => by
 rw [Ck, List.mem_cons, List.mem_flatten] at ha
 rcases ha with rfl | ⟨l, hl, ha⟩
 ·exact hx
 ·obtain ⟨b, hb, rfl⟩ := List.mem_map.1 hl
  exact ih b hb (h x hx b hb) a ha
theorem nodes_w (x : Q1) (N : Nat) (hx : Qn x ≤ N) : ∀ a ∈ Zq (.mk x), Qn a.f ≤ N :=
 SV (R := fun a => Qn a.f ≤ N) (fun x h a ha => by have := O6 ha; simp only [Q9.f_mk] at h; omega) (.mk x) hx
theorem PJ : ∀ e : Q9, Qn e.f ≤ 1048576 → KM e.f = some (Zq e) := Q9.ind fun x ih h => by
 simp only [Q9.f_mk] at h ⊢
 obtain ⟨e1, e2, e3, e4, e5, e6, e7⟩ := Zv h
 have hw0 := SF x
 have hpl := BX x.fArgs
 have L : YH x [.mk x] 0 = some ([.mk x] ++ Vv x.fArgs) := by
  refine K5 (F := fun a i => YH x a i) (l := x.fArgs) (fun a t => a.length + (Vv t).length ≤ 1048576) (fun a t => a ++ Vv t) ?_ ?_ _ (by simp only [List.length_singleton]; omega)
  ·intro a hI
   rw [YH]
   simp [Vv]
  ·intro i v t a h0 h1 hv hix hI ih2
   rw [YH]
   have hw := QH h0 h1 (by omega)
   rw [Uq, List.length_append] at hI
   have hc : (a.length + (List.map Ql (Zq v)).length) * (160 : Nat) ≤ (140737488355328 : Nat) ∧ a.length + (List.map Ql (Zq v)).length ≤ (9223372036854775807 : Nat) := by rw [List.length_map]; omega
   simp only [Option.bind_eq_bind, Option.bind_some, h1, if_true, hix, Option.map_some, ih v hv (e7 v hv), if_pos hc, hw]
   rw [ih2 _ (by rw [List.length_append]; omega), Uq, List.append_assoc]
 rw [KM]
 simp only [Option.bind_eq_bind, Option.bind_some, L]
 rw [Ck]; rfl
theorem EQ (x : Q1) (h : Qn x ≤ 1048576) : KM x = some (Zq (.mk x)) := PJ (.mk x) h
theorem EF (x1 : Str) (x2 : Qb) (x4 : Qw) (hl : x2.fBufs.length ≤ 1048576)  (x6 : Int) (h0 : 0 ≤ x6) (h1 : x6 ≤ (x2.fBufs.length : Nat)) : wp (Zc x1 x2 x4 x6) (fun r => True) := by
 refine ZQ (F := fun x6 => Zc x1 x2 x4 x6) (x2.fBufs.length) ?_ ?_ x6  h0 h1
 ·skip
  rw [Zc]
  repeat' (first | exact trivial | assumption | (intro _) | (refine And.intro ?_ ?_) | (refine Qf (by omega) (by omega) fun _ _ => ?_) | (simp only [zz, ↓reduceIte]) | (split) | omega | (exfalso; simp only [zl] at *; omega) | (simp_all; done))
 ·intro x6  h0 h1 ih
  rw [Zc]
  have hw := QH h0 h1 (by omega)
  have hw2 := QQ (n := x6 - 1) (by omega)
  repeat' (first | exact trivial | assumption | (intro _) | (refine And.intro ?_ ?_) | (exact ih) | (rw [hw]; exact ih) | (refine Qf (by omega) (by omega) fun _ _ => ?_) | (simp only [zz, ↓reduceIte]) | (split) | omega | (exfalso; simp only [zl] at *; omega) | (simp_all; done))
theorem Uy (x0 : Qb) (x1 : Str) (hl : x0.fBufs.length ≤ 1048576) : wp (Xz x0 x1) (fun r => True) := by
 unfold Xz
 repeat' (first | exact trivial | assumption | (intro _) | (refine And.intro ?_ ?_) | (refine Q4 (EF _ _ _ hl 0 (by omega) (by omega)) fun _ _ => ?_) | (refine Qf (by omega) (by omega) fun _ _ => ?_) | (simp only [zz, ↓reduceIte]) | (split) | omega | (exfalso; simp only [zl] at *; omega) | (simp_all; done))
theorem RL (l : List gLin) (b : List Qc) (i k : Int) (i0 : 0 ≤ i) (i1 : i < l.length) (k0 : 0 ≤ k) (k1 : k < (l[i.toNat]'(by omega)).fL.length) (hb : b.length ≤ 1048576) (x : Bool) : wp (Xa l b i k x 0) (fun _ => True) := by
 have hi : ix l i = some (l[i.toNat]'(by omega)) := by unfold ix; rw [if_pos i0, List.getElem?_eq_getElem]
 refine CC (F := fun a j => Xa l b i k a j) b.length ?_ ?_ 0 x (by omega) (by omega)
 ·intro a
  rw [Xa]
  repeat' (first | exact trivial | assumption | (intro _) | (refine And.intro ?_ ?_) | (refine Qf (by omega) (by omega) fun _ _ => ?_) | (simp only [zz, ↓reduceIte]) | (split) | omega | (exfalso; simp only [zl] at *; omega) | (simp_all; done))
 ·intro j a h0 h1 ih
  rw [Xa]
  have hw := QH h0 h1 (by omega)
  simp only [hi]
  repeat' (first | exact trivial | assumption | (intro _) | (refine And.intro ?_ ?_) | (exact ih _) | (rw [hw]; exact ih _) | (refine Qf (by omega) (by omega) fun _ _ => ?_) | (simp only [zz, ↓reduceIte]) | (split) | omega | (exfalso; simp only [zl] at *; omega) | (simp_all; done))
theorem MH (l : List gLin) (b : List Qc) (i : Int) (i0 : 0 ≤ i) (i1 : i < l.length) (hl : ∀ a ∈ l, wLin a ≤ 1048576) (hb : b.length ≤ 1048576) : wp (Y3 l b i 0) (fun _ => True) := by
 have hi : ix l i = some (l[i.toNat]'(by omega)) := by unfold ix; rw [if_pos i0, List.getElem?_eq_getElem]
 have h1 := Gz (l[i.toNat]'(by omega))
 have h2 := hl (l[i.toNat]'(by omega)) (List.getElem_mem _)
 refine ZQ (F := fun k => Y3 l b i k) (l[i.toNat]'(by omega)).fL.length ?_ ?_ 0 (by omega) (by omega)
 ·rw [Y3]
  simp only [hi]
  repeat' (first | exact trivial | assumption | (intro _) | (refine And.intro ?_ ?_) | (refine Qf (by omega) (by omega) fun _ _ => ?_) | (simp only [zz, ↓reduceIte]) | (split) | omega | (exfalso; simp only [zl] at *; omega) | (simp_all; done))
 ·intro k h0 h1 ih
  rw [Y3]
  have hw := QH h0 h1 (by omega)
  simp only [hi]
  repeat' (first | exact trivial | assumption | (intro _) | (refine And.intro ?_ ?_) | (exact ih) | (rw [hw]; exact ih) | (refine Q4 (RL _ _ _ _ i0 i1 h0 h1 hb _) fun _ _ => ?_) | (refine Qf (by omega) (by omega) fun _ _ => ?_) | (simp only [zz, ↓reduceIte]) | (split) | omega | (exfalso; simp only [zl] at *; omega) | (simp_all; done))
theorem RK (x0 : List gLin) (x1 : List Qc) (hl : ∀ a ∈ x0, wLin a ≤ 1048576) (hn : x0.length ≤ 1099511627776) (hb : x1.length ≤ 1048576)  (x5 : Int) (h0 : 0 ≤ x5) (h1 : x5 ≤ (x0.length : Nat)) : wp (Y2 x0 x1 x5) (fun r => True) := by
 refine ZQ (F := fun x5 => Y2 x0 x1 x5) (x0.length) ?_ ?_ x5  h0 h1
 ·skip
  rw [Y2]
  repeat' (first | exact trivial | assumption | (intro _) | (refine And.intro ?_ ?_) | (refine Q4 (MH _ _ _ (by omega) (by omega) hl hb) fun _ _ => ?_) | (refine Qf (by omega) (by omega) fun _ _ => ?_) | (simp only [zz, ↓reduceIte]) | (split) | omega | (exfalso; simp only [zl] at *; omega) | (simp_all; done))
 ·intro x5  h0 h1 ih
  rw [Y2]
  have hw := QH h0 h1 (by omega)
  have hw2 := QQ (n := x5 - 1) (by omega)
  repeat' (first | exact trivial | assumption | (intro _) | (refine And.intro ?_ ?_) | (exact ih) | (rw [hw]; exact ih) | (refine Q4 (MH _ _ _ (by omega) (by omega) hl hb) fun _ _ => ?_) | (refine Qf (by omega) (by omega) fun _ _ => ?_) | (simp only [zz, ↓reduceIte]) | (split) | omega | (exfalso; simp only [zl] at *; omega) | (simp_all; done))
theorem Is (x0 : List gLin) (x1 : List Qc) (hl : ∀ a ∈ x0, wLin a ≤ 1048576) (hn : x0.length ≤ 1099511627776) (hb : x1.length ≤ 1048576) : wp (DS x0 x1) (fun r => True) := by
 unfold DS
 repeat' (first | exact trivial | assumption | (intro _) | (refine And.intro ?_ ?_) | (refine Q4 (RK _ _ hl hn hb 0 (by omega) (by omega)) fun _ _ => ?_) | (refine Qf (by omega) (by omega) fun _ _ => ?_) | (simp only [zz, ↓reduceIte]) | (split) | omega | (exfalso; simp only [zl] at *; omega) | (simp_all; done))
theorem O1 (l : List Q8) (hl : wSum wIdx l ≤ 1048576) : wp (WA l) (fun r => r.length ≤ 1048576 ∧ ∀ a ∈ r, wLin a ≤ 1048576) := by
 have hn := Kp (f := wIdx) (l := l) M7
 have L : Yt l [] 0 = some ([] ++ (l.map fun x => x.fLin :: x.fAt).flatten) := by
  refine K5 (F := fun a i => Yt l a i) (l := l) (fun a t => a.length + wSum wIdx t ≤ 1048576) (fun a t => a ++ (t.map fun x => x.fLin :: x.fAt).flatten) ?_ ?_ _ (by simp only [List.length_nil]; omega)
  ·intro a hI
   rw [Yt]
   simp
  ·intro i v t a h0 h1 hv hix hI ih2
   rw [Yt]
   have hw := QH h0 h1 (by omega)
   rw [QP] at hI
   have := MJ v
   have hc : (a.length + (1 : Nat)) * (32 : Nat) ≤ (140737488355328 : Nat) ∧ a.length + (1 : Nat) ≤ (9223372036854775807 : Nat) := by omega
   have hd : ((a ++ [v.fLin]).length + (List.map Qi v.fAt).length) * (32 : Nat) ≤ (140737488355328 : Nat) ∧ (a ++ [v.fLin]).length + (List.map Qi v.fAt).length ≤ (9223372036854775807 : Nat) := by rw [List.length_map, List.length_append, List.length_singleton]; omega
   simp only [Option.bind_eq_bind, Option.bind_some, h1, if_true, hix, if_pos hc, if_pos hd, hw]
   rw [ih2 _ (by rw [List.length_append, List.length_append, List.length_singleton]; omega)]
   simp
 unfold WA
 simp only [Option.bind_eq_bind, Option.bind_some, L]
 have key : ∀ t : List Q8, (t.map fun x => x.fLin :: x.fAt).flatten.length ≤ wSum wIdx t := by
  intro t
  induction t with
  | nil => simp
  | cons a t ih => rw [List.map_cons, List.flatten_cons, List.length_append, QP, List.length_cons]; have := MJ a; omega
 refine Z4.2 ⟨by have := key l; rw [List.nil_append]; omega, fun a ha => ?_⟩
 rw [List.nil_append, List.mem_flatten] at ha
 obtain ⟨m, hm, ha⟩ := ha
 obtain ⟨x, hx, rfl⟩ := List.mem_map.1 hm
 have h1 := YR (f := wIdx) hx
 have h2 := O9 x
 have h3 := Bw x
 rcases List.mem_cons.1 ha with rfl | ha
 ·omega
 ·have := YR (f := wLin) ha; omega
theorem RM (x3 : Qb) (x5 : Q1) (hx : Qn x5 ≤ 1048576) (hb : x3.fBufs.length ≤ 1048576)  (x9 : Int) (h0 : 0 ≤ x9) (h1 : x9 ≤ (x5.fIdx.length : Nat)) : wp (Xc x3 x5 x9) (fun r => True) := by
 obtain ⟨hx1, hx2, hx3, hx4, hx5, hx6, hx7⟩ := Zv hx
 refine ZQ (F := fun x9 => Xc x3 x5 x9) (x5.fIdx.length) ?_ ?_ x9  h0 h1
 ·skip
  rw [Xc]
  repeat' (first | exact trivial | assumption | (intro _) | (refine And.intro ?_ ?_) | (refine Q4 (Uy _ _ hb) fun _ _ => ?_) | (refine Qf (by omega) (by omega) fun _ _ => ?_) | (simp only [zz, ↓reduceIte]) | (split) | omega | (exfalso; simp only [zl] at *; omega) | (simp_all; done))
 ·intro x9  h0 h1 ih
  rw [Xc]
  have hw := QH h0 h1 (by omega)
  have hw2 := QQ (n := x9 - 1) (by omega)
  repeat' (first | exact trivial | assumption | (intro _) | (refine And.intro ?_ ?_) | (exact ih) | (rw [hw]; exact ih) | (refine Q4 (Uy _ _ hb) fun _ _ => ?_) | (refine Qf (by omega) (by omega) fun _ _ => ?_) | (simp only [zz, ↓reduceIte]) | (split) | omega | (exfalso; simp only [zl] at *; omega) | (simp_all; done))
theorem HE (x0 : Qb) (x1 : List Qc) (x2 : Q1) (hb : x0.fBufs.length ≤ 1048576) (h1 : x1.length ≤ 1048576) (hx : Qn x2 ≤ 1048576) : wp (WB x0 x1 x2) (fun r => True) := by
 obtain ⟨hx1, hx2, hx3, hx4, hx5, hx6, hx7⟩ := Zv hx
 have hi := O8 x2
 obtain ⟨l, hl, hl1, hl2⟩ := O1 x2.fIdx (by omega)
 unfold WB
 rw [hl]
 repeat' (first | exact trivial | assumption | (intro _) | (refine And.intro ?_ ?_) | (refine Q4 (Is [x2.fLin] x1 (by intro a ha; simp at ha; subst ha; exact hx2) (by simp) h1) fun _ _ => ?_) | (refine Q4 (Is l x1 hl2 (by omega) h1) fun _ _ => ?_) | (refine Q4 (Uy _ _ hb) fun _ _ => ?_) | (refine Q4 (RM _ _ hx hb 0 (by omega) (by omega)) fun _ _ => ?_) | (refine Qf (by omega) (by omega) fun _ _ => ?_) | (simp only [zz, ↓reduceIte]) | (split) | omega | (exfalso; simp only [zl] at *; omega) | (simp_all; done))
theorem HD (x1 : List Qc) (x3 : Qb) (x6 : Qg) (x9 : List Q9) (hb : x3.fBufs.length ≤ 1048576) (hB : x1.length ≤ 1048576) (hl : ∀ a ∈ x9, Qn a.f ≤ 1048576) (hn : x9.length ≤ 1048576)  (x10 : Int) (h0 : 0 ≤ x10) (h1 : x10 ≤ (x9.length : Nat)) : wp (X0 x1 x3 x6 x9 x10) (fun r => True) := by
 refine ZQ (F := fun x10 => X0 x1 x3 x6 x9 x10) (x9.length) ?_ ?_ x10  h0 h1
 ·skip
  rw [X0]
  repeat' (first | exact trivial | assumption | (intro _) | (refine And.intro ?_ ?_) | (refine Q4 (HE _ _ _ hb hB (hl _ (by assumption))) fun _ _ => ?_) | (refine Qf (by omega) (by omega) fun _ _ => ?_) | (simp only [zz, ↓reduceIte]) | (split) | omega | (exfalso; simp only [zl] at *; omega) | (simp_all; done))
 ·intro x10  h0 h1 ih
  rw [X0]
  have hw := QH h0 h1 (by omega)
  have hw2 := QQ (n := x10 - 1) (by omega)
  repeat' (first | exact trivial | assumption | (intro _) | (refine And.intro ?_ ?_) | (exact ih) | (rw [hw]; exact ih) | (refine Q4 (HE _ _ _ hb hB (hl _ (by assumption))) fun _ _ => ?_) | (refine Qf (by omega) (by omega) fun _ _ => ?_) | (simp only [zz, ↓reduceIte]) | (split) | omega | (exfalso; simp only [zl] at *; omega) | (simp_all; done))
theorem nonC {x : Q1} (h1 : (x.fArgs.length : Int) = We x.fOp) (h2 : okC x) (hc : isC x = false) (k : x.fOp ≠ 1 ∧ x.fOp ≠ 2 ∧ x.fOp ≠ 3) : ∃ a ∈ x.fArgs, isC a.f = false := by
 by_cases h11 : x.fOp = 11
 ·have hl : 1 < x.fArgs.length := by rw [h11] at h1; simp [We] at h1; omega
  refine ⟨x.fArgs[1], List.getElem_mem _, ?_⟩
  rw [h2.ok 1 _ (List.getElem?_eq_getElem hl), h11]; rfl
 ·have hl : 0 < x.fArgs.length := by
   simp only [We] at h1
   repeat' split at h1
   all_goals omega
  refine ⟨x.fArgs[0], List.getElem_mem _, ?_⟩
  rw [h2.ok 0 _ (List.getElem?_eq_getElem hl)]
  unfold isC at hc
  unfold Jl
  simp only [Bool.and_eq_false_iff, decide_eq_false_iff_not] at hc
  have h16 : x.fOp ≠ 16 ∧ x.fOp ≠ 17 ∧ x.fOp ≠ 18 := by omega
  simp [h11, h16]
theorem F9 (n : Qb) (hb : n.fBufs.length ≤ 1048576) : ∀ e : Q9, Qn e.f ≤ 1048576 → vE e → wp (Jf n e.f) (fun _ => True) := Q9.ind fun x ih h hv => by
 simp only [Q9.f_mk] at h ⊢
 obtain ⟨e1, e2, e3, e4, e5, e6, e7⟩ := Zv h
 cases hv with
 | mk _ v1 v2 v3 v4 =>
 have L : wp (XE n x (Qg.mk (0 : Int) (0 : Int) (0 : Int) (0 : Int) (0 : Int)) [] 0) (fun r => ∀ p, r = .inl p → (∃ a ∈ x.fArgs, isC a.f = false) → p.2 ≠ []) := by
  refine Gv (F := fun a i => XE n x (Qg.mk (0 : Int) (0 : Int) (0 : Int) (0 : Int) (0 : Int)) a i) x.fArgs.length (fun i acc => (acc.length : Int) ≤ i ∧ ∀ (j : Nat) (a : Q9), (j : Int) < i → x.fArgs[j]? = some a → isC a.f = false → acc ≠ []) ?_ ?_ 0 [] (by omega) (by omega) ⟨by simp, fun j a hj => by omega⟩
  ·intro acc hI
   rw [XE]
   simp only [zz, ↓reduceIte]
   intro p hp ⟨a, ha, hc⟩
   cases hp
   obtain ⟨j, hj, rfl⟩ := List.mem_iff_getElem.1 ha
   exact hI.2 j _ (by omega) (List.getElem?_eq_getElem hj) hc
  ·intro i acc h0 h1 hI ih2
   rw [XE]
   have hw := QH h0 h1 (by omega)
   have hix : ix x.fArgs i = some (x.fArgs[i.toNat]'(by omega)) := by unfold ix; rw [if_pos h0, List.getElem?_eq_getElem]
   simp only [hix, hw]
   simp only [zz, ↓reduceIte]
   refine And.intro (fun _ => ?_) (fun h => absurd h1 h)
   refine Q4 (ih _ (List.getElem_mem _) (e7 _ (List.getElem_mem _)) (v4 _ (List.getElem_mem _))) fun r _ => ?_
   refine And.intro (fun _ p hp => by cases hp) (fun _ => ?_)
   refine Q4 (Ux _) fun c hc => ?_
   refine And.intro (fun hct => ?_) (fun hct => And.intro (fun _ => ?_) (fun hn => absurd (by omega) hn))
   ·refine ih2 _ ⟨by omega, fun j a hj ha hca => ?_⟩
    by_cases hji : (j : Int) = i
    ·have : j = i.toNat := by omega
     subst this
     rw [List.getElem?_eq_getElem (by omega)] at ha
     cases ha
     rw [hca] at hc; rw [hc] at hct; cases hct
    ·exact hI.2 j a (by omega) ha hca
   ·exact ih2 _ ⟨by simp; omega, fun j a hj ha hca => by simp⟩
 rw [Jf]
 simp only [zz, ↓reduceIte]
 refine Q4 L fun r hr => ?_
 cases r with
 | inr p => exact Z4.2 trivial
 | inl p =>
  have hne : isC x = false → x.fOp ≠ 1 ∧ x.fOp ≠ 2 ∧ x.fOp ≠ 3 → 0 < p.2.length := fun hc hk => List.length_pos_iff.2 (hr p rfl (nonC v1 v2 hc hk))
  repeat' (first | exact trivial | assumption | (intro _) | (refine And.intro ?_ ?_) | (refine Q4 ((Uy _ _ hb)) fun _ _ => ?_) | (refine Q4 ((Ux _)) fun _ _ => ?_) | (refine Qf (by omega) (by omega) fun _ _ => ?_) | (simp only [zz, ↓reduceIte]) | (split) | omega | (have hq := hne (by simp_all; done) (by simp_all; done); refine Qf (by omega) (by omega) fun _ _ => ?_) | (exfalso; simp only [zl] at *; omega) | (simp_all; done))
end Go.Proofs.YtokfigmmegifeaaGreat
end
section
namespace Go.Proofs.YtokfigmmegifeaaGreat
open Go HY
set_option linter.unusedVariables false
set_option linter.unusedSimpArgs false
theorem WW (x0 : Qb) (x1 : List Qc) (x2 : Q1) (hb : x0.fBufs.length ≤ 1048576) (hB : x1.length ≤ 1048576) (hx : Qn x2 ≤ 1048576) : wp (JS x0 x1 x2) (fun r => r.2 = 0 → vE (.mk x2)) := by
 have hn := nodes_w x2 _ hx
 have hl := Ps x2
 unfold JS
 simp only [zz, ↓reduceIte]
 refine Q4 (MG _ hx) fun b hb1 => And.intro (fun hne h => absurd h hne) (fun he => ?_)
 have hv := hb1 (by simpa using he)
 rw [EQ x2 hx]
 simp only [zz, ↓reduceIte]
 refine Q4 (HD x1 x0 _ _ hb hB hn (by omega) 0 (by omega) (by omega)) fun r _ => ?_
 cases r with
 | inl p =>
  simp only [zz, ↓reduceIte]
  exact Q4 (F9 x0 hb (.mk x2) hx hv) fun _ _ _ => hv
 | inr p => exact Z4.2 fun _ => hv
theorem AS (x2 : gLin) (x3 : gLin) (hx : wLin x2 ≤ 1048576) (he : x3.fL.length = x2.fL.length)  (x5 : Int) (h0 : 0 ≤ x5) (h1 : x5 ≤ (x2.fL.length : Nat)) : wp (Kk x2 x3 x5) (fun r => True) := by
 have hx1 := Gz x2
 refine ZQ (F := fun x5 => Kk x2 x3 x5) (x2.fL.length) ?_ ?_ x5  h0 h1
 ·skip
  rw [Kk]
  repeat' (first | exact trivial | assumption | (intro _) | (refine And.intro ?_ ?_) | (refine Qf (by omega) (by omega) fun _ _ => ?_) | (simp only [zz, ↓reduceIte]) | (split) | omega | (exfalso; simp only [zl] at *; omega) | (simp_all; done))
 ·intro x5  h0 h1 ih
  rw [Kk]
  have hw := QH h0 h1 (by omega)
  have hw2 := QQ (n := x5 - 1) (by omega)
  repeat' (first | exact trivial | assumption | (intro _) | (refine And.intro ?_ ?_) | (exact ih) | (rw [hw]; exact ih) | (refine Qf (by omega) (by omega) fun _ _ => ?_) | (simp only [zz, ↓reduceIte]) | (split) | omega | (exfalso; simp only [zl] at *; omega) | (simp_all; done))
theorem M5 (x0 : gLin) (x1 : gLin) (hx : wLin x0 ≤ 1048576) : wp (Cs x0 x1) (fun r => True) := by
 have hx1 := Gz x0
 unfold Cs
 repeat' (first | exact trivial | assumption | (intro _) | (refine And.intro ?_ ?_) | (exact Q4 (AS _ _ hx (by omega) 0 (by omega) (by omega)) fun r _ => by cases r <;> exact Z4.2 trivial) | (refine Qf (by omega) (by omega) fun _ _ => ?_) | (simp only [zz, ↓reduceIte]) | (split) | omega | (exfalso; simp only [zl] at *; omega) | (simp_all; done))
theorem Sv (x0 : List gLin) (x1 : List gLin) (hn : x0.length ≤ 1048576) (hl : ∀ a ∈ x0, wLin a ≤ 1048576) (he : x1.length = x0.length)  (x5 : Int) (h0 : 0 ≤ x5) (h1 : x5 ≤ (x0.length : Nat)) : wp (YF x0 x1 x5) (fun r => True) := by
 refine ZQ (F := fun x5 => YF x0 x1 x5) (x0.length) ?_ ?_ x5  h0 h1
 ·skip
  rw [YF]
  repeat' (first | exact trivial | assumption | (intro _) | (refine And.intro ?_ ?_) | (refine Q4 (M5 _ _ (hl _ (by assumption))) fun _ _ => ?_) | (refine Qf (by omega) (by omega) fun _ _ => ?_) | (simp only [zz, ↓reduceIte]) | (split) | omega | (exfalso; simp only [zl] at *; omega) | (simp_all; done))
 ·intro x5  h0 h1 ih
  rw [YF]
  have hw := QH h0 h1 (by omega)
  have hw2 := QQ (n := x5 - 1) (by omega)
  repeat' (first | exact trivial | assumption | (intro _) | (refine And.intro ?_ ?_) | (exact ih) | (rw [hw]; exact ih) | (refine Q4 (M5 _ _ (hl _ (by assumption))) fun _ _ => ?_) | (refine Qf (by omega) (by omega) fun _ _ => ?_) | (simp only [zz, ↓reduceIte]) | (split) | omega | (exfalso; simp only [zl] at *; omega) | (simp_all; done))
theorem OV (x0 : List gLin) (x1 : List gLin) (hn : x0.length ≤ 1048576) (hl : ∀ a ∈ x0, wLin a ≤ 1048576) : wp (Ng x0 x1) (fun r => True) := by
 unfold Ng
 repeat' (first | exact trivial | assumption | (intro _) | (refine And.intro ?_ ?_) | (exact Q4 (Sv _ _ hn hl (by omega) 0 (by omega) (by omega)) fun r _ => by cases r <;> exact Z4.2 trivial) | (refine Qf (by omega) (by omega) fun _ _ => ?_) | (simp only [zz, ↓reduceIte]) | (split) | omega | (exfalso; simp only [zl] at *; omega) | (simp_all; done))
theorem Hv (x0 : Q8) (x1 : Q8) (hx : wIdx x0 ≤ 1048576) : wp (Wq x0 x1) (fun r => True) := by
 obtain ⟨hx1, hx2, hx3, hx4, hx5⟩ := N2 hx
 unfold Wq
 repeat' (first | exact trivial | assumption | (intro _) | (refine And.intro ?_ ?_) | (refine Q4 (M5 _ _ hx2) fun _ _ => ?_) | (refine Q4 (OV _ _ hx4 hx5) fun _ _ => ?_) | (refine Qf (by omega) (by omega) fun _ _ => ?_) | (simp only [zz, ↓reduceIte]) | (split) | omega | (exfalso; simp only [zl] at *; omega) | (simp_all; done))
theorem EA (x0 : List Q8) (x1 : List Q8) (hn : x0.length ≤ 1048576) (hl : ∀ a ∈ x0, wIdx a ≤ 1048576) (he : x1.length = x0.length)  (x5 : Int) (h0 : 0 ≤ x5) (h1 : x5 ≤ (x0.length : Nat)) : wp (Xi x0 x1 x5) (fun r => True) := by
 refine ZQ (F := fun x5 => Xi x0 x1 x5) (x0.length) ?_ ?_ x5  h0 h1
 ·skip
  rw [Xi]
  repeat' (first | exact trivial | assumption | (intro _) | (refine And.intro ?_ ?_) | (refine Q4 (Hv _ _ (hl _ (by assumption))) fun _ _ => ?_) | (refine Qf (by omega) (by omega) fun _ _ => ?_) | (simp only [zz, ↓reduceIte]) | (split) | omega | (exfalso; simp only [zl] at *; omega) | (simp_all; done))
 ·intro x5  h0 h1 ih
  rw [Xi]
  have hw := QH h0 h1 (by omega)
  have hw2 := QQ (n := x5 - 1) (by omega)
  repeat' (first | exact trivial | assumption | (intro _) | (refine And.intro ?_ ?_) | (exact ih) | (rw [hw]; exact ih) | (refine Q4 (Hv _ _ (hl _ (by assumption))) fun _ _ => ?_) | (refine Qf (by omega) (by omega) fun _ _ => ?_) | (simp only [zz, ↓reduceIte]) | (split) | omega | (exfalso; simp only [zl] at *; omega) | (simp_all; done))
theorem Su (x0 : List Q8) (x1 : List Q8) (hn : x0.length ≤ 1048576) (hl : ∀ a ∈ x0, wIdx a ≤ 1048576) : wp (Cr x0 x1) (fun r => True) := by
 unfold Cr
 repeat' (first | exact trivial | assumption | (intro _) | (refine And.intro ?_ ?_) | (exact Q4 (EA _ _ hn hl (by omega) 0 (by omega) (by omega)) fun r _ => by cases r <;> exact Z4.2 trivial) | (refine Qf (by omega) (by omega) fun _ _ => ?_) | (simp only [zz, ↓reduceIte]) | (split) | omega | (exfalso; simp only [zl] at *; omega) | (simp_all; done))
theorem PO : ∀ e : Q9, Qn e.f ≤ 1048576 → ∀ y, wp (J5 e.f y) (fun _ => True) := Q9.ind fun x ih h y => by
 simp only [Q9.f_mk] at h ⊢
 obtain ⟨e1, e2, e3, e4, e5, e6, e7⟩ := Zv h
 have L : ∀ m : List Q9, m.length = x.fArgs.length → wp (Yl x.fArgs m 0) (fun _ => True) := fun m hm => by
  refine ZQ (F := fun i => Yl x.fArgs m i) x.fArgs.length ?_ ?_ 0 (by omega) (by omega)
  ·rw [Yl]; repeat' (first | exact trivial | assumption | (intro _) | (refine And.intro ?_ ?_) | (refine Qf (by omega) (by omega) fun _ _ => ?_) | (simp only [zz, ↓reduceIte]) | (split) | omega | (exfalso; simp only [zl] at *; omega) | (simp_all; done))
  ·intro i h0 h1 ih2
   rw [Yl]
   have hw := QH h0 h1 (by omega)
   repeat' (first | exact trivial | assumption | (intro _) | (refine And.intro ?_ ?_) | (exact ih2) | (rw [hw]; exact ih2) | (refine Q4 (ih _ (by assumption) (e7 _ (by assumption)) _) fun _ _ => ?_) | (refine Qf (by omega) (by omega) fun _ _ => ?_) | (simp only [zz, ↓reduceIte]) | (split) | omega | (exfalso; simp only [zl] at *; omega) | (simp_all; done))
 have M : ∀ m, wp (Cb x.fArgs m) (fun _ => True) := fun m => by
  rw [Cb]
  repeat' (first | exact trivial | assumption | (intro _) | (refine And.intro ?_ ?_) | (exact Q4 (L _ (by omega)) fun r _ => by cases r <;> exact Z4.2 trivial) | (refine Qf (by omega) (by omega) fun _ _ => ?_) | (simp only [zz, ↓reduceIte]) | (split) | omega | (exfalso; simp only [zl] at *; omega) | (simp_all; done))
 rw [J5]
 repeat' (first | exact trivial | assumption | (intro _) | (refine And.intro ?_ ?_) | (refine Q4 (M5 _ _ e2) fun _ _ => ?_) | (refine Q4 (Su _ _ e4 e5) fun _ _ => ?_) | (refine Q4 (M _) fun _ _ => ?_) | (refine Qf (by omega) (by omega) fun _ _ => ?_) | (simp only [zz, ↓reduceIte]) | (split) | omega | (exfalso; simp only [zl] at *; omega) | (simp_all; done))
theorem OU (x y : Q1) (h : Qn x ≤ 1048576) : wp (J5 x y) (fun _ => True) := PO (.mk x) h y
theorem Fa (x0 : Qa) (hx : QB x0 ≤ 1048576) : wp (W8 x0) (fun r => True) := by
 obtain ⟨hx1, hx2, hx3, hx4, hx5, hx6, hx7⟩ := G8 hx
 unfold W8
 repeat' (first | exact trivial | assumption | (intro _) | (refine And.intro ?_ ?_) | (refine Q4 (OU _ _ hx2) fun _ _ => ?_) | (refine Qf (by omega) (by omega) fun _ _ => ?_) | (simp only [zz, ↓reduceIte]) | (split) | omega | (exfalso; simp only [zl] at *; omega) | (simp_all; done))
theorem Fb (x0 : Qb) (x1 : List Qc) (x2 : Qa) (hb : x0.fBufs.length ≤ 1048576) (hB : x1.length ≤ 1048576) (hx : QB x2 ≤ 1048576) : wp (W9 x0 x1 x2) (fun r => True) := by
 obtain ⟨hx1, hx2, hx3, hx4, hx5, hx6, hx7⟩ := G8 hx
 unfold W9
 repeat' (first | exact trivial | assumption | (intro _) | (refine And.intro ?_ ?_) | (refine Q4 (WW _ _ _ hb hB (W_idx hx (Nat.le_refl _))) fun _ _ => ?_) | (refine Q4 (WW _ _ _ hb hB hx2) fun _ _ => ?_) | (refine Q4 (Uy _ _ hb) fun _ _ => ?_) | (refine Q4 (Ux _) fun _ _ => ?_) | (refine Qf (by omega) (by omega) fun _ _ => ?_) | (simp only [zz, ↓reduceIte]) | (split) | omega | (exfalso; simp only [zl] at *; omega) | (simp_all; done))
theorem OY (x0 : Qb) (x1 : List Qc) (x2 : List Str) (x3 : Qa) (hb : x0.fBufs.length ≤ 1048576) (hB : x1.length ≤ 1048576) (hU : x2.length ≤ 1048576) (hx : QB x3 ≤ 1048576) : wp (No x0 x1 x2 x3) (fun r => r = 0 → (x3.fOp = 1 → x3.fMany ≤ 65536) ∧ (x3.fOp = 4 → vE (.mk x3.fExpr))) := by
 obtain ⟨hx1, hx2, hx3, hx4, hx5, hx6, hx7⟩ := G8 hx
 unfold No
 repeat' (first | exact trivial | assumption | (intro _) | (refine And.intro ?_ ?_) | (refine Q4 (Fa _ hx) fun _ _ => ?_) | (refine Q4 (WW _ _ _ hb hB hx2) fun _ _ => ?_) | (refine Q4 (Uy _ _ hb) fun _ _ => ?_) | (refine Q4 (Ux _) fun _ _ => ?_) | (refine Q4 (KN _ hx1) fun _ _ => ?_) | (refine Q4 (I0 _ _ hU) fun _ _ => ?_) | (refine Q4 (Fb _ _ _ hb hB hx) fun _ _ => ?_) | (omega) | ((simp_all; done)) | ((exfalso; omega)) | (refine Qf (by omega) (by omega) fun _ _ => ?_) | (simp only [zz, ↓reduceIte]) | (split) | omega | (exfalso; simp only [zl] at *; omega) | (simp_all; done))
inductive vS : Q7 → Prop
 | mk (x : Qa) (h1 : x.fOp = 1 → x.fMany ≤ 65536) (h2 : x.fOp = 4 → vE (.mk x.fExpr)) (h3 : ∀ a ∈ x.fBody, vS a) : vS (.mk x)
end Go.Proofs.YtokfigmmegifeaaGreat
end
section
namespace Go.Proofs.YtokfigmmegifeaaGreat
open Go HY
set_option linter.unusedVariables false
set_option linter.unusedSimpArgs false
def maxL (l : List Nat) : Nat := l.foldr max 0
theorem Q0m (a : Nat) (l : List Nat) : maxL (a :: l) = max a (maxL l) := rfl
theorem Q1m {a : Nat} {l : List Nat} (h : a ∈ l) : a ≤ maxL l := by
 induction l with
 | nil => cases h
 | cons b l ih =>
  rw [Q0m]
  rcases List.mem_cons.1 h with rfl | h
  ·omega
  ·have := ih h; omega
def dp : Q7 → Nat
 | .mk x => 1 + maxL (x.fBody.attach.map fun a => dp a.1)
 termination_by e => SizeOf.sizeOf e
 decreasing_by exact Q7.lt a.2
def dpL (l : List Q7) : Nat := maxL (l.map dp)
theorem dp_f (s : Q7) : dp s = 1 + dpL s.f.fBody := by
 cases s with
 | mk x => rw [dp]; simp [dpL, Q7.f]
theorem dpL_mem {a : Q7} {l : List Q7} (h : a ∈ l) : dp a ≤ dpL l := Q1m (List.mem_map_of_mem h)
theorem AO : ∀ l : List Q7, wSum QG l ≤ 1048576 → ∀ m : Int, 0 ≤ m → m ≤ 1000 → Vg l m = some (min (dpL l : Int) m) := Cg fun l hl ih m hm0 hm1 => by
 obtain ⟨e1, e2⟩ := Cw hl
 have L : Xb l m 0 0 = some (max 0 (min (dpL l : Int) m)) := by
  by_cases hm : m = 0
  ·subst hm
   rw [Xb]
   simp
   try omega
  refine K5 (F := fun a i => Xb l m a i) (l := l) (fun a t => 0 ≤ a ∧ a ≤ m) (fun a t => max a (min (dpL t : Int) m)) ?_ ?_ _ (by omega)
  ·intro a hI
   rw [Xb]
   simp [dpL, maxL]
   omega
  ·intro i v t a h0 h1 hv hix hI ih2
   rw [Xb]
   have hw := QH h0 h1 (by omega)
   have hw2 : wr (m - 1) = m - 1 := QQ (by omega)
   have hw3 : wr (1 + min (dpL v.f.fBody : Int) (m - 1)) = 1 + min (dpL v.f.fBody : Int) (m - 1) := QQ (by omega)
   have hmp : 0 < m := by omega
   simp only [Option.bind_eq_bind, Option.bind_some, h1, if_true, hmp, hix, Option.map_some, hw2, ih v hv (m - 1) (by omega) (by omega), hw3, hw]
   rw [ih2 _ (by omega)]
   have : dpL (v :: t) = max (dp v) (dpL t) := rfl
   rw [this, dp_f]
   congr 1
   omega
 rw [Vg]
 simp only [Option.bind_eq_bind, Option.bind_some, L]
 congr 1
 omega
theorem PY : ∀ l : List Q7, wSum QG l ≤ 1048576 → ∀ (n : Qb) (b : List Qc) (u : List Str) (w : List Int), n.fBufs.length ≤ 1048576 → b.length + wSum QG l ≤ 1048576 → u.length + wSum QG l ≤ 1048576 → w.length + wSum QG l ≤ 1048576 →
  wp (Kd n b u l w) (fun r => r.fUsed.length ≤ u.length + wSum QG l ∧ (r.fE = 0 → ∀ a ∈ l, vS a)) := Cg fun l hl ih n b u w hb hB hU hW => by
 obtain ⟨e1, e2⟩ := Cw hl
 have L : wp (XF b u l w n (QK.mk [] [] 0) 0) (fun r => (∃ p, r = .inl p ∧ p.1.length ≤ u.length + wSum QG l ∧ ∀ a ∈ l, vS a) ∨ ∃ p, r = .inr p ∧ p.fE ≠ 0 ∧ p.fUsed.length ≤ u.length + wSum QG l) := by
  refine G9 (F := fun a i => XF b a l w n (QK.mk [] [] 0) i) (l := l) (fun a t => a.length + wSum QG t ≤ u.length + wSum QG l ∧ ∃ p, l = p ++ t ∧ ∀ x ∈ p, vS x) ?_ ?_ u ⟨by omega, [], rfl, by simp⟩
  ·intro a ⟨hI, p, hp, hv⟩
   rw [XF]
   rw [List.append_nil] at hp
   subst hp
   simp only [zz, ↓reduceIte]
   refine .inl ⟨_, rfl, by simp [Z6] at hI; exact hI, hv⟩
  ·intro i v t a h0 h1 hv hix _ ⟨hI, p, hp, hvp⟩ ih2
   rw [XF]
   have hw := QH h0 h1 (by omega)
   obtain ⟨s1, s2, s3, s4, s5, s6, s7⟩ := G8 (e2 v hv)
   have hv1 := YR (f := QG) hv
   have hv2 := Mf v.f
   rw [K6] at hv1
   rw [QP, K6] at hI
   simp only [hix, hw]
   simp only [zz, ↓reduceIte]
   refine And.intro (fun _ => ?_) (fun h => absurd h1 h)
   refine And.intro (fun _ => ?_) (fun h => absurd (by omega) h)
   refine And.intro (fun _ => ?_) (fun h => absurd (by simp; omega) h)
   refine Q4 (OY n b a v.f hb (by omega) (by omega) (e2 v hv)) fun c hc => ?_
   refine And.intro (fun hne => .inr ⟨_, rfl, by simpa using hne, by simp⟩) (fun he => ?_)
   have hc := hc (by simpa using he)
   have key : ∀ (b' : List Qc) (u' : List Str), b'.length ≤ b.length + 1 → u'.length ≤ a.length + 1 → wp (Kd n b' u' v.f.fBody ([] ++ w ++ [i])) (fun a_1 => (a_1.fE ≠ 0 → (∃ p, (Sum.inr a_1 : ((List Str) × QK) ⊕ QK) = .inl p ∧ p.1.length ≤ u.length + wSum QG l ∧ ∀ a ∈ l, vS a) ∨ ∃ p, (Sum.inr a_1 : ((List Str) × QK) ⊕ QK) = .inr p ∧ p.fE ≠ 0 ∧ p.fUsed.length ≤ u.length + wSum QG l) ∧
     (¬ a_1.fE ≠ 0 → wp (XF b a_1.fUsed l w n (QK.mk [] [] 0) (i + 1)) (fun r => (∃ p, r = .inl p ∧ p.1.length ≤ u.length + wSum QG l ∧ ∀ a ∈ l, vS a) ∨ ∃ p, r = .inr p ∧ p.fE ≠ 0 ∧ p.fUsed.length ≤ u.length + wSum QG l))) := by
    intro b' u' hb' hu'
    refine Q4 (ih v hv n b' u' ([] ++ w ++ [i]) hb (by omega) (by omega) (by simp; omega)) fun r hr => ?_
    refine And.intro (fun hne => .inr ⟨_, rfl, hne, by omega⟩) (fun he => ?_)
    refine ih2 _ ⟨by omega, p ++ [v], by rw [hp]; simp, fun x hx => ?_⟩
    rcases List.mem_append.1 hx with hx | hx
    ·exact hvp x hx
    ·rw [List.mem_singleton] at hx
     subst hx
     have : x = .mk x.f := (Q7.mk_f x).symm
     rw [this]
     exact .mk _ hc.1 hc.2 (hr.2 (by simpa using he))
   refine And.intro (fun hop => ?_) (fun hop => ?_)
   ·refine And.intro (fun _ => ?_) (fun h => absurd (by omega) h)
    refine And.intro (fun _ => ?_) (fun h => absurd (by simp; omega) h)
    refine And.intro (fun _ => ?_) (fun h => absurd (by omega) h)
    refine And.intro (fun _ => ?_) (fun h => absurd (by simp; omega) h)
    have := key ([] ++ b ++ [Qc.mk v.f.fName v.f.fMany]) ([] ++ a ++ [v.f.fName]) (by simp) (by simp)
    simp only [hix, hw, Z4]
    simpa using this
   ·have := key b a (by omega) (by omega)
    simp only [hix, hw, Z4]
    simpa using this
 rw [Kd]
 simp only [zz, ↓reduceIte]
 refine Q4 L fun r hr => ?_
 rcases hr with ⟨p, rfl, h1, h2⟩ | ⟨p, rfl, h1, h2⟩
 ·exact Z4.2 ⟨h1, fun _ => h2⟩
 ·exact Z4.2 ⟨h2, fun h => absurd h h1⟩
theorem RJ (n : Qb) (h : JZ n ≤ 1048576) : wp (DD n) (fun r => r.2 = 0 → (∀ a ∈ n.fBody, vS a) ∧ dpL n.fBody ≤ 40) := by
 have hn : JZ n = 1 + wSum wBuf n.fBufs + wSum QG n.fBody := rfl
 have hB : wSum wBuf n.fBufs ≤ 1048576 := by omega
 have hS : wSum QG n.fBody ≤ 1048576 := by omega
 obtain ⟨b1, b2⟩ := HM hB
 unfold DD
 rw [AO _ hS 41 (by omega) (by omega)]
 simp only [zz, ↓reduceIte]
 refine And.intro (fun _ h => by cases h) (fun hd => ?_)
 refine Q4 (O3 _ hS _) fun k _ => ?_
 have rest : wp (Cf n) (fun a => (¬a = 0 → (a = 0 → (∀ a ∈ n.fBody, vS a) ∧ dpL n.fBody ≤ 40)) ∧ (a = 0 → wp (Kd n [] [] n.fBody []) (fun a => a.fE = 0 → (∀ a ∈ n.fBody, vS a) ∧ dpL n.fBody ≤ 40))) := by
  refine Q4 (PZ _ hB) fun c _ => And.intro (fun h1 h2 => absurd h2 h1) (fun _ => ?_)
  refine Q4 (PY _ hS n [] [] [] b1 (by simp; omega) (by simp; omega) (by simp; omega)) fun r hr h0 => ⟨hr.2 h0, by omega⟩
 repeat' (first | exact trivial | assumption | (intro _) | (refine And.intro ?_ ?_) | ((simpa using rest)) | ((intro h; cases h)) | (refine Qf (by omega) (by omega) fun _ _ => ?_) | (simp only [zz, ↓reduceIte]) | (split) | omega | (exfalso; simp only [zl] at *; omega) | (simp_all; done))
end Go.Proofs.YtokfigmmegifeaaGreat
end
section
namespace Go.Proofs.YtokfigmmegifeaaGreat
open Go HY
set_option linter.unusedVariables false
set_option linter.unusedSimpArgs false
theorem pow2 : ∀ k, k ≤ 64 → 1 ≤ (2 : Int) ^ k ∧ (k ≤ 30 → (2 : Int) ^ k ≤ 1073741824) := by decide
theorem I5 {n : Int} (h : 0 ≤ n ∧ n ≤ 18446744073709551615) : w6 n = n := by unfold w6; rw [IntKind.wrap_u64]; omega
def okT (t : Qg) : Prop := t.fKind = 2 → 2 ≤ t.fBits ∧ t.fBits ≤ 31 ∧ 0 ≤ t.fFrac ∧ t.fFrac ≤ 30
theorem Ty (t : Qg) : wp (XC t) (fun r => r = true → okT t) := Hx t
theorem Cm (t : Qg) (h : 0 ≤ t.fFrac ∧ t.fFrac ≤ 30) : wp (UK t) (fun r => 1 ≤ r ∧ r ≤ 1073741824) := by
 unfold UK
 have hu : w6 t.fFrac = t.fFrac := I5 (by omega)
 rw [hu, if_pos h.1]
 have hk : min t.fFrac.toNat 64 ≤ 30 := by omega
 obtain ⟨p1, p2⟩ := pow2 (min t.fFrac.toNat 64) (by omega)
 have p2 := p2 hk
 rw [QQ (by omega)]
 exact Z4.2 (by omega)
theorem Pc (F : Int → Int → Option Int) (hF : ∀ a b, F a b = if b != 0 then if b ≠ 0 then (some (a.tmod b : Int) >>= fun v => F b v) else none else some a) : ∀ (n : Nat) (a b : Int), b.natAbs < n → 0 ≤ a → 0 ≤ b → wp (F a b) (fun r => 0 ≤ r ∧ (a ≠ 0 ∨ b ≠ 0 → 1 ≤ r) ∧ r ∣ a ∧ r ∣ b)
 | 0, _, _, h, _, _ => by omega
 | n + 1, a, b, h, ha, hb => by
  rw [hF]
  by_cases h0 : b = 0
  ·subst h0
   simp only [bne_self_eq_false, Bool.false_eq_true, if_false]
   exact Z4.2 ⟨ha, by omega, ⟨1, by omega⟩, ⟨0, by omega⟩⟩
  ·have h2 : (a.tmod b).natAbs < b.natAbs := by rw [Int.natAbs_tmod]; exact Nat.mod_lt _ (by omega)
   have h3 : 0 ≤ a.tmod b := Int.tmod_nonneg _ ha
   rw [if_pos (by simpa using h0), if_pos h0]
   rw [BG, Z4]
   refine Q4 (Pc F hF n b (a.tmod b) (by omega) hb h3) fun r ⟨r0, r1, r2, r3⟩ => ⟨r0, fun _ => r1 (.inl h0), ?_, r2⟩
   have e := Int.mul_tdiv_add_tmod a b
   rw [← e]
   exact Int.dvd_add (Int.dvd_trans r2 ⟨_, rfl⟩) r3
theorem OW (a b : Int) (ha : 0 ≤ a) (hb : 0 ≤ b) : wp (Nm a b) (fun r => 0 ≤ r ∧ (a ≠ 0 ∨ b ≠ 0 → 1 ≤ r) ∧ r ∣ a ∧ r ∣ b) := by
 unfold Nm
 simp only [zz, ↓reduceIte]
 exact Pc VH (fun a b => by rw [VH]) (b.natAbs + 1) a b (by omega) ha hb
theorem div_le {a g : Int} (ha : 0 ≤ a) (hg : 1 ≤ g) : 0 ≤ a.tdiv g ∧ a.tdiv g ≤ a := ⟨Int.tdiv_nonneg ha (by omega), Int.tdiv_le_self _ ha⟩
theorem div_pos {a g : Int} (ha : 1 ≤ a) (hg : 1 ≤ g) (hd : g ∣ a) : 1 ≤ a.tdiv g := by
 obtain ⟨c, rfl⟩ := hd
 rw [Int.mul_tdiv_cancel_left _ (by omega)]
 rcases Int.lt_or_le 0 c with h | h
 ·omega
 ·have : g * c ≤ 0 := Int.mul_nonpos_of_nonneg_of_nonpos (by omega) h
  omega
theorem PQ (s : Bool) (a b : Int) (ha : 0 ≤ a ∧ a ≤ 18446744073709551615) (hb : 1 ≤ b ∧ b ≤ 18446744073709551615) : wp (Wt s a b) (fun r => a ≤ 2147483647 → b ≤ 2147483647 → 1 ≤ r.1.fD) := by
 unfold Wt
 simp only [zz, ↓reduceIte]
 refine Q4 (OW a b ha.1 (by omega)) fun g ⟨g0, g1, g2, g3⟩ => ?_
 have g1 := g1 (.inr (by omega))
 obtain ⟨d1, d2⟩ := div_le ha.1 g1
 obtain ⟨d3, d4⟩ := div_le (show 0 ≤ b by omega) g1
 have d5 := div_pos hb.1 g1 g3
 rw [I5 (by omega), I5 (by omega)]
 have w2 : b ≤ 2147483647 → wr (b.tdiv g) = b.tdiv g := fun h => QQ (by omega)
 repeat' (first | exact trivial | assumption | (intro _) | (refine And.intro ?_ ?_) | ((intro h1 h2; (try rw [w2 h2]); omega)) | (omega) | (refine Qf (by omega) (by omega) fun _ _ => ?_) | (simp only [zz, ↓reduceIte]) | (split) | omega | (exfalso; simp only [zl] at *; omega) | (simp_all; done))
theorem Hz (x : Int) (h : -9223372036854775808 ≤ x ∧ x ≤ 9223372036854775807) : Cc x = some (if x < 0 then -x else x) := by
 unfold Cc
 split
 ·rw [QQ (n := x + 1) (by omega), QQ (n := 0 - (x + 1)) (by omega), I5 (n := 0 - (x + 1)) (by omega), I5 (by omega)]
  congr 1; omega
 ·rw [I5 (by omega)]
theorem CR (a b : Int) (ha : -9223372036854775808 ≤ a ∧ a ≤ 9223372036854775807) (hb : -9223372036854775808 ≤ b ∧ b ≤ 9223372036854775807) : wp (Uo a b) (fun r => 1 ≤ b → b ≤ 2147483647 → -2147483647 ≤ a → a ≤ 2147483647 → 1 ≤ r.1.fD) := by
 unfold Uo
 rw [Hz a ha, Hz b hb]
 simp only [zz, ↓reduceIte]
 refine And.intro (fun h1 h2 => by omega) (fun h1 => ?_)
 refine Q4 (PQ _ _ _ (by split <;> omega) (by split <;> omega)) fun r hr h2 h3 h4 h5 => hr (by split <;> omega) (by split <;> omega)
theorem CQ (x0 : Qg) (x1 : gVal) (hv : okT x0) : wp (Kl x0 x1) (fun r => r = true → 1 ≤ x1.fD ∧ x1.fD ≤ 2147483647 ∧ -2147483647 ≤ x1.fN ∧ x1.fN ≤ 2147483647) := by
 have hk : x0.fKind = 2 → 0 ≤ wr (x0.fBits - 1) ∧ 1 ≤ wr (1 * 2 ^ min (wr (x0.fBits - 1)).toNat 64) ∧ wr (1 * 2 ^ min (wr (x0.fBits - 1)).toNat 64) ≤ 1073741824 := fun h => by
  have := hv h
  rw [QQ (n := x0.fBits - 1) (by omega)]
  obtain ⟨p1, p2⟩ := pow2 (min (x0.fBits - 1).toNat 64) (by omega)
  have p2 := p2 (by omega)
  rw [QQ (by omega)]
  omega
 unfold Kl
 simp only [zz, ↓reduceIte]
 refine And.intro (fun h2 => ?_) (fun h2 => ?_)
 ·obtain ⟨k1, k2, k3⟩ := hk h2
  refine And.intro (fun _ => ?_) (fun h => absurd k1 h)
  rw [QQ (n := 0 - wr (1 * 2 ^ min (wr (x0.fBits - 1)).toNat 64)) (by omega)]
  repeat' (first | exact trivial | assumption | (intro _) | (refine And.intro ?_ ?_) | ((intros; simp_all; done)) | (grind) | (refine Qf (by omega) (by omega) fun _ _ => ?_) | (simp only [zz, ↓reduceIte]) | (split) | omega | (exfalso; simp only [zl] at *; omega) | (simp_all; done))
 ·repeat' (first | exact trivial | assumption | (intro _) | (refine And.intro ?_ ?_) | (refine Q4 (TA _ _) fun _ _ => ?_) | (grind) | (refine Qf (by omega) (by omega) fun _ _ => ?_) | (simp only [zz, ↓reduceIte]) | (split) | omega | (exfalso; simp only [zl] at *; omega) | (simp_all; done))
theorem AX (x0 : Qg) (x1 : gVal) (hv : okT x0) (h1 : 1 ≤ x1.fD ∧ x1.fD ≤ 2147483647 ∧ -2147483647 ≤ x1.fN ∧ x1.fN ≤ 2147483647) : wp (CX x0 x1) (fun r => 1 ≤ r.fD) := by
 unfold CX
 simp only [zz, ↓reduceIte]
 refine And.intro (fun h2 => ?_) (fun h2 => by omega)
 refine Q4 (Cm x0 (by have := hv h2; omega)) fun s hs => ?_
 exact Q4 (CR _ _ (by omega) (by omega)) fun r hr => hr (by omega) (by omega) (by omega) (by omega)
theorem DW (a b : Int) (h : b ≠ 0) : wp (U1 a b) (fun _ => True) := by
 unfold U1
 rw [if_pos h]
 repeat' (first | exact trivial | assumption | (intro _) | (refine And.intro ?_ ?_) | (refine Qf (by omega) (by omega) fun _ _ => ?_) | (simp only [zz, ↓reduceIte]) | (split) | omega | (exfalso; simp only [zl] at *; omega) | (simp_all; done))
theorem Wf (a b c : Int) (h : b ≠ 0) : wp (G5 a b c) (fun _ => True) := by
 unfold G5
 repeat' (first | exact trivial | assumption | (intro _) | (refine And.intro ?_ ?_) | (refine Q4 (DW _ _ h) fun _ _ => ?_) | (refine Qf (by omega) (by omega) fun _ _ => ?_) | (simp only [zz, ↓reduceIte]) | (split) | omega | (exfalso; simp only [zl] at *; omega) | (simp_all; done))
theorem EY (x0 : Qg) (a : Int) (h : 2 ≤ x0.fBits ∧ x0.fBits ≤ 31) : wp (J7 x0 a) (fun _ => True) := by
 unfold J7
 rw [QQ (n := x0.fBits - 1) (by omega), I5 (n := x0.fBits - 1) (by omega)]
 obtain ⟨p1, p2⟩ := pow2 (min (x0.fBits - 1).toNat 64) (by omega)
 have p2 := p2 (by omega)
 rw [QQ (n := 1 * 2 ^ min (x0.fBits - 1).toNat 64) (by omega)]
 have hne : wr (2 * (1 * 2 ^ min (x0.fBits - 1).toNat 64)) ≠ 0 := by rw [QQ (by omega)]; omega
 repeat' (first | exact trivial | assumption | (intro _) | (refine And.intro ?_ ?_) | (refine Q4 (DW _ _ hne) fun _ _ => ?_) | (refine Qf (by omega) (by omega) fun _ _ => ?_) | (simp only [zz, ↓reduceIte]) | (split) | omega | (exfalso; simp only [zl] at *; omega) | (simp_all; done))
theorem PR (x0 x1 : Qg) (x2 : gVal) : wp (Wu x0 x1 x2) (fun _ => True) := by
 unfold Wu
 simp only [zz, ↓reduceIte]
 refine Q4 (Ty x0) fun a ha h1 => Q4 (Ty x1) fun b hb h2 => Q4 (CQ x0 x2 (ha h1)) fun c hc h3 => ?_
 refine Q4 (AX x0 x2 (ha h1) (hc h3)) fun d hd => And.intro (fun h4 => ?_) (fun h4 h5 => ?_)
 ·exact DW _ _ (by omega)
 ·have := hb h2 h5
  refine Q4 (Cm x1 (by omega)) fun s hs => Q4 (Wf _ _ _ (by omega)) fun r _ => EY x1 r (by omega)
theorem AU (x0 : Int) (x1 : Int) : wp (G4 x0 x1) (fun r => True) := by
 unfold G4
 repeat' (first | exact trivial | assumption | (intro _) | (refine And.intro ?_ ?_) | (refine Qf (by omega) (by omega) fun _ _ => ?_) | (simp only [zz, ↓reduceIte]) | (split) | omega | (exfalso; simp only [zl] at *; omega) | (simp_all; done))
theorem okT1 (a b c d : Int) : okT (Qg.mk 1 a b c d) := fun h => by cases h
theorem Gb (x0 : gVal) : wp (ZH x0) (fun r => r = true → 1 ≤ x0.fD ∧ x0.fD ≤ 2147483647 ∧ -2147483647 ≤ x0.fN ∧ x0.fN ≤ 2147483647) := by
 unfold ZH
 repeat' (first | exact trivial | assumption | (intro _) | (refine And.intro ?_ ?_) | (refine Q4 (CQ _ _ (okT1 _ _ _ _)) fun _ _ => ?_) | (refine Qf (by omega) (by omega) fun _ _ => ?_) | (simp only [zz, ↓reduceIte]) | (split) | omega | (exfalso; simp only [zl] at *; omega) | (simp_all; done))
theorem TB (x0 : gVal) (x1 : gVal) : wp (C4 x0 x1) (fun r => True) := by
 unfold C4
 repeat' (first | exact trivial | assumption | (intro _) | (refine And.intro ?_ ?_) | (refine Q4 (Gb _) fun _ _ => ?_) | (refine Q4 (AU _ _) fun _ _ => ?_) | (refine Qf (by omega) (by omega) fun _ _ => ?_) | (simp only [zz, ↓reduceIte]) | (split) | omega | (exfalso; simp only [zl] at *; omega) | (simp_all; done))
theorem AW (x0 : Qg) (x1 : gVal) : wp (DQ x0 x1) (fun r => True) := by
 unfold DQ
 repeat' (first | exact trivial | assumption | (intro _) | (refine And.intro ?_ ?_) | (refine Q4 (Ty _) fun _ _ => ?_) | (refine Q4 (CQ _ _ (by simp_all)) fun _ _ => ?_) | (refine Qf (by omega) (by omega) fun _ _ => ?_) | (simp only [zz, ↓reduceIte]) | (split) | omega | (exfalso; simp only [zl] at *; omega) | (simp_all; done))
theorem WV (x0 : Qg) (x1 x2 : gVal) : wp (Gp x0 x1 x2) (fun _ => True) := by
 unfold Gp
 repeat' (first | exact trivial | assumption | (intro _) | (refine And.intro ?_ ?_) | (refine Q4 (AW _ _) fun _ _ => ?_) | (refine Q4 (TB _ _) fun _ _ => ?_) | (refine Qf (by omega) (by omega) fun _ _ => ?_) | (simp only [zz, ↓reduceIte]) | (split) | omega | (exfalso; simp only [zl] at *; omega) | (simp_all; done))
theorem wrapNe {n : Int} (h : n ≠ 0) (h1 : -2147483648 ≤ n ∧ n ≤ 2147483648) : wr (0 - n) ≠ 0 := by rw [QQ (by omega)]; omega
theorem EZ (x0 : Int) (x1 : Qg) (x2 x3 : Int) (h : 2 ≤ x1.fBits ∧ x1.fBits ≤ 31 ∧ 0 ≤ x1.fFrac ∧ x1.fFrac ≤ 30) (h3 : -2147483647 ≤ x3 ∧ x3 ≤ 2147483647 ∨ x0 = 8) : wp (Nn x0 x1 x2 x3) (fun _ => True) := by
 have hf := fun a => EY x1 a ⟨h.1, h.2.1⟩
 unfold Nn
 simp only [zz, ↓reduceIte]
 refine And.intro (fun _ => hf _) (fun _ => And.intro (fun _ => hf _) (fun _ => And.intro (fun _ => ?_) (fun _ => And.intro (fun _ => hf _) (fun h8 => ?_))))
 ·exact Q4 (Cm x1 (by omega)) fun s hs => Q4 (Wf _ _ _ (by omega)) fun r _ => hf r
 ·intro h0
  refine And.intro (fun hn => ?_) (fun hn => ?_)
  ·refine Q4 (Cm x1 (by omega)) fun s hs => Q4 (Wf _ _ _ (wrapNe (by omega) (by omega))) fun r _ => hf r
  ·refine Q4 (Cm x1 (by omega)) fun s hs => Q4 (Wf _ _ _ (by omega)) fun r _ => hf r
theorem Ir (x0 : Int) (x1 x2 : Int) (h3 : -2147483647 ≤ x2 ∧ x2 ≤ 2147483647 ∨ x0 = 8) : wp (CY x0 x1 x2) (fun _ => True) := by
 have hw : x2 ≠ 0 → x0 = 7 → wr (0 - x2) ≠ 0 := fun h h7 => wrapNe h (by omega)
 unfold CY
 repeat' (first | exact trivial | assumption | (intro _) | (refine And.intro ?_ ?_) | (refine Q4 (DW _ _ (by simp_all; done)) fun _ _ => ?_) | (refine Q4 (DW _ _ (by omega)) fun _ _ => ?_) | (refine Qf (by omega) (by omega) fun _ _ => ?_) | (simp only [zz, ↓reduceIte]) | (split) | omega | (exfalso; simp only [zl] at *; omega) | (simp_all; done))
theorem NK (n : Int) : -9223372036854775808 ≤ wr n ∧ wr n ≤ 9223372036854775807 := wrapR n
theorem ET (x0 : gVal) (x1 : gVal) : wp (Nh x0 x1) (fun r => True) := by
 unfold Nh
 repeat' (first | exact trivial | assumption | (intro _) | (refine And.intro ?_ ?_) | (refine Q4 (Gb _) fun _ _ => ?_) | (refine Q4 (CR _ _ (NK _) (NK _)) fun _ _ => ?_) | (refine Qf (by omega) (by omega) fun _ _ => ?_) | (simp only [zz, ↓reduceIte]) | (split) | omega | (exfalso; simp only [zl] at *; omega) | (simp_all; done))
theorem EX (x0 : gVal) (x1 : gVal) : wp (Nl x0 x1) (fun r => True) := by
 unfold Nl
 repeat' (first | exact trivial | assumption | (intro _) | (refine And.intro ?_ ?_) | (refine Q4 (Gb _) fun _ _ => ?_) | (refine Q4 (CR _ _ (NK _) (NK _)) fun _ _ => ?_) | (refine Qf (by omega) (by omega) fun _ _ => ?_) | (simp only [zz, ↓reduceIte]) | (split) | omega | (exfalso; simp only [zl] at *; omega) | (simp_all; done))
theorem EV (x0 : gVal) (x1 : gVal) : wp (Nj x0 x1) (fun r => True) := by
 unfold Nj
 repeat' (first | exact trivial | assumption | (intro _) | (refine And.intro ?_ ?_) | (refine Q4 (Gb _) fun _ _ => ?_) | (refine Q4 (CR _ _ (NK _) (NK _)) fun _ _ => ?_) | (refine Qf (by omega) (by omega) fun _ _ => ?_) | (simp only [zz, ↓reduceIte]) | (split) | omega | (exfalso; simp only [zl] at *; omega) | (simp_all; done))
theorem EU (x0 : gVal) (x1 : gVal) : wp (Ni x0 x1) (fun r => True) := by
 unfold Ni
 repeat' (first | exact trivial | assumption | (intro _) | (refine And.intro ?_ ?_) | (refine Q4 (Gb _) fun _ _ => ?_) | (refine Q4 (CR _ _ (NK _) (NK _)) fun _ _ => ?_) | (refine Qf (by omega) (by omega) fun _ _ => ?_) | (simp only [zz, ↓reduceIte]) | (split) | omega | (exfalso; simp only [zl] at *; omega) | (simp_all; done))
theorem EW (x0 : gVal) : wp (Nk x0) (fun r => True) := by
 unfold Nk
 repeat' (first | exact trivial | assumption | (intro _) | (refine And.intro ?_ ?_) | (refine Q4 (Gb _) fun _ _ => ?_) | (refine Qf (by omega) (by omega) fun _ _ => ?_) | (simp only [zz, ↓reduceIte]) | (split) | omega | (exfalso; simp only [zl] at *; omega) | (simp_all; done))
theorem Iq (x0 : Int) (x1 : Qg) (x2 x3 : gVal) : wp (CW x0 x1 x2 x3) (fun _ => True) := by
 unfold CW
 simp only [zz, ↓reduceIte]
 intro _ _
 refine Q4 (Ty x1) fun a ha h1 => ?_
 refine Q4 (CQ x1 x2 (ha h1)) fun b hb h2 => ?_
 have hb := hb h2
 refine And.intro (fun h8 => Q4 (CQ x1 x3 (ha h1)) fun c hc h3 => ?_) (fun h8 => ?_)
 ·have hc := hc h3
  repeat' (first | exact trivial | assumption | (intro _) | (refine And.intro ?_ ?_) | (refine Q4 (WV _ _ _) fun _ _ => ?_) | (refine Q4 (EZ _ _ _ _ (ha h1 (by assumption)) (by omega)) fun _ _ => ?_) | (refine Q4 (Ir _ _ _ (by omega)) fun _ _ => ?_) | (refine Q4 (ET _ _) fun _ _ => ?_) | (refine Q4 (EX _ _) fun _ _ => ?_) | (refine Q4 (EV _ _) fun _ _ => ?_) | (refine Q4 (EU _ _) fun _ _ => ?_) | (refine Q4 (EW _) fun _ _ => ?_) | (refine Qf (by omega) (by omega) fun _ _ => ?_) | (simp only [zz, ↓reduceIte]) | (split) | omega | (exfalso; simp only [zl] at *; omega) | (simp_all; done))
 ·repeat' (first | exact trivial | assumption | (intro _) | (refine And.intro ?_ ?_) | (refine Q4 (WV _ _ _) fun _ _ => ?_) | (refine Q4 (EZ _ _ _ _ (ha h1 (by assumption)) (by omega)) fun _ _ => ?_) | (refine Q4 (Ir _ _ _ (by omega)) fun _ _ => ?_) | (refine Q4 (ET _ _) fun _ _ => ?_) | (refine Q4 (EX _ _) fun _ _ => ?_) | (refine Q4 (EV _ _) fun _ _ => ?_) | (refine Q4 (EU _ _) fun _ _ => ?_) | (refine Q4 (EW _) fun _ _ => ?_) | (refine Qf (by omega) (by omega) fun _ _ => ?_) | (simp only [zz, ↓reduceIte]) | (split) | omega | (exfalso; simp only [zl] at *; omega) | (simp_all; done))
theorem ME (x0 : Int) : wp (KZ x0) (fun r => True) := by
 unfold KZ
 repeat' (first | exact trivial | assumption | (intro _) | (refine And.intro ?_ ?_) | (refine Qf (by omega) (by omega) fun _ _ => ?_) | (simp only [zz, ↓reduceIte]) | (split) | omega | (exfalso; simp only [zl] at *; omega) | (simp_all; done))
theorem TD (x0 : Qh) (x2 : Int) : wp (C5 x0 x2) (fun r => True) := by
 unfold C5
 repeat' (first | exact trivial | assumption | (intro _) | (refine And.intro ?_ ?_) | (refine Qf (by omega) (by omega) fun _ _ => ?_) | (simp only [zz, ↓reduceIte]) | (split) | omega | (exfalso; simp only [zl] at *; omega) | (simp_all; done))
theorem TE (x0 : Qh) (x2 : Int) : wp (C6 x0 x2) (fun r => True) := by
 unfold C6
 repeat' (first | exact trivial | assumption | (intro _) | (refine And.intro ?_ ?_) | (refine Qf (by omega) (by omega) fun _ _ => ?_) | (simp only [zz, ↓reduceIte]) | (split) | omega | (exfalso; simp only [zl] at *; omega) | (simp_all; done))
theorem TF (x0 : Qh) (x2 : Int) : wp (C7 x0 x2) (fun r => True) := by
 unfold C7
 repeat' (first | exact trivial | assumption | (intro _) | (refine And.intro ?_ ?_) | (refine Qf (by omega) (by omega) fun _ _ => ?_) | (simp only [zz, ↓reduceIte]) | (split) | omega | (exfalso; simp only [zl] at *; omega) | (simp_all; done))
theorem AY (x : Qh) (k y : Int) (h : k = 0 ∨ k = 1 ∨ k = 2) : wp (Ve x k y) (fun _ => True) := by
 unfold Ve
 rcases h with rfl | rfl | rfl
 ·simp only [if_true]; exact TD _ _
 ·rw [if_neg (by omega)]; simp only [if_true]; exact TE _ _
 ·rw [if_neg (by omega), if_neg (by omega)]; simp only [if_true]; exact TF _ _
theorem MD (x0 : Qh) (x1 : Int) (x2 : Int) : wp (UL x0 x1 x2) (fun r => True) := by
 unfold UL
 repeat' (first | exact trivial | assumption | (intro _) | (refine And.intro ?_ ?_) | (refine Q4 (AY _ _ _ (by omega)) fun _ _ => ?_) | (refine Qf (by omega) (by omega) fun _ _ => ?_) | (simp only [zz, ↓reduceIte]) | (split) | omega | (exfalso; simp only [zl] at *; omega) | (simp_all; done))
theorem PT (x0 : Qh) (x1 : Qh) : wp (Ww x0 x1) (fun r => True) := by
 unfold Ww
 repeat' (first | exact trivial | assumption | (intro _) | (refine And.intro ?_ ?_) | (refine Qf (by omega) (by omega) fun _ _ => ?_) | (simp only [zz, ↓reduceIte]) | (split) | omega | (exfalso; simp only [zl] at *; omega) | (simp_all; done))
theorem TG (x0 : List Qc) (x1 : Str) (hl : x0.length ≤ 1048576)  (x6 : Int) (h0 : 0 ≤ x6) (h1 : x6 ≤ (x0.length : Nat)) : wp (Yo x0 x1 x6) (fun r => True) := by
 refine ZQ (F := fun x6 => Yo x0 x1 x6) (x0.length) ?_ ?_ x6  h0 h1
 ·skip
  rw [Yo]
  repeat' (first | exact trivial | assumption | (intro _) | (refine And.intro ?_ ?_) | (refine Qf (by omega) (by omega) fun _ _ => ?_) | (simp only [zz, ↓reduceIte]) | (split) | omega | (exfalso; simp only [zl] at *; omega) | (simp_all; done))
 ·intro x6  h0 h1 ih
  rw [Yo]
  have hw := QH h0 h1 (by omega)
  have hw2 := QQ (n := x6 - 1) (by omega)
  repeat' (first | exact trivial | assumption | (intro _) | (refine And.intro ?_ ?_) | (exact ih) | (rw [hw]; exact ih) | (refine Qf (by omega) (by omega) fun _ _ => ?_) | (simp only [zz, ↓reduceIte]) | (split) | omega | (exfalso; simp only [zl] at *; omega) | (simp_all; done))
theorem HA (x0 : List Qc) (x1 : Str) (hl : x0.length ≤ 1048576) : wp (Wv x0 x1) (fun r => True) := by
 unfold Wv
 repeat' (first | exact trivial | assumption | (intro _) | (refine And.intro ?_ ?_) | (exact Q4 (TG _ _ hl 0 (by omega) (by omega)) fun r _ => by cases r <;> exact Z4.2 trivial) | (refine Qf (by omega) (by omega) fun _ _ => ?_) | (simp only [zz, ↓reduceIte]) | (split) | omega | (exfalso; simp only [zl] at *; omega) | (simp_all; done))
theorem RD (x0 : gLin) (hx : wLin x0 ≤ 1048576) : wp (DB x0) (fun r => True) := by
 have hx1 := Gz x0
 unfold DB
 repeat' (first | exact trivial | assumption | (intro _) | (refine And.intro ?_ ?_) | (refine Q4 (JY _ hx) fun _ _ => ?_) | (refine Qf (by omega) (by omega) fun _ _ => ?_) | (simp only [zz, ↓reduceIte]) | (split) | omega | (exfalso; simp only [zl] at *; omega) | (simp_all; done))
theorem E8 {ρ : Type} {Q : ρ → Prop} {a b c : Int} {k : Int → Int → Option ρ} (h : ∀ z c, wp (k z c) Q) : wp (mS a b c k) Q := by
 unfold mS
 simp only [zz]
 exact ⟨fun _ => h _ _, fun _ => h _ _⟩
theorem AZ (x y : Qh) : wp (CZ x y) (fun _ => True) :=
 E8 fun _ _ => E8 fun _ _ => E8 fun _ _ => E8 fun _ _ => E8 fun _ _ => E8 fun _ _ => Z4.2 trivial
theorem TC (x1 : List Qc) (x2 : gLin) (hx : wLin x2 ≤ 1048576) (hl : x1.length ≤ 1048576) (x6 : Qh) (x7 : Qh) (x8 : Int) (h0 : 0 ≤ x8) (h1 : x8 ≤ (x2.fL.length : Nat)) : wp (XD x1 x2 x6 x7 x8) (fun r => True) := by
 have hx1 := Gz x2
 refine loopUp2 (F := fun x6 x7 x8 => XD x1 x2 x6 x7 x8) (x2.fL.length) ?_ ?_ x8 x6 x7 h0 h1
 ·intro x6 x7
  rw [XD]
  repeat' (first | exact trivial | assumption | (intro _) | (refine And.intro ?_ ?_) | (refine Q4 (HA _ _ hl) fun _ _ => ?_) | (refine Q4 (ME _) fun _ _ => ?_) | (refine Q4 (MD _ _ _) fun _ _ => ?_) | (refine Qf (by omega) (by omega) fun _ _ => ?_) | (simp only [zz, ↓reduceIte]) | (split) | omega | (exfalso; simp only [zl] at *; omega) | (simp_all; done))
 ·intro x8 x6 x7 h0 h1 ih
  rw [XD]
  have hw := QH h0 h1 (by omega)
  have hw2 := QQ (n := x8 - 1) (by omega)
  repeat' (first | exact trivial | assumption | (intro _) | (refine And.intro ?_ ?_) | (exact ih _ _) | (rw [hw]; exact ih _ _) | (refine Q4 (HA _ _ hl) fun _ _ => ?_) | (refine Q4 (ME _) fun _ _ => ?_) | (refine Q4 (MD _ _ _) fun _ _ => ?_) | (refine Qf (by omega) (by omega) fun _ _ => ?_) | (simp only [zz, ↓reduceIte]) | (split) | omega | (exfalso; simp only [zl] at *; omega) | (simp_all; done))
theorem PS (x0 : gLin) (x1 : List Qc) (hx : wLin x0 ≤ 1048576) (hl : x1.length ≤ 1048576) : wp (De x0 x1) (fun _ => True) := by
 unfold De
 repeat' (first | exact trivial | assumption | (intro _) | (refine And.intro ?_ ?_) | (refine Q4 (RD _ hx) fun _ _ => ?_) | (refine Q4 (ME _) fun _ _ => ?_) | (refine Q4 (MD _ _ _) fun _ _ => ?_) | (refine Q4 (TC _ _ hx hl _ _ 0 (by omega) (by omega)) fun _ _ => ?_) | (refine Q4 (PT _ _) fun _ _ => ?_) | (refine Q4 (AZ _ _) fun _ _ => ?_) | (refine Qf (by omega) (by omega) fun _ _ => ?_) | (simp only [zz, ↓reduceIte]) | (split) | omega | (exfalso; simp only [zl] at *; omega) | (simp_all; done))
end Go.Proofs.YtokfigmmegifeaaGreat
end
section
namespace Go.Proofs.YtokfigmmegifeaaGreat
open Go HY
set_option linter.unusedVariables false
set_option linter.unusedSimpArgs false
section
variable {Q : Q9 → Prop} {x : Q1} (h : okC x)
 include h
theorem SG (k : Int) (n : Nat) (e : k = n) (hk : n < x.fArgs.length) (hq : ∀ a ∈ x.fArgs, isC a.f = Jl x.fOp k → Q a) : wp (ix x.fArgs k) Q := by
 subst e
 refine I7.2 ⟨by omega, by omega, hq _ (List.getElem_mem _) ?_⟩
 exact h.ok n _ (List.getElem?_eq_getElem hk)
theorem E6 (hk : 0 < x.fArgs.length) (hq : ∀ a ∈ x.fArgs, isC a.f = Jl x.fOp 0 → Q a) : wp (ix x.fArgs 0) Q := SG h 0 0 rfl hk hq
theorem E7 (hk : 1 < x.fArgs.length) (hq : ∀ a ∈ x.fArgs, isC a.f = Jl x.fOp 1 → Q a) : wp (ix x.fArgs 1) Q := SG h 1 1 rfl hk hq
theorem wp_arg2 (hk : 2 < x.fArgs.length) (hq : ∀ a ∈ x.fArgs, isC a.f = Jl x.fOp 2 → Q a) : wp (ix x.fArgs 2) Q := SG h 2 2 rfl hk hq
end
theorem TI (s : Str) : wp (Dg [] s) (fun r => r.2 = 9) := by
 unfold Dg Mj
 rw [JR]
 simp only [zz, ↓reduceIte]
 simp [Z4]
theorem F8 (env : List Qc) (x : Q1) (hx : Qn x ≤ 1048576) (hl : env.length ≤ 1048576) : wp (Wz [] env x) (fun _ => True) := by
 obtain ⟨e1, e2, e3, e4, e5, e6, e7⟩ := Zv hx
 unfold Wz
 simp only [zz, ↓reduceIte]
 refine fun _ => And.intro (fun _ => ?_) (fun _ => ?_)
 ·repeat' (first | exact trivial | assumption | (intro _) | (refine And.intro ?_ ?_) | (refine Q4 (PS _ _ e2 hl) fun _ _ => ?_) | (refine Qf (by omega) (by omega) fun _ _ => ?_) | (simp only [zz, ↓reduceIte]) | (split) | omega | (exfalso; simp only [zl] at *; omega) | (simp_all; done))
 ·exact Q4 (TI _) fun r hr h => by rw [hr] at h; exact absurd (by omega) h
theorem SB (env : List Qc) (hl : env.length ≤ 1048576) : ∀ e : Q9, Qn e.f ≤ 1048576 → vE e → (isC e.f = false → wp (Xu [] env e.f) (fun _ => True)) ∧ (isC e.f = true → wp (Xt [] env e.f) (fun _ => True)) := Q9.ind fun x ih h hv => by
 simp only [Q9.f_mk] at h ⊢
 obtain ⟨e1, e2, e3, e4, e5, e6, e7⟩ := Zv h
 cases hv with
 | mk _ v1 v2 v3 v4 =>
 have iv : ∀ a ∈ x.fArgs, isC a.f = false → wp (Xu [] env a.f) (fun _ => True) := fun a ha => (ih a ha (e7 a ha) (v4 a ha)).1
 have ic : ∀ a ∈ x.fArgs, isC a.f = true → wp (Xt [] env a.f) (fun _ => True) := fun a ha => (ih a ha (e7 a ha) (v4 a ha)).2
 constructor
 ·intro hc
  have hnc : x.fOp < 13 ∨ 18 < x.fOp := by unfold isC at hc; simp at hc; omega
  rw [Xu]
  simp only [zz, ↓reduceIte]
  refine And.intro (fun _ => F8 env x h hl) (fun h3 => And.intro (fun h11 => ?_) (fun h11 => ?_))
  ·have hn : x.fArgs.length = 3 := by rw [h11] at v1; simp [We] at v1; omega
   refine E6 v2 (by omega) fun a ha hca => Q4 (ic a ha (by rw [hca, h11]; rfl)) fun r _ => fun _ => And.intro (fun _ => ?_) (fun _ => ?_)
   ·exact E7 v2 (by omega) fun b hb hcb => iv b hb (by rw [hcb, h11]; rfl)
   ·exact wp_arg2 v2 (by omega) fun b hb hcb => iv b hb (by rw [hcb, h11]; rfl)
  ·have hw : ∀ i, Jl x.fOp i = false := fun i => by unfold Jl; simp; omega
   have hn : 1 ≤ x.fArgs.length ∧ (x.fOp ≠ 8 → x.fOp ≠ 12 → x.fArgs.length = 2) := by
    simp only [We] at v1
    repeat' split at v1
    all_goals omega
   refine E6 v2 (by omega) fun a ha hca => Q4 (iv a ha (by rw [hca, hw])) fun r _ => fun _ => And.intro (fun _ => ?_) (fun h12 => ?_)
   ·repeat' (first | exact trivial | assumption | (intro _) | (refine And.intro ?_ ?_) | (refine Q4 (PR _ _ _) fun _ _ => ?_) | (refine Qf (by omega) (by omega) fun _ _ => ?_) | (simp only [zz, ↓reduceIte]) | (split) | omega | (exfalso; simp only [zl] at *; omega) | (simp_all; done))
   ·refine And.intro (fun h8 => ?_) (fun h8 => ?_)
    ·refine E7 v2 (by have := hn.2 (by omega) h12; omega) fun b hb hcb => Q4 (iv b hb (by rw [hcb, hw])) fun r _ => ?_
     repeat' (first | exact trivial | assumption | (intro _) | (refine And.intro ?_ ?_) | (refine Q4 (Iq _ _ _ _) fun _ _ => ?_) | (refine Qf (by omega) (by omega) fun _ _ => ?_) | (simp only [zz, ↓reduceIte]) | (split) | omega | (exfalso; simp only [zl] at *; omega) | (simp_all; done))
    ·repeat' (first | exact trivial | assumption | (intro _) | (refine And.intro ?_ ?_) | (refine Q4 (Iq _ _ _ _) fun _ _ => ?_) | (refine Qf (by omega) (by omega) fun _ _ => ?_) | (simp only [zz, ↓reduceIte]) | (split) | omega | (exfalso; simp only [zl] at *; omega) | (simp_all; done))
 ·intro hc
  have hcc : 13 ≤ x.fOp ∧ x.fOp ≤ 18 := by unfold isC at hc; simpa using hc
  rw [Xt]
  simp only [zz, ↓reduceIte]
  refine And.intro (fun h16 => ?_) (fun h16 => ?_)
  ·have hw : ∀ i, Jl x.fOp i = true := fun i => by unfold Jl; simp; omega
   have hn : 1 ≤ x.fArgs.length ∧ (x.fOp ≠ 18 → x.fArgs.length = 2) := by
    simp only [We] at v1
    repeat' split at v1
    all_goals omega
   refine E6 v2 (by omega) fun a ha hca => Q4 (ic a ha (by rw [hca, hw])) fun r _ => ?_
   repeat' (first | exact trivial | assumption | (intro _) | (refine And.intro ?_ ?_) | ((refine E7 v2 (by have := hn.2 (by assumption); omega) fun b hb hcb => Q4 (ic b hb (by rw [hcb, hw])) fun r _ => ?_)) | (refine Qf (by omega) (by omega) fun _ _ => ?_) | (simp only [zz, ↓reduceIte]) | (split) | omega | (exfalso; simp only [zl] at *; omega) | (simp_all; done))
  ·have hw : ∀ i, Jl x.fOp i = false := fun i => by unfold Jl; simp; omega
   have hn : x.fArgs.length = 2 := by
    simp only [We] at v1
    repeat' split at v1
    all_goals omega
   refine E6 v2 (by omega) fun a ha hca => Q4 (iv a ha (by rw [hca, hw])) fun r _ => fun _ => ?_
   refine E7 v2 (by omega) fun b hb hcb => Q4 (iv b hb (by rw [hcb, hw])) fun r _ => ?_
   repeat' (first | exact trivial | assumption | (intro _) | (refine And.intro ?_ ?_) | (refine Q4 (WV _ _ _) fun _ _ => ?_) | (refine Qf (by omega) (by omega) fun _ _ => ?_) | (simp only [zz, ↓reduceIte]) | (split) | omega | (exfalso; simp only [zl] at *; omega) | (simp_all; done))
theorem HC (env : List Qc) (x : Q1) (hx : Qn x ≤ 1048576) (hl : env.length ≤ 1048576) : wp (GR [] env x) (fun _ => True) := by
 unfold GR
 simp only [zz, ↓reduceIte]
 refine Q4 (MG _ hx) fun r hr h0 => Q4 (Ux _) fun c hc hct => ?_
 exact (SB env hl (.mk x) hx (hr (by simpa using h0))).2 (by rw [← hct, hc]; rfl)
theorem TK : ∀ e : Q9, Qn e.f ≤ 1048576 → wp (KD e.f) (fun _ => True) := Q9.ind fun x ih h => by
 simp only [Q9.f_mk] at h ⊢
 obtain ⟨e1, e2, e3, e4, e5, e6, e7⟩ := Zv h
 have L : wp (Xp x 0) (fun _ => True) := by
  refine ZQ (F := fun i => Xp x i) x.fArgs.length ?_ ?_ 0 (by omega) (by omega)
  ·rw [Xp]; repeat' (first | exact trivial | assumption | (intro _) | (refine And.intro ?_ ?_) | (refine Qf (by omega) (by omega) fun _ _ => ?_) | (simp only [zz, ↓reduceIte]) | (split) | omega | (exfalso; simp only [zl] at *; omega) | (simp_all; done))
  ·intro i h0 h1 ih2
   rw [Xp]
   have hw := QH h0 h1 (by omega)
   repeat' (first | exact trivial | assumption | (intro _) | (refine And.intro ?_ ?_) | (exact ih2) | (rw [hw]; exact ih2) | (refine Q4 (ih _ (by assumption) (e7 _ (by assumption))) fun _ _ => ?_) | (refine Qf (by omega) (by omega) fun _ _ => ?_) | (simp only [zz, ↓reduceIte]) | (split) | omega | (exfalso; simp only [zl] at *; omega) | (simp_all; done))
 rw [KD]
 repeat' (first | exact trivial | assumption | (intro _) | (refine And.intro ?_ ?_) | (refine Q4 (L) fun _ _ => ?_) | (refine Qf (by omega) (by omega) fun _ _ => ?_) | (simp only [zz, ↓reduceIte]) | (split) | omega | (exfalso; simp only [zl] at *; omega) | (simp_all; done))
theorem TH (x0 : List Str) (x1 : Str) (hl : x0.length ≤ 1048576)  (x5 : Int) (h0 : 0 ≤ x5) (h1 : x5 ≤ (x0.length : Nat)) : wp (Yp x0 x1 x5) (fun r => 0 ≤ r ∧ r ≤ x0.length) := by
 refine ZQ (F := fun x5 => Yp x0 x1 x5) (x0.length) ?_ ?_ x5  h0 h1
 ·skip
  rw [Yp]
  repeat' (first | exact trivial | assumption | (intro _) | (refine And.intro ?_ ?_) | (refine Qf (by omega) (by omega) fun _ _ => ?_) | (simp only [zz, ↓reduceIte]) | (split) | omega | (exfalso; simp only [zl] at *; omega) | (simp_all; done))
 ·intro x5  h0 h1 ih
  rw [Yp]
  have hw := QH h0 h1 (by omega)
  have hw2 := QQ (n := x5 - 1) (by omega)
  repeat' (first | exact trivial | assumption | (intro _) | (refine And.intro ?_ ?_) | (exact ih) | (rw [hw]; exact ih) | (refine Qf (by omega) (by omega) fun _ _ => ?_) | (simp only [zz, ↓reduceIte]) | (split) | omega | (exfalso; simp only [zl] at *; omega) | (simp_all; done))
theorem HB (l : List Str) (s : Str) (hl : l.length ≤ 1048576) : wp (Cd l s) (fun r => r.length ≤ l.length + 1) := by
 unfold Cd
 simp only [zz, ↓reduceIte]
 refine Q4 (TH l s hl 0 (by omega) (by omega)) fun k hk => ?_
 have hlen : ((List.take k.toNat l).length : Int) = k := by rw [List.length_take]; omega
 repeat' (first | exact trivial | assumption | (intro _) | (refine And.intro ?_ ?_) | ((simp; omega)) | (refine Qf (by omega) (by omega) fun _ _ => ?_) | (simp only [zz, ↓reduceIte]) | (split) | omega | (exfalso; simp only [zl] at *; omega) | (simp_all; done))
end Go.Proofs.YtokfigmmegifeaaGreat
end
section
namespace Go.Proofs.YtokfigmmegifeaaGreat
open Go HY
set_option linter.unusedVariables false
set_option linter.unusedSimpArgs false
def LP (a : Q9) : Nat := 1 + a.f.fIdx.length
theorem Q0n : ∀ e, wSum LP (Zq e) ≤ Y7 e := Q9.ind fun x ih => by
 have h : ∀ l : List Q9, (∀ a ∈ l, wSum LP (Zq a) ≤ Y7 a) → wSum LP (Vv l) ≤ wSum Y7 l := by
  intro l
  induction l with
  | nil => intro _; simp [Vv, Z6]
  | cons a l ih => intro h; rw [Uq, QP, Cp]; have := h a (by simp); have := ih fun b hb => h b (by simp [hb]); omega
 rw [Ck, Uz, QP]
 have := h _ ih
 unfold Vv at this
 have h2 := Kp (f := wIdx) (l := x.fIdx) M7
 simp only [Q9.f_mk, Qn, LP]; omega
theorem RE (l : List Q9) (i : Int) (i0 : 0 ≤ i) (i1 : i < l.length) (out : List Str) (hb : out.length + (l[i.toNat]'(by omega)).f.fIdx.length ≤ 1048576) : wp (X9 out l i 0) (fun r => r.length ≤ out.length + (l[i.toNat]'(by omega)).f.fIdx.length) := by
 have hi : ix l i = some (l[i.toNat]'(by omega)) := by unfold ix; rw [if_pos i0, List.getElem?_eq_getElem]
 refine Gv (F := fun a k => X9 a l i k) (l[i.toNat]'(by omega)).f.fIdx.length (fun k a => (a.length : Int) ≤ out.length + k) ?_ ?_ 0 out (by omega) (by omega) (by omega)
 ·intro a hI
  rw [X9]
  simp only [hi]
  simp only [zz, ↓reduceIte]
  omega
 ·intro k a h0 h1 hI ih
  rw [X9]
  have hw := QH h0 h1 (by omega)
  simp only [hi]
  simp only [zz, ↓reduceIte]
  refine And.intro (fun _ => ?_) (fun h => absurd h1 h)
  refine Qf h0 h1 fun v hv => And.intro (fun _ => Qf h0 h1 fun v2 hv2 => ?_) (fun _ => ?_)
  ·refine Q4 (HB a _ (by omega)) fun r hr => ?_
   rw [hw]; exact ih _ (by omega)
  ·rw [hw]; exact ih _ (by omega)
theorem F1 (x : Q1) (hx : Qn x ≤ 1048576) : wp (W4 x) (fun r => r.length ≤ 1048576) := by
 have hn := Q0n (.mk x)
 rw [Uz] at hn
 simp only [Q9.f_mk] at hn
 have hl := Ps x
 have L : wp (X8 [] (Zq (.mk x)) 0) (fun r => r.length ≤ 1048576) := by
  refine G9 (F := fun a i => X8 a (Zq (.mk x)) i) (l := Zq (.mk x)) (fun a t => a.length + wSum LP t ≤ 1048576) ?_ ?_ [] (by simp only [List.length_nil]; omega)
  ·intro a hI
   rw [X8]
   simp only [zz, ↓reduceIte]
   omega
  ·intro i v t a h0 h1 hv hix ⟨p, hp, hpi⟩ hI ih
   rw [X8]
   have hw := QH h0 h1 (by omega)
   have hv2 : (Zq (.mk x))[i.toNat]'(by omega) = v := by
    unfold ix at hix; rw [if_pos h0, List.getElem?_eq_getElem (by omega)] at hix; exact Option.some.inj hix
   rw [QP] at hI
   unfold LP at hI
   simp only [hix]
   simp only [zz, ↓reduceIte]
   have key : ∀ o : List Str, o.length ≤ a.length + 1 → wp (X9 o (Zq (.mk x)) i 0) (fun r => wp (X8 r (Zq (.mk x)) (wr (i + 1))) (fun r => r.length ≤ 1048576)) := by
    intro o ho
    refine Q4 (RE (Zq (.mk x)) i h0 h1 o (by rw [hv2]; omega)) fun r hr => ?_
    rw [hw]
    rw [hv2] at hr
    exact ih _ (by unfold LP; omega)
   refine And.intro (fun _ => And.intro (fun _ => ?_) (fun _ => key a (by omega))) (fun h => absurd h1 h)
   exact Q4 (HB a _ (by omega)) fun r hr => key r hr
 unfold W4
 rw [EQ x hx]
 repeat' (first | exact trivial | assumption | (intro _) | (refine And.intro ?_ ?_) | (refine Q4 (L) fun _ _ => ?_) | (refine Qf (by omega) (by omega) fun _ _ => ?_) | (simp only [zz, ↓reduceIte]) | (split) | omega | (exfalso; simp only [zl] at *; omega) | (simp_all; done))
theorem TL : ∀ l : List Q7, wSum QG l ≤ 1048576 → ∀ ns : List Str, ns.length ≤ 1048576 → wp (XG l ns) (fun _ => True) := Cg fun l hl ih ns hns => by
 obtain ⟨e1, e2⟩ := Cw hl
 have L : wp (X1 l ns 0) (fun _ => True) := by
  refine ZQ (F := fun i => X1 l ns i) l.length ?_ ?_ 0 (by omega) (by omega)
  ·rw [X1]; repeat' (first | exact trivial | assumption | (intro _) | (refine And.intro ?_ ?_) | (refine Qf (by omega) (by omega) fun _ _ => ?_) | (simp only [zz, ↓reduceIte]) | (split) | omega | (exfalso; simp only [zl] at *; omega) | (simp_all; done))
  ·intro i h0 h1 ih2
   rw [X1]
   have hw := QH h0 h1 (by omega)
   repeat' (first | exact trivial | assumption | (intro _) | (refine And.intro ?_ ?_) | (exact ih2) | (rw [hw]; exact ih2) | (refine Q4 (ih _ (by assumption) _ hns) fun _ _ => ?_) | (refine Q4 (I0 _ _ hns) fun _ _ => ?_) | (refine Qf (by omega) (by omega) fun _ _ => ?_) | (simp only [zz, ↓reduceIte]) | (split) | omega | (exfalso; simp only [zl] at *; omega) | (simp_all; done))
 rw [XG]
 repeat' (first | exact trivial | assumption | (intro _) | (refine And.intro ?_ ?_) | (refine Q4 (L) fun _ _ => ?_) | (refine Qf (by omega) (by omega) fun _ _ => ?_) | (simp only [zz, ↓reduceIte]) | (split) | omega | (exfalso; simp only [zl] at *; omega) | (simp_all; done))
theorem HF : ∀ l : List Q7, wSum QG l ≤ 1048576 → ∀ (out : List (List Int)) (way : List Int), out.length + wSum QG l ≤ 1048576 → way.length + wSum QG l ≤ 1048576 → wp (X3 out l way) (fun r => r.length ≤ out.length + wSum QG l) := Cg fun l hl ih out way ho hway => by
 obtain ⟨e1, e2⟩ := Cw hl
 have L : wp (Zf out l way 0) (fun r => r.length ≤ out.length + wSum QG l) := by
  refine G9 (F := fun a i => Zf a l way i) (l := l) (fun a t => a.length + wSum QG t ≤ out.length + wSum QG l) ?_ ?_ out (by omega)
  ·intro a hI
   rw [Zf]
   simp only [zz, ↓reduceIte]
   omega
  ·intro i v t a h0 h1 hv hix _ hI ih2
   rw [Zf]
   have hw := QH h0 h1 (by omega)
   have hv1 := YR (f := QG) hv
   have hv2 := Mf v.f
   rw [K6] at hv1
   rw [QP, K6] at hI
   simp only [hix]
   simp only [zz, ↓reduceIte]
   have key : ∀ o : List (List Int), o.length ≤ a.length + 1 → wp (X3 o v.f.fBody ([] ++ way ++ [i])) (fun r => wp (Zf r l way (wr (i + 1))) (fun r => r.length ≤ out.length + wSum QG l)) := by
    intro o ho2
    refine Q4 (ih v hv o ([] ++ way ++ [i]) (by omega) (by simp; omega)) fun r hr => ?_
    rw [hw]
    exact ih2 _ (by omega)
   have k1 := key (a ++ [[] ++ way ++ [i]]) (by simp)
   have k2 := key a (by omega)
   repeat' (first | exact trivial | assumption | (intro _) | (refine And.intro ?_ ?_) | (exact k1) | (exact k2) | (simp only [hix]) | (refine Qf (by omega) (by omega) fun _ _ => ?_) | (simp only [zz, ↓reduceIte]) | (split) | omega | (exfalso; simp only [zl] at *; omega) | (simp_all; done))
 rw [X3]
 repeat' (first | exact trivial | assumption | (intro _) | (refine And.intro ?_ ?_) | (refine Q4 (L) fun _ _ => ?_) | (refine Qf (by omega) (by omega) fun _ _ => ?_) | (simp only [zz, ↓reduceIte]) | (split) | omega | (exfalso; simp only [zl] at *; omega) | (simp_all; done))
theorem SC (l : List Q7) (hl : wSum QG l ≤ 1048576) : wp (VI l) (fun _ => True) := by
 unfold VI
 repeat' (first | exact trivial | assumption | (intro _) | (refine And.intro ?_ ?_) | (refine Q4 (HF l hl [] [] (by simp; omega) (by simp; omega)) fun _ _ => ?_) | (refine Qf (by omega) (by omega) fun _ _ => ?_) | (simp only [zz, ↓reduceIte]) | (split) | omega | (exfalso; simp only [zl] at *; omega) | (simp_all; done))
theorem PX (x0 : Int) (x1 : Int) : wp (Wy x0 x1) (fun r => True) := by
 unfold Wy
 repeat' (first | exact trivial | assumption | (intro _) | (refine And.intro ?_ ?_) | (refine Qf (by omega) (by omega) fun _ _ => ?_) | (simp only [zz, ↓reduceIte]) | (split) | omega | (exfalso; simp only [zl] at *; omega) | (simp_all; done))
theorem Cn (x0 : Int) (x1 : Int) (x2 : Int) : wp (UO x0 x1 x2) (fun r => True) := by
 unfold UO
 repeat' (first | exact trivial | assumption | (intro _) | (refine And.intro ?_ ?_) | (refine Q4 (PX _ _) fun _ _ => ?_) | (refine Qf (by omega) (by omega) fun _ _ => ?_) | (simp only [zz, ↓reduceIte]) | (split) | omega | (exfalso; simp only [zl] at *; omega) | (simp_all; done))
theorem EE (x1 : Int) (x2 : gLin) (hx : wLin x2 ≤ 1048576)  (x7 : Int) (h0 : 0 ≤ x7) (h1 : x7 ≤ (x2.fL.length : Nat)) : wp (Xo x1 x2 x7) (fun r => True) := by
 have hx1 := Gz x2
 refine ZQ (F := fun x7 => Xo x1 x2 x7) (x2.fL.length) ?_ ?_ x7  h0 h1
 ·skip
  rw [Xo]
  repeat' (first | exact trivial | assumption | (intro _) | (refine And.intro ?_ ?_) | (refine Q4 (Cn _ _ _) fun _ _ => ?_) | (refine Qf (by omega) (by omega) fun _ _ => ?_) | (simp only [zz, ↓reduceIte]) | (split) | omega | (exfalso; simp only [zl] at *; omega) | (simp_all; done))
 ·intro x7  h0 h1 ih
  rw [Xo]
  have hw := QH h0 h1 (by omega)
  have hw2 := QQ (n := x7 - 1) (by omega)
  repeat' (first | exact trivial | assumption | (intro _) | (refine And.intro ?_ ?_) | (exact ih) | (rw [hw]; exact ih) | (refine Q4 (Cn _ _ _) fun _ _ => ?_) | (refine Qf (by omega) (by omega) fun _ _ => ?_) | (simp only [zz, ↓reduceIte]) | (split) | omega | (exfalso; simp only [zl] at *; omega) | (simp_all; done))
theorem SA (x0 : gLin) (x1 : Int) (hx : wLin x0 ≤ 1048576) : wp (Df x0 x1) (fun r => True) := by
 have hx1 := Gz x0
 unfold Df
 repeat' (first | exact trivial | assumption | (intro _) | (refine And.intro ?_ ?_) | (refine Q4 (Cn _ _ _) fun _ _ => ?_) | (refine Q4 (EE _ _ hx 0 (by omega) (by omega)) fun _ _ => ?_) | (refine Qf (by omega) (by omega) fun _ _ => ?_) | (simp only [zz, ↓reduceIte]) | (split) | omega | (exfalso; simp only [zl] at *; omega) | (simp_all; done))
theorem AQ (x : gLin) (hx : wLin x ≤ 1048576) : wp (QX x 0) (fun r => (r = .inl () ∧ ∀ m ∈ x.fL, m.fBy ≠ 0) ∨ r = .inr false) := by
 have hx1 := Gz x
 refine G9 (F := fun (_ : Unit) i => QX x i) (l := x.fL) (fun _ t => ∃ p, x.fL = p ++ t ∧ ∀ m ∈ p, m.fBy ≠ 0) ?_ ?_ () ⟨[], rfl, by simp⟩
 ·intro _ ⟨p, hp, hm⟩
  rw [QX]
  simp only [zz, ↓reduceIte]
  rw [hp, List.append_nil]
  exact .inl hm
 ·intro i v t _ h0 h1 hv hix _ ⟨p, hp, hm⟩ ih
  rw [QX]
  have hw := QH h0 h1 (by omega)
  have hw2 := QQ (n := i - 1) (by omega)
  have hgo : v.fBy ≠ 0 → wp (QX x (i + 1)) (fun r => (r = .inl () ∧ ∀ m ∈ x.fL, m.fBy ≠ 0) ∨ r = .inr false) := fun hb => ih () ⟨p ++ [v], by rw [hp]; simp, fun m hm2 => by
   rcases List.mem_append.1 hm2 with h | h
   ·exact hm m h
   ·rw [List.mem_singleton] at h; subst h; exact hb⟩
  simp only [hix]
  repeat' (first | exact trivial | assumption | (intro _) | (refine And.intro ?_ ?_) | (refine Q4 (KN _ (LM hx hv)) fun _ _ => ?_) | ((rw [hw]; exact hgo (by assumption))) | (refine Qf (by omega) (by omega) fun _ _ => ?_) | (simp only [zz, ↓reduceIte]) | (split) | omega | (exfalso; simp only [zl] at *; omega) | (simp_all; done))
theorem Q04 (x : gLin) (hx : wLin x ≤ 1048576) : wp (ZG x) (fun r => r = true → ∀ m ∈ x.fL, m.fBy ≠ 0) := by
 unfold ZG
 simp only [zz, ↓reduceIte]
 refine Q4 (AQ x hx) fun r hr => ?_
 rcases hr with ⟨rfl, h⟩ | rfl
 ·exact Z4.2 fun _ => h
 ·exact Z4.2 fun h => by cases h
end Go.Proofs.YtokfigmmegifeaaGreat
end
section
namespace Go.Proofs.YtokfigmmegifeaaGreat
open Go HY
set_option linter.unusedVariables false
set_option linter.unusedSimpArgs false
theorem Bx (k : Int) (l : List Cy) : wLin (gLin.mk k l) = 1 + wSum KL l := rfl
theorem Q1w (by_ : Int) (a b : gLin) (ha : wLin a ≤ 1048576) (hb : b.fL = []) (hz : ∀ m ∈ a.fL, m.fBy ≠ 0) (c : Bool) (k : Int) : wp (ZY by_ a b c (gLin.mk k []) 0 0) (fun r => wLin r.2 ≤ wLin a) := by
 have ha1 := Gz a
 refine G9 (F := fun (p : Bool × gLin) i => ZY by_ a b p.1 p.2 i 0) (l := a.fL) (fun p t => p.2.fL.length + t.length ≤ a.fL.length ∧ wLin p.2 + wSum KL t ≤ wLin a) ?_ ?_ (c, gLin.mk k []) ⟨by simp, by simp [wLin, Z6]⟩
 ·intro p hI
  rw [ZY]
  simp only [zz, ↓reduceIte]
  rw [hb]
  simp [Z6] at hI ⊢
  omega
 ·intro i v t p h0 h1 hv hix _ hI ih
  rw [ZY]
  have hw := QH h0 h1 (by omega)
  have hvz := hz v hv
  rw [QP, List.length_cons] at hI
  simp only [hb, hix]
  simp only [zz, ↓reduceIte]
  simp only [hix]
  simp only [zz, ↓reduceIte]
  have e0 : ((([] : List Cy).length : Nat) : Int) = 0 := rfl
  refine And.intro (fun _ => ?_) (fun h => absurd h1 h)
  refine And.intro (fun _ => ?_) (fun h => absurd e0.symm h)
  refine And.intro (fun h => absurd h (by simp)) (fun _ => ?_)
  refine And.intro (fun _ => ?_) (fun h => absurd hvz h)
  refine Q4 (Cn _ _ _) fun r _ => ?_
  rw [hw]
  have g1 : ∀ c', wp (ZY by_ a b c' p.2 (i + 1) 0) (fun r => wLin r.2 ≤ wLin a) := fun c' => ih (c', p.2) ⟨by simp only; omega, by simp only; omega⟩
  have g2 : ∀ c', wp (ZY by_ a b c' (gLin.mk p.2.fK (p.2.fL ++ [Cy.mk v.fName r.1])) (i + 1) 0) (fun r => wLin r.2 ≤ wLin a) := fun c' => by
   refine ih (c', _) ⟨by simp only [List.length_append, List.length_singleton]; omega, ?_⟩
   have e1 : KL (Cy.mk v.fName r.1) = KL v := rfl
   have e2 : wLin p.2 = 1 + wSum KL p.2.fL := rfl
   simp only [Bx, Cp, QP, Z6, e1]; omega
  repeat' (first | exact trivial | assumption | (intro _) | (refine And.intro ?_ ?_) | (exact g1 _) | (exact g2 _) | (refine Qf (by omega) (by omega) fun _ _ => ?_) | (simp only [zz, ↓reduceIte]) | (split) | omega | (exfalso; simp only [zl] at *; omega) | (simp_all; done))
theorem OX (a b : gLin) (by_ : Int) (ha : wLin a ≤ 1048576) (hb : b.fL = []) (hz : ∀ m ∈ a.fL, m.fBy ≠ 0) : wp (CL a b by_) (fun r => wLin r.1 ≤ wLin a) := by
 have h1 := L4 a
 have e1 : wLin (gLin.mk 0 []) = 1 := rfl
 unfold CL
 simp only [zz, ↓reduceIte]
 refine Q4 (Cn _ _ _) fun r _ => Q4 (Q1w by_ a b ha hb hz _ _) fun p hp => ?_
 repeat' (first | exact trivial | assumption | (intro _) | (refine And.intro ?_ ?_) | (omega) | (refine Qf (by omega) (by omega) fun _ _ => ?_) | (simp only [zz, ↓reduceIte]) | (split) | omega | (exfalso; simp only [zl] at *; omega) | (simp_all; done))
theorem OT (s : Str) (l : gLin) (hl : wLin l ≤ 1048576) (hz : ∀ m ∈ l.fL, m.fBy ≠ 0) : wp (QT s l 0 (gLin.mk l.fK []) 0) (fun r => wLin r.2 ≤ wLin l ∧ ∀ m ∈ r.2.fL, m.fBy ≠ 0) := by
 have hl1 := Gz l
 refine G9 (F := fun (p : Int × gLin) i => QT s l p.1 p.2 i) (l := l.fL) (fun p t => p.2.fL.length + t.length ≤ l.fL.length ∧ wLin p.2 + wSum KL t ≤ wLin l ∧ ∀ m ∈ p.2.fL, m.fBy ≠ 0) ?_ ?_ (0, gLin.mk l.fK []) ⟨by simp, by simp [wLin, Z6], by simp⟩
 ·intro p hI
  rw [QT]
  simp only [zz, ↓reduceIte]
  simp [Z6] at hI ⊢
  exact ⟨by omega, hI.2.2⟩
 ·intro i v t p h0 h1 hv hix _ hI ih
  rw [QT]
  have hw := QH h0 h1 (by omega)
  rw [QP, List.length_cons] at hI
  have g1 : ∀ c', wp (QT s l c' p.2 (i + 1)) (fun r => wLin r.2 ≤ wLin l ∧ ∀ m ∈ r.2.fL, m.fBy ≠ 0) := fun c' => ih (c', p.2) ⟨by simp only; omega, by simp only; omega, hI.2.2⟩
  have g2 : ∀ c', wp (QT s l c' (gLin.mk p.2.fK (p.2.fL ++ [v])) (i + 1)) (fun r => wLin r.2 ≤ wLin l ∧ ∀ m ∈ r.2.fL, m.fBy ≠ 0) := fun c' => by
   refine ih (c', _) ⟨by simp only [List.length_append, List.length_singleton]; omega, ?_, fun m hm => ?_⟩
   ·have e2 : wLin p.2 = 1 + wSum KL p.2.fL := rfl
    simp only [Bx, Cp, QP, Z6]; omega
   ·rcases List.mem_append.1 hm with h | h
    ·exact hI.2.2 m h
    ·rw [List.mem_singleton] at h; subst h; exact hz _ hv
  simp only [hix, hw]
  simp only [zz, ↓reduceIte]
  rw [hw]
  repeat' (first | exact trivial | assumption | (intro _) | (refine And.intro ?_ ?_) | (exact g1 _) | (exact g2 _) | (refine Qf (by omega) (by omega) fun _ _ => ?_) | (simp only [zz, ↓reduceIte]) | (split) | omega | (exfalso; simp only [zl] at *; omega) | (simp_all; done))
theorem RC (l : gLin) (s : Str) (to : gLin) (hl : wLin l ≤ 1048576) (hs : s.length ≤ 1048576) (ht : wLin to ≤ 1048576) (hto : to.fL = []) : wp (Yy l s to) (fun r => wLin r.1 ≤ wLin l) := by
 have h1 := L4 l
 have e1 : wLin (gLin.mk 0 []) = 1 := rfl
 unfold Yy
 simp only [zz, ↓reduceIte]
 have fin : (∀ m ∈ l.fL, m.fBy ≠ 0) → wp (QT s l 0 (gLin.mk l.fK []) 0) (fun a => (a.1 = 0 → wLin l ≤ wLin l) ∧ (¬a.1 = 0 → wp (Df to a.1) (fun a_1 => (a_1 = true → wp (CL a.2 to a.1) (fun a => wLin a.1 ≤ wLin l)) ∧ (¬a_1 = true → wLin (gLin.mk 0 []) ≤ wLin l)))) := fun hz => by
  refine Q4 (OT s l hl hz) fun p hp => And.intro (fun _ => Nat.le_refl _) (fun _ => ?_)
  refine Q4 (SA to _ ht) fun c _ => And.intro (fun _ => ?_) (fun _ => by omega)
  exact Q4 (OX p.2 to p.1 (by omega) hto hp.2) fun r hr => by omega
 refine Q4 (Q04 l hl) fun b1 hb1 => ?_
 repeat' (first | exact trivial | assumption | (intro _) | (refine And.intro ?_ ?_) | (refine Q4 (JY _ ht) fun _ _ => ?_) | (refine Q4 (KN _ hs) fun _ _ => ?_) | ((have fin := fin (hb1 (by assumption)); simpa using fin)) | (omega) | (refine Qf (by omega) (by omega) fun _ _ => ?_) | (simp only [zz, ↓reduceIte]) | (split) | omega | (exfalso; simp only [zl] at *; omega) | (simp_all; done))
theorem Q06 (x : Q8) (s : Str) (to : gLin) (hx : wIdx x ≤ 1048576) (hs : s.length ≤ 1048576) (ht : wLin to ≤ 1048576) (hto : to.fL = []) : wp (Vt x s to) (fun r => wIdx r.1 ≤ wIdx x) := by
 obtain ⟨i1, i2, i3, i4, i5⟩ := N2 hx
 have hx0 : wIdx x = 1 + wLin x.fLin + x.fFrom.length + wSum wLin x.fAt := rfl
 have h1 := L4 x.fLin
 have e1 : wIdx (Q8.mk (gLin.mk 0 []) [] []) = 2 := rfl
 unfold Vt
 simp only [zz, ↓reduceIte]
 refine Q4 (RC _ s to i2 hs ht hto) fun p hp => And.intro (fun _ => by omega) (fun _ => ?_)
 have L : wp (Z1 s x to (Q8.mk (gLin.mk 0 []) [] []) (Q8.mk p.1 x.fFrom []) 0) (fun r => (∃ q, r = .inl q ∧ wIdx q.2 ≤ wIdx x) ∨ (∃ q, r = .inr q ∧ wIdx q.1 ≤ wIdx x)) := by
  refine G9 (F := fun (q : Q8) i => Z1 s x to (Q8.mk (gLin.mk 0 []) [] []) q i) (l := x.fAt) (fun q t => q.fAt.length + t.length ≤ x.fAt.length ∧ wIdx q + wSum wLin t ≤ wIdx x) ?_ ?_ (Q8.mk p.1 x.fFrom []) ⟨by simp, by simp only [wIdx, Z6]; omega⟩
  ·intro q hI
   rw [Z1]
   simp only [zz, ↓reduceIte]
   rw [Z6] at hI
   exact .inl ⟨_, rfl, by simp only; omega⟩
  ·intro i v t q h0 h1 hv hix _ hI ih
   rw [Z1]
   have hw := QH h0 h1 (by omega)
   rw [QP, List.length_cons] at hI
   simp only [hix, hw]
   simp only [zz, ↓reduceIte]
   refine And.intro (fun _ => ?_) (fun h => absurd h1 h)
   refine Q4 (RC v s to (i5 v hv) hs ht hto) fun r hr => And.intro (fun _ => .inr ⟨_, rfl, by simp only; omega⟩) (fun _ => And.intro (fun _ => ?_) (fun h => absurd (by omega) h))
   refine ih _ ⟨by simp only [List.length_append, List.length_singleton]; omega, ?_⟩
   have e2 : wIdx q = 1 + wLin q.fLin + q.fFrom.length + wSum wLin q.fAt := rfl
   have e3 : wIdx (Q8.mk q.fLin q.fFrom (q.fAt ++ [r.1])) = 1 + wLin q.fLin + q.fFrom.length + wSum wLin (q.fAt ++ [r.1]) := rfl
   rw [e3, Cp, QP, Z6]; omega
 refine Q4 L fun r hr => ?_
 rcases hr with ⟨q, rfl, hq⟩ | ⟨q, rfl, hq⟩
 ·exact Z4.2 hq
 ·exact Z4.2 hq
end Go.Proofs.YtokfigmmegifeaaGreat
end
section
namespace Go.Proofs.YtokfigmmegifeaaGreat
open Go HY
set_option linter.unusedVariables false
set_option linter.unusedSimpArgs false
theorem M6 (x : Q1) : Qn x = 1 + x.fName.length + wLin x.fLin + wSum wIdx x.fIdx + wSum Y7 x.fArgs := rfl
theorem E5 (x : Qa) : QB x = 1 + x.fName.length + wSum wIdx x.fIdx + Qn x.fExpr + wSum QG x.fBody := rfl
abbrev eE : Q1 := QV.mk (0 : Int) [] (gVal.mk (0 : Int) (0 : Int)) (Qg.mk (0 : Int) (0 : Int) (0 : Int) (0 : Int) (0 : Int)) (gLin.mk (0 : Int) []) [] []
theorem wE_e : Qn (QV.mk (0 : Int) [] (gVal.mk (0 : Int) (0 : Int)) (Qg.mk (0 : Int) (0 : Int) (0 : Int) (0 : Int) (0 : Int)) (gLin.mk (0 : Int) []) [] [] : Q1) = 2 := rfl
section
variable (s : Str) (to : gLin) (hs : s.length ≤ 1048576) (ht : wLin to ≤ 1048576) (hto : to.fL = [])
 include hs ht hto
theorem t_Sub0 : ∀ e : Q9, Qn e.f ≤ 1048576 → wp (ZB e.f s to) (fun r => Qn r.1 ≤ Qn e.f) := Q9.ind fun x ih h => by
 simp only [Q9.f_mk] at h ⊢
 obtain ⟨e1, e2, e3, e4, e5, e6, e7⟩ := Zv h
 have hx := M6 x
 have h1 := L4 x.fLin
 have he := wE_e
 have L7 : ∀ l : gLin, wLin l ≤ wLin x.fLin → wp (Zr s x to eE (QV.mk x.fOp x.fName x.fVal x.fType l [] [] : Q1) 0) (fun r => (∃ q, r = .inl q ∧ q.2.fArgs = [] ∧ Qn q.2 + wSum Y7 x.fArgs ≤ Qn x) ∨ (∃ q, r = .inr q ∧ Qn q.1 ≤ Qn x)) := fun l hl => by
  refine G9 (F := fun (q : Q1) i => Zr s x to eE q i) (l := x.fIdx) (fun q t => q.fArgs = [] ∧ q.fIdx.length + t.length ≤ x.fIdx.length ∧ Qn q + wSum wIdx t + wSum Y7 x.fArgs ≤ Qn x) ?_ ?_ _ ⟨rfl, by simp, by simp only [M6, Z6]; omega⟩
  ·intro q hI
   rw [Zr]
   simp only [zz, ↓reduceIte]
   rw [Z6] at hI
   exact .inl ⟨_, rfl, hI.1, by simp only; omega⟩
  ·intro i v t q h0 h1 hv hix _ hI ih2
   rw [Zr]
   have hw := QH h0 h1 (by omega)
   rw [QP, List.length_cons] at hI
   simp only [hix, hw]
   simp only [zz, ↓reduceIte]
   refine And.intro (fun _ => ?_) (fun h => absurd h1 h)
   refine Q4 (Q06 v s to (e5 v hv) hs ht hto) fun r hr => And.intro (fun _ => .inr ⟨_, rfl, by simp only; omega⟩) (fun _ => And.intro (fun _ => ?_) (fun h => absurd (by omega) h))
   refine ih2 _ ⟨hI.1, by simp only [List.length_append, List.length_singleton]; omega, ?_⟩
   have e2 := M6 q
   simp only [M6, Cp, QP, Z6]; omega
 have L14 : ∀ q0 y : Q1, q0.fArgs = [] → Qn q0 + wSum Y7 x.fArgs ≤ Qn x → wp (Zk s x to y q0 0) (fun r => (∃ q, r = .inl q ∧ Qn q.2 ≤ Qn x) ∨ (∃ q, r = .inr q ∧ Qn q.1 ≤ Qn x)) := fun q0 y hq0 hw0 => by
  refine G9 (F := fun (q : Q1) i => Zk s x to y q i) (l := x.fArgs) (fun q t => q.fArgs.length + t.length ≤ x.fArgs.length ∧ Qn q + wSum Y7 t ≤ Qn x) ?_ ?_ _ ⟨by rw [hq0]; simp, hw0⟩
  ·intro q hI
   rw [Zk]
   simp only [zz, ↓reduceIte]
   rw [Z6] at hI
   exact .inl ⟨_, rfl, by simp only; omega⟩
  ·intro i v t q h0 h1 hv hix _ hI ih2
   rw [Zk]
   have hw := QH h0 h1 (by omega)
   rw [QP, List.length_cons, Uz] at hI
   simp only [hix, hw]
   simp only [zz, ↓reduceIte]
   refine And.intro (fun _ => ?_) (fun h => absurd h1 h)
   refine Q4 (ih v hv (e7 v hv)) fun r hr => And.intro (fun _ => .inr ⟨_, rfl, by have := wE_e; simp only; omega⟩) (fun _ => And.intro (fun _ => ?_) (fun h => absurd (by omega) h))
   refine ih2 _ ⟨by simp only [List.length_append, List.length_singleton]; omega, ?_⟩
   have e3 : Y7 (Q9.mk r.1) = Qn r.1 := Uz _
   have e4 : Qn (QV.mk q.fOp q.fName q.fVal q.fType q.fLin q.fIdx (q.fArgs ++ [Q9.mk r.1]) : Q1) = Qn q + Y7 (Q9.mk r.1) := by rw [M6, M6 q]; simp only [Cp, QP, Z6]; omega
   simp only [e4]
   omega
 rw [ZB]
 simp only [zz, ↓reduceIte]
 refine Q4 (RC _ s to e2 hs ht hto) fun p hp => And.intro (fun _ => by have := wE_e; omega) (fun _ => ?_)
 refine Q4 (L7 p.1 hp) fun r hr => ?_
 rcases hr with ⟨q, rfl, hq0, hq⟩ | ⟨q, rfl, hq⟩
 ·simp only [zz, ↓reduceIte]
  refine Q4 (L14 q.2 q.1 hq0 hq) fun r hr => ?_
  rcases hr with ⟨q, rfl, hq⟩ | ⟨q, rfl, hq⟩
  ·exact Z4.2 hq
  ·exact Z4.2 hq
 ·exact Z4.2 hq
theorem t_Sub (x : Q1) (h : Qn x ≤ 1048576) : wp (ZB x s to) (fun r => Qn r.1 ≤ Qn x) := t_Sub0 s to hs ht hto (.mk x) h
theorem t_SubL : ∀ l : List Q7, wSum QG l ≤ 1048576 → wp (XL l s to) (fun r => wSum QG r.1 ≤ wSum QG l ∧ (r.2 = 0 → r.1.map (fun a => a.f.fOp) = l.map (fun a => a.f.fOp))) := Cg fun l hl ih => by
 obtain ⟨e1, e2⟩ := Cw hl
 have L : wp (Zs l s to [] 0) (fun r => (∃ q, r = .inl q ∧ wSum QG q ≤ wSum QG l ∧ q.map (fun a => a.f.fOp) = l.map (fun a => a.f.fOp)) ∨ (∃ q, r = .inr q ∧ q.1 = [] ∧ q.2 ≠ 0)) := by
  refine G9 (F := fun (q : List Q7) i => Zs l s to q i) (l := l) (fun q t => q.length + t.length ≤ l.length ∧ wSum QG q + wSum QG t ≤ wSum QG l ∧ ∃ p, l = p ++ t ∧ q.map (fun a => a.f.fOp) = p.map (fun a => a.f.fOp)) ?_ ?_ [] ⟨by simp, by simp [Z6], [], rfl, rfl⟩
  ·intro q ⟨h1, h2, p, hp, hq⟩
   rw [Zs]
   rw [List.append_nil] at hp
   simp only [zz, ↓reduceIte]
   rw [Z6] at h2
   exact .inl ⟨q, rfl, by omega, by rw [hp]; exact hq⟩
  ·intro i v t q h0 h1 hv hix _ ⟨k1, k2, p, hp, hq⟩ ih2
   rw [Zs]
   have hw := QH h0 h1 (by omega)
   rw [QP, K6] at k2
   rw [List.length_cons] at k1
   obtain ⟨s1, s2, s3, s4, s5, s6, s7⟩ := G8 (e2 v hv)
   have hv0 := E5 v.f
   simp only [hix, hw]
   simp only [zz, ↓reduceIte]
   refine And.intro (fun _ => ?_) (fun h => absurd h1 h)
   refine Q4 (t_Sub s to hs ht hto _ (W_idx (e2 v hv) (Nat.zero_le _))) fun r1 hr1 => And.intro (fun h => .inr ⟨_, rfl, rfl, h⟩) (fun _ => ?_)
   refine Q4 (t_Sub s to hs ht hto _ s2) fun r2 hr2 => And.intro (fun h => .inr ⟨_, rfl, rfl, h⟩) (fun _ => ?_)
   refine Q4 (ih v hv) fun r3 hr3 => And.intro (fun h => .inr ⟨_, rfl, rfl, h⟩) (fun h3 => And.intro (fun _ => ?_) (fun h => absurd (by omega) h))
   have hr1' := M6 r1.1
   have hl1 := L4 r1.1.fLin
   have k3 : Qn (QV.mk (3 : Int) [] (gVal.mk (0 : Int) (0 : Int)) (Qg.mk (0 : Int) (0 : Int) (0 : Int) (0 : Int) (0 : Int)) (gLin.mk (0 : Int) []) v.f.fIdx [] : Q1) = 2 + wSum wIdx v.f.fIdx := by rw [M6]; simp only [Z6, List.length_nil, wLin]; omega
   rw [k3] at hr1
   refine ih2 _ ⟨by simp only [List.length_append, List.length_singleton]; omega, ?_, p ++ [v], by rw [hp]; simp, by rw [List.map_append, List.map_append, hq]; rfl⟩
   have e5 : QG (Q7.mk (Xh.mk v.f.fOp v.f.fName v.f.fMany v.f.fMark v.f.fFold r1.1.fIdx r2.1 r3.1)) = 1 + v.f.fName.length + wSum wIdx r1.1.fIdx + Qn r2.1 + wSum QG r3.1 := K6 _
   rw [Cp, QP, Z6, e5]
   omega
 rw [XL]
 simp only [zz, ↓reduceIte]
 refine Q4 L fun r hr => ?_
 rcases hr with ⟨q, rfl, h1, h2⟩ | ⟨q, rfl, h1, h2⟩
 ·exact Z4.2 ⟨h1, fun _ => h2⟩
 ·exact Z4.2 ⟨by simp [h1, Z6], fun h => absurd h h2⟩
end
theorem MI (x : Qa) (env : List Qc) (hx : QB x ≤ 1048576) (hl : env.length ≤ 1048576) (hn : ∀ b ∈ env, b.fName.length ≤ 1048576) : wp (UQ x env) (fun r => r.2 = 0 → QB r.1 ≤ QB x ∧ r.1.fOp = x.fOp) := by
 have L : ∀ y : Qa, wp (ZM env y [.mk x] 0) (fun r => (∃ q, r = .inl q ∧ ∃ z : Q7, q.2 = [z] ∧ QB z.f ≤ QB x ∧ z.f.fOp = x.fOp) ∨ ∃ q, r = .inr q ∧ q.2 ≠ 0) := fun y => by
  refine G9 (F := fun (q : List Q7) i => ZM env y q i) (l := env) (fun q t => ∃ z : Q7, q = [z] ∧ QB z.f ≤ QB x ∧ z.f.fOp = x.fOp) ?_ ?_ [.mk x] ⟨_, rfl, Nat.le_refl _, rfl⟩
  ·intro q ⟨z, hz⟩
   rw [ZM]
   simp only [zz, ↓reduceIte]
   exact .inl ⟨_, rfl, z, hz⟩
  ·intro i v t q h0 h1 hv hix _ ⟨z, hz, hzw, hzo⟩ ih2
   rw [ZM]
   have hw := QH h0 h1 (by omega)
   subst hz
   simp only [hix, hw]
   simp only [zz, ↓reduceIte]
   refine And.intro (fun _ => ?_) (fun h => absurd h1 h)
   refine Q4 (t_SubL v.fName (gLin.mk v.fVal []) (hn v hv) (by simp [wLin, Z6]) rfl [z] (by rw [QP, Z6, K6]; omega)) fun r hr => And.intro (fun h => .inr ⟨_, rfl, h⟩) (fun h => ?_)
   have h2 := hr.2 (by simpa using h)
   obtain ⟨z', hz'⟩ : ∃ z', r.1 = [z'] := by
    have hlen := congrArg List.length h2
    simp at hlen
    exact List.length_eq_one_iff.1 hlen
   refine ih2 _ ⟨z', hz', ?_, ?_⟩
   ·have := hr.1
    simp only [hz', QP, Z6, K6] at this
    omega
   ·rw [hz'] at h2
    simp at h2
    rw [h2]; exact hzo
 unfold UQ
 simp only [zz, ↓reduceIte]
 refine Q4 (L _) fun r hr => ?_
 rcases hr with ⟨q, rfl, z, hz, h1, h2⟩ | ⟨q, rfl, hq⟩
 ·simp only [zz, ↓reduceIte]
  rw [hz]
  refine I7.2 ⟨by omega, by simp, ?_⟩
  simp [h1, h2]
 ·exact Z4.2 fun h => absurd h hq
end Go.Proofs.YtokfigmmegifeaaGreat
end
section
namespace Go.Proofs.YtokfigmmegifeaaGreat
open Go HY
set_option linter.unusedVariables false
set_option linter.unusedSimpArgs false
def cd : Q7 → Nat
 | .mk x => if x.fOp = 4 ∧ x.fBody.length = 1 then 1 + maxL (x.fBody.attach.map fun a => cd a.1) else 0
 termination_by e => SizeOf.sizeOf e
 decreasing_by exact Q7.lt a.2
theorem cd_mk (x : Qa) : cd (.mk x) = if x.fOp = 4 ∧ x.fBody.length = 1 then 1 + maxL (x.fBody.map cd) else 0 := by rw [cd]; simp
theorem cd_if (x : Qa) (s : Q7) (h : x.fOp = 4) (hb : x.fBody = [s]) : cd (.mk x) = 1 + cd s := by
 rw [cd_mk, hb, if_pos ⟨h, rfl⟩]
 simp [maxL]
theorem cd_no (x : Qa) (h : x.fOp ≠ 4) : cd (.mk x) = 0 := by rw [cd_mk, if_neg (fun k => h k.1)]
def wC1 (c : Q9) : Nat := 1 + Qn c.f
def wC (l : List Q9) : Nat := wSum wC1 l
theorem TN : wC [] = 0 := rfl
theorem Wp (c : Q9) (l : List Q9) : wC (c :: l) = (1 + Qn c.f) + wC l := QP (f := wC1)
theorem wC_app (l m : List Q9) : wC (l ++ m) = wC l + wC m := Cp (f := wC1)
theorem wC_mem {c : Q9} {l : List Q9} (h : c ∈ l) : 1 + Qn c.f ≤ wC l := by
 have := YR (f := wC1) h
 exact this
theorem wC_set : ∀ (l : List Q9) (i : Nat) (c : Q9) (h : i < l.length), Qn c.f ≤ Qn (l[i]).f → wC (l.set i c) ≤ wC l
 | [], i, c, h, _ => by simp at h
 | a :: l, 0, c, h, hc => by
  rw [List.set_cons_zero, Wp, Wp]
  have : Qn c.f ≤ Qn a.f := hc
  omega
 | a :: l, i + 1, c, h, hc => by
  rw [List.set_cons_succ, Wp, Wp]
  have := wC_set l i c (by simpa using h) (by simpa using hc)
  omega
theorem Bv : ∀ (l : List Q9) (k : Nat) (h : k < l.length), wC (l.take (k + 1)) = wC (l.take k) + (1 + Qn (l[k]).f)
 | [], k, h => by simp at h
 | a :: l, 0, h => by simp [Wp, TN]
 | a :: l, k + 1, h => by
  rw [List.take_succ_cons, List.take_succ_cons, Wp, Wp, Bv l k (by simpa using h)]
  simp only [List.getElem_cons_succ]; omega
structure okSt (s : Q2) : Prop where
 len : s.fL.length ≤ 2048
 all : ∀ x ∈ s.fL, cd (.mk x.fOp) ≤ 40 ∧ QB x.fOp ≤ 1048576
theorem NG (a b : Int) : okSt (Q2.mk [] a b) := ⟨by simp, by simp⟩
theorem R0 (l : List Q9) (hl : l.length ≤ 1048576) : ∀ (k : Nat), k ≤ l.length → ∀ op : Qa, wp (Yh l op ((k : Int) - 1)) (fun r => cd (.mk r) ≤ cd (.mk op) + k ∧ QB r ≤ QB op + wC (l.take k))
 | 0, _, op => by
  rw [Yh]
  simp only [zz, ↓reduceIte]
  refine And.intro (fun h => by omega) (fun _ => by simp [TN])
 | k + 1, hk, op => by
  rw [Yh]
  have e : ((k + 1 : Nat) : Int) - 1 = (k : Int) := by omega
  rw [e, QQ (n := (k : Int) - 1) (by omega)]
  simp only [zz, ↓reduceIte]
  refine And.intro (fun _ => I7.2 ⟨by omega, by omega, ?_⟩) (fun h => absurd (by omega) h)
  refine Q4 (R0 l hl k (by omega) _) fun r hr => ?_
  have e2 : ∀ y : Q1, cd (.mk (Xh.mk (4 : Int) [] (0 : Int) (0 : Int) (0 : Int) [] y [Q7.mk op])) = 1 + cd (.mk op) := fun y => cd_if _ _ rfl rfl
  have e3 := Bv l k (by omega)
  rw [e2] at hr
  have e4 : ∀ y : Q1, QB (Xh.mk (4 : Int) [] (0 : Int) (0 : Int) (0 : Int) [] y [Q7.mk op]) = 1 + Qn y + QB op := fun y => by
   rw [E5]; simp only [Z6, QP, List.length_nil, K6, Q7.f_mk]; omega
  rw [e4] at hr
  simp only [Int.toNat_natCast] at hr
  omega
theorem B0 (env : List Qc) (x : Qz) (hl : env.length ≤ 1048576) (h0 : x.fAt = []) : wp (Xq env x 0) (fun r => r.fOp = x.fOp) := by
 refine Gv (F := fun q i => Xq env q i) env.length (fun i q => (q.fAt.length : Int) ≤ i ∧ q.fOp = x.fOp) ?_ ?_ 0 x (by omega) (by omega) ⟨by rw [h0]; simp, rfl⟩
 ·intro q hI
  rw [Xq]
  simp only [zz, ↓reduceIte]
  exact hI.2
 ·intro i q h0 h1 hI ih
  rw [Xq]
  have hw := QH h0 h1 (by omega)
  simp only [zz, ↓reduceIte]
  refine And.intro (fun _ => Qf h0 h1 fun v _ => And.intro (fun _ => ?_) (fun h => absurd (by omega) h)) (fun h => absurd h1 h)
  rw [hw]
  exact ih _ ⟨by simp only [List.length_append, List.length_singleton]; omega, hI.2⟩
theorem Q07 (env : List Qc) (conds : List Q9) (s0 : Q2) (hl : env.length ≤ 1048576) (hn : ∀ b ∈ env, b.fName.length ≤ 1048576) (hc : conds.length ≤ 40) (hw : wC conds ≤ 1048576) (h0 : okSt s0) : wp (Y4 env conds s0 0) (fun r => (∃ p, r = .inl p ∧ p.1.length = conds.length ∧ p.2 = s0 ∧ wC p.1 ≤ wC conds) ∨ ∃ p, r = .inr p ∧ okSt p) := by
 refine Gv (F := fun a i => Y4 env a s0 i) conds.length (fun _ a => a.length = conds.length ∧ wC a ≤ wC conds) ?_ ?_ 0 conds (by omega) (by omega) ⟨rfl, Nat.le_refl _⟩
 ·intro a hI
  rw [Y4]
  rw [if_neg (by omega)]
  exact Z4.2 (.inl ⟨_, rfl, hI.1, rfl, hI.2⟩)
 ·intro i a h0 h1 hI ih
  rw [Y4]
  have hw' := QH h0 h1 (by omega)
  have hil : i.toNat < a.length := by omega
  simp only [zz, ↓reduceIte]
  refine And.intro (fun _ => And.intro (fun _ => ?_) (fun h => absurd (by omega) h)) (fun h => absurd (by omega) h)
  refine wp_get.2 ⟨hil, ?_⟩
  have hv := wC_mem (List.getElem_mem hil)
  have hv2 := M6 (a[i.toNat]'hil).f
  refine Q4 (MI _ env ?_ hl hn) fun r hr => And.intro (fun _ => .inr ⟨_, rfl, NG _ _⟩) (fun h => ?_)
  ·rw [E5]; simp only [Z6, List.length_nil]; omega
  have hr := (hr (by simpa using h)).1
  rw [E5, E5] at hr
  simp only [Z6, List.length_nil] at hr
  refine And.intro (fun _ => And.intro (fun _ => ?_) (fun h => absurd hil h)) (fun h => absurd (by omega) h)
  rw [hw']
  exact ih _ ⟨by simp [hI.1], Nat.le_trans (wC_set a i.toNat _ hil (by simp only [Q9.f_mk]; omega)) hI.2⟩
theorem Fc (s : Q2) (x : Qa) (num : Int) (env : List Qc) (conds : List Q9) (hs : okSt s) (hx : QB x ≤ 1048576) (hl : env.length ≤ 1048576) (hn : ∀ b ∈ env, b.fName.length ≤ 1048576) (hc : conds.length ≤ 40) (hw : wC conds + QB x ≤ 1048576) (hop : x.fOp ≠ 4) : wp (Wa s x num env conds) okSt := by
 unfold Wa
 simp only [zz, ↓reduceIte]
 refine Q4 (MI x env hx hl hn) fun r hr => And.intro (fun _ => NG _ _) (fun h => ?_)
 have hr := hr (by simpa using h)
 refine Q4 (Q07 env conds _ hl hn hc (by omega) (NG _ _)) fun p hp => ?_
 rcases hp with ⟨p, rfl, hp1, hp2, hp3⟩ | ⟨p, rfl, hp⟩
 ·simp only [zz, ↓reduceIte]
  have e : wr ((p.1.length : Int) - 1) = (p.1.length : Int) - 1 := QQ (by omega)
  rw [e]
  refine Q4 (R0 p.1 (by omega) p.1.length (Nat.le_refl _) r.1) fun q hq => ?_
  rw [cd_no r.1 (by rw [hr.2]; exact hop), List.take_length] at hq
  refine Q4 (B0 env _ hl rfl) fun y hy => And.intro (fun _ => NG _ _) (fun h => And.intro (fun _ => ?_) (fun h => absurd (by have := hs.len; omega) h))
  refine ⟨by simp only [List.length_append, List.length_singleton]; omega, fun z hz => ?_⟩
  rcases List.mem_append.1 hz with hz | hz
  ·exact hs.all z hz
  ·rw [List.mem_singleton] at hz
   subst hz
   rw [hy]
   show cd (.mk q) ≤ 40 ∧ QB q ≤ 1048576
   omega
 ·exact Z4.2 hp
theorem Q1v {l : List Q7} {i : Int} (h0 : 0 ≤ i) (h1 : i < l.length) (hl : wSum QG l ≤ 1048576) : wSum QG (List.drop i.toNat (List.take (i + 1).toNat l)) ≤ 1048576 :=
 Nat.le_trans (Q1z ((List.drop_sublist _ _).trans (List.take_sublist _ _))) hl
theorem O4 : ∀ l : List Q7, wSum QG l ≤ 1048576 → (∀ a ∈ l, vS a) → ∀ (s : Q2) (num : Int) (env : List Qc) (conds : List Q9), okSt s → env.length + wSum QG l ≤ 1048576 → (∀ b ∈ env, b.fName.length ≤ 1048576) → conds.length + dpL l ≤ 40 → wC conds + wSum QG l ≤ 1048576 → wp (Y8 s l num env conds) okSt := Cg (P := fun l => (∀ a ∈ l, vS a) → ∀ (s : Q2) (num : Int) (env : List Qc) (conds : List Q9), okSt s → env.length + wSum QG l ≤ 1048576 → (∀ b ∈ env, b.fName.length ≤ 1048576) → conds.length + dpL l ≤ 40 → wC conds + wSum QG l ≤ 1048576 → wp (Y8 s l num env conds) okSt) fun l hl ih hv s num env conds hs hE hN hC hW => by
 obtain ⟨e1, e2⟩ := Cw hl
 have L : wp (Zt l num env conds s (Q2.mk [] 0 0) 0) (fun r => (∃ p, r = .inl p ∧ okSt p.1) ∨ ∃ p, r = .inr p ∧ okSt p.2) := by
  refine G9 (F := fun (q : Int × Q2 × Q2) i => Zt l q.1 env conds q.2.1 q.2.2 i) (l := l) (fun q _ => okSt q.2.1) ?_ ?_ (num, s, Q2.mk [] 0 0) hs
  ·intro q hI
   rw [Zt]
   simp only [zz, ↓reduceIte]
   exact .inl ⟨_, rfl, hI⟩
  ·intro i v t q h0 h1 hvm hix _ hI ih2
   rw [Zt]
   have hw := QH h0 h1 (by omega)
   obtain ⟨s1, s2, s3, s4, s5, s6, s7⟩ := G8 (e2 v hvm)
   have hv1 := YR (f := QG) hvm
   rw [K6] at hv1
   have hv2 := Mf v.f
   have hv3 := By v.f
   have hv5 := E5 v.f
   have hv4 := dpL_mem hvm
   rw [dp_f] at hv4
   have hvS := hv v hvm
   have hve : v = .mk v.f := (Q7.mk_f v).symm
   rw [hve] at hvS
   cases hvS with
   | mk _ k1 k2 k3 =>
   have hg : ∀ c s10 (st : Q2), okSt st → wp (Zt l c env conds st s10 (i + 1)) (fun r => (∃ p, r = .inl p ∧ okSt p.1) ∨ ∃ p, r = .inr p ∧ okSt p.2) := fun c s10 st hst => ih2 (c, st, s10) hst
   have hsm := Q1v h0 h1 hl
   simp only [hix, hw]
   simp only [zz, ↓reduceIte]
   simp only [hix, hw]
   simp only [zz, ↓reduceIte]
   refine And.intro (fun _ => And.intro (fun _ => ?_) (fun _ => .inl ⟨_, rfl, hI⟩)) (fun h => absurd h1 h)
   have tail : ∀ (s10 st : Q2), okSt st → ∀ Q', (∀ r, ((∃ p, r = .inl p ∧ okSt p.1) ∨ ∃ p, r = .inr p ∧ okSt p.2) → Q' r) → wp (VI (List.drop i.toNat (List.take (i + 1).toNat l))) (fun a => wp (Zt l (wr (q.1 + a)) env conds st s10 (i + 1)) Q') := fun s10 st hst Q' hQ =>
    Q4 (SC _ hsm) fun a _ => Q4 (hg _ _ _ hst) hQ
   refine And.intro (fun hf => ?_) (fun hf => And.intro (fun hc4 => ?_) (fun hc4 => ?_))
   ·
    have W : wp (Xe q.1 env conds q.2.1 q.2.2 v.f 0) (fun r => (∃ p, r = .inl p ∧ okSt p.1) ∨ ∃ p, r = .inr p ∧ okSt p.2) := by
     have hm := k1 hf
     have at_end : ∀ (st : Q2) (i : Int), okSt st → ¬ i < v.f.fMany → wp (Xe q.1 env conds st q.2.2 v.f i) (fun r => (∃ p, r = .inl p ∧ okSt p.1) ∨ ∃ p, r = .inr p ∧ okSt p.2) := fun st i hst hi => by
      rw [Xe]
      simp only [zz, ↓reduceIte]
      simp only [hi]
      simp only [zz, ↓reduceIte]
      exact .inl ⟨_, rfl, hst⟩
     refine Gv (F := fun st i => Xe q.1 env conds st q.2.2 v.f i) v.f.fMany.toNat (fun _ st => okSt st) ?_ ?_ 0 q.2.1 (by omega) (by omega) hI
     ·intro st hst
      exact at_end st _ hst (by omega)
     ·intro k st g0 g1 hst ih3
      rw [Xe]
      have hwk : wr (k + 1) = k + 1 := QQ (by omega)
      have hkm : k < v.f.fMany := by omega
      simp only [zz, ↓reduceIte]
      simp only [hwk]
      refine And.intro (fun _ => And.intro (fun _ => And.intro (fun _ => .inr ⟨_, rfl, NG _ _⟩) (fun _ => ?_)) (fun _ => .inl ⟨_, rfl, hst⟩)) (fun h => absurd hkm h)
      refine And.intro (fun _ => And.intro (fun _ => And.intro (fun _ => ?_) (fun h => absurd (by simp) h)) (fun h => absurd (by simp; omega) h)) (fun h => absurd (by omega) h)
      refine Q4 (ih v hvm k3 _ _ _ _ ⟨hst.len, hst.all⟩ (by simp; omega) (fun b hb => ?_) (by omega) (by omega)) fun st' hst' => ih3 st' hst'
      simp only [List.nil_append, List.mem_append, List.mem_singleton] at hb
      rcases hb with hb | rfl
      ·exact hN b hb
      ·exact s1
    refine Q4 W fun r hr => ?_
    rcases hr with ⟨p, rfl, hp⟩ | ⟨p, rfl, hp⟩
    ·simp only [zz, ↓reduceIte]
     refine And.intro (fun _ => ?_) (fun h => absurd ⟨h0, by omega, by omega⟩ h)
     exact tail _ _ hp _ fun _ h => h
    ·exact Z4.2 (.inr ⟨_, rfl, hp⟩)
   ·
    have B : wp (Dh q.2.1 v.f q.1 env conds) okSt := by
     rw [Dh]
     simp only [zz, ↓reduceIte]
     refine Q4 (TK (.mk v.f.fExpr) s2) fun b _ => And.intro (fun _ => ?_) (fun _ => ?_)
     ·refine Q4 (HC env _ s2 (by omega)) fun c _ => And.intro (fun _ => NG _ _) (fun _ => And.intro (fun _ => ?_) (fun _ => hI))
      exact ih v hvm k3 _ _ _ _ hI (by omega) hN (by omega) (by omega)
     ·refine And.intro (fun _ => And.intro (fun _ => And.intro (fun _ => ?_) (fun h => absurd (by simp) h)) (fun h => absurd (by simp; omega) h)) (fun h => absurd (by omega) h)
      refine Q4 (ih v hvm k3 _ _ _ _ hI (by omega) hN (by simp; omega) ?_) fun st hst => ?_
      ·rw [List.nil_append, wC_app, Wp, TN]
       simp only [Q9.f_mk]; omega
      ·repeat' (first | exact trivial | assumption | (intro _) | (refine And.intro ?_ ?_) | (refine Q4 (F1 _ s2) fun _ _ => ?_) | (refine Q4 (TL _ s6 _ (by assumption)) fun _ _ => ?_) | (exact NG _ _) | (exact hst) | (refine Qf (by omega) (by omega) fun _ _ => ?_) | (simp only [zz, ↓reduceIte]) | (split) | omega | (exfalso; simp only [zl] at *; omega) | (simp_all; done))
    refine Q4 B fun st hst => And.intro (fun _ => tail _ _ hst _ fun _ h => h) (fun h => absurd ⟨h0, by omega, by omega⟩ h)
   ·
    refine And.intro (fun _ => ?_) (fun h => absurd (by omega) h)
    refine Q4 (Fc _ v.f _ env ([] ++ conds) hI (e2 v hvm) (by omega) hN (by simp; omega) (by simp only [List.nil_append]; omega) hc4) fun st hst => And.intro (fun _ => tail _ _ hst _ fun _ h => h) (fun h => absurd ⟨h0, by omega, by omega⟩ h)
 rw [Y8]
 simp only [zz, ↓reduceIte]
 refine Q4 L fun r hr => ?_
 rcases hr with ⟨p, rfl, hp⟩ | ⟨p, rfl, hp⟩
 ·exact Z4.2 hp
 ·exact Z4.2 hp
theorem NV (n : Qb) (h : JZ n ≤ 1048576) : wp (Uc n) (fun r => r.1.length ≤ 2048 ∧ ∀ x ∈ r.1, cd (.mk x.fOp) ≤ 40 ∧ QB x.fOp ≤ 1048576) := by
 have hn : JZ n = 1 + wSum wBuf n.fBufs + wSum QG n.fBody := rfl
 unfold Uc
 simp only [zz, ↓reduceIte]
 refine Q4 (RJ n h) fun r hr => And.intro (fun _ => by simp) (fun h0 => ?_)
 have hr := hr (by simpa using h0)
 refine Q4 (O4 n.fBody (by omega) hr.1 _ 0 [] [] (NG _ _) (by simp; omega) (by simp) (by simp; omega) (by rw [TN]; omega)) fun s hs => And.intro (fun _ => by simp) (fun _ => ⟨hs.len, hs.all⟩)
theorem SD (n : Qb) (m : Int) (h : JZ n ≤ 1048576) : wp (Cv n m) (fun _ => True) := by
 have hn : JZ n = 1 + wSum wBuf n.fBufs + wSum QG n.fBody := rfl
 unfold Cv
 repeat' (first | exact trivial | assumption | (intro _) | (refine And.intro ?_ ?_) | (refine Q4 (EB _ (by omega) _) fun _ _ => ?_) | (refine Q4 (NV _ h) fun _ _ => ?_) | (refine Qf (by omega) (by omega) fun _ _ => ?_) | (simp only [zz, ↓reduceIte]) | (split) | omega | (exfalso; simp only [zl] at *; omega) | (simp_all; done))
theorem OZ (n : Qb) (h : JZ n ≤ 1048576) : wp (Np n) (fun _ => True) := by
 unfold Np
 repeat' (first | exact trivial | assumption | (intro _) | (refine And.intro ?_ ?_) | (refine Q4 (SD _ _ h) fun _ _ => ?_) | (refine Qf (by omega) (by omega) fun _ _ => ?_) | (simp only [zz, ↓reduceIte]) | (split) | omega | (exfalso; simp only [zl] at *; omega) | (simp_all; done))
end Go.Proofs.YtokfigmmegifeaaGreat
end
section
namespace HY
open Go
section
variable {α β : Type}
theorem bS {a : α} {f : α → Option β} : (some a >>= f) = f a := rfl
theorem omS {a : α} {f : α → β} : Option.map f (some a) = some (f a) := rfl
theorem ite_f {a b : α} : (if (false = true) then a else b) = b := rfl
end
def ov (x y : Q5) : Bool := x.fBuffer == y.fBuffer && decide (max x.fFrom y.fFrom < min x.fTo y.fTo)
def ovL (a b : List Q5) : Bool := a.any fun x => b.any (ov x)
def Ya (n : Int) : List Int → Option Int
 | [] => some n
 | v :: t => if v < 1 ∨ 4096 < n * v then none else Ya (n * v) t
theorem L0 {n v : Int} {t : List Int} (h : v < 1 ∨ 4096 < n * v) : Ya n (v :: t) = none := by rw [Ya, if_pos h]
theorem LZ {n v : Int} {t : List Int} (h : ¬ (v < 1 ∨ 4096 < n * v)) : Ya n (v :: t) = Ya (n * v) t := by rw [Ya, if_neg h]
def shOf (d : List Int) : Option Int := if d.length ≤ 6 then Ya 1 d else none
theorem A5 : ∀ {d : List Int} {n : Int}, (∃ v ∈ d, v < 1) → Ya n d = none
 | [], n, h => by simp at h
 | v :: t, n, h => by
  simp only [Ya]
  split
  ·rfl
  ·rename_i hc
   obtain ⟨w, hw, h1⟩ := h
   rcases List.mem_cons.1 hw with rfl | hw
   ·omega
   ·exact A5 ⟨w, hw, h1⟩
def Cx (x : Q8) (d : Int) : Prop := x.fFrom ≠ [] ∨ x.fLin.fL ≠ [] ∨ x.fLin.fK < 0 ∨ d ≤ x.fLin.fK
instance (x : Q8) (d : Int) : Decidable (Cx x d) := by unfold Cx; infer_instance
def offs (at_ : Int) : List Q8 → List Int → Option Int
 | [], [] => some at_
 | x :: t, d :: e => if Cx x d then none else offs (at_ * d + x.fLin.fK) t e
 | _, _ => none
theorem Pk : ∀ {idx : List Q8} {d : List Int} {a b : Int}, offs a idx d = some b → idx.length = d.length
 | [], [], _, _, _ => rfl
 | x :: t, d :: e, a, b, h => by
  simp only [offs] at h
  split at h
  ·cases h
  ·simp [Pk h]
 | [], _ :: _, _, _, h => by cases h
 | _ :: _, [], _, _, h => by cases h
def GS (bufs : List Qw) (name : Str) : Option Qw := bufs.find? fun b => b.fName == name
def Ga (n : Qb) (name : Str) (idx : List Q8) : List Q5 := match GS n.fBufs name with
 | none => []
 | some b => match shOf b.fDims with
  | none => []
  | some m => match offs 0 idx b.fDims with
   | some a => [Q5.mk name a (a + 1)]
   | none => [Q5.mk name 0 m]
theorem Nx (n : Qb) (name : Str) (idx : List Q8) : (Ga n name idx).length ≤ 1 := by
 unfold Ga
 split
 ·simp
 ·split
  ·simp
  ·split <;> simp
def MT (n : Qb) (x : Q8) : List Q5 := if x.fFrom = [] then [] else Ga n x.fFrom (x.fAt.map fun l => Q8.mk l [] [])
def YQ (n : Qb) (idx : List Q8) : List Q5 := (idx.map (MT n)).flatten
theorem Hj (n : Qb) (x : Q8) : (MT n x).length ≤ 1 := by
 unfold MT; split
 ·simp
 ·exact Nx _ _ _
theorem Dp (n : Qb) : ∀ idx : List Q8, (YQ n idx).length ≤ idx.length
 | [] => by simp [YQ]
 | x :: t => by
  have := Dp n t
  have := Hj n x
  simp only [YQ, List.map_cons, List.flatten_cons, List.length_append, List.length_cons] at *; omega
def Nv (n : Qb) (y : Q1) : List Q5 := if y.fOp = 3 then YQ n y.fIdx ++ Ga n y.fName y.fIdx else []
def DU (n : Qb) (l : List Q9) : List Q5 := (l.map fun y => Nv n y.f).flatten
def Jj (n : Qb) (e : Q1) : List Q5 := DU n (Zq (.mk e))
theorem La (n : Qb) (e : Q9) (l : List Q9) : DU n (e :: l) = Nv n e.f ++ DU n l := by simp [DU]
theorem Q01 (n : Qb) (a b : List Q9) : DU n (a ++ b) = DU n a ++ DU n b := by simp [DU]
theorem A2 (n : Qb) (e : Q1) : Jj n e = Nv n e ++ (e.fArgs.map fun a => Jj n a.f).flatten := by
 unfold Jj
 rw [Ck, La]
 congr 1
 induction e.fArgs with
 | nil => rfl
 | cons a l ih => simp only [List.map_cons, List.flatten_cons, Q01, ih, Q9.mk_f]
theorem A1 (n : Qb) (y : Q1) : (Nv n y).length ≤ y.fIdx.length + 1 := by
 unfold Nv; split
 ·have := Dp n y.fIdx; have := Nx n y.fName y.fIdx; rw [List.length_append]; omega
 ·simp
theorem Tt (n : Qb) : ∀ e : Q9, (Jj n e.f).length ≤ Y7 e := Q9.ind fun x ih => by
 have h : ∀ l : List Q9, (∀ a ∈ l, (Jj n a.f).length ≤ Y7 a) → ((l.map fun a => Jj n a.f).flatten).length ≤ wSum Y7 l := by
  intro l
  induction l with
  | nil => intro _; simp
  | cons a l ih => intro h; simp only [List.map_cons, List.flatten_cons, List.length_append, QP]; have := h a (by simp); have := ih fun b hb => h b (by simp [hb]); omega
 have h1 := h _ ih
 have h2 := A1 n x
 have h3 := Kp (f := wIdx) (l := x.fIdx) M7
 have h4 := L4 x.fLin
 rw [Q9.f_mk, A2, Uz, Q9.f_mk, Qn, List.length_append]; omega
theorem Nw (n : Qb) (e : Q1) : (Jj n e).length ≤ Qn e := by have := Tt n (.mk e); rwa [Uz, Q9.f_mk] at this
def ZR (n : Qb) : Q7 → List Q5
 | .mk x => if x.fOp = 2 ∨ x.fOp = 3 then Ga n x.fName x.fIdx else if x.fOp = 1 ∨ x.fOp = 4 then (x.fBody.attach.map fun a => ZR n a.1).flatten else []
 termination_by e => SizeOf.sizeOf e
 decreasing_by exact Q7.lt a.2
theorem I8 (n : Qb) (x : Qa) : ZR n (.mk x) = if x.fOp = 2 ∨ x.fOp = 3 then Ga n x.fName x.fIdx else if x.fOp = 1 ∨ x.fOp = 4 then (x.fBody.map (ZR n)).flatten else [] := by rw [ZR]; simp
def XS (n : Qb) : Q7 → List Q5
 | .mk x => if x.fOp = 2 ∨ x.fOp = 3 then YQ n x.fIdx ++ Jj n x.fExpr else if x.fOp = 4 then Jj n x.fExpr ++ (x.fBody.attach.map fun a => XS n a.1).flatten else if x.fOp = 1 then (x.fBody.attach.map fun a => XS n a.1).flatten else []
 termination_by e => SizeOf.sizeOf e
 decreasing_by all_goals exact Q7.lt a.2
theorem LY (n : Qb) (x : Qa) : XS n (.mk x) = if x.fOp = 2 ∨ x.fOp = 3 then YQ n x.fIdx ++ Jj n x.fExpr else if x.fOp = 4 then Jj n x.fExpr ++ (x.fBody.map (XS n)).flatten else if x.fOp = 1 then (x.fBody.map (XS n)).flatten else [] := by rw [XS]; simp
def UW : Q7 → Qa
 | .mk x => if h : x.fOp = 4 ∧ x.fBody.length = 1 then UW (x.fBody[0]'(by omega)) else x
 termination_by e => SizeOf.sizeOf e
 decreasing_by exact Q7.lt (List.getElem_mem _)
theorem SR {α : Type} {f : Q7 → List α} {l : List Q7} (h : ∀ a ∈ l, (f a).length ≤ QG a) : ((l.map f).flatten).length ≤ wSum QG l := by
 induction l with
 | nil => simp
 | cons a l ih => simp only [List.map_cons, List.flatten_cons, List.length_append, QP]; have := h a (by simp); have := ih fun b hb => h b (by simp [hb]); omega
theorem Lg (n : Qb) : ∀ e : Q7, (ZR n e).length ≤ QG e := Q7.ind fun x ih => by
 have h1 := SR ih
 have h2 := Nx n x.fName x.fIdx
 have h3 := Oa (.mk x)
 have h4 := Mf x
 rw [I8]
 rw [K6, Q7.f_mk] at *
 split
 ·omega
 ·split
  ·omega
  ·simp
theorem Lf (n : Qb) : ∀ e : Q7, (XS n e).length ≤ QG e := Q7.ind fun x ih => by
 have h1 := SR ih
 have h2 := Dp n x.fIdx
 have h5 := Nw n x.fExpr
 have h6 := Kp (f := wIdx) (l := x.fIdx) M7
 rw [LY, K6, Q7.f_mk, QB]
 split
 ·rw [List.length_append]; omega
 ·split
  ·rw [List.length_append]; omega
  ·split
   ·omega
   ·simp
def LG (n : Qb) (a b : Qa) : Int :=
 if ovL (ZR n (.mk a)) (XS n (.mk b)) = true then 1 else if ovL (XS n (.mk a)) (ZR n (.mk b)) = true then 2 else if ovL (ZR n (.mk a)) (ZR n (.mk b)) = true then (if (UW (.mk a)).fOp = 3 ∧ (UW (.mk b)).fOp = 3 then 4 else 3) else 0
end HY
namespace HY
open Go
def Dr : List Q8 → List Int → Option (List Int)
 | [], _ => some []
 | _ :: _, [] => none
 | x :: t, d :: e => if Cx x d then none else (Dr t e).map (x.fLin.fK :: ·)
def offL (a : Int) : List Int → List Int → Int
 | p :: q, d :: e => offL (a * d + p) q e
 | _, _ => a
def inR : List Int → List Int → Prop
 | p :: q, d :: e => 0 ≤ p ∧ p < d ∧ inR q e
 | _, _ => True
theorem Pj {a : Int} {x : Q8} {t : List Q8} {d : Int} {e : List Int} (h : Cx x d) : offs a (x :: t) (d :: e) = none := by rw [offs, if_pos h]
theorem Sn {a : Int} {x : Q8} {t : List Q8} {d : Int} {e : List Int} (h : ¬ Cx x d) : offs a (x :: t) (d :: e) = offs (a * d + x.fLin.fK) t e := by rw [offs, if_neg h]
theorem EM : ∀ {idx : List Q8} {d : List Int} {a : Int}, Dr idx d = none → offs a idx d = none
 | [], _, _, h => by cases h
 | _ :: _, [], _, _ => rfl
 | x :: t, d :: e, a, h => by
  by_cases hb : Cx x d
  ·exact Pj hb
  ·rw [Sn hb]
   simp only [Dr, if_neg hb, Option.map_eq_none_iff] at h
   exact EM h
theorem EN : ∀ {idx : List Q8} {d q : List Int}, Dr idx d = some q → q.length = idx.length ∧ inR q d ∧ ∀ a, (q.length = d.length → offs a idx d = some (offL a q d)) ∧ (q.length ≠ d.length → offs a idx d = none)
 | [], d, q, h => by
  cases h
  refine ⟨rfl, by cases d <;> trivial, fun a => ?_⟩
  cases d with
  | nil => exact ⟨fun _ => rfl, fun h => absurd rfl h⟩
  | cons d e => exact ⟨fun h => by simp at h, fun _ => rfl⟩
 | _ :: _, [], q, h => by cases h
 | x :: t, d :: e, q, h => by
  by_cases hb : Cx x d
  ·simp only [Dr, if_pos hb] at h; cases h
  ·simp only [Dr, if_neg hb, Option.map_eq_some_iff] at h
   obtain ⟨q', hq, rfl⟩ := h
   obtain ⟨h1, h2, h3⟩ := EN hq
   have hb' : 0 ≤ x.fLin.fK ∧ x.fLin.fK < d := by unfold Cx at hb; omega
   refine ⟨by simp [h1], ⟨hb'.1, hb'.2, h2⟩, fun a => ?_⟩
   rw [Sn hb]
   obtain ⟨h4, h5⟩ := h3 (a * d + x.fLin.fK)
   exact ⟨fun h => h4 (by simpa using h), fun h => h5 (by simpa using h)⟩
end HY
end
section
namespace Go.Proofs.YtokfigmmegifeaaGreat
open Go HY
set_option linter.unusedVariables false
set_option linter.unusedSimpArgs false
theorem IG (x : Q5) (b : List Q5) (hl : b.length ≤ 1048576) : ZK x b b.length 0 = some (if b.any (ov x) then .inr true else .inl ()) := by
 refine Lq (F := fun i => ZK x b b.length i) (l := b) (fun t => if t.any (ov x) then .inr true else .inl ()) ?_ ?_
 ·rw [ZK]; simp
 ·intro i y t h0 h1 hix ih
  rw [ZK, if_pos h1, hix]
  simp only [bS, QH h0 h1 (by omega), ih, List.any_cons]
  by_cases h2 : x.fBuffer == y.fBuffer
  ·by_cases h3 : max x.fFrom y.fFrom < min x.fTo y.fTo
   ·simp [ov, h2, h3, bS]
   ·simp [ov, h2, h3, bS]
  ·simp [ov, h2, bS]
theorem IF (a b : List Q5) (ha : a.length ≤ 1048576) (hl : b.length ≤ 1048576) : ZJ b a a.length 0 = some (if ovL a b then .inr true else .inl ()) := by
 refine Lq (F := fun i => ZJ b a a.length i) (l := a) (fun t => if ovL t b then .inr true else .inl ()) ?_ ?_
 ·rw [ZJ]; simp [ovL]
 ·intro i y t h0 h1 hix ih
  rw [ZJ, if_pos h1, hix]
  simp only [bS, IG y b hl, QH h0 h1 (by omega), ih, ovL, List.any_cons]
  by_cases hb : b.any (ov y) = true <;> simp [bS, hb]
theorem DL (a b : List Q5) (ha : a.length ≤ 1048576) (hl : b.length ≤ 1048576) : XW a b = some (ovL a b) := by
 unfold XW
 simp only [bS, IF a b ha hl]
 cases ovL a b <;> simp [bS]
theorem Hu (a : List Q5) (x : Q5) (k : Int) (b : List Q5) (hk : ix a k = some x) (hl : b.length ≤ 1048576) : X5 a b k 0 = some (if b.any (ov x) then .inr true else .inl ()) := by
 refine Lq (F := fun i => X5 a b k i) (l := b) (fun t => if t.any (ov x) then .inr true else .inl ()) ?_ ?_
 ·rw [X5]; simp [bS]
 ·intro i y t h0 h1 hix ih
  rw [X5, bS, if_pos h1, hix, hk]
  simp only [bS, QH h0 h1 (by omega), ih, List.any_cons]
  by_cases h2 : x.fBuffer == y.fBuffer
  ·by_cases h3 : max x.fFrom y.fFrom < min x.fTo y.fTo
   ·simp [ov, h2, h3, bS]
   ·simp [ov, h2, h3, bS]
  ·simp [ov, h2, bS]
theorem Ht (a b : List Q5) (ha : a.length ≤ 1048576) (hl : b.length ≤ 1048576) : X4 a b 0 = some (if ovL a b then .inr true else .inl ()) := by
 refine Lq (F := fun i => X4 a b i) (l := a) (fun t => if ovL t b then .inr true else .inl ()) ?_ ?_
 ·rw [X4]; simp [ovL, bS]
 ·intro i y t h0 h1 hix ih
  rw [X4, bS, if_pos h1]
  simp only [bS, Hu a y i b hix hl, QH h0 h1 (by omega), ih, ovL, List.any_cons]
  by_cases hb : b.any (ov y) = true <;> simp [bS, hb]
theorem WU (a b : List Q5) (ha : a.length ≤ 1048576) (hl : b.length ≤ 1048576) : JU a b = some (ovL a b) := by
 unfold JU
 simp only [bS, Ht a b ha hl]
 cases ovL a b <;> simp [bS]
theorem IJ (d : List Int) (hl : d.length ≤ 1048576) : ZO d d.length 0 = some (if d.any (fun v => decide (v < 1)) then .inr 1 else .inl ()) := by
 refine Lq (F := fun i => ZO d d.length i) (l := d) (fun t => if t.any (fun v => decide (v < 1)) then .inr 1 else .inl ()) ?_ ?_
 ·rw [ZO]; simp
 ·intro i y t h0 h1 hix ih
  rw [ZO, if_pos h1, hix]
  simp only [bS, QH h0 h1 (by omega), ih, List.any_cons]
  by_cases h2 : y < 1 <;> simp [h2]
theorem Bs {n v : Int} (hn : 1 ≤ n) : ((4096 : Int).tdiv n < v) ↔ 4096 < n * v := by
 rw [Int.tdiv_eq_ediv_of_nonneg (by omega), Int.ediv_lt_iff_lt_mul (by omega), Int.mul_comm]
theorem tdiv_le {n : Int} (hn : 1 ≤ n) : 0 ≤ (4096 : Int).tdiv n ∧ (4096 : Int).tdiv n ≤ 4096 := by
 rw [Int.tdiv_eq_ediv_of_nonneg (by omega)]
 exact ⟨Int.ediv_nonneg (by omega) (by omega), Int.ediv_le_self _ (by omega)⟩
theorem LX (d : List Int) (hl : d.length ≤ 1048576) (hd : ∀ v ∈ d, 1 ≤ v) : Zz 1 d d.length 0 = some (if (Ya 1 d).isSome then .inl () else .inr 2) := by
 refine K5 (F := fun n i => Zz n d d.length i) (l := d) (fun n t => 1 ≤ n ∧ n ≤ 4096) (fun n t => if (Ya n t).isSome then .inl () else .inr 2) ?_ ?_ 1 (by omega)
 ·intro n _
  rw [Zz]; simp [Ya]
 ·intro i y t n h0 h1 hm hix hI ih
  have hy := hd y hm
  have h4 := tdiv_le hI.1
  rw [Zz, if_pos h1, hix]
  simp only [bS, QH h0 h1 (by omega)]
  rw [if_pos (show n ≠ 0 by omega), QQ (by omega)]
  by_cases h2 : 4096 < n * y
  ·rw [if_pos ((Bs hI.1).2 h2), L0 (.inr h2)]; rfl
  ·have hp : n ≤ n * y := by
    have := Int.mul_le_mul_of_nonneg_left hy (show 0 ≤ n by omega); rwa [Int.mul_one] at this
   rw [if_neg (fun h => h2 ((Bs hI.1).1 h)), LZ (by omega), QQ (by omega)]
   exact ih _ (by omega)
theorem DM (d : List Int) (hl : d.length ≤ 1048576) : ∃ v, VJ d = some v ∧ (v = 0 ↔ (shOf d).isSome) := by
 unfold VJ shOf
 simp only [bS]
 by_cases h6 : (6 : Int) < d.length
 ·rw [if_pos h6, if_neg (by omega)]
  exact ⟨_, rfl, by simp⟩
 ·rw [if_neg h6, if_pos (by omega), IJ d hl]
  by_cases ha : d.any (fun v => decide (v < 1)) = true
  ·rw [if_pos ha]
   refine ⟨1, rfl, ?_⟩
   rw [A5 (by simpa using ha)]; simp
  ·rw [if_neg ha, bS]
   simp only
   rw [LX d hl (fun v hv => by
    have : ¬ v < 1 := fun h => ha (List.any_eq_true.2 ⟨v, hv, by simpa using h⟩)
    omega)]
   cases hs : (Ya 1 d).isSome <;> simp [bS]
theorem PM (d : List Int) (m : Int) (hl : d.length ≤ 1048576) (h : shOf d = some m) : WD d = some m := by
 obtain ⟨v, e1, e2⟩ := DM d hl
 have hv : v = 0 := e2.2 (by rw [h]; rfl)
 subst hv
 have hr : Ya 1 d = some m := by unfold shOf at h; split at h; exact h; cases h
 unfold WD
 simp only [bS, e1]
 have L : Yv 1 d d.length 0 = some ((Ya 1 d).getD 0) := by
  refine K5 (F := fun n i => Yv n d d.length i) (l := d) (fun n t => 1 ≤ n ∧ n ≤ 4096 ∧ (Ya n t).isSome) (fun n t => (Ya n t).getD 0) ?_ ?_ 1 ⟨by omega, by omega, by rw [hr]; rfl⟩
  ·intro n _
   rw [Yv]; simp [Ya]
  ·intro i y t n h0 h1 hm hix hI ih
   obtain ⟨i1, i2, i3⟩ := hI
   simp only [Ya] at i3 ⊢
   split at i3
   ·cases i3
   ·rename_i hc
    rw [Yv, if_pos h1, hix]
    have hp : n ≤ n * y := by
     have := Int.mul_le_mul_of_nonneg_left (show 1 ≤ y by omega) (show 0 ≤ n by omega); rwa [Int.mul_one] at this
    simp only [bS, QH h0 h1 (by omega), if_neg hc]
    rw [QQ (by omega)]
    exact ih _ ⟨by omega, by omega, i3⟩
 rw [L, hr]; simp [bS]
theorem Rx (d : List Int) (hl : d.length ≤ 1048576) : ∃ k, DE d = some (k, (shOf d).isSome) ∧ ∀ m, shOf d = some m → k = m := by
 have L : ZN d 1 0 = some (match Ya 1 d with | some m => .inl m | none => .inr (0, false)) := by
  refine K5 (F := fun n i => ZN d n i) (l := d) (fun n t => 1 ≤ n ∧ n ≤ 4096) (fun n t => match Ya n t with | some m => .inl m | none => .inr (0, false)) ?_ ?_ 1 (by omega)
  ·intro n _
   rw [ZN]; simp [Ya, bS]
  ·intro i y t n h0 h1 hm hix hI ih
   rw [ZN, bS, if_pos h1, hix]
   simp only [bS, QH h0 h1 (by omega), Ya]
   by_cases h2 : y < 1
   ·rw [if_pos h2, if_pos (.inl h2)]; rfl
   ·have hp : n ≤ n * y ∧ y ≤ n * y := by
     have a := Int.mul_le_mul_of_nonneg_left (show 1 ≤ y by omega) (show 0 ≤ n by omega)
     have b := Int.mul_le_mul_of_nonneg_right hI.1 (show 0 ≤ y by omega)
     rw [Int.mul_one] at a; rw [Int.one_mul] at b; exact ⟨a, b⟩
    rw [if_neg h2]
    by_cases h3 : 4096 < y
    ·rw [if_pos h3, if_pos (.inr (by omega))]; rfl
    ·have hu : n * y ≤ 4096 * 4096 := Int.mul_le_mul hI.2 (by omega) (by omega) (by omega)
     rw [if_neg h3]
     simp only [bS, ite_f, hix, Bool.false_eq_true, if_false]
     rw [QQ (by omega)]
     by_cases h4 : 4096 < n * y
     ·rw [if_pos h4, if_pos (.inr h4)]
     ·rw [if_neg h4, if_neg (by omega)]
      exact ih _ (by omega)
 unfold DE
 simp only [bS, L]
 unfold shOf
 cases hs : Ya 1 d with
 | none => exact ⟨0, by simp [bS], by split <;> simp⟩
 | some m =>
  refine ⟨m, ?_, ?_⟩
  ·simp only [bS]
   by_cases h6 : d.length ≤ 6
   ·rw [if_pos h6]; simp; omega
   ·rw [if_neg h6]; simp; omega
  ·split
   ·simp
   ·simp
end Go.Proofs.YtokfigmmegifeaaGreat
end
section
namespace Go.Proofs.YtokfigmmegifeaaGreat
open Go HY
set_option linter.unusedVariables false
set_option linter.unusedSimpArgs false
theorem Mv {α : Type} {l p : List α} {x : α} {t : List α} (h : l = p ++ x :: t) : ix l p.length = some x := by
 unfold ix
 rw [if_pos (by omega), Int.toNat_natCast, h, List.getElem?_append_right (Nat.le_refl _)]; simp
theorem wrapL {k : Nat} (h : k ≤ 1048576) : wr ((k : Int) + 1) = ((k + 1 : Nat) : Int) := by rw [QQ (by omega)]; omega
def zBuf : Qw := Qw.mk [] (Qg.mk (0 : Int) (0 : Int) (0 : Int) (0 : Int) (0 : Int)) [] (0 : Int)
theorem Lu (b : Qw) (h : b.fDims.length ≤ 1048576) : JP b = some b := by
 unfold JP Gs
 rw [if_pos (by omega)]; rfl
theorem LV (name : Str) (n : Qb) (z : Qw) (hl : n.fBufs.length ≤ 1048576) (hd : ∀ b ∈ n.fBufs, b.fDims.length ≤ 1048576) : Zx name n z n.fBufs.length 0 = some (match GS n.fBufs name with | some b => .inr (b, true) | none => .inl z) := by
 refine K5 (F := fun (_ : Unit) i => Zx name n z n.fBufs.length i) (l := n.fBufs) (fun _ _ => True) (fun _ t => match GS t name with | some b => .inr (b, true) | none => .inl z) ?_ ?_ () trivial
 ·intro _ _
  rw [Zx]; simp [GS]
 ·intro i y t _ h0 h1 hm hix _ ih
  rw [Zx, if_pos h1, hix]
  simp only [bS, QH h0 h1 (by omega), GS, List.find?_cons]
  by_cases h2 : (y.fName == name) = true
  ·rw [if_pos h2, h2, Lu y (hd y hm)]; rfl
  ·rw [if_neg h2, show (y.fName == name) = false by simpa using h2]
   exact ih () trivial
theorem Ex (n : Qb) (name : Str) (hl : n.fBufs.length ≤ 1048576) (hd : ∀ b ∈ n.fBufs, b.fDims.length ≤ 1048576) : GQ n name = some (match GS n.fBufs name with | some b => (b, true) | none => (zBuf, false)) := by
 unfold GQ
 simp only [bS, LV name n _ hl hd]
 cases GS n.fBufs name <;> rfl
theorem Ey (name : Str) (n : Qb) (z : Qw) (hl : n.fBufs.length ≤ 1048576) : Zc name n z 0 = some (match GS n.fBufs name with | some b => .inr (b, true) | none => .inl z) := by
 refine Lq (F := fun i => Zc name n z i) (l := n.fBufs) (fun t => match GS t name with | some b => .inr (b, true) | none => .inl z) ?_ ?_
 ·rw [Zc]; simp [GS, bS]
 ·intro i y t h0 h1 hix ih
  rw [Zc, bS, if_pos h1, hix]
  simp only [bS, QH h0 h1 (by omega), GS, List.find?_cons]
  by_cases h2 : (y.fName == name) = true
  ·rw [if_pos h2, h2]
  ·rw [if_neg h2, show (y.fName == name) = false by simpa using h2]
   exact ih
theorem Sq (n : Qb) (name : Str) (hl : n.fBufs.length ≤ 1048576) : Xz n name = some (match GS n.fBufs name with | some b => (b, true) | none => (zBuf, false)) := by
 unfold Xz
 simp only [bS, Ey name n _ hl]
 cases GS n.fBufs name <;> rfl
theorem SK {l : List Qw} {name : Str} {b : Qw} (h : GS l name = some b) : b ∈ l := List.mem_of_find?_eq_some h
theorem EP (d p : List Int) (hl : d.length ≤ 1048576) : ∀ (t q pre pq : List Int) (a n : Int), d = pre ++ t → p = pq ++ q → pre.length = pq.length → q.length = t.length → inR q t → 0 ≤ a → a < n → n ≤ 4096 → (Ya n t).isSome → Xr p a d d.length pre.length = some (.inl (offL a q t))
 | [], [], pre, pq, a, n, hd, hp, _, _, _, _, _, _, _ => by
  rw [Xr, if_neg (by rw [hd]; simp)]; rfl
 | [], _ :: _, _, _, _, _, _, _, _, hq, _, _, _, _, _ => by simp at hq
 | _ :: _, [], _, _, _, _, _, _, _, hq, _, _, _, _, _ => by simp at hq
 | v :: t, k :: q, pre, pq, a, n, hd, hp, hpl, hq, hr, h0, h1, h2, hs => by
  have hlt : pre.length < d.length := by rw [hd]; simp
  have hc : ¬ (v < 1 ∨ 4096 < n * v) := fun hc => by rw [L0 hc] at hs; cases hs
  rw [LZ hc] at hs
  have e1 : n * v = (n - 1) * v + v := by rw [Int.sub_mul]; omega
  have e2 : a * v ≤ (n - 1) * v := Int.mul_le_mul_of_nonneg_right (by omega) (by omega)
  have e3 : 0 ≤ a * v := Int.mul_nonneg h0 (by omega)
  obtain ⟨r1, r2, r3⟩ := hr
  rw [Xr, if_pos (by omega), Mv hd]
  have hix : ix p pre.length = some k := by rw [hpl]; exact Mv hp
  simp only [bS, hix]
  rw [if_neg (by omega), if_neg (by omega)]
  simp only [bS, Bool.false_eq_true, if_false]
  rw [QQ (n := a * v) (by omega), QQ (n := a * v + k) (by omega), wrapL (by omega)]
  have := EP d p hl t q (pre ++ [v]) (pq ++ [k]) (a * v + k) (n * v) (by rw [hd]; simp) (by rw [hp]; simp) (by simp [hpl]) (by simpa using hq) r3 (by omega) (by omega) (by omega) hs
  simp only [List.length_append, List.length_singleton] at this
  exact this
theorem Sr (d q : List Int) (hl : d.length ≤ 1048576) (hv : (shOf d).isSome) (hq : q.length = d.length) (hr : inR q d) : Uv d q = some (offL 0 q d, true) := by
 obtain ⟨v, e1, e2⟩ := DM d hl
 have := e2.2 hv
 subst this
 have hs : (Ya 1 d).isSome := by unfold shOf at hv; split at hv; exact hv; cases hv
 unfold Uv
 simp only [bS, e1]
 have h := EP d q hl d q [] [] 0 1 rfl rfl rfl hq hr (by omega) (by omega) (by omega) hs
 simp only [List.length_nil, Int.ofNat_zero, Int.cast_ofNat_Int] at h
 have e : ((0 : Int) != 0) = false := rfl
 have e' : ((q.length : Int) != (d.length : Int)) = false := by rw [hq]; simp
 simp only [e, e', Bool.false_eq_true, if_false, bS]
 rw [show Xr q 0 d (↑d.length) 0 = some (.inl (offL 0 q d)) from h]
 rfl
theorem Ez (d q : List Int) (hl : d.length ≤ 1048576) (hv : (shOf d).isSome) (hq : q.length ≠ d.length) : Uv d q = some (0, false) := by
 obtain ⟨v, e1, e2⟩ := DM d hl
 have := e2.2 hv
 subst this
 unfold Uv
 simp only [bS, e1]
 have e : ((0 : Int) != 0) = false := rfl
 have e' : ((q.length : Int) != (d.length : Int)) = true := by simp; omega
 simp only [e, e', Bool.false_eq_true, if_false, if_true, bS]
theorem ER (b : Qw) (whole : List Q5) (idx : List Q8) (hl : idx.length ≤ 1048576) (hd : b.fDims.length ≤ 1048576) : ∀ (t pre : List Q8) (e pd p : List Int), idx = pre ++ t → (b.fDims = pd ++ e) → (pre.length = pd.length) → p.length = pre.length →
  ZT b whole p idx idx.length pre.length = some (match Dr t e with | some q => .inl (p ++ q) | none => .inr whole)
 | [], pre, e, pd, p, hi, _, _, _ => by
  rw [ZT, if_neg (by rw [hi]; simp)]
  simp [Dr]
 | x :: t, pre, [], pd, p, hi, hdd, hpl, hp => by
  have hlt : pre.length < idx.length := by rw [hi]; simp
  rw [ZT, if_pos (by omega), Mv hi]
  have hle : (((b.fDims.map eI).length : Nat) : Int) ≤ (pre.length : Int) := by rw [List.length_map, hdd]; simp; omega
  simp only [bS, hle, if_true, ite_self, Dr]
 | x :: t, pre, v :: e, pd, p, hi, hdd, hpl, hp => by
  have hlt : pre.length < idx.length := by rw [hi]; simp
  have hlt2 : pd.length < b.fDims.length := by rw [hdd]; simp
  rw [ZT, if_pos (by omega), Mv hi]
  have hix : ix b.fDims pre.length = some v := by rw [hpl]; exact Mv hdd
  have hle : ¬ (((b.fDims.map eI).length : Nat) : Int) ≤ (pre.length : Int) := by rw [List.length_map]; omega
  have hL : ((0 : Int) < (((x.fLin.fL.map Qe).length : Nat) : Int)) ↔ x.fLin.fL ≠ [] := by
   rw [List.length_map]; cases x.fLin.fL <;> simp
  have hF : ((!x.fFrom == []) = true) ↔ x.fFrom ≠ [] := by simp
  simp only [bS, hix, hle, if_false]
  by_cases hb : Cx x v
  ·have : (if (!x.fFrom == []) = true then some true else if (0 : Int) < (((x.fLin.fL.map Qe).length : Nat) : Int) then some true else if x.fLin.fK < 0 then some true else if v ≤ x.fLin.fK then some true else some false) = some true := by
    rcases hb with h | h | h | h
    ·rw [if_pos (hF.2 h)]
    ·rw [if_pos (hL.2 h), ite_self]
    ·rw [if_pos h, ite_self, ite_self]
    ·rw [if_pos h, ite_self, ite_self, ite_self]
   rw [this]
   simp only [bS, if_true, Dr, if_pos hb]
  ·have hn : x.fFrom = [] ∧ x.fLin.fL = [] ∧ ¬ x.fLin.fK < 0 ∧ ¬ v ≤ x.fLin.fK := by
    unfold Cx at hb
    refine ⟨Classical.byContradiction fun h => hb (.inl h), Classical.byContradiction fun h => hb (.inr (.inl h)), fun h => hb (.inr (.inr (.inl h))), fun h => hb (.inr (.inr (.inr h)))⟩
   rw [if_neg (fun h => hF.1 h hn.1), if_neg (fun h => hL.1 h hn.2.1), if_neg hn.2.2.1, if_neg hn.2.2.2]
   simp only [bS, Bool.false_eq_true, if_false]
   rw [if_pos (by omega), wrapL (by omega)]
   have := ER b whole idx hl hd t (pre ++ [x]) e (pd ++ [v]) (p ++ [x.fLin.fK]) (by rw [hi]; simp) (by rw [hdd]; simp) (by simp [hpl]) (by simp [hp])
   simp only [List.length_append, List.length_singleton] at this
   rw [this]
   simp only [Dr, if_neg hb]
   cases Dr t e <;> simp
theorem Bj : ∀ (q d : List Int) (a n : Int), inR q d → q.length = d.length → 0 ≤ a → a < n → n ≤ 4096 → (Ya n d).isSome → 0 ≤ offL a q d ∧ offL a q d < 4096
 | [], [], a, n, _, _, h0, h1, h2, _ => ⟨h0, by show a < 4096; omega⟩
 | [], _ :: _, _, _, _, hq, _, _, _, _ => by simp at hq
 | _ :: _, [], _, _, _, hq, _, _, _, _ => by simp at hq
 | k :: q, v :: t, a, n, hr, hq, h0, h1, h2, hs => by
  have hc : ¬ (v < 1 ∨ 4096 < n * v) := fun hc => by rw [L0 hc] at hs; cases hs
  rw [LZ hc] at hs
  have e1 : n * v = (n - 1) * v + v := by rw [Int.sub_mul]; omega
  have e2 : a * v ≤ (n - 1) * v := Int.mul_le_mul_of_nonneg_right (by omega) (by omega)
  have e3 : 0 ≤ a * v := Int.mul_nonneg h0 (by omega)
  obtain ⟨r1, r2, r3⟩ := hr
  exact Bj q t (a * v + k) (n * v) r3 (by simpa using hq) (by omega) (by omega) (by omega) hs
theorem Nf (n : Qb) (name : Str) (idx : List Q8) (hl : idx.length ≤ 1048576) (hb : n.fBufs.length ≤ 1048576) (hd : ∀ b ∈ n.fBufs, b.fDims.length ≤ 1048576) : VK n name idx = some (Ga n name idx) := by
 unfold VK Ga
 rw [Ex n name hb hd]
 cases hbo : GS n.fBufs name with
 | none => rfl
 | some b =>
  have hdl := hd b (SK hbo)
  obtain ⟨v, e1, e2⟩ := DM b.fDims hdl
  simp only [bS, if_true, e1]
  cases hs : shOf b.fDims with
  | none =>
   have hv : (v != 0) = true := by rw [hs] at e2; simp at e2; simpa using e2
   rw [hv]; rfl
  | some m =>
   have hv : v = 0 := e2.2 (by rw [hs]; rfl)
   subst hv
   have e : ((0 : Int) != 0) = false := rfl
   simp only [e, Bool.false_eq_true, if_false, bS, PM b.fDims m hdl hs]
   have hL := ER b [Q5.mk name 0 m] idx hl hdl idx [] b.fDims [] [] rfl rfl rfl rfl
   rw [show ZT b [Q5.mk name 0 m] [] idx (↑idx.length) 0 = _ from hL]
   cases hp : Dr idx b.fDims with
   | none => rw [EM hp]; rfl
   | some q =>
    obtain ⟨h1, h2, h3⟩ := EN hp
    obtain ⟨h4, h5⟩ := h3 0
    simp only [bS, List.nil_append]
    by_cases hq : q.length = b.fDims.length
    ·have hsz : (Ya 1 b.fDims).isSome := by unfold shOf at hs; split at hs; rw [hs]; rfl; cases hs
     have hlt := Bj q b.fDims 0 1 h2 hq (by omega) (by omega) (by omega) hsz
     rw [Sr b.fDims q hdl (by rw [hs]; rfl) hq h2, h4 hq]
     simp only [bS, if_true]
     rw [QQ (by omega)]
    ·rw [Ez b.fDims q hdl (by rw [hs]; rfl) hq, h5 hq]
     simp only [bS, Bool.false_eq_true, if_false]
theorem MY (b : Qw) (idx : List Q8) (hl : idx.length ≤ 1048576) : ∀ (t pre : List Q8) (e pd : List Int) (a n : Int), idx = pre ++ t → b.fDims = pd ++ e → pre.length = pd.length → t.length = e.length → 0 ≤ a → a < n → n ≤ 4096 → (Ya n e).isSome →
  ∃ k, Zj idx b a true pre.length = some (k, (offs a t e).isSome) ∧ ∀ v, offs a t e = some v → k = v ∧ 0 ≤ k ∧ k < 4096
 | [], pre, [], pd, a, n, hi, _, _, _, h0, h1, h2, _ => by
  refine ⟨a, ?_, fun v hv => by cases hv; omega⟩
  rw [Zj]
  simp only [bS]
  rw [if_neg (by rw [hi]; simp)]; rfl
 | [], _, _ :: _, _, _, _, _, _, _, hq, _, _, _, _ => by simp at hq
 | _ :: _, _, [], _, _, _, _, _, _, hq, _, _, _, _ => by simp at hq
 | x :: t, pre, v :: e, pd, a, n, hi, hdd, hpl, hq, h0, h1, h2, hs => by
  have hlt : pre.length < idx.length := by rw [hi]; simp
  have hc : ¬ (v < 1 ∨ 4096 < n * v) := fun hc => by rw [L0 hc] at hs; cases hs
  rw [LZ hc] at hs
  have e1 : n * v = (n - 1) * v + v := by rw [Int.sub_mul]; omega
  have e2 : a * v ≤ (n - 1) * v := Int.mul_le_mul_of_nonneg_right (by omega) (by omega)
  have e3 : 0 ≤ a * v := Int.mul_nonneg h0 (by omega)
  have hixd : ix b.fDims pre.length = some v := by rw [hpl]; exact Mv hdd
  have hixi : ix idx pre.length = some x := Mv hi
  have hL : ((0 : Int) < ((x.fLin.fL.length : Nat) : Int)) ↔ x.fLin.fL ≠ [] := by
   cases x.fLin.fL <;> simp
  have hF : ((!x.fFrom == []) = true) ↔ x.fFrom ≠ [] := by simp
  rw [Zj]
  simp only [bS]
  rw [if_pos (show (pre.length : Int) < idx.length by omega)]
  simp only [bS, if_true, hixi, hixd]
  by_cases hb : Cx x v
  ·have : (if (!x.fFrom == []) = true then some true else if (0 : Int) < ((x.fLin.fL.length : Nat) : Int) then some true else if x.fLin.fK < 0 then some true else if v ≤ x.fLin.fK then some true else some false) = some true := by
    rcases hb with h | h | h | h
    ·rw [if_pos (hF.2 h)]
    ·rw [if_pos (hL.2 h), ite_self]
    ·rw [if_pos h, ite_self, ite_self]
    ·rw [if_pos h, ite_self, ite_self, ite_self]
   rw [this]
   simp only [bS, if_true]
   rw [Pj hb]
   refine ⟨a, ?_, fun v hv => by cases hv⟩
   rw [Zj]
   simp only [bS, Bool.false_eq_true, if_false, ite_self]
   rfl
  ·have hn : x.fFrom = [] ∧ x.fLin.fL = [] ∧ ¬ x.fLin.fK < 0 ∧ ¬ v ≤ x.fLin.fK := by
    unfold Cx at hb
    refine ⟨Classical.byContradiction fun h => hb (.inl h), Classical.byContradiction fun h => hb (.inr (.inl h)), fun h => hb (.inr (.inr (.inl h))), fun h => hb (.inr (.inr (.inr h)))⟩
   rw [if_neg (fun h => hF.1 h hn.1), if_neg (fun h => hL.1 h hn.2.1), if_neg hn.2.2.1, if_neg hn.2.2.2]
   simp only [bS, Bool.false_eq_true, if_false]
   rw [QQ (n := a * v) (by omega), QQ (n := a * v + x.fLin.fK) (by omega), wrapL (by omega), Sn hb]
   have := MY b idx hl t (pre ++ [x]) e (pd ++ [v]) (a * v + x.fLin.fK) (n * v) (by rw [hi]; simp) (by rw [hdd]; simp) (by simp [hpl]) (by simpa using hq) (by omega) (by omega) (by omega) hs
   simp only [List.length_append, List.length_singleton] at this
   exact this
theorem Nc (n : Qb) (name : Str) (idx : List Q8) (hl : idx.length ≤ 1048576) (hb : n.fBufs.length ≤ 1048576) (hd : ∀ b ∈ n.fBufs, b.fDims.length ≤ 1048576) : Uu n name idx = some (Ga n name idx) := by
 unfold Uu Ga
 rw [Sq n name hb]
 cases hbo : GS n.fBufs name with
 | none => rfl
 | some b =>
  have hdl := hd b (SK hbo)
  obtain ⟨k, e1, e2⟩ := Rx b.fDims hdl
  simp only [bS, if_true, e1]
  cases hs : shOf b.fDims with
  | none => rfl
  | some m =>
   have hk := e2 m hs
   subst hk
   have hsz : (Ya 1 b.fDims).isSome := by unfold shOf at hs; split at hs; rw [hs]; rfl; cases hs
   simp only [Option.isSome_some, if_true, bS, List.length_map]
   by_cases hq : idx.length = b.fDims.length
   ·obtain ⟨j, f1, f2⟩ := MY b idx hl idx [] b.fDims [] 0 1 rfl rfl rfl hq (by omega) (by omega) (by omega) hsz
    have e : ((idx.length : Int) == (b.fDims.length : Int)) = true := by rw [hq]; simp
    rw [e, show Zj idx b 0 true 0 = _ from f1]
    cases ho : offs 0 idx b.fDims with
    | none => rfl
    | some a =>
     obtain ⟨rfl, g1, g2⟩ := f2 a ho
     simp only [bS, Option.isSome_some, if_true]
     rw [QQ (by omega)]
   ·have e : ((idx.length : Int) == (b.fDims.length : Int)) = false := by simp; omega
    have hn : offs 0 idx b.fDims = none := by
     cases ho : offs 0 idx b.fDims with
     | none => rfl
     | some a => exact absurd (Pk ho) hq
    have : Zj idx b 0 false 0 = some (0, false) := by
     rw [Zj]
     simp only [bS, Bool.false_eq_true, if_false, ite_self]
    rw [e, this, hn]
    rfl
end Go.Proofs.YtokfigmmegifeaaGreat
end
section
namespace Go.Proofs.YtokfigmmegifeaaGreat
open Go HY
set_option linter.unusedVariables false
set_option linter.unusedSimpArgs false
structure okN (n : Qb) : Prop where
 len : n.fBufs.length ≤ 1048576
 dims : ∀ b ∈ n.fBufs, b.fDims.length ≤ 1048576
theorem okN.of {n : Qb} (h : JZ n ≤ 1048576) : okN n := by
 have hn : JZ n = 1 + wSum wBuf n.fBufs + wSum QG n.fBody := rfl
 obtain ⟨h1, h2⟩ := HM (l := n.fBufs) (by omega)
 exact ⟨h1, fun b hb => (h2 b hb).2⟩
theorem PI (l : List gLin) (hl : l.length ≤ 1048576) : X6 [] l l.length 0 = some (l.map fun x => Q8.mk x [] []) := by
 have := K5 (F := fun a i => X6 a l l.length i) (l := l) (fun a t => a.length + t.length ≤ 1048576) (fun a t => a ++ t.map fun x => Q8.mk x [] []) (by
  intro a _
  rw [X6]; simp) (by
  intro i y t a h0 h1 hm hix hI ih
  simp only [List.length_cons] at hI
  rw [X6, if_pos h1, hix]
  simp only [bS, QH h0 h1 (by omega)]
  rw [if_pos (by omega), ih _ (by simp; omega)]
  simp) [] (by simpa using hl)
 simpa using this
theorem Rz (idx : List Q8) (k : Int) (x : Q8) (hk : ix idx k = some x) (hl : x.fAt.length ≤ 1048576) : X2 idx k [] 0 = some (x.fAt.map fun x => Q8.mk x [] []) := by
 have := K5 (F := fun a i => X2 idx k a i) (l := x.fAt) (fun a t => a.length + t.length ≤ 1048576) (fun a t => a ++ t.map fun x => Q8.mk x [] []) (by
  intro a _
  rw [X2, hk]; simp [bS]) (by
  intro i y t a h0 h1 hm hix hI ih
  simp only [List.length_cons] at hI
  rw [X2, hk, bS, bS, if_pos h1, bS, hix]
  simp only [bS, QH h0 h1 (by omega)]
  rw [if_pos (by omega), ih _ (by simp; omega)]
  simp) [] (by simpa using hl)
 simpa using this
theorem SS {n : Qb} {x : Q8} (h : (x.fFrom == []) = true) : MT n x = [] := by
 unfold MT; rw [if_pos (by simpa using h)]
theorem Bd {n : Qb} {x : Q8} (h : ¬ (x.fFrom == []) = true) : MT n x = Ga n x.fFrom (x.fAt.map fun l => Q8.mk l [] []) := by
 unfold MT; rw [if_neg (by simpa using h)]
theorem Ii (n : Qb) (x : Q8) (t : List Q8) : YQ n (x :: t) = MT n x ++ YQ n t := by simp [YQ]
theorem MZ (n : Qb) (idx : List Q8) (hn : okN n) (hl : idx.length ≤ 1048576) (ha : ∀ x ∈ idx, x.fAt.length ≤ 1048576) : JV n idx = some (YQ n idx) := by
 have L := K5 (F := fun a i => ZD n a idx idx.length i) (l := idx) (fun a t => a.length + t.length ≤ 1048576) (fun a t => a ++ YQ n t) (by
  intro a _
  rw [ZD]; simp [YQ]) (by
  intro i y t a h0 h1 hm hix hI ih
  simp only [List.length_cons] at hI
  rw [ZD, if_pos h1, hix]
  simp only [bS, QH h0 h1 (by omega), Ii]
  by_cases h2 : (y.fFrom == []) = true
  ·rw [if_pos h2, SS h2, ih _ (by omega)]; simp
  ·rw [if_neg h2, PI y.fAt (ha y hm), bS, Nf n y.fFrom _ (by simpa using ha y hm) hn.len hn.dims, bS, ← Bd h2]
   have := Hj n y
   rw [if_pos (by rw [List.length_map]; omega), ih _ (by rw [List.length_append]; omega)]; simp) [] (by simpa using hl)
 unfold JV
 simp only [bS]
 rw [show ZD n [] idx (↑idx.length) 0 = _ from L]
 simp [bS]
theorem MX (n : Qb) (idx : List Q8) (hn : okN n) (hl : idx.length ≤ 1048576) (ha : ∀ x ∈ idx, x.fAt.length ≤ 1048576) : Gr n idx = some (YQ n idx) := by
 have L := K5 (F := fun a i => ZC idx n a i) (l := idx) (fun a t => a.length + t.length ≤ 1048576) (fun a t => a ++ YQ n t) (by
  intro a _
  rw [ZC]; simp [YQ, bS]) (by
  intro i y t a h0 h1 hm hix hI ih
  simp only [List.length_cons] at hI
  rw [ZC, bS, if_pos h1, hix]
  simp only [bS, QH h0 h1 (by omega), Ii, hix]
  by_cases h2 : (y.fFrom == []) = true
  ·rw [if_pos h2, SS h2, ih _ (by omega)]; simp
  ·rw [if_neg h2, Rz idx i y hix (ha y hm), bS, Nc n y.fFrom _ (by simpa using ha y hm) hn.len hn.dims, bS, ← Bd h2]
   have := Hj n y
   rw [if_pos (by rw [List.length_map]; omega), ih _ (by rw [List.length_append]; omega)]; simp) [] (by simpa using hl)
 unfold Gr
 simp only [bS]
 rw [show ZC idx n [] 0 = _ from L]
 simp [bS]
theorem Tl {l : List Q8} (h : ∀ i ∈ l, wIdx i ≤ 1048576) : ∀ x ∈ l, x.fAt.length ≤ 1048576 := fun x hx => by have := MJ x; have := h x hx; omega
theorem Py {n : Qb} {y : Q1} (h : (y.fOp == (3 : Int)) = true) : Nv n y = YQ n y.fIdx ++ Ga n y.fName y.fIdx := by unfold Nv; rw [if_pos (by simpa using h)]
theorem Pz {n : Qb} {y : Q1} (h : ¬ (y.fOp == (3 : Int)) = true) : Nv n y = [] := by unfold Nv; rw [if_neg (by simpa using h)]
theorem A3 (n : Qb) (hn : okN n) : ∀ (l : List Q9) (out : List Q5), (∀ e ∈ l, Qn e.f ≤ 1048576) → out.length + (DU n l).length ≤ 1099511627776 → XI n l out = some (out ++ DU n l)
 | [], out, _, _ => by simp [XI, DU]
 | e :: t, out, he, hs => by
  rw [La, List.length_append] at hs
  obtain ⟨e1, e2, e3, e4, e5, e6, e7⟩ := Zv (he e (by simp))
  have ih := fun o => A3 n hn t o fun a ha => he a (by simp [ha])
  rw [XI, La]
  by_cases h : (e.f.fOp == (3 : Int)) = true
  ·rw [Py h] at hs ⊢
   rw [List.length_append] at hs
   rw [if_pos h, MZ n e.f.fIdx hn e4 (Tl e5), bS, if_pos (by omega), Nf n _ _ e4 hn.len hn.dims, bS, if_pos (by omega), ih _ (by simp only [List.length_append]; omega)]
   simp
  ·rw [Pz h] at hs ⊢
   rw [if_neg h, ih _ (by simpa using hs)]
   simp
theorem Il (n : Qb) (x : Q1) (hn : okN n) (hx : Qn x ≤ 1048576) : G6 n x = some (Jj n x) := by
 unfold G6 CK
 rw [dif_pos (by omega), bS]
 have hl := Nw n x
 have h := A3 n hn (Zq (.mk x)) [] (SV (R := fun a => Qn a.f ≤ 1048576) (fun y hy a ha => by have := O6 ha; simp only [Q9.f_mk] at hy; omega) (.mk x) hx) (by
  have : (DU n (Zq (.mk x))).length ≤ Qn x := hl
  simp; omega)
 rw [h]; rfl
theorem PL (n : Qb) (hn : okN n) : ∀ e : Q9, Qn e.f ≤ 1048576 → Ke n e.f = some (Jj n e.f) := Q9.ind fun x ih hx => by
 rw [Q9.f_mk] at hx ⊢
 obtain ⟨e1, e2, e3, e4, e5, e6, e7⟩ := Zv hx
 have hxe : Qn x = 1 + x.fName.length + wLin x.fLin + wSum wIdx x.fIdx + wSum Y7 x.fArgs := rfl
 have hr1 := A1 n x
 have hil := Kp (f := wIdx) (l := x.fIdx) M7
 have hll := L4 x.fLin
 have L : ∀ a : List Q5, a.length + wSum Y7 x.fArgs ≤ 1048576 → XH n x a 0 = some (a ++ (x.fArgs.map fun b => Jj n b.f).flatten) := fun a ha =>
  K5 (F := fun a i => XH n x a i) (l := x.fArgs) (fun a t => a.length + wSum Y7 t ≤ 1048576) (fun a t => a ++ (t.map fun b => Jj n b.f).flatten) (by
   intro a _
   rw [XH]; simp [bS]) (by
   intro i y t a h0 h1 hm hix hI ih2
   rw [QP] at hI
   have hy := Tt n y
   rw [XH, bS, if_pos h1, hix, omS, bS, ih y hm (e7 y hm), bS]
   simp only [QH h0 h1 (by omega)]
   rw [if_pos (by rw [List.length_map]; omega), bS, ih2 _ (by rw [List.length_append]; omega)]
   simp) a ha
 rw [Ke, bS]
 have tail : ∀ a : List Q5, a = Nv n x → ((some a >>= fun v6 => some () >>= fun v7 => XH n x v6 (0 : Int) >>= fun v9 => some v9) : Option (List Q5)) = some (Jj n x) := fun a ha => by
  subst ha
  rw [bS, bS, L _ (by omega), bS, A2]
 by_cases h : (x.fOp == (3 : Int)) = true
 ·have hg := Dp n x.fIdx
  have hr := Nx n x.fName x.fIdx
  rw [if_pos h, MX n x.fIdx hn e4 (Tl e5), bS, if_pos ⟨rfl, by rw [List.length_map]; omega⟩, bS, Nc n _ _ e4 hn.len hn.dims, bS, if_pos (by rw [List.length_map]; simp; omega), bS]
  exact tail _ (by rw [Py h]; rfl)
 ·rw [if_neg h]
  exact tail _ (by rw [Pz h])
theorem Ik (n : Qb) (x : Q1) (hn : okN n) (hx : Qn x ≤ 1048576) : Ke n x = some (Jj n x) := PL n hn (.mk x) hx
theorem op23 {x : Qa} : ((if x.fOp == (2 : Int) then some true else if x.fOp == (3 : Int) then some true else some false) : Option Bool) = some (decide (x.fOp = 2 ∨ x.fOp = 3)) := by
 by_cases h2 : x.fOp = 2 <;> by_cases h3 : x.fOp = 3 <;> simp [h2, h3]
theorem Im (x : Qa) : DT x = some (decide (x.fOp = 2 ∨ x.fOp = 3)) := by
 unfold DT
 by_cases h2 : x.fOp = 2 <;> by_cases h3 : x.fOp = 3 <;> simp [h2, h3]
theorem op14 {x : Qa} : ((if x.fOp == (1 : Int) then some true else if x.fOp == (4 : Int) then some true else some false) : Option Bool) = some (decide (x.fOp = 1 ∨ x.fOp = 4)) := by
 by_cases h2 : x.fOp = 1 <;> by_cases h3 : x.fOp = 4 <;> simp [h2, h3]
theorem Nd (n : Qb) (hn : okN n) : ∀ e : Q7, QB e.f ≤ 1048576 → KG n e.f = some (ZR n e) := Q7.ind fun x ih hx => by
 rw [Q7.f_mk] at hx ⊢
 obtain ⟨e1, e2, e3, e4, e5, e6, e7⟩ := G8 hx
 have L : Xs n [] x.fBody x.fBody.length 0 = some ((x.fBody.map (ZR n)).flatten) := by
  have := K5 (F := fun a i => Xs n a x.fBody x.fBody.length i) (l := x.fBody) (fun a t => a.length + wSum QG t ≤ 1048576) (fun a t => a ++ (t.map (ZR n)).flatten) (by
   intro a _
   rw [Xs]; simp) (by
   intro i y t a h0 h1 hm hix hI ih2
   rw [QP] at hI
   have hy := Lg n y
   rw [Xs, if_pos h1, hix, omS, bS, ih y hm (e7 y hm), bS]
   simp only [QH h0 h1 (by omega)]
   rw [if_pos (by rw [List.length_map]; omega), bS, ih2 _ (by rw [List.length_append]; omega)]
   simp) [] (by simpa using e6)
  simpa using this
 rw [KG, Im, bS, I8]
 by_cases h : x.fOp = 2 ∨ x.fOp = 3
 ·rw [if_pos (by simpa using h), if_pos h, Nf n _ _ e3 hn.len hn.dims, bS]
 ·rw [if_neg (by simpa using h), if_neg h, bS, op14, bS]
  by_cases h2 : x.fOp = 1 ∨ x.fOp = 4
  ·rw [if_pos (by simpa using h2), if_pos h2]
   simp only [bS, L]
  ·rw [if_neg (by simpa using h2), if_neg h2]
theorem Nb (n : Qb) (hn : okN n) : ∀ e : Q7, QB e.f ≤ 1048576 → KE n e.f = some (ZR n e) := Q7.ind fun x ih hx => by
 rw [Q7.f_mk] at hx ⊢
 obtain ⟨e1, e2, e3, e4, e5, e6, e7⟩ := G8 hx
 have L : (x.fOp = 1 ∨ x.fOp = 4) → ZS n x [] 0 = some ((x.fBody.map (ZR n)).flatten) := fun ho => by
  have := K5 (F := fun a i => ZS n x a i) (l := x.fBody) (fun a t => a.length + wSum QG t ≤ 1048576) (fun a t => a ++ (t.map (ZR n)).flatten) (by
   intro a _
   rw [ZS]; simp [bS]) (by
   intro i y t a h0 h1 hm hix hI ih2
   rw [QP] at hI
   have hy := Lg n y
   rw [ZS, bS]
   simp only [bS]
   rw [if_pos h1, op14, bS, if_pos (by simpa using ho), hix, omS, bS, ih y hm (e7 y hm), bS]
   simp only [QH h0 h1 (by omega)]
   rw [if_pos (by rw [List.length_map]; omega), ih2 _ (by rw [List.length_append]; omega)]
   simp) [] (by simpa using e6)
  simpa using this
 rw [KE, bS, op23, bS, I8]
 by_cases h : x.fOp = 2 ∨ x.fOp = 3
 ·rw [if_pos (by simpa using h), if_pos h, Nc n _ _ e3 hn.len hn.dims, bS]
 ·rw [if_neg (by simpa using h), if_neg h, bS]
  by_cases h2 : x.fOp = 1 ∨ x.fOp = 4
  ·rw [if_pos h2, L h2, bS]
  ·rw [if_neg h2, ZS]
   simp only [bS]
   rw [op14]
   simp [h2, bS]
   try (split <;> simp [bS])
theorem NS (n : Qb) (hn : okN n) : ∀ e : Q7, QB e.f ≤ 1048576 → Vi n e.f = some (XS n e) := Q7.ind fun x ih hx => by
 rw [Q7.f_mk] at hx ⊢
 obtain ⟨e1, e2, e3, e4, e5, e6, e7⟩ := G8 hx
 have hxe : QB x = 1 + x.fName.length + wSum wIdx x.fIdx + Qn x.fExpr + wSum QG x.fBody := rfl
 have L : ∀ a : List Q5, a.length + wSum QG x.fBody ≤ 1048576 → Xf n a x.fBody x.fBody.length 0 = some (a ++ (x.fBody.map (XS n)).flatten) := fun a ha =>
  K5 (F := fun a i => Xf n a x.fBody x.fBody.length i) (l := x.fBody) (fun a t => a.length + wSum QG t ≤ 1048576) (fun a t => a ++ (t.map (XS n)).flatten) (by
   intro a _
   rw [Xf]; simp) (by
   intro i y t a h0 h1 hm hix hI ih2
   rw [QP] at hI
   have hy := Lf n y
   rw [Xf, if_pos h1, hix, omS, bS, ih y hm (e7 y hm), bS]
   simp only [QH h0 h1 (by omega)]
   rw [if_pos (by rw [List.length_map]; omega), bS, ih2 _ (by rw [List.length_append]; omega)]
   simp) a ha
 have hg := Dp n x.fIdx
 have hr := Nw n x.fExpr
 have hil := Kp (f := wIdx) (l := x.fIdx) M7
 rw [Vi, Im, bS, LY]
 by_cases h : x.fOp = 2 ∨ x.fOp = 3
 ·rw [if_pos (by simpa using h), if_pos h, MZ n _ hn e3 (Tl e4), bS, Il n _ hn e2, bS, if_pos (by rw [List.length_map]; omega), bS]
 ·rw [if_neg (by simpa using h), if_neg h]
  by_cases h4 : x.fOp = 4
  ·rw [if_pos (by simpa using h4), if_pos h4, Il n _ hn e2]
   simp only [bS]
   rw [L _ (by omega), bS]
  ·rw [if_neg (by simpa using h4), if_neg h4]
   by_cases h1 : x.fOp = 1
   ·rw [if_neg (by simp [h1]), if_pos h1]
    simp only [bS]
    rw [L [] (by simp; omega), bS]; simp
   ·rw [if_pos (by simpa using h1), if_neg h1]
theorem NR (n : Qb) (hn : okN n) : ∀ e : Q7, QB e.f ≤ 1048576 → Vh n e.f = some (XS n e) := Q7.ind fun x ih hx => by
 rw [Q7.f_mk] at hx ⊢
 obtain ⟨e1, e2, e3, e4, e5, e6, e7⟩ := G8 hx
 have hxe : QB x = 1 + x.fName.length + wSum wIdx x.fIdx + Qn x.fExpr + wSum QG x.fBody := rfl
 have L : (x.fOp = 1 ∨ x.fOp = 4) → ∀ a : List Q5, a.length + wSum QG x.fBody ≤ 1048576 → Xd n x a 0 = some (a ++ (x.fBody.map (XS n)).flatten) := fun ho a ha =>
  K5 (F := fun a i => Xd n x a i) (l := x.fBody) (fun a t => a.length + wSum QG t ≤ 1048576) (fun a t => a ++ (t.map (XS n)).flatten) (by
   intro a _
   rw [Xd]; simp [bS]) (by
   intro i y t a h0 h1 hm hix hI ih2
   rw [QP] at hI
   have hy := Lf n y
   rw [Xd, bS]
   simp only [bS]
   rw [if_pos h1, op14, bS, if_pos (by simpa using ho), hix, omS, bS, ih y hm (e7 y hm), bS]
   simp only [QH h0 h1 (by omega)]
   rw [if_pos (by rw [List.length_map]; omega), ih2 _ (by rw [List.length_append]; omega)]
   simp) a ha
 have hg := Dp n x.fIdx
 have hr := Nw n x.fExpr
 have hil := Kp (f := wIdx) (l := x.fIdx) M7
 rw [Vh, bS, op23, bS, LY]
 by_cases h : x.fOp = 2 ∨ x.fOp = 3
 ·rw [if_pos (by simpa using h), if_pos h, MX n _ hn e3 (Tl e4), bS, Ik n _ hn e2, bS, if_pos (by rw [List.length_map]; omega), bS]
 ·rw [if_neg (by simpa using h), if_neg h, bS]
  by_cases h4 : x.fOp = 4
  ·rw [if_pos (by simpa using h4), if_pos h4, Ik n _ hn e2]
   simp only [bS]
   rw [L (.inr h4) _ (by omega), bS]
  ·rw [if_neg (by simpa using h4), if_neg h4]
   by_cases h1 : x.fOp = 1
   ·rw [if_pos h1]
    simp only [bS]
    rw [L (.inl h1) [] (by simp; omega), bS]; simp
   ·rw [if_neg h1]
    simp only [bS]
    rw [Xd]
    simp only [bS]
    rw [op14]
    simp [h1, h4, bS]
    try (split <;> simp [bS])
theorem P4 (x : Qa) (y : Q7) (h : x.fOp = 4) (hb : x.fBody = [y]) : UW (.mk x) = UW y := by
 rw [UW, dif_pos ⟨h, by rw [hb]; rfl⟩]; simp [hb]
theorem P5 (x : Qa) (h : ¬ (x.fOp = 4 ∧ x.fBody.length = 1)) : UW (.mk x) = x := by rw [UW, dif_neg h]
theorem one_of {x : Qa} (h : x.fBody.length = 1) : ∃ y, x.fBody = [y] := List.length_eq_one_iff.1 h
theorem Rw : ∀ e : Q7, Ko e.f = some (UW e) := Q7.ind fun x ih => by
 rw [Q7.f_mk, Ko]
 simp only [bS]
 by_cases h : x.fOp = 4 ∧ x.fBody.length = 1
 ·obtain ⟨y, hy⟩ := one_of h.2
  rw [P4 x y h.1 hy]
  simp only [h.1, hy, beq_self_eq_true, if_true, List.length_singleton, bS]
  have hz : ix [y] 0 = some y := rfl
  have := ih y (by rw [hy]; simp)
  simp [bS, hz, omS, this]
 ·rw [P5 x h]
  by_cases h4 : x.fOp = 4
  ·have h1 : ¬ x.fBody.length = 1 := fun e => h ⟨h4, e⟩
   have : ((x.fBody.length : Int) == 1) = false := by simp; omega
   simp [h4, this, bS]
  ·simp [h4, bS]
theorem Ij (x : Qa) : CV x = some (UW (.mk x)) := by
 unfold CV
 have := Rw (.mk x)
 rw [Q7.f_mk] at this
 simp only [bS, this]
theorem Tw : ∀ e : Q7, ∀ i : Int, 0 ≤ i → i + cd e ≤ 40 → V0 e.f i = some (UW e) := Q7.ind fun x ih i h0 hi => by
 rw [Q7.f_mk, V0]
 simp only [bS]
 rw [if_pos (by omega)]
 by_cases h : x.fOp = 4 ∧ x.fBody.length = 1
 ·obtain ⟨y, hy⟩ := one_of h.2
  rw [P4 x y h.1 hy]
  rw [cd_if x y h.1 hy] at hi
  have hz : ix [y] 0 = some y := rfl
  simp only [h.1, hy, beq_self_eq_true, if_true, List.length_singleton, bS, Int.ofNat_one, Int.cast_ofNat_Int, hz, omS]
  rw [QQ (n := i + 1) (by omega)]
  have := ih y (by rw [hy]; simp) (i + 1) (by omega) (by omega)
  simp [bS, this]
 ·rw [P5 x h]
  by_cases h4 : x.fOp = 4
  ·have h1 : ¬ x.fBody.length = 1 := fun e => h ⟨h4, e⟩
   have : ((x.fBody.length : Int) == 1) = false := by simp; omega
   simp [h4, this, bS]
  ·simp [h4, bS]
theorem MC (x : Qa) (h : cd (.mk x) ≤ 40) : WC x = some (UW (.mk x)) := by
 unfold WC
 have := Tw (.mk x) 0 (by omega) (by omega)
 rw [Q7.f_mk] at this
 simp only [bS, this]
theorem Tn {n : Qb} {x : Qa} (h : QB x ≤ 1048576) : (ZR n (.mk x)).length ≤ 1048576 ∧ (XS n (.mk x)).length ≤ 1048576 := by
 have h1 := Lg n (.mk x)
 have h2 := Lf n (.mk x)
 rw [K6, Q7.f_mk] at h1 h2
 exact ⟨by omega, by omega⟩
theorem Ev (n : Qb) (a b : Qa) (hn : okN n) (ha : QB a ≤ 1048576) (hb : QB b ≤ 1048576) : CJ n a b = some (LG n a b) := by
 have wa := Nd n hn (.mk a) ha
 have wb := Nd n hn (.mk b) hb
 have ra := NS n hn (.mk a) ha
 have rb := NS n hn (.mk b) hb
 rw [Q7.f_mk] at wa wb ra rb
 obtain ⟨a1, a2⟩ := Tn (n := n) ha
 obtain ⟨b1, b2⟩ := Tn (n := n) hb
 unfold CJ GL YP LG
 simp only [bS, wa, wb, ra, rb, Ij, DL _ _ a1 b2, DL _ _ a2 b1, DL _ _ a1 b1]
 by_cases c1 : ovL (ZR n (.mk a)) (XS n (.mk b)) = true
 ·simp [c1, bS]
 ·by_cases c2 : ovL (XS n (.mk a)) (ZR n (.mk b)) = true
  ·simp [c1, c2, bS]
  ·by_cases c3 : ovL (ZR n (.mk a)) (ZR n (.mk b)) = true
   ·by_cases f1 : (UW (.mk a)).fOp = 3 <;> by_cases f2 : (UW (.mk b)).fOp = 3 <;> simp [c1, c2, c3, f1, f2, bS]
   ·simp [c1, c2, c3, bS]
theorem Ry (n : Qb) (a b : Qa) (hn : okN n) (ha : QB a ≤ 1048576) (hb : QB b ≤ 1048576) (ca : cd (.mk a) ≤ 40) (cb : cd (.mk b) ≤ 40) : Wh n a b = some (LG n a b) := by
 have wa := Nb n hn (.mk a) ha
 have wb := Nb n hn (.mk b) hb
 have ra := NR n hn (.mk a) ha
 have rb := NR n hn (.mk b) hb
 rw [Q7.f_mk] at wa wb ra rb
 obtain ⟨a1, a2⟩ := Tn (n := n) ha
 obtain ⟨b1, b2⟩ := Tn (n := n) hb
 unfold Wh DF U2 LG
 simp only [bS, wa, wb, ra, rb, MC _ ca, MC _ cb, WU _ _ a1 b2, WU _ _ a2 b1, WU _ _ a1 b1]
 by_cases c1 : ovL (ZR n (.mk a)) (XS n (.mk b)) = true
 ·simp [c1, bS]
 ·by_cases c2 : ovL (XS n (.mk a)) (ZR n (.mk b)) = true
  ·simp [c1, c2, bS]
  ·by_cases c3 : ovL (ZR n (.mk a)) (ZR n (.mk b)) = true
   ·by_cases f1 : (UW (.mk a)).fOp = 3 <;> by_cases f2 : (UW (.mk b)).fOp = 3 <;> simp [c1, c2, c3, f1, f2, bS]
   ·simp [c1, c2, c3, bS]
end Go.Proofs.YtokfigmmegifeaaGreat
end
section
namespace Go.Proofs.YtokfigmmegifeaaGreat
open Go HY
set_option linter.unusedVariables false
theorem s_alive : G3 = some true := by
 unfold G3
 simp only [bS, DL [_] [_] (by simp) (by simp)]
 rfl
end Go.Proofs.YtokfigmmegifeaaGreat
end
section
namespace HY
open Go Go.RowKit
def HV.full (w : World) : HV := fun b o => w.cell? ⟨b, o, none⟩
theorem Q1i (w : World) : HV.sat (HV.full w) w := fun _ _ _ h => h
def RelL (H : HV) (avs : List AV) (cs : List Value) : Prop := avs.length = cs.length ∧ ∀ (j : Nat) (a : AV) (v : Value), avs[j]? = some a → cs[j]? = some v → a.one = true ∧ RelI H a v
theorem RelL.nil {H : HV} : RelL H [] [] := ⟨rfl, fun j a v h => by simp at h⟩
theorem RelL.one {H : HV} {a : AV} {v : Value} (h1 : a.one = true) (h : RelI H a v) : RelL H [a] [v] := ⟨rfl, fun j x u hx hu => by
 cases j with
 | zero => simp at hx hu; subst hx; subst hu; exact ⟨h1, h⟩
 | succ j => simp at hx⟩
theorem RelL.append {H : HV} {a b : List AV} {c d : List Value} (h : RelL H a c) (k : RelL H b d) : RelL H (a ++ b) (c ++ d) := by
 refine ⟨by simp [h.1, k.1], fun j x u hx hu => ?_⟩
 rw [List.getElem?_append] at hx hu
 split at hx
 ·rename_i hj; rw [if_pos (by rw [← h.1]; exact hj)] at hu; exact h.2 j x u hx hu
 ·rename_i hj; rw [if_neg (by rw [← h.1]; exact hj), ← h.1] at hu; exact k.2 _ x u hx hu
section
variable {H : Type} {enc : TypeId × Value → H} {P : Program} {w : World} {base : Nat} {spare : Nat → Bool} {held : Bool}
def XJ (enc : TypeId × Value → H) (P : Program) (w : World) (base : Nat) (spare : Nat → Bool) (held : Bool) (n : Nat) (t : TypeId) {α : Type} (E : α → List AV) (I : α → DataW H → Prop) : Prop :=
 ∀ fuel cs d ps, fuel ≤ n → DataW.trod enc P w base spare held fuel t cs = some (d, ps) → ∃ a, I a d ∧ RelL (HV.full w) (E a) cs
theorem Q0q (n : Nat) {t : TypeId} {k : IntKind} (ht : P.underlying t = some (.int k)) :
  XJ enc P w base spare held n t (fun a : Int => [.int k a]) (fun a d => (Lit.int k a).wf = true ∧ d = .lit (.int k a)) := fun fuel cs d ps _ h => by
 obtain ⟨m, rfl, he, hw⟩ := DataW.trod_int ht h
 cases he
 exact ⟨m, ⟨hw, rfl⟩, .one rfl (.int k m)⟩
theorem PA (n : Nat) {t : TypeId} (ht : P.underlying t = some .string) :
  XJ enc P w base spare held n t (fun a : List UInt8 => [.str a]) (fun a d => a.length ≤ maxLen ∧ d = .lit (.string a)) := fun fuel cs d ps _ h => by
 obtain ⟨m, rfl, he, hl⟩ := DataW.trod_string ht h
 cases he
 refine ⟨m.data.toList, ⟨by rw [Array.length_toList]; exact hl, rfl⟩, .one rfl ?_⟩
 have := RelI.str (H := HV.full w) m.data.toList
 simpa using this
def SliceI {α : Type} (I : α → DataW H → Prop) (l : List α) (d : DataW H) : Prop :=
 l.length ≤ maxLen ∧ ((l = [] ∧ d = .nil) ∨ ∃ elems spare, d = .slice elems spare ∧ elems.length = l.length ∧ ∀ (i : Nat) (a : α) (e : DataW H), l[i]? = some a → elems[i]? = some e → I a e)
theorem EI {α β : Type} (R : Nat → α → β → Prop) : ∀ (l : List β) (k : Nat), (∀ i b, l[i]? = some b → ∃ a, R (k + i) a b) → ∃ azz : List α, azz.length = l.length ∧ ∀ i a b, azz[i]? = some a → l[i]? = some b → R (k + i) a b
 | [], k, _ => ⟨[], rfl, fun i a b h => by simp at h⟩
 | b :: l, k, h => by
  obtain ⟨a, ha⟩ := h 0 b rfl
  obtain ⟨azz, hl, has⟩ := EI R l (k + 1) (fun i b' hb => by
   have := h (i + 1) b' hb
   rw [show k + 1 + i = k + (i + 1) by omega]; exact this)
  refine ⟨a :: azz, by simp [hl], fun i x y hx hy => ?_⟩
  cases i with
  | zero => simp at hx hy; subst hx; subst hy; exact ha
  | succ i =>
   have := has i x y hx hy
   rw [show k + 1 + i = k + (i + 1) by omega] at this; exact this
theorem OO {n : Nat} {t e : TypeId} {sz : Nat} {α : Type} {E : α → List AV} {I : α → DataW H → Prop} (F : α → AV) (ht : P.underlying t = some (.slice e)) (hc : P.cellsOf e = sz) (hpos : 0 < sz) (hF : ∀ a, (F a).cells = E a) (he : XJ enc P w base spare held n e E I) :
  XJ enc P w base spare held (n + 1) t (fun l : List α => [.sl sz (l.map F)]) (SliceI I) := fun fuel cs d ps hfu h => by
 rcases DataW.trod_slice ht h with ⟨rfl, hx⟩ | ⟨a, len, cap, elems, rest, m, rfl, rfl, hx, hb, hl, hm, hlen, hel, _, _⟩
 ·cases hx
  exact ⟨[], ⟨Nat.zero_le _, .inl ⟨rfl, rfl⟩⟩, .one rfl (.sl0 _ _ _ (Nat.zero_le _))⟩
 ·cases hx
  subst hc
  have hel' : ∀ i b, elems[i]? = some b → ∃ x : α, I x b.1 ∧ ∃ cs', w.cells? base (a.add ((0 + i) * P.cellsOf e)) (P.cellsOf e) = some cs' ∧ RelL (HV.full w) (E x) cs' := fun i b hb => by
   have hi : i < len := by rw [← hlen]; exact (List.getElem?_eq_some_iff.1 hb).1
   have := hel i hi
   rw [hb] at this
   obtain ⟨cs', h1, h2⟩ := Option.bind_eq_some_iff.1 this
   obtain ⟨x, hx, hr⟩ := he m cs' b.1 b.2 (by omega) h2
   exact ⟨x, hx, cs', by rw [Nat.zero_add]; exact h1, hr⟩
  obtain ⟨azz, hal, has⟩ := EI (fun i (x : α) (b : DataW H × List MemPlace) => I x b.1 ∧ ∃ cs', w.cells? base (a.add (i * P.cellsOf e)) (P.cellsOf e) = some cs' ∧ RelL (HV.full w) (E x) cs') elems 0 hel'
  have hget : ∀ i x, azz[i]? = some x → ∃ b, elems[i]? = some b := fun i x hx => by
   have : i < azz.length := (List.getElem?_eq_some_iff.1 hx).1
   exact ⟨_, List.getElem?_eq_getElem (by omega)⟩
  refine ⟨azz, ⟨by omega, .inr ⟨_, _, rfl, by simp [hal], fun i x e' hx he' => ?_⟩⟩, .one rfl ?_⟩
  ·rw [List.getElem?_map, Option.map_eq_some_iff] at he'
   obtain ⟨b, hb', rfl⟩ := he'
   exact (has i x b hx hb').1
  ·by_cases h0 : azz = []
   ·subst h0
    have : len = 0 := by rw [← hlen, ← hal]; rfl
    subst this
    exact .sl0 _ _ _ hm
   ·have hlen' : (azz.map F).length = len := by simp [hal, hlen]
    have h00 : 0 < azz.length := List.length_pos_iff.2 h0
    obtain ⟨b0, hb0⟩ := hget 0 azz[0] (List.getElem?_eq_getElem h00)
    obtain ⟨_, cs0, hc0, _⟩ := has 0 _ _ (List.getElem?_eq_getElem h00) hb0
    obtain ⟨_, hcl, hcell⟩ := World.cells?_some hc0
    have hspot : a.spot = none := by
     have := hcell 0 hpos
     rw [List.getElem?_eq_getElem (by omega)] at this
     have := World.cell?_spot this
     simpa [Addr.add] using this
    obtain ⟨ab, ao, asp⟩ := a
    simp only at hspot
    subst hspot
    rw [← hlen']
    refine .sl (P.cellsOf e) (azz.map F) ab ao cap (fun i j => (w.cell? ⟨ab, ao + i * P.cellsOf e + j, none⟩).getD Go.undef) hpos (by omega) hm (fun i x hx => ?_) (fun i x j c hx hj => ?_) (fun i x j c hx hj => ?_)
    all_goals
     rw [List.getElem?_map, Option.map_eq_some_iff] at hx
     obtain ⟨y, hy, rfl⟩ := hx
     obtain ⟨b, hb'⟩ := hget i y hy
     obtain ⟨_, cs', hc', hr⟩ := has i y b hy hb'
     obtain ⟨_, hcl', hcell'⟩ := World.cells?_some hc'
    ·rw [hF, hr.1, hcl']
    all_goals
     rw [hF] at hj
     have hjl : j < P.cellsOf e := by
      have := (List.getElem?_eq_some_iff.1 hj).1
      rw [hr.1, hcl'] at this; exact this
     have hcj : cs'[j]? = some (cs'[j]'(by omega)) := List.getElem?_eq_getElem (by omega)
     have hw := hcell' j hjl
     rw [hcj] at hw
     have hadd : ((⟨ab, ao, none⟩ : Addr).add ((0 + i) * P.cellsOf e)).add j = ⟨ab, ao + i * P.cellsOf e + j, none⟩ := by
      rw [Nat.zero_add]
      unfold Addr.add
      split <;> split <;> simp_all
     rw [hadd] at hw
     obtain ⟨h1, h2⟩ := hr.2 j c _ hj hcj
    ·simp only [HV.full, hw, Option.getD_some, true_and]
     exact h2.oneCell h1
    ·simp only [hw, Option.getD_some]
     exact h2
def Mb (P : Program) : Nat → List Field → Nat → Bool
 | o, [], o' => o == o'
 | o, f :: fs, o' => f.offset == o && Mb P (o + P.cellsOf f.type) fs o'
def NB (enc : TypeId × Value → H) (P : Program) (w : World) (base : Nat) (spare : Nat → Bool) (held : Bool) (n : Nat) (fs : List Field) {α : Type} (E : α → List AV) (I : α → List (DataW H) → Prop) : Prop :=
 ∀ (fuel o o' : Nat) (cs : List Value) (xs : List (DataW H × List MemPlace)), fuel ≤ n → xs.length = fs.length → Mb P o fs o' = true → cs.length = o' →
  (∀ (i : Nat) (f : Field), fs[i]? = some f → DataW.trod enc P w base spare held fuel f.type ((cs.drop f.offset).take (P.cellsOf f.type)) = xs[i]?) → ∃ a, I a (xs.map (·.1)) ∧ RelL (HV.full w) (E a) (cs.drop o)
theorem BU (n : Nat) : NB enc P w base spare held n [] (fun _ : Unit => []) (fun _ ds => ds = []) := fun fuel o o' cs xs _ hl hf hc _ => by
 simp only [Mb, beq_iff_eq] at hf
 have : xs = [] := List.length_eq_zero_iff.1 hl
 subst this
 refine ⟨(), rfl, ?_⟩
 rw [List.drop_of_length_le (by omega)]
 exact .nil
theorem ON {n : Nat} {f : Field} {fs : List Field} {α β : Type} {E1 : α → List AV} {I1 : α → DataW H → Prop} {E2 : β → List AV} {I2 : β → List (DataW H) → Prop}
  (h1 : XJ enc P w base spare held n f.type E1 I1) (h2 : NB enc P w base spare held n fs E2 I2) :
  NB enc P w base spare held n (f :: fs) (fun x : α × β => E1 x.1 ++ E2 x.2) (fun x ds => ∃ d ds', ds = d :: ds' ∧ I1 x.1 d ∧ I2 x.2 ds') := fun fuel o o' cs xs hfu hl hf hc hx => by
 simp only [Mb, Bool.and_eq_true, beq_iff_eq] at hf
 obtain ⟨ho, hf⟩ := hf
 cases xs with
 | nil => simp at hl
 | cons x xs =>
  have h0 := hx 0 f rfl
  simp only [List.getElem?_cons_zero] at h0
  obtain ⟨a, ha, hra⟩ := h1 fuel _ x.1 x.2 hfu h0
  obtain ⟨b, hb, hrb⟩ := h2 fuel (o + P.cellsOf f.type) o' cs xs hfu (by simpa using hl) hf hc (fun i g hg => hx (i + 1) g hg)
  refine ⟨(a, b), ⟨x.1, xs.map (·.1), rfl, ha, hb⟩, ?_⟩
  have := hra.append hrb
  rw [ho, ← List.drop_drop, List.take_append_drop] at this
  exact this
theorem PB {n : Nat} {t : TypeId} {fs : Array Field} {α : Type} {E : α → List AV} {I : α → List (DataW H) → Prop} (ht : P.underlying t = some (.struct fs)) (hf : Mb P 0 fs.toList (P.cellsOf t) = true)
  (h : NB enc P w base spare held n fs.toList E I) : XJ enc P w base spare held (n + 1) t E (fun a d => ∃ ds, d = .agg ds ∧ I a ds) := fun fuel cs d ps hfu hh => by
 obtain ⟨xs, m, rfl, hx, hc, hl, hel⟩ := DataW.trod_struct ht hh
 cases hx
 obtain ⟨a, ha, hr⟩ := h m 0 _ cs xs (by omega) (by simpa using hl) hf hc (fun i f hfi => hel i f (by rw [← Array.getElem?_toList]; exact hfi))
 exact ⟨a, ⟨_, rfl, ha⟩, by simpa using hr⟩
theorem XJ.to {n : Nat} {t : TypeId} {α β : Type} {E : α → List AV} {I : α → DataW H → Prop} (h : XJ enc P w base spare held n t E I) (g : α → β) {E' : β → List AV} {I' : β → DataW H → Prop} (hE : ∀ a, E' (g a) = E a) (hI : ∀ a d, I a d → I' (g a) d) :
  XJ enc P w base spare held n t E' I' := fun fuel cs d ps hfu hh => by
 obtain ⟨a, ha, hr⟩ := h fuel cs d ps hfu hh
 exact ⟨g a, hI a d ha, by rw [hE]; exact hr⟩
theorem XJ.le {n m : Nat} {t : TypeId} {α : Type} {E : α → List AV} {I : α → DataW H → Prop} (h : XJ enc P w base spare held n t E I) (hm : m ≤ n) : XJ enc P w base spare held m t E I :=
 fun fuel cs d ps hfu hh => h fuel cs d ps (Nat.le_trans hfu hm) hh
theorem XJ.arg {t : TypeId} {α : Type} {E : α → List AV} {I : α → DataW H → Prop} (h : ∀ n, XJ enc P w base spare held n t E I) {v : Value} {d : DataW H} {ps : List MemPlace} (hd : DataW.Trod enc P w base spare held t v d ps) :
  ∃ a, I a d ∧ RelL (HV.full w) (E a) v.cells.toList := by
 obtain ⟨fuel, hf⟩ := hd
 exact h fuel fuel _ _ _ (Nat.le_refl _) hf
end
end HY
end
section
namespace HY
open Go Go.RowKit Go.ChangeShapes Go.WideShapes Go.ChangeAt
theorem It {H : Type} {enc : TypeId × Value → H} {P : Program} (hl : laidOutB P = true) {W W' : World} (hb : Below W.heap.size W W') : ∀ {ts : List TypeId} {vs : List Value} {ds : List (DataW H)} {ps : List MemPlace},
  (∀ t ∈ ts, P.readableRec t = true ∧ t < P.types.size) → DataW.TrodAll enc P W 0 (fun _ => true) true ts vs ds ps → (∀ p ∈ ps, p.block < W.heap.size) → DataW.TrodAll enc P W' 0 (fun b => decide (b < W.heap.size)) true ts vs ds ps
 | [], [], [], _, _, h, _ => h
 | t :: ts, v :: vs, d :: ds, _, ht, ⟨p, q, h1, h2, e⟩, hp =>
  ⟨p, q, Below.trod hl (ht t (List.mem_cons_self ..)).1 (ht t (List.mem_cons_self ..)).2 h1 hb (fun x hx => hp x (by rw [e]; exact List.mem_append_left _ hx)),
   It hl hb (fun t' h' => ht t' (List.mem_cons_of_mem _ h')) h2 (fun x hx => hp x (by rw [e]; exact List.mem_append_right _ hx)), e⟩
 | [], _ :: _, _, _, _, h, _ => h.elim
 | [], [], _ :: _, _, _, h, _ => h.elim
 | _ :: _, [], _, _, _, h, _ => h.elim
 | _ :: _, _ :: _, [], _, _, h, _ => h.elim
structure LawOk (P : Program) (f : Func) (tb : TypeId) : Prop where
 laid : laidOutB P = true
 pars : (f.params.toList.all fun t => P.readableRec t && decide (t < P.types.size)) = true
 res : f.resultTypes = #[tb]
 bool : P.underlying tb = some .bool
theorem Q0o {H : Type} {enc : TypeId × Value → H} {P : Program} {f : Func} {tb : TypeId} (hok : LawOk P f tb) {s : ChangeSpec} {W W' : World} {args : Array Value} {ds gs : List (DataW H)} {before : List MemPlace} (hv : s.vars = [])
  (hW : DataW.Whole enc P f.params.toList s.vars false W args.toList ds gs before) (hfn : s.fn H (ds ++ gs) = { results := [.lit (.bool true)], args := ds }) (hb : Below W.heap.size W W') : s.post enc P f false true false false W args (.bool true) W' := by
 have hlt := hW.lt
 have hW' := hW
 obtain ⟨p, q, hA, hV, rfl, _, _⟩ := hW
 rw [hv] at hV
 obtain ⟨rfl, rfl⟩ : gs = [] ∧ q = [] := by
  cases gs with
  | nil => exact ⟨rfl, hV⟩
  | cons => exact hV.elim
 have hp := hok.pars
 rw [List.all_eq_true] at hp
 refine ⟨ds, [], p ++ [], [], p, [], hW', ?_, ?_, ?_, hb.frame _, fun h => by cases h⟩
 ·rw [hfn, hok.res]
  exact ⟨[], [], shut_bool hok.bool _, rfl, rfl⟩
 ·rw [hfn]
  exact It hok.laid hb (fun t ht => by have := hp t ht; simp only [Bool.and_eq_true, decide_eq_true_eq] at this; exact this) hA (fun x hx => hlt x (List.mem_append_left _ hx))
 ·rw [hfn, hv]; exact rfl
end HY
end
section
namespace Go.Proofs.YtokfigmmegifeaaGreat
open Go HY Go.RowKit Go.ChangeShapes Go.WideShapes Go.ChangeAt
set_option linter.unusedVariables false
section
variable {H : Type} {enc : TypeId × Value → H} {P : Program} {w : World} {base : Nat} {spare : Nat → Bool} {held : Bool}
theorem DN {α : Type} (l : List α) : wSum (fun _ => 1) l = l.length := by
 induction l with
 | nil => rfl
 | cons a l ih => rw [QP, ih, List.length_cons]; omega
theorem rwZero {α : Type} (t : TypeId) (E : α → List AV) {I : α → DataW H → Prop} : XJ enc P w base spare held 0 t E I := fun fuel cs d ps hf h => by
 obtain rfl : fuel = 0 := by omega
 simp [DataW.trod] at h
theorem GW (n : Nat) {t : TypeId} {k : IntKind} (ht : P.underlying t = some (.int k)) : XJ enc P w base spare held n t (fun a : Int => [.int k a]) (fun _ d => 1 ≤ Rows.uptoBulk d) :=
 (Q0q n ht).to id (fun _ => rfl) fun a d h => by obtain ⟨_, rfl⟩ := h; simp [Rows.uptoBulk]
theorem Tv (n : Nat) {t : TypeId} (ht : P.underlying t = some .string) : XJ enc P w base spare held n t (fun a : Str => [.str a]) (fun a d => a.length + 1 ≤ Rows.uptoBulk d) :=
 (PA n ht).to id (fun _ => rfl) fun a d h => by obtain ⟨_, rfl⟩ := h; simp [Rows.uptoBulk]
theorem P0 {α : Type} {f : α → Nat} : ∀ (l : List α) (ds : List (DataW H)), ds.length = l.length → (∀ (i : Nat) (a : α) (e : DataW H), l[i]? = some a → ds[i]? = some e → f a ≤ Rows.uptoBulk e) → wSum f l ≤ Rows.uptoBulkAll ds
 | [], _, _, _ => by rw [Z6]; omega
 | a :: l, [], h, _ => by simp at h
 | a :: l, d :: ds, h, hi => by
  have h0 := hi 0 a d rfl rfl
  have := P0 (f := f) l ds (by simpa using h) fun i b e hb he => hi (i + 1) b e (by simpa using hb) (by simpa using he)
  rw [QP]; simp only [Rows.uptoBulkAll]; omega
theorem CE {n : Nat} {t e : TypeId} {sz : Nat} {α : Type} {E : α → List AV} {f : α → Nat} (F : α → AV) (ht : P.underlying t = some (.slice e)) (hc : P.cellsOf e = sz) (hpos : 0 < sz) (hF : ∀ a, (F a).cells = E a) (he : XJ enc P w base spare held n e E (fun a d => f a ≤ Rows.uptoBulk d)) :
  XJ enc P w base spare held (n + 1) t (fun l : List α => [.sl sz (l.map F)]) (fun l d => wSum f l + 1 ≤ Rows.uptoBulk d) :=
 (OO F ht hc hpos hF he).to id (fun _ => rfl) fun l d h => by
  obtain ⟨_, ⟨rfl, rfl⟩ | ⟨elems, sp, rfl, hl, hi⟩⟩ := h
  ·simp [Rows.uptoBulk, Z6]
  ·have := P0 (f := f) l elems hl hi
   simp only [Rows.uptoBulk, id]; omega
theorem M3 (n : Nat) : NB enc P w base spare held n [] (fun _ : Unit => []) (fun _ ds => 0 ≤ Rows.uptoBulkAll ds) := fun fuel o o' cs xs hf hl hb hc hx => by
 obtain ⟨a, _, h⟩ := BU n fuel o o' cs xs hf hl hb hc hx
 exact ⟨a, Nat.zero_le _, h⟩
theorem Zn {n : Nat} {f : Field} {fs : List Field} {α β : Type} {E1 : α → List AV} {w1 : α → Nat} {E2 : β → List AV} {w2 : β → Nat}
  (h1 : XJ enc P w base spare held n f.type E1 (fun a d => w1 a ≤ Rows.uptoBulk d)) (h2 : NB enc P w base spare held n fs E2 (fun a ds => w2 a ≤ Rows.uptoBulkAll ds)) :
  NB enc P w base spare held n (f :: fs) (fun x : α × β => E1 x.1 ++ E2 x.2) (fun x ds => w1 x.1 + w2 x.2 ≤ Rows.uptoBulkAll ds) := fun fuel o o' cs xs hf hl hb hc hx => by
 obtain ⟨a, ⟨d, ds, e, i1, i2⟩, h⟩ := ON h1 h2 fuel o o' cs xs hf hl hb hc hx
 exact ⟨a, by rw [e]; simp only [Rows.uptoBulkAll]; omega, h⟩
theorem DK {n : Nat} {t : TypeId} {fs : Array Field} {α : Type} {E : α → List AV} {f : α → Nat} (ht : P.underlying t = some (.struct fs)) (hf : Mb P 0 fs.toList (P.cellsOf t) = true)
  (h : NB enc P w base spare held n fs.toList E (fun a ds => f a ≤ Rows.uptoBulkAll ds)) : XJ enc P w base spare held (n + 1) t E (fun a d => f a + 1 ≤ Rows.uptoBulk d) :=
 (PB ht hf h).to id (fun _ => rfl) fun a d hd => by
  obtain ⟨ds, rfl, h⟩ := hd
  simp only [Rows.uptoBulk, id]; omega
end
theorem u3 : Tryz.prog.underlying 3 = some (.int .i64) := by kernel_rfl
theorem u34 : Tryz.prog.underlying 34 = some (.slice 3) := by kernel_rfl
theorem c34 : Tryz.prog.cellsOf 3 = 1 := by kernel_rfl
theorem u9 : Tryz.prog.underlying 9 = some .string := by kernel_rfl
theorem u2 : Tryz.prog.underlying 2 = some (.int .i64) := by kernel_rfl
theorem u40 : Tryz.prog.underlying 40 = some (.slice 190) := by kernel_rfl
theorem c40 : Tryz.prog.cellsOf 190 = 2 := by kernel_rfl
theorem u130 : Tryz.prog.underlying 130 = some (.slice 42) := by kernel_rfl
theorem c130 : Tryz.prog.cellsOf 42 = 2 := by kernel_rfl
theorem u43 : Tryz.prog.underlying 43 = some (.slice 45) := by kernel_rfl
theorem c43 : Tryz.prog.cellsOf 45 = 13 := by kernel_rfl
theorem u35 : Tryz.prog.underlying 35 = some (.slice 132) := by kernel_rfl
theorem c35 : Tryz.prog.cellsOf 132 = 4 := by kernel_rfl
theorem u23 : Tryz.prog.underlying 23 = some (.slice 47) := by kernel_rfl
theorem c23 : Tryz.prog.cellsOf 47 = 20 := by kernel_rfl
theorem u22 : Tryz.prog.underlying 22 = some (.slice 100) := by kernel_rfl
theorem c22 : Tryz.prog.cellsOf 100 = 8 := by kernel_rfl
section
variable {H : Type} (enc : TypeId × Value → H) (w : World) (base : Nat) (spare : Nat → Bool) (held : Bool)
theorem Px (n : Nat) : XJ enc Tryz.prog w base spare held n 39 (fun x : Qg => (Qy x).cells) (fun x d => 1 ≤ Rows.uptoBulk d) :=
 ((DK Tryz.underlying39 (by kernel_rfl) (Zn (GW n u3) (Zn (GW n u3) (Zn (GW n u3) (Zn (GW n u3) (Zn (GW n u3) (M3 n))))))).to (fun x => Qg.mk x.1 x.2.1 x.2.2.1 x.2.2.2.1 x.2.2.2.2.1) (fun _ => rfl) (fun a d h => by first | omega | (simp only [KL, wLin, wIdx, Qn, QB, wBuf, JZ, DN] at *; omega))).le (Nat.le_succ n)
theorem Q00 (n : Nat) : XJ enc Tryz.prog w base spare held n 100 (fun x : Qw => (Qx x).cells) (fun x d => wBuf x ≤ Rows.uptoBulk d) :=
 ((DK Tryz.underlying100 (by kernel_rfl) (Zn (Tv n u9) (Zn (Px enc w base spare held n) (Zn ((CE eI u34 c34 (by decide) (fun _ => rfl) (GW n u3)).le (Nat.le_succ _)) (Zn (GW n u3) (M3 n)))))).to (fun x => Qw.mk x.1 x.2.1 x.2.2.1 x.2.2.2.1) (fun _ => rfl) (fun a d h => by first | omega | (simp only [KL, wLin, wIdx, Qn, QB, wBuf, JZ, DN] at *; omega))).le (Nat.le_succ n)
theorem Q1r (n : Nat) : XJ enc Tryz.prog w base spare held n 190 (fun x : Cy => (Qe x).cells) (fun x d => KL x ≤ Rows.uptoBulk d) :=
 ((DK Tryz.underlying190 (by kernel_rfl) (Zn (Tv n u9) (Zn (GW n u2) (M3 n)))).to (fun x => Cy.mk x.1 x.2.1) (fun _ => rfl) (fun a d h => by first | omega | (simp only [KL, wLin, wIdx, Qn, QB, wBuf, JZ, DN] at *; omega))).le (Nat.le_succ n)
theorem Sp (n : Nat) : XJ enc Tryz.prog w base spare held n 42 (fun x : gLin => (Qi x).cells) (fun x d => wLin x ≤ Rows.uptoBulk d) :=
 ((DK Tryz.underlying42 (by kernel_rfl) (Zn (GW n u2) (Zn ((CE Qe u40 c40 (by decide) (fun _ => rfl) (Q1r enc w base spare held n)).le (Nat.le_succ _)) (M3 n)))).to (fun x => gLin.mk x.1 x.2.1) (fun _ => rfl) (fun a d h => by first | omega | (simp only [KL, wLin, wIdx, Qn, QB, wBuf, JZ, DN] at *; omega))).le (Nat.le_succ n)
theorem A0 (n : Nat) : XJ enc Tryz.prog w base spare held n 132 (fun x : Q8 => (Q3 x).cells) (fun x d => wIdx x ≤ Rows.uptoBulk d) :=
 ((DK Tryz.underlying132 (by kernel_rfl) (Zn (Sp enc w base spare held n) (Zn (Tv n u9) (Zn ((CE Qi u130 c130 (by decide) (fun _ => rfl) (Sp enc w base spare held n)).le (Nat.le_succ _)) (M3 n))))).to (fun x => Q8.mk x.1 x.2.1 x.2.2.1) (fun _ => rfl) (fun a d h => by first | omega | (simp only [KL, wLin, wIdx, Qn, QB, wBuf, JZ, DN] at *; omega))).le (Nat.le_succ n)
theorem rd_gVal (n : Nat) : XJ enc Tryz.prog w base spare held n 37 (fun x : gVal => (Qk x).cells) (fun x d => 1 ≤ Rows.uptoBulk d) :=
 ((DK Tryz.underlying37 (by kernel_rfl) (Zn (GW n u2) (Zn (GW n u2) (M3 n)))).to (fun x => gVal.mk x.1 x.2.1) (fun _ => rfl) (fun a d h => by first | omega | (simp only [KL, wLin, wIdx, Qn, QB, wBuf, JZ, DN] at *; omega))).le (Nat.le_succ n)
theorem Pv : ∀ n, XJ enc Tryz.prog w base spare held n 45 (fun x : Q1 => (Q6 x).cells) (fun x d => Qn x ≤ Rows.uptoBulk d)
 | 0 => rwZero _ _
 | n + 1 => (DK Tryz.underlying45 (by kernel_rfl) (Zn (GW n u3) (Zn (Tv n u9) (Zn (rd_gVal enc w base spare held n) (Zn (Px enc w base spare held n) (Zn (Sp enc w base spare held n) (Zn ((CE Q3 u35 c35 (by decide) (fun _ => rfl) (A0 enc w base spare held n)).le (Nat.le_succ _)) (Zn ((CE (f := Y7) Ql u43 c43 (by decide) (fun _ => rfl) ((Pv n).to Q9.mk (fun x => by rw [ND]) (fun x d h => by rw [Uz]; exact h))).le (Nat.le_succ _)) (M3 n))))))))).to (fun x => (QV.mk x.1 x.2.1 x.2.2.1 x.2.2.2.1 x.2.2.2.2.1 x.2.2.2.2.2.1 x.2.2.2.2.2.2.1 : Q1)) (fun _ => rfl) (fun a d h => by first | omega | (simp only [KL, wLin, wIdx, Qn, QB, wBuf, JZ, DN] at *; omega))
theorem Pw : ∀ n, XJ enc Tryz.prog w base spare held n 47 (fun x : Qa => (Qm x).cells) (fun x d => QB x ≤ Rows.uptoBulk d)
 | 0 => rwZero _ _
 | n + 1 => (DK Tryz.underlying47 (by kernel_rfl) (Zn (GW n u3) (Zn (Tv n u9) (Zn (GW n u3) (Zn (GW n u3) (Zn (GW n u3) (Zn ((CE Q3 u35 c35 (by decide) (fun _ => rfl) (A0 enc w base spare held n)).le (Nat.le_succ _)) (Zn (Pv enc w base spare held n) (Zn ((CE (f := QG) Qr u23 c23 (by decide) (fun _ => rfl) ((Pw n).to Q7.mk (fun x => by rw [MQ]) (fun x d h => by rw [K6]; exact h))).le (Nat.le_succ _)) (M3 n)))))))))).to (fun x => (Xh.mk x.1 x.2.1 x.2.2.1 x.2.2.2.1 x.2.2.2.2.1 x.2.2.2.2.2.1 x.2.2.2.2.2.2.1 x.2.2.2.2.2.2.2.1 : Qa)) (fun _ => rfl) (fun a d h => by first | omega | (simp only [KL, wLin, wIdx, Qn, QB, wBuf, JZ, DN] at *; omega))
theorem Q0p (n : Nat) : XJ enc Tryz.prog w base spare held n 47 (fun x : Q7 => (Qr x).cells) (fun x d => QG x ≤ Rows.uptoBulk d) := (Pw enc w base spare held n).to Q7.mk (fun x => by rw [MQ]) (fun x d h => by rw [K6]; exact h)
theorem Q1s (n : Nat) : XJ enc Tryz.prog w base spare held n 25 (fun x : Qb => (Qp x).cells) (fun x d => JZ x ≤ Rows.uptoBulk d) :=
 ((DK Tryz.underlying25 (by kernel_rfl) (Zn ((CE Qx u22 c22 (by decide) (fun _ => rfl) (Q00 enc w base spare held n)).le (Nat.le_succ _)) (Zn ((CE (f := QG) Qr u23 c23 (by decide) (fun _ => rfl) (Q0p enc w base spare held n)).le (Nat.le_succ _)) (M3 n)))).to (fun x => Qb.mk x.1 x.2.1) (fun _ => rfl) (fun a d h => by first | omega | (simp only [KL, wLin, wIdx, Qn, QB, wBuf, JZ, DN] at *; omega))).le (Nat.le_succ n)
end
theorem own : ownKnob Tryz.prog.godebug = none := by kernel_rfl
theorem RelL.agg {K : HV} {ys : List AV} {cs : Array Value} (h : RelL K ys (Value.agg cs).cells.toList) : RelI K (.agg ys) (.agg cs) := by
 have hc : (Value.agg cs).cells = cs := rfl
 rw [hc] at h
 refine .agg ys cs (by rw [h.1]; simp) (fun v hv => ?_) fun j a v ha hv => (h.2 j a v ha (by simpa using hv)).2
 obtain ⟨j, hj, rfl⟩ := Array.mem_iff_getElem.1 hv
 have hl : j < ys.length := by rw [h.1]; simpa using hj
 obtain ⟨h1, h2⟩ := h.2 j ys[j] cs[j] (List.getElem?_eq_getElem hl) (by simp [hj])
 exact h2.oneCell h1
theorem BW {P : Program} {gl : Nat → AV} {f : FuncId} {args : List AV} (hent : NA P f) (h : Pu P gl f args (.bool true)) {W : World} {vs : Array Value} (hl : args.length = vs.size) (hgl : ∀ g, RelI (HV.full W) (gl g) (.pointer (some ⟨g, 0, none⟩))) (hgv : GvOk gl (fun k => k < W.heap.size) W)
  (hr : ∀ (j : Nat) (x : AV) (v : Value), args[j]? = some x → vs[j]? = some v → RelI (HV.full W) x v) : Calls P f vs W fun e W' => e = .returned (.bool true) ∧ Below W.heap.size W W' := by
 refine (Ans.calls (he := hent) <| h.ok (fun _ => ⟨0, 0, 0⟩) (HV.full W) (fun k => k < W.heap.size) (HV.full W) W vs
  { sat := Q1i W, old := fun _ _ _ => rfl, low := fun _ h => h, fresh := fun _ _ => Zi _, box := (fun _ _ hh => by rw [Zi] at hh; cases hh), sepR := (fun _ _ hh => by rw [Zi] at hh; cases hh), injR := (fun _ _ _ _ hh => by rw [Zi] at hh; cases hh), gv := hgv, gl := hgl, ty := (fun _ _ _ hh => by rw [Zi] at hh; cases hh) } hl
  (fun j x v hx hv => .imm _ _ (hr j x v hx hv))).mono fun e W' hpost => ?_
 obtain ⟨v, m', H', he, hb, _, hv⟩ := hpost
 have := hv.bool_inv
 subst this
 exact ⟨he, hb.toB⟩
end Go.Proofs.YtokfigmmegifeaaGreat
end
noncomputable section
namespace Go.Proofs.YtokfigmmegifeaaGreat
open Go HY
set_option maxRecDepth 1000000
set_option linter.unusedVariables false
def Gf (s : Qb) (u : ((List Qz) × Int)) (o : List QI) : List Alt := [⟨fun (x : List QI) => x = o, .exit 0, fun x => [.sl 22 (List.map QC x)], fun x => []⟩]
def YU (x2 : Qb) (x5 : List QI) (x8 : List Qz) (x9 : Int) (x10 : Int) : Option (List QI) :=
 if x10 < x9 then
 ix x8 x10 >>= fun v0 =>
 GL x2 v0.fOp >>= fun v1 =>
 if (x5.length + (1 : Nat)) * (304 : Nat) ≤ (140737488355328 : Nat) ∧ x5.length + (1 : Nat) ≤ (9223372036854775807 : Nat) then
 some (x5 ++ [v1]) >>= fun v2 =>
 YU x2 v2 x8 x9 (wr (x10 + 1))
 else none
 else
 some x5
 partial_fixpoint
theorem RZ (x2 : Qb) (x5 : List QI) (x8 : List Qz) (x9 : Int) (x10 : Int) (o : List QI) (h : YU x2 x5 x8 x9 x10 = some o) : LO 20 3 23 [2, 5, 8, 9, 10] [.ptr 0 0 0, .ow 1 0 22 (List.length x5), .sl 22 (List.map Qj x8), ii x9, ii x10] [.cells 0 (Qp x2).cells, .own 0 22 (List.map QC x5)] [5] (Gf x2 (x8, x9) o) :=
 YU.partial_correctness x2 x8 x9 (fun x5 x10 o => LO 20 3 23 [2, 5, 8, 9, 10] [.ptr 0 0 0, .ow 1 0 22 (List.length x5), .sl 22 (List.map Qj x8), ii x9, ii x10] [.cells 0 (Qp x2).cells, .own 0 22 (List.map QC x5)] [5] (Gf x2 (x8, x9) o))
 (fun YU Q38 x5 x10 o h  =>
 Lp2 (hs := [(11, .split), (12, .e Qj), (18, .c QC), (20, .z [{ slot := 14, own := 22 }] (some (.n QC 20 (some .a))))]) (kb := [kk 2, { slot := 5, own := 22 }]) (kbx := [{ slot := 5, fz := true }]) ((kIfD (p := x10 < x9) (kIx (enc := Qj) (l := x8) (k := x10) fun v0 => (kC (sh := QC) (Oy x2 v0.fOp) fun v1 => (kA (q := (x5.length + (1 : Nat)) * (304 : Nat) ≤ (140737488355328 : Nat) ∧ x5.length + (1 : Nat) ≤ (9223372036854775807 : Nat)) (sh := QC) (l := x5) (kO (sh := QC) (x5 ++ [v1]) (mA (sh := QC) x5 v1) (nA x5 v1) fun v2 => (kM0 (alts := Gf x2 (x8, x9)) (Q38 v2 (wr (x10 + 1))))))))
 (kT (nM (sh := QC) x5) (kX (alts := Gf x2 (x8, x9)) x5 (.here _ rfl (.refl _) (.refl _))))) h)) x5 x10 o h
def Ws (x0 : Qb) (x1 : List Qz) : Option (List QI) :=
 some (List.length x1 : Int) >>= fun v0 =>
 some (x1, v0) >>= fun v1 =>
 YU x0 [] x1 v0 0 >>= fun v3 =>
 some v3
theorem FA (x0 : Qb) (x1 : List Qz) (r : List QI) (h : Ws x0 x1 = some r) : PU 20 [Qp x0, GN x1] (UT r) :=
 Pu2 (hs := [(9, .n eI 9 none), (3000004, .l [] [2, 5, 8, 9, 10] [kk 2, { slot := 5, own := 22 }] [5] [{ slot := 5, fz := true }] (Gf x0))]) ((kN _ (mLen (sh := Qj) x1) fun v0 => (kL1 (x1, v0) (RZ x0 [] x1 v0 0) fun v1 v3 => (kEr (enc := UT) v3))) h)
def U4 (s : ((List QI) × Int)) (u : (Int × Int × Int)) (o : List QA) : List Alt := [⟨fun (x : List QA) => x = o, .exit 2, fun x => [.sl 22 (List.map QC s.1), .ow 0 0 2 (List.length x), ii s.2, ii u.2.1], fun x => [.own 0 2 (List.map QD x)]⟩]
def UY (s : ((List QI) × Int × Int × Int × Int)) (u : Int) (o : List QA) : List Alt := [⟨fun (x : List QA) => x = o, .normal, fun x => [.sl 22 (List.map QC (s.1)), .ow 0 0 2 (List.length x), ii (s.2.1), ii (s.2.2.1), ii (s.2.2.2.1), ii (s.2.2.2.2), ii u], fun x => [.own 0 2 (List.map QD x)]⟩]
def Xk (x5 : List QI) (x6 : List QA) (x7 : Int) (x20 : Int) (x21 : Int) : Option (List QA) :=
 if x21 < x20 then
 some x21 >>= fun v0 =>
 (ix x5 x21 >>= fun v2 =>
 ix x5 x7 >>= fun v3 =>
 YP v2 v3 >>= fun v4 =>
 if v4 != 0 then
 some ((QA.mk x21 x7)) >>= fun v5 =>
 if (x6.length + (1 : Nat)) * (16 : Nat) ≤ (140737488355328 : Nat) ∧ x6.length + (1 : Nat) ≤ (9223372036854775807 : Nat) then
 some (x6 ++ [v5]) >>= fun v6 =>
 some v6
 else none
 else
 some x6) >>= fun v7 =>
 Xk x5 v7 x7 x20 (wr (v0 + 1))
 else
 some x6
 partial_fixpoint
theorem Ee (x5 : List QI) (x6 : List QA) (x7 : Int) (x16 : Int) (x17 : Int) (x20 : Int) (x21 : Int) (o : List QA) (h : Xk x5 x6 x7 x20 x21 = some o) : LO 10 9 45 [5, 6, 7, 16, 17, 20, 21] [.sl 22 (List.map QC x5), .ow 0 0 2 (List.length x6), ii x7, ii x16, ii x17, ii x20, ii x21] [.own 0 2 (List.map QD x6)] [5, 6, 16, 17] (U4 (x5, x16) (x7, x17, x20) o) :=
 Xk.partial_correctness x5 x7 x20 (fun x6 x21 o => ∀ (x16 : Int) (x17 : Int), LO 10 9 45 [5, 6, 7, 16, 17, 20, 21] [.sl 22 (List.map QC x5), .ow 0 0 2 (List.length x6), ii x7, ii x16, ii x17, ii x20, ii x21] [.own 0 2 (List.map QD x6)] [5, 6, 16, 17] (U4 (x5, x16) (x7, x17, x20) o))
 (fun Xk Q37 x6 x21 o h x16 x17 =>
 Lp2 (hs := [(22, .split), (26, .e QC), (30, .e QC), (32, .c eI), (33, .split), (37, .n QD 37 none), (39, .z [{ slot := 34, own := 2 }] (some (.n QD 39 (some .a)))), (7000003, .l [] [] [] [5, 6, 7, 16, 17, 20, 21] [{ slot := 6, own := 2 }] (UY (x5, x7, x16, x17, x20)))]) (kb := [{ slot := 6, own := 2 }]) (kbx := [{ slot := 6, own := 2 }]) ((kIfD (p := x21 < x20) (kJ1 (id := 7000003) x21 (fun v0 ev0 v1 => (kIx (enc := QC) (l := x5) (k := x21) fun v2 => (kIx (enc := QC) (l := x5) (k := x7) fun v3 => (kC (sh := eI) (Ef v2 v3) fun v4 => (kIf (c := v4 != 0) (kW (sh := QD) (QA.mk x21 x7) lr fun v5 => (kA (q := (x6.length + (1 : Nat)) * (16 : Nat) ≤ (140737488355328 : Nat) ∧ x6.length + (1 : Nat) ≤ (9223372036854775807 : Nat)) (sh := QD) (l := x6) (kO (sh := QD) (x6 ++ [v5]) (mA (sh := QD) x6 v5) (nA x6 v5) fun v6 => (kXj (alts := UY (x5, x7, x16, x17, x20)) ev0 v6 (.here _ rfl (.refl _) (.refl _))))))
 (kXj (alts := UY (x5, x7, x16, x17, x20)) ev0 x6 (.here _ rfl (.refl _) (.refl _))))))))
 (fun v0 v7 => (kM0 (alts := U4 (x5, x16) (x7, x17, x20)) (fun y hy => Q37 v7 (wr (v0 + 1)) y hy x16 x17))))
 (kX (alts := U4 (x5, x16) (x7, x17, x20)) x6 (.here _ rfl (.refl _) (.refl _)))) h)) x6 x21 o h x16 x17
def V4 (s : Unit) (u : ((List QI) × Int)) (o : List QA) : List Alt := [⟨fun (x : List QA) => x = o, .exit 0, fun x => [.ow 0 0 2 (List.length x)], fun x => [.own 0 2 (List.map QD x)]⟩]
def Xj (x5 : List QI) (x6 : List QA) (x16 : Int) (x17 : Int) : Option (List QA) :=
 if x17 < x16 then
 some (x17, x17, x17) >>= fun v0 =>
 Xk x5 x6 x17 x17 0 >>= fun v2 =>
 Xj x5 v2 x16 (wr (v0.snd.fst + 1))
 else
 some x6
 partial_fixpoint
theorem Ed (x5 : List QI) (x6 : List QA) (x16 : Int) (x17 : Int) (o : List QA) (h : Xj x5 x6 x16 x17 = some o) : LO 10 6 45 [5, 6, 16, 17] [.sl 22 (List.map QC x5), .ow 0 0 2 (List.length x6), ii x16, ii x17] [.own 0 2 (List.map QD x6)] [6] (V4 () (x5, x16) o) :=
 Xj.partial_correctness x5 x16 (fun x6 x17 o => LO 10 6 45 [5, 6, 16, 17] [.sl 22 (List.map QC x5), .ow 0 0 2 (List.length x6), ii x16, ii x17] [.own 0 2 (List.map QD x6)] [6] (V4 () (x5, x16) o))
 (fun Xj Q36 x6 x17 o h  =>
 Lp2 (hs := [(18, .split), (3000010, .l [] [5, 6, 7, 16, 17, 20, 21] [{ slot := 6, own := 2 }] [5, 6, 16, 17] [{ slot := 6, own := 2 }] (U4 (x5, x16)))]) (kb := [{ slot := 6, own := 2 }]) (kbx := [{ slot := 6, own := 2 }]) ((kIfD (p := x17 < x16) (kL1 (x17, x17, x17) (Ee x5 x6 x17 x16 x17 x17 0) fun v0 v2 => (kM0 (alts := V4 () (x5, x16)) (Q36 v2 (wr (v0.snd.fst + 1)))))
 (kX (alts := V4 () (x5, x16)) x6 (.here _ rfl (.refl _) (.refl _)))) h)) x6 x17 o h
end Go.Proofs.YtokfigmmegifeaaGreat
end
section
namespace Go.Proofs.YtokfigmmegifeaaGreat
open Go HY
set_option maxRecDepth 1000000
set_option linter.unusedVariables false
def le2 (x y : QA) : Bool := decide (x.f_0 < y.f_0 ∨ x.f_0 = y.f_0 ∧ x.f_1 ≤ y.f_1)
def srt (l : List QA) : List QA := l.mergeSort le2
noncomputable def wfS : WF := fun f hs args hp nx K => match Nat.beq f 21 with
 | true => match args with
  | [.ow id ver 2 len, .fn 22 []] => ∃ l : List QA, (lkb hp id = some (.own ver 2 (l.map QD)) ∧ len = l.length ∧ l.length < 4611686018427387904) ∧ K (.tup []) (pt hp id (.own ver 2 ((srt l).map QD))) nx
  | _ => False
 | false => wf0 f hs args hp nx K
noncomputable def Dd (x0 : Qb) (x1 : List Qz) : Option (List QA) :=
 some (List.length x1 : Int) >>= fun v0 =>
 if (2048 : Int) < v0 then
 some []
 else
 Ws x0 x1 >>= fun v1 =>
 some (List.length v1 : Int) >>= fun v2 =>
 some (v1, v2) >>= fun v3 =>
 Xj v1 [] v2 (0 : Int) >>= fun v5 =>
 if v5.length < 4611686018427387904 then some (srt v5) else none
theorem kSf (x r : List QA) (h : (if x.length < 4611686018427387904 then some (srt x) else none) = some r) : ∃ l, (some (Box.own 0 2 (List.map QD x)) = some (Box.own 0 2 (List.map QD l)) ∧ List.length x = List.length l ∧ l.length < 4611686018427387904) ∧
  List.length x = List.length (List.map QD (srt l)) ∧ LeT (AV.sl 2 (List.map QD (srt l))) (AV.sl 2 (List.map QD r)) := by
 split at h
 ·cases h
  exact ⟨x, ⟨rfl, rfl, by assumption⟩, by simp [srt, List.length_mergeSort], .refl _⟩
 ·cases h
theorem RY (hwf : WF.Ok Tryz.prog gls wfS) (x0 : Qb) (x1 : List Qz) (r : List QA) (h : Dd x0 x1 = some r) : PU 10 [Qp x0, GN x1] (UR r) :=
 Pu.of (ch0 := ch0) (wf := wfS) (gd := gds) (fl := 2000) (hs := [(10, .n eI 10 none), (11, .split), (14, .c UT), (16, .n eI 16 none), (43, .i []), (3000007, .l [] [5, 6, 16, 17] [{ slot := 6, own := 2 }] [6] [{ slot := 6, own := 2 }] (V4 ()))]) Ch hwf My
  ((fun (φ : Prop) (e : φ = wpure Tryz.prog gls ch0 wfS gds 2000 10 [(10, .n eI 10 none), (11, .split), (14, .c UT), (16, .n eI 16 none), (43, .i []), (3000007, .l [] [5, 6, 16, 17] [{ slot := 6, own := 2 }] [6] [{ slot := 6, own := 2 }] (V4 ()))] [Qp x0, GN x1] (UR r)) (hφ : φ) => e ▸ hφ) _ (by kernel_rfl)
  ((kN _ (mLen (sh := Qj) x1) fun v0 => (kIfD (p := (2048 : Int) < v0) (kE (enc := UR) [] (LeT.nil 2))
 (kC (sh := UT) (FA x0 x1) fun v1 => (kN _ (mLen (sh := QC) v1) fun v2 => (kL1 (v1, v2) (Ed v1 [] v2 (0 : Int)) fun v3 v5 => kSf v5 r))))) h))
end Go.Proofs.YtokfigmmegifeaaGreat
end
section
namespace Go.Proofs.YtokfigmmegifeaaGreat
open Go HY Go.RowKit Go.Lib Go.Sort Go.Proofs
set_option linter.unusedVariables false
def enc2 (x : QA) : List Value := [.int .i64 x.f_0, .int .i64 x.f_1]
instance : Inhabited QA := ⟨⟨0, 0⟩⟩
theorem flat2 : ∀ (l : List QA) (j : Nat), j < l.length * 2 → ∃ v, ((l.map QD).flatMap AV.cells)[j]? = some (.int .i64 v) ∧ (enc2 l[j / 2]!)[j % 2]! = .int .i64 v
 | [], j, h => by simp at h
 | x :: l, 0, _ => ⟨x.f_0, rfl, rfl⟩
 | x :: l, 1, _ => ⟨x.f_1, rfl, rfl⟩
 | x :: l, j + 2, h => by
  obtain ⟨v, h1, h2⟩ := flat2 l j (by simp at h; omega)
  refine ⟨v, by simpa [QD, AV.cells] using h1, ?_⟩
  rw [show (j + 2) / 2 = j / 2 + 1 by omega, show (j + 2) % 2 = j % 2 by omega]
  simpa using h2
theorem Hi (l : List QA) : ((l.map QD).flatMap AV.cells).length = l.length * 2 := by
 induction l with
 | nil => rfl
 | cons x l ih => simp [QD, AV.cells] at ih ⊢; omega
theorem flatK2 (l : List QA) (j : Nat) (h : j < l.length * 2) {v : Int} (hv : (enc2 l[j / 2]!)[j % 2]! = .int .i64 v) : (flatK enc2 2 l.toArray)[j]! = .int .i64 v := by
 rw [get_flatK _ _ _ _ (by simpa using h)]; simpa using hv
section
variable {m : Nat → Lc} {H : HV} {B : Nat → Prop} {H0 : HV} {gl : Nat → AV} {hp : Nat → Option Box} {nx : Nat} {w : World} {id ver : Nat} {l l' : List QA}
theorem holds2 (hh : RelH m H B H0 gl hp nx w) (hid : hp id = some (.own ver 2 (l.map QD))) (hpos : 0 < (m id).size) : HoldsK enc2 2 w (m id).g (m id).base l.toArray := by
 obtain ⟨_, _, hc⟩ := hh.box id _ hid
 obtain ⟨C, e, h1, h2, h3, h4⟩ := (hc.resolve_left fun h => by omega).2
 intro j hj
 rw [size_flatK] at hj
 simp only [List.size_toArray] at hj
 obtain ⟨v, f1, f2⟩ := flat2 l j hj
 obtain ⟨u, g1, g2, g3⟩ := h4 j _ f1
 cases g3
 rw [flatK2 l j hj f2]
 simp [World.cell?, World.frozen?, h1, g1]
theorem SQ (hid : hp id = some (.own ver 2 (l.map QD))) : Qq (updF hp id (some (.own ver 2 (l'.map QD)))) m = Qq hp m := by
 have hx : ∀ i, i ≠ id → updF hp id (some (.own ver 2 (l'.map QD))) i = hp i := fun i hi => QS _ _ hi
 unfold Qq
 congr 1 <;> funext i
 ·funext v
  by_cases hi : i = id
  ·subst hi; rw [QE, hid]; simp [Box.ver?]
  ·rw [hx i hi]
 ·funext v
  by_cases hi : i = id
  ·subst hi; rw [QE, hid]; rfl
  ·rw [hx i hi]
 ·by_cases hi : i = id
  ·subst hi; rw [QE, hid]
  ·rw [hx i hi]
theorem sorted2 (hh : RelH m H B H0 gl hp nx w) (hid : hp id = some (.own ver 2 (l.map QD))) (hn : id < nx) (hpos : 0 < (m id).size) (hlen : l'.length = l.length) (n : Nat) (os : Array Obj) :
  Qv B w (sortWorldK enc2 2 w (m id).g (m id).base n l'.toArray os) ∧ RelH m H B H0 gl (updF hp id (some (.own ver 2 (l'.map QD)))) nx (sortWorldK enc2 2 w (m id).g (m id).base n l'.toArray os) := by
 obtain ⟨hb, hlt, hnone⟩ := hh.sepR id _ hid hpos
 obtain ⟨_, _, hc⟩ := hh.box id _ hid
 obtain ⟨C, e, h1, h2, h3, h4⟩ := (hc.resolve_left fun h => by omega).2
 generalize hW : sortWorldK enc2 2 w (m id).g (m id).base n l'.toArray os = W
 have hheap : ∀ k, k < w.heap.size → W.heap[k]? = if (m id).g = k then (w.heap[k]?).map (onCells (putCells _root_.id (m id).base (flatK enc2 2 l'.toArray))) else w.heap[k]? := fun k hk => by
  subst hW
  simp only [sortWorldK, grow, putRowK, putRow, mapBlock, ahead]
  rw [Array.getElem?_append_left (by simpa using hk), Array.getElem?_modify]
  rfl
 have hg : W.heap[(m id).g]? = some (.cells (putCells _root_.id (m id).base (flatK enc2 2 l'.toArray) C) e (0, 0)) := by rw [hheap _ hlt, if_pos rfl, h1]; rfl
 have hoth : ∀ k, k < w.heap.size → k ≠ (m id).g → W.heap[k]? = w.heap[k]? := fun k hk hne => by rw [hheap k hk, if_neg (Ne.symm hne)]
 have hsize : w.heap.size ≤ W.heap.size := by subst hW; simp [sortWorldK, grow, putRowK, putRow, mapBlock, ahead]
 have hE := SQ (m := m) (l' := l') hid
 have hle : ((l'.map QD).flatMap AV.cells).length = l.length * 2 := by rw [Hi, hlen]
 have hrows : ∀ (k : Nat) (C : Array Value) (e : TypeId) (fr : Nat × Nat), w.heap[k]? = some (Obj.cells C e fr) → ∃ (C' : Array Value) (fr' : Nat × Nat), W.heap[k]? = some (Obj.cells C' e fr') ∧ C'.size = C.size := fun k C2 e2 fr hk => by
  have hkl : k < w.heap.size := by
   rcases Nat.lt_or_ge k w.heap.size with h | h
   ·exact h
   ·rw [Array.getElem?_eq_none h] at hk; cases hk
  rw [hheap k hkl, hk]
  split
  ·exact ⟨_, _, rfl, by simp [putCells]⟩
  ·exact ⟨_, _, rfl, rfl⟩
 refine ⟨⟨by subst hW; rfl, by subst hW; rfl, by subst hW; rfl, hsize, fun k hk => hoth k (hh.low k hk) fun e => hb (e ▸ hk), hrows⟩, ?_⟩
 have := hh.oneR (id := id) (nx' := nx) (b := .own ver 2 (l'.map QD)) (l := m id) (w' := W) (fun k hk hr => hoth k hk (hr hpos)) hsize (by rw [Jk, hE]; exact .refl _) (fun _ => ⟨hb, Nat.lt_of_lt_of_le hlt hsize, hnone⟩)
  (fun id' b' hne hb' hr _ e => hne (hh.injR id' id b' _ hb' hid hr hpos e)) hn (Nat.le_refl _) ⟨by decide, fun x hx => by simp only [List.mem_map] at hx; obtain ⟨y, _, rfl⟩ := hx; rfl, .inr ⟨hpos, _, e, hg, by simpa [putCells] using h2, ?_, fun j c hj => ?_⟩⟩ (fun ver cs e => by cases e)
 ·rw [Jk] at this; exact this
 ·rw [hle]; simp only [putCells, Array.size_mapIdx]; rw [Hi] at h3; exact h3
 ·have hjl : j < l'.length * 2 := by rw [hlen, ← hle]; exact (List.getElem?_eq_some_iff.1 hj).1
  obtain ⟨v, f1, f2⟩ := flat2 l' j hjl
  rw [f1] at hj; cases hj
  rw [Hi] at h3
  refine ⟨.int .i64 v, ?_, rfl, .int _ _⟩
  simp only [putCells, Array.getElem?_mapIdx]
  rw [Array.getElem?_eq_getElem (by omega)]
  simp only [Option.map_some]
  rw [if_pos (by rw [size_flatK]; simp; omega), Nat.add_sub_cancel_left, flatK2 l' j hjl f2]
  rfl
end
end Go.Proofs.YtokfigmmegifeaaGreat
end
section
namespace Go.Proofs
open Go.Shelf
def Tryz.lays122_ren : Go.Shelf.Ren := ⟨fun | 122 => 24 | 215 => 43 | n => n, fun | 3 => 3 | 4 => 4 | n => n, fun | n => n⟩
theorem Tryz.lays122 : Go.Proofs.Lays.n122 Tryz.prog Tryz.lays122_ren := {
 mixed := by kernel_rfl
 f122 := Tryz.func24.trans (congrArg some (by kernel_rfl))
 f215 := Tryz.func43.trans (congrArg some (by kernel_rfl))
 t3 := Tryz.underlying3
 a3 := Tryz.isAgg3
 z3 := Tryz.sizeOf3
 v3 := Tryz.zeroValue3
 t4 := Tryz.underlying4
 a4 := Tryz.isAgg4
 z4 := Tryz.sizeOf4
 v4 := Tryz.zeroValue4 }
open Go.RowKit in
theorem Tryz.cmp_Compare_int (x y : Int) (w : World) :
  Calls Tryz.prog 24 #[.int .i64 x, .int .i64 y] w fun e w' => e = .returned (.int .i64 (Lib.compareInt x y)) ∧ w' = w := Any.cmp_Compare_int Tryz.lays122 x y w
def Tryz.laysSlF06_f21_ren : Go.Shelf.Ren := ⟨fun | 6 => 21 | 15 => 42 | 14 => 41 | 28 => 70 | 29 => 71 | 20 => 62 | 21 => 63 | 22 => 64 | 23 => 65 | 24 => 66 | 25 => 67 | 26 => 68 | 27 => 69 | 46 => 90 | 47 => 91 | 48 => 92 | 49 => 93 | 50 => 94 | 57 => 107 | n => n, fun | 22 => 52 | 24 => 54 | 25 => 78 | 3 => 3 | 39 => 96 | 0 => 0 | 53 => 127 | 55 => 129 | 4 => 4 | 46 => 120 | 45 => 119 | 50 => 124 | 5 => 5 | 9 => 9 | 66 => 152 | 70 => 156 | 76 => 170 | 77 => 171 | n => n, fun | n => n⟩
theorem Tryz.laysSlF06_f21 : Go.Proofs.SlLaysF0.n6 Tryz.prog Tryz.laysSlF06_f21_ren := {
 mixed := by kernel_rfl
 f6 := ⟨Tryz.f21.name, by decide, Tryz.func21.trans (congrArg some (by kernel_rfl))⟩
 f14 := ⟨Tryz.f41.name, by decide, Tryz.func41.trans (congrArg some (by kernel_rfl))⟩
 f15 := Tryz.func42.trans (congrArg some (by kernel_rfl))
 f20 := ⟨Tryz.f62.name, by decide, Tryz.func62.trans (congrArg some (by kernel_rfl))⟩
 f21 := ⟨Tryz.f63.name, by decide, Tryz.func63.trans (congrArg some (by kernel_rfl))⟩
 f22 := ⟨Tryz.f64.name, by decide, Tryz.func64.trans (congrArg some (by kernel_rfl))⟩
 f23 := ⟨Tryz.f65.name, by decide, Tryz.func65.trans (congrArg some (by kernel_rfl))⟩
 f24 := ⟨Tryz.f66.name, by decide, Tryz.func66.trans (congrArg some (by kernel_rfl))⟩
 f25 := ⟨Tryz.f67.name, by decide, Tryz.func67.trans (congrArg some (by kernel_rfl))⟩
 f26 := ⟨Tryz.f68.name, by decide, Tryz.func68.trans (congrArg some (by kernel_rfl))⟩
 f27 := ⟨Tryz.f69.name, by decide, Tryz.func69.trans (congrArg some (by kernel_rfl))⟩
 f28 := Tryz.func70.trans (congrArg some (by kernel_rfl))
 f29 := Tryz.func71.trans (congrArg some (by kernel_rfl))
 f46 := ⟨Tryz.f90.name, by decide, Tryz.func90.trans (congrArg some (by kernel_rfl))⟩
 f47 := Tryz.func91.trans (congrArg some (by kernel_rfl))
 f48 := Tryz.func92.trans (congrArg some (by kernel_rfl))
 f49 := ⟨Tryz.f93.name, by decide, Tryz.func93.trans (congrArg some (by kernel_rfl))⟩
 f50 := ⟨Tryz.f94.name, by decide, Tryz.func94.trans (congrArg some (by kernel_rfl))⟩
 f57 := ⟨Tryz.f107.name, by decide, Tryz.func107.trans (congrArg some (by kernel_rfl))⟩
 t0 := Tryz.underlying0
 a0 := Tryz.isAgg0
 z0 := Tryz.sizeOf0
 v0 := Tryz.zeroValue0
 t3 := Tryz.underlying3
 a3 := Tryz.isAgg3
 z3 := Tryz.sizeOf3
 v3 := Tryz.zeroValue3
 t4 := Tryz.underlying4
 a4 := Tryz.isAgg4
 z4 := Tryz.sizeOf4
 v4 := Tryz.zeroValue4
 t5 := Tryz.underlying5
 a5 := Tryz.isAgg5
 z5 := Tryz.sizeOf5
 v5 := Tryz.zeroValue5
 t9 := Tryz.underlying9
 a9 := Tryz.isAgg9
 z9 := Tryz.sizeOf9
 v9 := Tryz.zeroValue9
 t22 := Tryz.underlying52
 a22 := Tryz.isAgg52
 z22 := Tryz.sizeOf52
 v22 := Tryz.zeroValue52
 t25 := Tryz.underlying78
 a25 := Tryz.isAgg78
 z25 := Tryz.sizeOf78
 v25 := Tryz.zeroValue78
 t39 := Tryz.underlying96
 a39 := Tryz.isAgg96
 z39 := Tryz.sizeOf96
 v39 := Tryz.zeroValue96
 t45 := Tryz.underlying119
 a45 := Tryz.isAgg119
 z45 := Tryz.sizeOf119
 v45 := Tryz.zeroValue119
 t46 := Tryz.underlying120
 a46 := Tryz.isAgg120
 z46 := Tryz.sizeOf120
 v46 := Tryz.zeroValue120
 t50 := Tryz.underlying124
 a50 := Tryz.isAgg124
 z50 := Tryz.sizeOf124
 v50 := Tryz.zeroValue124
 t53 := Tryz.underlying127
 a53 := Tryz.isAgg127
 z53 := Tryz.sizeOf127
 v53 := Tryz.zeroValue127
 t55 := Tryz.underlying129
 a55 := Tryz.isAgg129
 z55 := Tryz.sizeOf129
 v55 := Tryz.zeroValue129
 t66 := Tryz.underlying152
 a66 := Tryz.isAgg152
 z66 := Tryz.sizeOf152
 v66 := Tryz.zeroValue152
 t70 := Tryz.underlying156
 a70 := Tryz.isAgg156
 z70 := Tryz.sizeOf156
 v70 := Tryz.zeroValue156
 t76 := Tryz.underlying170
 a76 := Tryz.isAgg170
 z76 := Tryz.sizeOf170
 v76 := Tryz.zeroValue170
 t77 := Tryz.underlying171
 a77 := Tryz.isAgg171
 z77 := Tryz.sizeOf171
 v77 := Tryz.zeroValue171 }
open Go.RowKit Go.Lib Go.Sort in
theorem Tryz.slices_SortFunc_none {α : Type} [Inhabited α] (p : Option Addr) (cap : Nat) (fv : Value) (w : World) :
  Calls Tryz.prog 21 #[.slice p 0 cap, fv] w fun e w' => e = .returned (.tuple #[]) ∧ w' = w := AnyF.slices_SortFunc_none Tryz.laysSlF06_f21 p cap fv w
open Go.RowKit Go.Lib Go.Sort in
theorem Tryz.slices_SortFunc_total {α : Type} [Inhabited α] (k : Nat) (aE : ∀ w, (isAgg 54).run Tryz.prog w = .ok true w) (zE : ∀ w, (Go.sizeOf 54).run Tryz.prog w = .ok k w) (enc : α → List Value) (hk : ∀ x, (enc x).length = k) (h1 : ∀ x, ∀ v ∈ enc x, v.oneCell' = true) (cf : α → α → Int) (hO : SWO (ltOf cf)) (g : Nat) (cb : Array Value) (blk off cap : Nat) (d : Array α) (w : World) (eg : ∀ args w, (callFunc g args).run Tryz.prog w = .ok (.enter g args) w) (hcmp : CmpLays Tryz.prog g cb enc k cf blk off d.size w) (hH : HoldsK enc k w blk off d) (hblk : blk < w.heap.size) (hsz : d.size < 4611686018427387904) (hT : ∀ x y, (ltOf cf) x y = false → (ltOf cf) y x = false → x = y) :
  Calls Tryz.prog 21 #[.slice (some ⟨blk, off, none⟩) d.size cap, .func (.func g) #[] cb] w fun e w' =>
   e = .returned (.tuple #[]) ∧ ∃ n os, w' = sortWorldK enc k w blk off n (d.toList.mergeSort fun x y => !(ltOf cf) y x).toArray os := AnyQ.slices_SortFunc_total Tryz.laysSlF06_f21 k aE zE enc hk h1 cf hO g cb blk off cap d w eg hcmp hH hblk hsz hT
end Go.Proofs
end
