/- Proved here: for every input the law TraceConcrete returns true and its arguments read afterwards as they read before; the listed package-level variables are tied to the program's text. -/
import Derived.Test.YtfaenlhmhlabeaaGreatDoorP6
import Derived.HandedShaped
import Derived.Handy
import Derived.Lay
import Derived.ProofKit
import Derived.SevenTiedAt
import Derived.Shelf.Vars
import Derived.Test.YtfaenlhmhlabeaaGreatDoorCards
import Derived.Test.YtfaenlhmhlabeaaGreatDoorRows
import Derived.Test.YtfaenlhmhlabeaaGreatDoorTie
import Derived.WalkKit
set_option linter.unusedVariables false
set_option linter.unusedSimpArgs false
section
namespace Go.Proofs.YtfaenlhmhlabeaaGreatDoor
open Go HY
set_option linter.unusedVariables false
set_option linter.unusedSimpArgs false
section
variable {f : gLin → gLin × Int} {n : Str} {to : gLin}
theorem r_I (hf : ∀ l, okL l → F_ref14_LinSubstitute l n to = some (f l)) (x : gIndex) (hx : okI x) : F_ref14_indexSubstitute x n to = some (mI f x) := by
  obtain ⟨k1, k2, k3⟩ := hx
  unfold F_ref14_indexSubstitute mI
  rw [hf _ k1, bS]
  by_cases h1 : (f x.fLin).2 = 0
  · rw [if_neg (by simp [h1]), if_neg (by simp [h1]), bS]
    have h6 : res (F_ref14_indexSubstitute_L6 n x to zI (gIndex.mk (f x.fLin).1 x.fFrom []) 0) (fun a => (zI, gIndex.mk (f x.fLin).1 x.fFrom a)) (fun q e => q.1 = zI ∧ q.2.1 = e) (mapE f x.fAt) := by
      refine appnd (F := fun a j => F_ref14_indexSubstitute_L6 n x to zI (gIndex.mk (f x.fLin).1 x.fFrom a) j) f _ _ ?_ ?_
      · intro a ha
        show F_ref14_indexSubstitute_L6 n x to zI _ x.fAt.length = _
        rw [F_ref14_indexSubstitute_L6, bS, if_neg (by omega)]
      · intro j l a hj hl hm ha
        have e0 : F_ref14_indexSubstitute_L6 n x to zI (gIndex.mk (f x.fLin).1 x.fFrom a) j = if (f l).2 ≠ 0 then some (.inr (zI, (f l).2, gIndex.mk (f x.fLin).1 x.fFrom a)) else F_ref14_indexSubstitute_L6 n x to zI (gIndex.mk (f x.fLin).1 x.fFrom (a ++ [(f l).1])) ((j + 1 : Nat) : Int) := by
          rw [F_ref14_indexSubstitute_L6, bS, if_pos (by omega), ixN hl, bS, hf l (k3 l hm), bS]
          by_cases h : (f l).2 = 0
          · rw [if_neg (by simp [h]), if_pos (by dsimp only; omega), bS, wrapL (by omega), if_neg (by simp [h])]
          · rw [if_pos (by simpa using h), if_pos h]; rfl
        refine ⟨fun h => ?_, fun h => ?_⟩
        · show ∃ q, F_ref14_indexSubstitute_L6 n x to zI _ j = some (.inr q) ∧ _
          rw [e0, if_pos h]; exact ⟨_, rfl, rfl, rfl⟩
        · show F_ref14_indexSubstitute_L6 n x to zI _ j = _
          rw [e0, if_neg (by simpa using h)]
    show (F_ref14_indexSubstitute_L6 n x to zI (gIndex.mk (f x.fLin).1 x.fFrom []) 0 >>= _) = _
    by_cases h3 : (mapE f x.fAt).2 = 0
    · rw [h6.1 h3, bS, if_neg (by simp [h3])]
    · obtain ⟨q, hq, hq1, hq2⟩ := h6.2 h3
      rw [hq, bS, if_pos h3]
      show some (q.fst, q.snd.fst) = _
      rw [hq1, hq2]
  · rw [if_pos (by simpa using h1), if_pos h1]; rfl
theorem r_E (hf : ∀ l, okL l → F_ref14_LinSubstitute l n to = some (f l)) : ∀ e, okE e → F_ref14_Substitute e.f n to = some ((mE f e).1.f, (mE f e).2) := gExpr.ind fun x ih => by
  intro hw
  obtain ⟨k1, k2, k3, k4, k5⟩ := hw.of
  rw [gExpr.f_mk, mE_mk]
  unfold mE1
  rw [F_ref14_Substitute, hf _ k1, bS]
  by_cases h1 : (f x.fLin).2 = 0
  · rw [if_neg (by simp [h1]), if_neg (by simp [h1]), bS]
    have h7 : res (F_ref14_Substitute_L7 n x to zE (gExprF.mk x.fOp x.fName x.fVal x.fType (f x.fLin).1 [] []) 0) (fun a => (zE, (gExprF.mk x.fOp x.fName x.fVal x.fType (f x.fLin).1 a [] : gExprS))) (fun q e => q.1 = zE ∧ q.2.1 = e) (mapE (mI f) x.fIdx) := by
      refine appnd (F := fun a j => F_ref14_Substitute_L7 n x to zE (gExprF.mk x.fOp x.fName x.fVal x.fType (f x.fLin).1 a []) j) (mI f) _ _ ?_ ?_
      · intro a ha
        show F_ref14_Substitute_L7 n x to zE _ x.fIdx.length = _
        rw [F_ref14_Substitute_L7, bS, if_neg (by omega)]
      · intro j y a hj hl hm ha
        have e0 : F_ref14_Substitute_L7 n x to zE (gExprF.mk x.fOp x.fName x.fVal x.fType (f x.fLin).1 a []) j = if (mI f y).2 ≠ 0 then some (.inr (zE, (mI f y).2, (gExprF.mk x.fOp x.fName x.fVal x.fType (f x.fLin).1 a [] : gExprS))) else F_ref14_Substitute_L7 n x to zE (gExprF.mk x.fOp x.fName x.fVal x.fType (f x.fLin).1 (a ++ [(mI f y).1]) []) ((j + 1 : Nat) : Int) := by
          rw [F_ref14_Substitute_L7, bS, if_pos (by omega), ixN hl, bS, r_I hf y (k3 y hm), bS]
          by_cases h : (mI f y).2 = 0
          · rw [if_neg (by simp [h]), if_pos (by dsimp only; omega), bS, wrapL (by omega), if_neg (by simp [h])]
          · rw [if_pos (by simpa using h), if_pos h]; rfl
        refine ⟨fun h => ?_, fun h => ?_⟩
        · show ∃ q, F_ref14_Substitute_L7 n x to zE _ j = some (.inr q) ∧ _
          rw [e0, if_pos h]; exact ⟨_, rfl, rfl, rfl⟩
        · show F_ref14_Substitute_L7 n x to zE _ j = _
          rw [e0, if_neg (by simpa using h)]
    show (F_ref14_Substitute_L7 n x to zE (gExprF.mk x.fOp x.fName x.fVal x.fType (f x.fLin).1 [] []) 0 >>= _) = _
    by_cases h2 : (mapE (mI f) x.fIdx).2 = 0
    · rw [h7.1 h2, bS, if_neg (by simp [h2])]
      have h14 : res (F_ref14_Substitute_L14 n x to zE (gExprF.mk x.fOp x.fName x.fVal x.fType (f x.fLin).1 (mapE (mI f) x.fIdx).1 []) 0) (fun a => (zE, (gExprF.mk x.fOp x.fName x.fVal x.fType (f x.fLin).1 (mapE (mI f) x.fIdx).1 a : gExprS))) (fun q e => q.1 = zE ∧ q.2.1 = e) (mapE (mE f) x.fArgs) := by
        refine appnd (F := fun a j => F_ref14_Substitute_L14 n x to zE (gExprF.mk x.fOp x.fName x.fVal x.fType (f x.fLin).1 (mapE (mI f) x.fIdx).1 a) j) (mE f) _ _ ?_ ?_
        · intro a ha
          show F_ref14_Substitute_L14 n x to zE _ x.fArgs.length = _
          rw [F_ref14_Substitute_L14, bS, if_neg (by omega)]
        · intro j y a hj hl hm ha
          have e0 : F_ref14_Substitute_L14 n x to zE (gExprF.mk x.fOp x.fName x.fVal x.fType (f x.fLin).1 (mapE (mI f) x.fIdx).1 a) j = if (mE f y).2 ≠ 0 then some (.inr (zE, (mE f y).2, (gExprF.mk x.fOp x.fName x.fVal x.fType (f x.fLin).1 (mapE (mI f) x.fIdx).1 a : gExprS))) else F_ref14_Substitute_L14 n x to zE (gExprF.mk x.fOp x.fName x.fVal x.fType (f x.fLin).1 (mapE (mI f) x.fIdx).1 (a ++ [(mE f y).1])) ((j + 1 : Nat) : Int) := by
            rw [F_ref14_Substitute_L14, bS, if_pos (by omega), ixN hl, omS, bS, ih y hm (k5 y hm), bS]
            by_cases h : (mE f y).2 = 0
            · rw [if_neg (by simp [h]), if_pos (by dsimp only; omega), bS, wrapL (by omega), gExpr.mk_f, if_neg (by simp [h])]
            · rw [if_pos (by simpa using h), if_pos h]; rfl
          refine ⟨fun h => ?_, fun h => ?_⟩
          · show ∃ q, F_ref14_Substitute_L14 n x to zE _ j = some (.inr q) ∧ _
            rw [e0, if_pos h]; exact ⟨_, rfl, rfl, rfl⟩
          · show F_ref14_Substitute_L14 n x to zE _ j = _
            rw [e0, if_neg (by simpa using h)]
      show (F_ref14_Substitute_L14 n x to zE (gExprF.mk x.fOp x.fName x.fVal x.fType (f x.fLin).1 (mapE (mI f) x.fIdx).1 []) 0 >>= _) = _
      by_cases h3 : (mapE (mE f) x.fArgs).2 = 0
      · rw [h14.1 h3, bS, if_neg (by simp [h3])]; rfl
      · obtain ⟨q, hq, hq1, hq2⟩ := h14.2 h3
        rw [hq, bS, if_pos h3]
        show some (q.fst, q.snd.fst) = _
        rw [hq1, hq2]; rfl
    · obtain ⟨q, hq, hq1, hq2⟩ := h7.2 h2
      rw [hq, bS, if_pos h2]
      show some (q.fst, q.snd.fst) = _
      rw [hq1, hq2]; rfl
  · rw [if_pos (by simpa using h1), if_pos h1]; rfl
def evenF (f : gLin → gLin × Int) : Prop := (f zL).2 = 0 ∨ ∀ l, f l = (zL, 1)
theorem r_B (hf : ∀ l, okL l → F_ref14_LinSubstitute l n to = some (f l)) (hev : evenF f) (l : List gStmt) (hP : ∀ s ∈ l, okS s → F_ref30_Substitute s.f.fBody n to = some (mapE (mS f) s.f.fBody)) (hw : okSs l) : F_ref30_Substitute l n to = some (mapE (mS f) l) := by
  obtain ⟨hl, hs⟩ := hw
  rw [F_ref30_Substitute, bS]
  have h4 : res (F_ref30_Substitute_L3 l n to [] 0) (fun a => a) (fun q e => q = (([] : List gStmt), e)) (mapE (mS f) l) := by
    refine appnd (F := fun a j => F_ref30_Substitute_L3 l n to a j) (mS f) _ _ ?_ ?_
    · intro a ha
      show F_ref30_Substitute_L3 l n to a l.length = _
      rw [F_ref30_Substitute_L3, bS, if_neg (by omega)]
    · intro i s a hi hx hm ha
      obtain ⟨x⟩ := s
      obtain ⟨k1, k2, k3, k4⟩ := (hs _ hm).of
      have hE := r_E hf (.mk x.fExpr) k3
      rw [gExpr.f_mk] at hE
      have hB := hP _ hm (hs _ hm)
      rw [gStmt.f_mk] at hB
      have hz : okL zL := ⟨by unfold fits zL; decide, by simp [zL], fun m hm => by simp [zL] at hm⟩
      have hI := r_E hf (.mk (gExprF.mk 3 [] ⟨0, 0⟩ ⟨0, 0, 0, 0, 0⟩ zL x.fIdx [])) (.mk _ hz k1 k2 (by simp) (fun a ha => by simp at ha))
      rw [gExpr.f_mk, mE_mk] at hI
      unfold mE1 at hI
      simp only [mapE] at hI
      have e1 := mS_mk f x
      unfold mS1 at e1
      have hun : F_ref30_Substitute_L3 l n to a i = (F_ref14_Substitute (gExprF.mk 3 [] ⟨0, 0⟩ ⟨0, 0, 0, 0, 0⟩ zL x.fIdx []) n to >>= fun v3 =>
          if v3.snd != (0 : Int) then
          some (.inr ([], v3.snd))
          else
          F_ref14_Substitute x.fExpr n to >>= fun v4 =>
          if v4.snd != (0 : Int) then
          some (.inr ([], v4.snd))
          else
          F_ref30_Substitute x.fBody n to >>= fun v5 =>
          if v5.snd != (0 : Int) then
          some (.inr ([], v5.snd))
          else
          if (a.length + (1 : Nat)) * (256 : Nat) ≤ (140737488355328 : Nat) ∧ a.length + (1 : Nat) ≤ (9223372036854775807 : Nat) then
          some (a ++ [(gStmt.mk (gStmtF.mk x.fOp x.fName x.fMany x.fMark x.fFold v3.fst.fIdx v4.fst v5.fst : gStmtS))]) >>= fun v6 =>
          F_ref30_Substitute_L3 l n to v6 (IntKind.i64.wrap ((i : Int) + (1 : Int)))
          else none) := by
        rw [F_ref30_Substitute_L3, bS, if_pos (by omega), ixN hx, omS, bS, bS]; rfl
      rcases hev with hz | hc
      · rw [if_neg (by simp [hz])] at hI
        have e0 : F_ref30_Substitute_L3 l n to a i = if (mapE (mI f) x.fIdx).2 ≠ 0 then some (.inr ([], (mapE (mI f) x.fIdx).2)) else if (mE f (.mk x.fExpr)).2 ≠ 0 then some (.inr ([], (mE f (.mk x.fExpr)).2)) else if (mapE (mS f) x.fBody).2 ≠ 0 then some (.inr ([], (mapE (mS f) x.fBody).2))
            else F_ref30_Substitute_L3 l n to (a ++ [.mk (gStmtF.mk x.fOp x.fName x.fMany x.fMark x.fFold (mapE (mI f) x.fIdx).1 (mE f (.mk x.fExpr)).1.f (mapE (mS f) x.fBody).1)]) ((i + 1 : Nat) : Int) := by
          rw [hun, hI, bS]
          by_cases h1 : (mapE (mI f) x.fIdx).2 = 0
          · rw [if_neg (show ¬ (mapE (mI f) x.fIdx).2 ≠ 0 by simpa using h1)]
            simp only [ne_eq, not_true_eq_false, if_false, bne_self_eq_false, Bool.false_eq_true]
            rw [if_neg (show ¬ ¬ (mapE (mI f) x.fIdx).2 = 0 by simpa using h1), hE, bS]
            by_cases h2 : (mE f (.mk x.fExpr)).2 = 0
            · rw [if_neg (by simp [h2]), if_neg (by simp [h2]), hB, bS]
              by_cases h3 : (mapE (mS f) x.fBody).2 = 0
              · rw [if_neg (by simp [h3]), if_pos (by omega), bS, wrapL (by omega), if_neg (by simp [h3])]; rfl
              · rw [if_pos (by simpa using h3), if_pos h3]
            · rw [if_pos (by simpa using h2), if_pos h2]
          · rw [if_pos h1, if_pos (by simpa using h1), if_pos h1]
        refine ⟨fun h => ?_, fun h => ?_⟩
        · show ∃ q, F_ref30_Substitute_L3 l n to a i = some (.inr q) ∧ _
          rw [e0, e1]
          rw [e1] at h
          split
          · exact ⟨_, rfl, rfl⟩
          · rename_i h1
            rw [if_neg h1] at h
            split
            · exact ⟨_, rfl, rfl⟩
            · rename_i h2
              rw [if_neg h2] at h
              split
              · exact ⟨_, rfl, rfl⟩
              · rename_i h3
                rw [if_neg h3] at h; exact absurd rfl h
        · show F_ref30_Substitute_L3 l n to a i = _
          rw [e0, e1]
          rw [e1] at h
          split
          · rename_i h1; rw [if_pos h1] at h; exact absurd h h1
          · rename_i h1
            rw [if_neg h1] at h
            split
            · rename_i h2; rw [if_pos h2] at h; exact absurd h h2
            · rename_i h2
              rw [if_neg h2] at h
              split
              · rename_i h3; rw [if_pos h3] at h; exact absurd h h3
              · rfl
      · rw [hc zL, if_pos (show (1 : Int) ≠ 0 by decide)] at hI
        have hex : (mE f (.mk x.fExpr)).2 = 1 := by rw [mE_mk]; unfold mE1; rw [hc, if_pos (show (1 : Int) ≠ 0 by decide)]
        have hix : (mapE (mI f) x.fIdx).2 ≠ 0 → (mapE (mI f) x.fIdx).2 = 1 := by
          cases x.fIdx with
          | nil => intro h; exact absurd rfl h
          | cons y t =>
            intro h
            have : (mI f y).2 = 1 := by unfold mI; rw [hc, if_pos (show (1 : Int) ≠ 0 by decide)]
            rw [mapE, this, if_pos (by decide)]
        have h1 : (mS f (.mk x)).2 = 1 := by
          rw [e1, hex]
          split
          · rename_i h; exact hix h
          · rfl
        refine ⟨fun h => ?_, fun h => ?_⟩
        · show ∃ q, F_ref30_Substitute_L3 l n to a i = some (.inr q) ∧ _
          rw [hun, hI, bS, h1]
          exact ⟨_, rfl, rfl⟩
        · rw [h1] at h; exact absurd h (by decide)
  by_cases h : (mapE (mS f) l).2 = 0
  · rw [h4.1 h, bS]
    show some ((mapE (mS f) l).1, (0 : Int)) = _
    rw [← h]
  · obtain ⟨q, hq, rfl⟩ := h4.2 h
    rw [hq, bS, mapE_pair _ _ h]
theorem r_S (hf : ∀ l, okL l → F_ref14_LinSubstitute l n to = some (f l)) (hev : evenF f) : ∀ s, okS s → F_ref30_Substitute s.f.fBody n to = some (mapE (mS f) s.f.fBody) := gStmt.ind fun x ih hw => by
  rw [gStmt.f_mk]
  exact r_B hf hev x.fBody ih hw.of.2.2.2
theorem r_L (hf : ∀ l, okL l → F_ref14_LinSubstitute l n to = some (f l)) (hev : evenF f) (l : List gStmt) (hw : okSs l) : F_ref30_Substitute l n to = some (mapE (mS f) l) :=
  r_B hf hev l (fun s _ => r_S hf hev s) hw
end
theorem ev_sbL (n : Str) (v : Int) : evenF (sbL n v) := by
  unfold evenF
  cases h : nm n with
  | true =>
    left
    unfold sbL
    rw [h]
    rfl
  | false =>
    right
    intro l
    unfold sbL
    rw [h, Bool.and_false]
    rfl
end Go.Proofs.YtfaenlhmhlabeaaGreatDoor
end
section
namespace Go.Proofs.YtfaenlhmhlabeaaGreatDoor
open Go HY
set_option linter.unusedVariables false
set_option linter.unusedSimpArgs false
theorem idx_at {l : List gIndex} (h : ∀ i ∈ l, okI i) : ∀ x ∈ l, x.fAt.length ≤ 140737488351232 := fun x hx => by have := (h x hx).2.1; omega
theorem t_indices (l : List gIndex) (hl : l.length ≤ 140737488351232) (ha : ∀ y ∈ l, y.fAt.length ≤ 140737488351232) : wp (F_ref33_indices l) (fun _ => True) := by
  have L7 : ∀ (y : gIndex) (k : Int), ix l k = some y → y.fAt.length ≤ 140737488351232 → ∀ (a i : Int), 0 ≤ i → i ≤ (y.fAt.length : Nat) → wp (F_ref33_indices_L7 l a k i) (fun _ => True) := fun y k hk hy a i i0 i1 => by
    refine loopUp1 (F := fun a i => F_ref33_indices_L7 l a k i) (y.fAt.length) ?_ ?_ i a i0 i1
    · intro a
      rw [F_ref33_indices_L7]
      simp only [bS, hk, Int.lt_irrefl, if_false]
      exact ⟨_, rfl, trivial⟩
    · intro i a h0 h1 ih
      rw [F_ref33_indices_L7]
      obtain ⟨z, hz, _⟩ := ix_ok h0 h1
      simp only [bS, hk, if_pos h1, hz, wrapT h0 h1 (by omega)]
      exact ih _
  have L3 : ∀ (a i : Int), 0 ≤ i → i ≤ (l.length : Nat) → wp (F_ref33_indices_L3 l a i) (fun _ => True) := fun a i i0 i1 => by
    refine loopUp1 (F := fun a i => F_ref33_indices_L3 l a i) (l.length) ?_ ?_ i a i0 i1
    · intro a
      rw [F_ref33_indices_L3]
      simp only [bS, Int.lt_irrefl, if_false]
      exact ⟨_, rfl, trivial⟩
    · intro i a h0 h1 ih
      rw [F_ref33_indices_L3]
      obtain ⟨z, hz, hm⟩ := ix_ok h0 h1
      simp only [bS, if_pos h1, hz, wrapT h0 h1 (by omega)]
      obtain ⟨v, hv, _⟩ := L7 z i hz (ha z hm) (IntKind.i64.wrap (a + ↑z.fLin.fL.length)) 0 (Int.le_refl _) (by omega)
      rw [hv]
      exact ih _
  unfold F_ref33_indices
  simp only [bS]
  obtain ⟨v, hv, _⟩ := L3 l.length 0 (Int.le_refl _) (by omega)
  rw [hv]
  exact ⟨_, rfl, trivial⟩
theorem t_nodes : ∀ e : gExpr, okE e → ∀ m, wp (F_ref33_nodes e.f m) (fun _ => True) := gExpr.ind fun x ih hx m => by
  obtain ⟨e3, e4, e5, e6, e7⟩ := hx.of
  have L3 : ∀ (a i : Int), 0 ≤ i → i ≤ (x.fArgs.length : Nat) → wp (F_ref33_nodes_L3 m x a i) (fun _ => True) := fun a i i0 i1 => by
    refine loopUp1 (F := fun a i => F_ref33_nodes_L3 m x a i) (x.fArgs.length) ?_ ?_ i a i0 i1
    · intro a
      rw [F_ref33_nodes_L3]
      simp only [bS, Int.lt_irrefl, if_false, Bool.false_eq_true]
      exact ⟨_, rfl, trivial⟩
    · intro i a h0 h1 ih2
      rw [F_ref33_nodes_L3]
      obtain ⟨z, hz, hm⟩ := ix_ok h0 h1
      have hw := wrapT h0 h1 (by omega)
      simp only [bS, if_pos h1]
      by_cases h5 : a ≤ m
      · simp only [if_pos h5, bS, if_true, hz, hw, Option.map_some]
        obtain ⟨v, hv, _⟩ := ih z hm (e7 z hm) (IntKind.i64.wrap (m - a))
        rw [hv]
        exact ih2 _
      · simp only [if_neg h5, bS, Bool.false_eq_true, if_false]
        exact ⟨_, rfl, trivial⟩
  simp only [gExpr.f_mk]
  rw [F_ref33_nodes]
  obtain ⟨v, hv, _⟩ := t_indices x.fIdx (by omega) (idx_at e5)
  rw [hv]
  simp only [bS]
  obtain ⟨v', hv', _⟩ := L3 (IntKind.i64.wrap (IntKind.i64.wrap (1 + (↑(List.map egMono x.fLin.fL).length : Int)) + v)) 0 (Int.le_refl _) (by omega)
  rw [hv']
  exact ⟨_, rfl, trivial⟩
theorem t_weigh_of (l : List gStmt) (hl : l.length ≤ 140737488351232) (hx : ∀ a ∈ l, okS a) (ih : ∀ a ∈ l, ∀ m, wp (F_ref33_weigh a.f.fBody m) (fun _ => True)) (m : Int) : wp (F_ref33_weigh l m) (fun _ => True) := by
  have L3 : ∀ (a i : Int), 0 ≤ i → i ≤ (l.length : Nat) → wp (F_ref33_weigh_L3 l m a i) (fun _ => True) := fun a i i0 i1 => by
    refine loopUp1 (F := fun a i => F_ref33_weigh_L3 l m a i) (l.length) ?_ ?_ i a i0 i1
    · intro a
      rw [F_ref33_weigh_L3]
      simp only [bS, Int.lt_irrefl, if_false, Bool.false_eq_true]
      exact ⟨_, rfl, trivial⟩
    · intro i a h0 h1 ih2
      rw [F_ref33_weigh_L3]
      obtain ⟨z, hz, hm⟩ := ix_ok h0 h1
      have hw := wrapT h0 h1 (by omega)
      have hzz := hx z hm
      rw [← gStmt.mk_f z] at hzz
      obtain ⟨s3, s4, s2, s5⟩ := hzz.of
      simp only [bS, if_pos h1]
      by_cases h5 : a ≤ m
      · simp only [if_pos h5, bS, if_true, hz, hw, Option.map_some]
        obtain ⟨v, hv, _⟩ := t_nodes (.mk z.f.fExpr) s2 (IntKind.i64.wrap (m - a))
        simp only [gExpr.f_mk] at hv
        rw [hv]
        simp only [bS]
        obtain ⟨v2, hv2, _⟩ := t_indices z.f.fIdx (by omega) (idx_at s4)
        rw [hv2]
        simp only [bS]
        obtain ⟨v3, hv3, _⟩ := ih z hm (max 0 (IntKind.i64.wrap (m - a)))
        rw [hv3]
        exact ih2 _
      · simp only [if_neg h5, bS, Bool.false_eq_true, if_false]
        exact ⟨_, rfl, trivial⟩
  rw [F_ref33_weigh]
  simp only [bS]
  obtain ⟨v, hv, _⟩ := L3 l.length 0 (Int.le_refl _) (by omega)
  rw [hv]
  exact ⟨_, rfl, trivial⟩
theorem t_weigh1 : ∀ e : gStmt, okS e → ∀ m, wp (F_ref33_weigh e.f.fBody m) (fun _ => True) := gStmt.ind fun x ih hx m => by
  rw [gStmt.f_mk]
  obtain ⟨s3, s4, s2, s5, s7⟩ := hx.of
  exact t_weigh_of x.fBody (by omega) s7 (fun a ha => ih a ha (s7 a ha)) m
theorem t_Long2 (l : List gStmt) (hl : l.length ≤ 140737488351232) (hx : ∀ a ∈ l, okS a) : wp (F_ref33_Long (gNest.mk [] l) 400) (fun _ => True) := by
  unfold F_ref33_Long
  simp only [bS]
  rw [if_neg (by simp), F_ref33_Long_L4]
  simp only [bS]
  rw [if_neg (by simp)]
  simp only [bS]
  obtain ⟨v2, hv2, _⟩ := t_weigh_of l hl hx (fun a ha m => t_weigh1 a (hx a ha) m) 400
  simp only [hv2, bS]
  exact ⟨_, rfl, trivial⟩
def idf (l : gLin) : gLin × Int := (l, 0)
theorem mI_id (x : gIndex) : mI idf x = (x, 0) := by
  unfold mI
  rw [if_neg (by simp [idf]), mapE_id (g := idf) fun _ _ => rfl, if_neg (by simp)]; rfl
theorem mE_id : ∀ e, mE idf e = (e, 0) := gExpr.ind fun x ih => by
  rw [mE_mk, mapE_id ih]
  unfold mE1
  rw [if_neg (by simp [idf]), mapE_id fun y _ => mI_id y, if_neg (by simp), if_neg (by simp)]; rfl
theorem mS_id : ∀ e, mS idf e = (e, 0) := gStmt.ind fun x ih => by
  rw [mS_mk, mapE_id ih]
  unfold mS1
  rw [mapE_id fun y _ => mI_id y, mE_id, if_neg (by simp), if_neg (by simp), if_neg (by simp)]; rfl
theorem s_copy1 (l : gLin) (h : okL l) : F_loopnest_copyStmts_1 l = some (idf l) := by
  unfold F_loopnest_copyStmts_1 F_loopnest_copyLin F_slices_Clone_api_Mono
  have := h.2.1
  rw [if_pos ⟨by omega, by omega⟩]; rfl
theorem s_Copy (l : List gStmt) (hw : okSs l) : F_loopnest_Copy (gNest.mk [] l) = some (gNest.mk [] l) := by
  unfold F_loopnest_Copy F_loopnest_copyStmts
  rw [s_c68_L (f := idf) s_copy1 l hw, mapE_id fun y _ => mS_id y, bS, bS, bS, bS, F_loopnest_Copy_L3, if_neg (by simp)]; rfl
theorem k_sbL (n : Str) (v : Int) (l : gLin) (hl : okL l) (h : (sbL n v l).2 = 0) : okL (sbL n v l).1 := by
  unfold sbL at h ⊢
  split at h
  · rename_i c1
    rw [if_pos c1]
    split at h
    · rename_i c2; rw [if_pos c2]; exact hl
    · rename_i c2
      rw [if_neg c2]
      split at h
      · rename_i c3
        rw [if_pos c3]
        exact okL_keep n _ c3.2 hl
      · exact absurd h (by decide)
  · exact absurd h (by decide)
section
variable {f : gLin → gLin × Int}
theorem k_mI (hf : ∀ l, okL l → (f l).2 = 0 → okL (f l).1) (x : gIndex) (hx : okI x) (h : (mI f x).2 = 0) : okI (mI f x).1 := by
  obtain ⟨h1, h2, h3⟩ := hx
  unfold mI at h ⊢
  split at h
  · rename_i c; exact absurd h c
  · rename_i c1
    rw [if_neg c1]
    split at h
    · rename_i c; exact absurd h c
    · rename_i c2
      rw [if_neg c2]
      obtain ⟨l1, l2⟩ := mapE_all (Q := okL) x.fAt (fun l hl => hf l (h3 l hl)) (by simpa using c2)
      exact ⟨hf _ h1 (by simpa using c1), by rw [l1]; exact h2, l2⟩
theorem k_mE (hf : ∀ l, okL l → (f l).2 = 0 → okL (f l).1) : ∀ e, okE e → (mE f e).2 = 0 → okE (mE f e).1 := gExpr.ind fun x ih hx h => by
  obtain ⟨k1, k2, k3, k4, k5⟩ := hx.of
  rw [mE_mk] at h ⊢
  unfold mE1 at h ⊢
  split at h
  · rename_i c; exact absurd h c
  · rename_i c1
    rw [if_neg c1]
    split at h
    · rename_i c; exact absurd h c
    · rename_i c2
      rw [if_neg c2]
      split at h
      · rename_i c; exact absurd h c
      · rename_i c3
        rw [if_neg c3]
        obtain ⟨l1, l2⟩ := mapE_all (Q := okI) x.fIdx (fun l hl => k_mI hf l (k3 l hl)) (by simpa using c2)
        obtain ⟨l3, l4⟩ := mapE_all (Q := okE) x.fArgs (fun l hl => ih l hl (k5 l hl)) (by simpa using c3)
        exact .mk _ (hf _ k1 (by simpa using c1)) (by rw [l1]; exact k2) l2 (by rw [l3]; exact k4) l4
theorem k_mS (hf : ∀ l, okL l → (f l).2 = 0 → okL (f l).1) : ∀ e, okS e → (mS f e).2 = 0 → okS (mS f e).1 := gStmt.ind fun x ih hx h => by
  obtain ⟨k1, k2, k3, k4, k5⟩ := hx.of
  rw [mS_mk] at h ⊢
  unfold mS1 at h ⊢
  split at h
  · rename_i c; exact absurd h c
  · rename_i c1
    rw [if_neg c1]
    split at h
    · rename_i c; exact absurd h c
    · rename_i c2
      rw [if_neg c2]
      split at h
      · rename_i c; exact absurd h c
      · rename_i c3
        rw [if_neg c3]
        obtain ⟨l1, l2⟩ := mapE_all (Q := okI) x.fIdx (fun l hl => k_mI hf l (k2 l hl)) (by simpa using c1)
        have h2 := k_mE hf (.mk x.fExpr) k3 (by simpa using c2)
        obtain ⟨l3, l4⟩ := mapE_all (Q := okS) x.fBody (fun l hl => ih l hl (k5 l hl)) (by simpa using c3)
        exact .mk _ (by rw [l1]; exact k1) l2 (by rw [gExpr.mk_f]; exact h2) (by rw [l3]; exact k4) l4
end
def cc : List gBinding → List gStmt → List gStmt × Int
  | [], l => (l, 0)
  | b :: t, l => if (mapE (mS (sbL b.fName b.fVal)) l).2 ≠ 0 then ([], (mapE (mS (sbL b.fName b.fVal)) l).2) else cc t (mapE (mS (sbL b.fName b.fVal)) l).1
theorem k_step (b : gBinding) (l : List gStmt) (hw : okSs l) (h : (mapE (mS (sbL b.fName b.fVal)) l).2 = 0) : okSs (mapE (mS (sbL b.fName b.fVal)) l).1 ∧ (mapE (mS (sbL b.fName b.fVal)) l).1.length = l.length := by
  obtain ⟨l1, l2⟩ := mapE_all (Q := okS) l (fun s hs => k_mS (fun l hl => k_sbL b.fName b.fVal l hl) s (hw.2 s hs)) h
  exact ⟨⟨by rw [l1]; exact hw.1, l2⟩, l1⟩
theorem cc_w (bs : List gBinding) : ∀ (l : List gStmt), okSs l → (cc bs l).2 = 0 → okSs (cc bs l).1 ∧ (cc bs l).1.length = l.length := by
  induction bs with
  | nil =>
    intro l hw _
    have e : cc [] l = (l, 0) := rfl
    rw [e]; exact ⟨hw, rfl⟩
  | cons b t ih =>
    intro l hw h
    by_cases h0 : (mapE (mS (sbL b.fName b.fVal)) l).2 = 0
    · have e : cc (b :: t) l = cc t (mapE (mS (sbL b.fName b.fVal)) l).1 := by rw [cc, if_neg (by simpa using h0)]
      rw [e] at h ⊢
      obtain ⟨h1, h2⟩ := k_step b l hw h0
      have := ih _ h1 h
      exact ⟨this.1, by rw [this.2, h2]⟩
    · have e : cc (b :: t) l = ([], (mapE (mS (sbL b.fName b.fVal)) l).2) := by rw [cc, if_pos h0]
      rw [e] at h; exact absurd h h0
def okB (b : gBinding) : Prop := fits b.fVal
theorem s_step (b : gBinding) (hb : okB b) (l : List gStmt) (hw : okSs l) : F_loopnest_Substitute l b.fName ⟨b.fVal, []⟩ = some (mapE (mS (sbL b.fName b.fVal)) l) := by
  unfold F_loopnest_Substitute
  rw [s_c45_L (f := sbL b.fName b.fVal) (p := (b.fName, (⟨b.fVal, []⟩ : gLin))) (fun l hl => by
    unfold F_loopnest_Substitute_1
    rw [s_lin_Substitute _ _ l hl hb]; rfl) l hw]; rfl
theorem s_trace_Concrete (x : gStmtS) (bs : List gBinding) (hx : okS (.mk x)) (hl : bs.length ≤ 140737488351232) (hb : ∀ b ∈ bs, okB b) :
    F_trace_Concrete x bs = (if (cc bs [.mk x]).2 = 0 then (Option.map gStmt.f (ix (cc bs [.mk x]).1 0) >>= fun v => some (v, 0)) else some (zS, (cc bs [.mk x]).2)) := by
  have hw : okSs [.mk x] := ⟨by simp, fun a ha => by simp at ha; subst ha; exact hx⟩
  unfold F_trace_Concrete
  rw [bS, s_Copy _ hw, bS, bS, bS]
  have loop : ∀ (t p : List gBinding) (l : List gStmt), bs = p ++ t → okSs l → F_trace_Concrete_L3 zS l bs bs.length p.length = some (if (cc t l).2 = 0 then .inl (zS, (cc t l).1) else .inr (zS, (cc t l).2)) := by
    intro t
    induction t with
    | nil => intro p l e hw; rw [F_trace_Concrete_L3, if_neg (by rw [e]; simp)]; rfl
    | cons b t ih =>
      intro p l e hw
      have hlen : (p.length : Int) < (bs.length : Int) := by rw [e]; simp; omega
      rw [F_trace_Concrete_L3, if_pos hlen, ix_app e, bS]
      rw [show F_lin_Const b.fVal = some ⟨b.fVal, []⟩ from rfl, bS, s_step b (hb b (by rw [e]; simp)) l hw, bS]
      by_cases h : (mapE (mS (sbL b.fName b.fVal)) l).2 = 0
      · have hw2 := (k_step b l hw h).1
        have ihc := ih (p ++ [b]) (mapE (mS (sbL b.fName b.fVal)) l).1 (by rw [e]; simp) hw2
        rw [show ((p ++ [b]).length : Int) = (p.length : Int) + 1 by simp] at ihc
        have ec : cc (b :: t) l = cc t (mapE (mS (sbL b.fName b.fVal)) l).1 := by rw [cc, if_neg (by simpa using h)]
        rw [if_neg (by simp [h]), wrapT (by omega) hlen (by omega), ihc, ec]
      · have ec : cc (b :: t) l = ([], (mapE (mS (sbL b.fName b.fVal)) l).2) := by rw [cc, if_pos h]
        rw [if_pos (by simpa using h), ec, if_neg h]; rfl
  have := loop bs [] [.mk x] rfl hw
  show (F_trace_Concrete_L3 zS [.mk x] bs bs.length (([] : List gBinding).length : Int) >>= _) = _
  rw [this, bS]
  by_cases h : (cc bs [.mk x]).2 = 0
  · rw [if_pos h, if_pos h]
  · rw [if_neg h, if_neg h]
theorem s_ref33_Concrete (x : gStmtS) (bs : List gBinding) (hx : okS (.mk x)) (hl : bs.length ≤ 140737488351232) (hb : ∀ b ∈ bs, okB b) :
    F_ref33_Concrete x bs = (if (cc bs [.mk x]).2 = 0 then (Option.map gStmt.f (ix (cc bs [.mk x]).1 0) >>= fun v => some (v, 0)) else some (zS, (cc bs [.mk x]).2)) := by
  have hw : okSs [.mk x] := ⟨by simp, fun a ha => by simp at ha; subst ha; exact hx⟩
  unfold F_ref33_Concrete
  rw [bS]
  have loop : ∀ (t p : List gBinding) (l : List gStmt), bs = p ++ t → okSs l → F_ref33_Concrete_L3 bs zS l p.length = some (if (cc t l).2 = 0 then .inl (zS, (cc t l).1) else .inr (zS, (cc t l).2)) := by
    intro t
    induction t with
    | nil => intro p l e hw; rw [F_ref33_Concrete_L3, bS, if_neg (by rw [e]; simp)]; rfl
    | cons b t ih =>
      intro p l e hw
      have hlen : (p.length : Int) < (bs.length : Int) := by rw [e]; simp; omega
      have hbb := hb b (by rw [e]; simp)
      rw [F_ref33_Concrete_L3, bS, if_pos hlen, ix_app e, bS, bS, r_L (f := sbL b.fName b.fVal) (fun l hl => s_ref14_LinSubstitute _ _ l hl hbb) (ev_sbL _ _) l hw, bS, bS]
      by_cases h : (mapE (mS (sbL b.fName b.fVal)) l).2 = 0
      · have hw2 := (k_step b l hw h).1
        have ihc := ih (p ++ [b]) (mapE (mS (sbL b.fName b.fVal)) l).1 (by rw [e]; simp) hw2
        rw [show ((p ++ [b]).length : Int) = (p.length : Int) + 1 by simp] at ihc
        have ec : cc (b :: t) l = cc t (mapE (mS (sbL b.fName b.fVal)) l).1 := by rw [cc, if_neg (by simpa using h)]
        rw [if_neg (by simp [h]), wrapT (by omega) hlen (by omega), ihc, ec]
      · have ec : cc (b :: t) l = ([], (mapE (mS (sbL b.fName b.fVal)) l).2) := by rw [cc, if_pos h]
        rw [if_pos (by simpa using h), ec, if_neg h]; rfl
  have := loop bs [] [.mk x] rfl hw
  show (F_ref33_Concrete_L3 bs zS [.mk x] (([] : List gBinding).length : Int) >>= _) = _
  rw [this, bS]
  by_cases h : (cc bs [.mk x]).2 = 0
  · rw [if_pos h, if_pos h]
  · rw [if_neg h, if_neg h]
theorem b_Lin (l : gLin) (hl : l.fL.length * 24 ≤ 140737488351232) : F_base_Lin l l = some true := by
  have L4 : F_base_Lin_L4 l l 0 = some (.inl ()) := by
    refine loopEq (F := fun i => F_base_Lin_L4 l l i) (l := l.fL) (fun _ => .inl ()) ?_ ?_
    · rw [F_base_Lin_L4]; simp [bS]
    · intro i y t h0 h1 hix ih
      rw [F_base_Lin_L4]
      simp only [bS, if_pos h1, hix, wrapT h0 h1 (by omega), beq_self_eq_true, Bool.and_self, Bool.not_true, Bool.false_eq_true, if_false]
      exact ih
  unfold F_base_Lin
  simp only [bS, bne_self_eq_false, Bool.false_eq_true, if_false, L4]
theorem b_Lins (l : List gLin) (hl : l.length * 32 ≤ 140737488351232) (h : ∀ x ∈ l, x.fL.length * 24 ≤ 140737488351232) : F_base_Lins l l = some true := by
  have L4 : F_base_Lins_L4 l l 0 = some (.inl ()) := by
    refine loopEqI (F := fun (_ : Unit) i => F_base_Lins_L4 l l i) (l := l) (fun _ _ => True) (fun _ _ => .inl ()) ?_ ?_ () trivial
    · intro _ _
      show F_base_Lins_L4 l l (l.length : Int) = _
      rw [F_base_Lins_L4]; simp [bS]
    · intro i y t _ h0 h1 hm hix _ ih
      show F_base_Lins_L4 l l i = _
      rw [F_base_Lins_L4]
      simp only [bS, if_pos h1, hix, wrapT h0 h1 (by omega), b_Lin y (h y hm), if_true]
      exact ih () trivial
  unfold F_base_Lins
  simp only [bS, bne_self_eq_false, Bool.false_eq_true, if_false, L4]
theorem b_Index (x : gIndex) (h : okI x) : F_base_Index x x = some true := by
  obtain ⟨k1, k2, k3⟩ := h
  unfold F_base_Index
  simp only [beq_self_eq_true, if_true, b_Lin _ k1.2.1, bS, b_Lins _ k2 fun l hl => (k3 l hl).2.1]
theorem b_Indices (l : List gIndex) (hl : l.length * 72 ≤ 140737488351232) (h : ∀ x ∈ l, okI x) : F_base_Indices l l = some true := by
  have L4 : F_base_Indices_L4 l l 0 = some (.inl ()) := by
    refine loopEqI (F := fun (_ : Unit) i => F_base_Indices_L4 l l i) (l := l) (fun _ _ => True) (fun _ _ => .inl ()) ?_ ?_ () trivial
    · intro _ _
      show F_base_Indices_L4 l l (l.length : Int) = _
      rw [F_base_Indices_L4]; simp [bS]
    · intro i y t _ h0 h1 hm hix _ ih
      show F_base_Indices_L4 l l i = _
      rw [F_base_Indices_L4]
      simp only [bS, if_pos h1, hix, wrapT h0 h1 (by omega), b_Index y (h y hm), if_true]
      exact ih () trivial
  unfold F_base_Indices
  simp only [bS, bne_self_eq_false, Bool.false_eq_true, if_false, L4]
theorem b_Exprs_of (l : List gExpr) (hl : l.length * 160 ≤ 140737488351232) (h : ∀ x ∈ l, F_base_Expr x.f x.f = some true) : F_base_Exprs l l = some true := by
  have L4 : F_base_Exprs_L4 l l 0 = some (.inl ()) := by
    refine loopEqI (F := fun (_ : Unit) i => F_base_Exprs_L4 l l i) (l := l) (fun _ _ => True) (fun _ _ => .inl ()) ?_ ?_ () trivial
    · intro _ _
      show F_base_Exprs_L4 l l (l.length : Int) = _
      rw [F_base_Exprs_L4]; simp [bS]
    · intro i y t _ h0 h1 hm hix _ ih
      show F_base_Exprs_L4 l l i = _
      rw [F_base_Exprs_L4]
      simp only [bS, omS, if_pos h1, hix, wrapT h0 h1 (by omega), h y hm, if_true]
      exact ih () trivial
  rw [F_base_Exprs]
  simp only [bS, bne_self_eq_false, Bool.false_eq_true, if_false, L4]
theorem b_Expr : ∀ e, okE e → F_base_Expr e.f e.f = some true := gExpr.ind fun x ih hw => by
  obtain ⟨k1, k2, k3, k4, k5⟩ := hw.of
  rw [gExpr.f_mk, F_base_Expr]
  simp only [beq_self_eq_true, Bool.and_self, if_true, b_Lin _ k1.2.1, bS, b_Indices _ k2 k3, b_Exprs_of x.fArgs k4 fun a ha => ih a ha (k5 a ha)]
theorem b_Stmts_of (l : List gStmt) (hl : l.length * 256 ≤ 140737488351232) (h : ∀ x ∈ l, F_base_Stmt x.f x.f = some true) : F_base_Stmts l l = some true := by
  have L4 : F_base_Stmts_L4 l l 0 = some (.inl ()) := by
    refine loopEqI (F := fun (_ : Unit) i => F_base_Stmts_L4 l l i) (l := l) (fun _ _ => True) (fun _ _ => .inl ()) ?_ ?_ () trivial
    · intro _ _
      show F_base_Stmts_L4 l l (l.length : Int) = _
      rw [F_base_Stmts_L4]; simp [bS]
    · intro i y t _ h0 h1 hm hix _ ih
      show F_base_Stmts_L4 l l i = _
      rw [F_base_Stmts_L4]
      simp only [bS, omS, if_pos h1, hix, wrapT h0 h1 (by omega), h y hm, if_true]
      exact ih () trivial
  rw [F_base_Stmts]
  simp only [bS, bne_self_eq_false, Bool.false_eq_true, if_false, L4]
theorem b_Stmt : ∀ e, okS e → F_base_Stmt e.f e.f = some true := gStmt.ind fun x ih hw => by
  obtain ⟨k1, k2, k3, k5, k6⟩ := hw.of
  have hE := b_Expr (.mk x.fExpr) k3
  rw [gExpr.f_mk] at hE
  rw [gStmt.f_mk, F_base_Stmt]
  simp only [beq_self_eq_true, if_true, bS, b_Indices _ k1 k2, hE, b_Stmts_of x.fBody k5 fun a ha => ih a ha (k6 a ha)]
def sta : gExpr → Bool
  | .mk x => (x.fOp != 3) && (x.fArgs.attach.map fun a => sta a.1).all id
 termination_by e => SizeOf.sizeOf e
 decreasing_by exact gExpr.lt a.2
theorem sta_mk (x : gExprS) : sta (.mk x) = ((x.fOp != 3) && x.fArgs.all sta) := by
  rw [sta]; simp
theorem s_trace_Static : ∀ e, okE e → F_trace_Static e.f = some (sta e) := gExpr.ind fun x ih hw => by
  obtain ⟨k1, k2, k3, k4, k5⟩ := hw.of
  rw [gExpr.f_mk, F_trace_Static, sta_mk]
  by_cases h : x.fOp = 3
  · rw [if_pos (by simpa using h)]; simp [h]
  · rw [if_neg (by simpa using h), bS, bS]
    have L4 : F_trace_Static_L4 x.fArgs x.fArgs.length 0 = some (if x.fArgs.all sta then .inl () else .inr false) := by
      refine loopEqI (F := fun (_ : Unit) i => F_trace_Static_L4 x.fArgs x.fArgs.length i) (l := x.fArgs) (fun _ _ => True) (fun _ t => if t.all sta then .inl () else .inr false) ?_ ?_ () trivial
      · intro _ _
        show F_trace_Static_L4 x.fArgs x.fArgs.length (x.fArgs.length : Int) = _
        rw [F_trace_Static_L4, if_neg (by omega)]; rfl
      · intro i y t _ h0 h1 hm hix _ ih2
        show F_trace_Static_L4 x.fArgs x.fArgs.length i = _
        rw [F_trace_Static_L4, if_pos h1, hix, omS, bS, ih y hm (k5 y hm), bS, wrapT h0 h1 (by omega), List.all_cons]
        cases sta y with
        | true => rw [ite_t, Bool.true_and]; exact ih2 () trivial
        | false => rfl
    rw [L4, bS]
    have : (x.fOp != 3) = true := by simpa using h
    rw [this, Bool.true_and]
    cases x.fArgs.all sta <;> rfl
theorem s_ref33_Static : ∀ e, okE e → F_ref33_Static e.f = some (sta e) := gExpr.ind fun x ih hw => by
  obtain ⟨k1, k2, k3, k4, k5⟩ := hw.of
  rw [gExpr.f_mk, F_ref33_Static, sta_mk, bS]
  have L2 : F_ref33_Static_L2 x 0 = some (if x.fArgs.all sta then .inl () else .inr false) := by
    refine loopEqI (F := fun (_ : Unit) i => F_ref33_Static_L2 x i) (l := x.fArgs) (fun _ _ => True) (fun _ t => if t.all sta then .inl () else .inr false) ?_ ?_ () trivial
    · intro _ _
      show F_ref33_Static_L2 x (x.fArgs.length : Int) = _
      rw [F_ref33_Static_L2, bS, if_neg (by omega)]; rfl
    · intro i y t _ h0 h1 hm hix _ ih2
      show F_ref33_Static_L2 x i = _
      rw [F_ref33_Static_L2, bS, if_pos h1, hix, omS, bS, ih y hm (k5 y hm), bS, wrapT h0 h1 (by omega), List.all_cons]
      cases sta y with
      | true => rw [ite_t, Bool.true_and]; exact ih2 () trivial
      | false => rfl
  rw [L2, bS]
  cases x.fArgs.all sta with
  | true => rw [Bool.and_true]; rfl
  | false => rw [Bool.and_false]; rfl
theorem s_lawC (x : gStmtS) (bs : List gBinding) (e : gExprS) (hx : okS (.mk x)) (k1 : bs.length ≤ 140737488351232) (k2 : ∀ b ∈ bs, okB b) (he : okE (.mk e)) : F_law33_TraceConcrete x bs e = some true := by
  have hlong := t_Long2 [.mk x, .mk (gStmtF.mk 0 [] 0 0 0 [] e [])] (by simp) (fun a ha => by
    simp only [List.mem_cons, List.not_mem_nil, or_false] at ha
    rcases ha with rfl | rfl
    · exact hx
    · exact .mk _ (by simp) (fun i hi => by simp at hi) he (by simp) (fun i hi => by simp at hi))
  obtain ⟨v, hv, _⟩ := hlong
  have L4 : ∃ r, F_law33_TraceConcrete_L4 bs 0 = some r ∧ (r = .inl () ∨ r = .inr true) := by
    have : wp (F_law33_TraceConcrete_L4 bs 0) (fun r => r = .inl () ∨ r = .inr true) := by
      refine loopUp0 (F := fun i => F_law33_TraceConcrete_L4 bs i) bs.length ?_ ?_ 0 (Int.le_refl _) (by omega)
      · rw [F_law33_TraceConcrete_L4, bS, if_neg (by omega)]; exact ⟨_, rfl, .inl rfl⟩
      · intro i h0 h1 ih
        rw [F_law33_TraceConcrete_L4]
        obtain ⟨z, hz, hm⟩ := ix_ok h0 h1
        rw [bS, if_pos h1, hz, bS]
        by_cases c : (100 : Int) < z.fName.length
        · rw [if_pos c]; exact ⟨_, rfl, .inr rfl⟩
        · rw [if_neg c, wrapT h0 h1 (by omega)]; exact ih
    obtain ⟨r, h1, h2⟩ := this
    exact ⟨r, h1, h2⟩
  obtain ⟨r, hr, hr2⟩ := L4
  have main : (F_trace_Concrete x bs >>= fun v12 => F_ref33_Concrete x bs >>= fun v13 => F_base_Stmt v12.fst v13.fst >>= fun v14 => if v14 then
      if v12.snd == v13.snd then F_trace_Static e >>= fun v15 => F_ref33_Static e >>= fun v16 => if v15 == v16 then F_law33_examples >>= fun v17 => some v17 else some false else some false else some false) = some true := by
    have hw : okSs [.mk x] := ⟨by simp, fun a ha => by simp at ha; subst ha; exact hx⟩
    have hS1 := s_trace_Static (.mk e) he
    have hS2 := s_ref33_Static (.mk e) he
    rw [gExpr.f_mk] at hS1 hS2
    have fin : ∀ (y : gStmtS) (k : Int), okS (.mk y) → (F_base_Stmt y y >>= fun v14 => if v14 then
      if k == k then F_trace_Static e >>= fun v15 => F_ref33_Static e >>= fun v16 => if v15 == v16 then F_law33_examples >>= fun v17 => some v17 else some false else some false else some false) = some true := fun y k hy => by
      have hB := b_Stmt (.mk y) hy
      rw [gStmt.f_mk] at hB
      rw [hB, bS, ite_t, beq_self_eq_true, ite_t, hS1, bS, hS2, bS, beq_self_eq_true, ite_t]; rfl
    rw [s_trace_Concrete x bs hx k1 k2, s_ref33_Concrete x bs hx k1 k2]
    by_cases h : (cc bs [.mk x]).2 = 0
    · rw [if_pos h]
      obtain ⟨h1, h2⟩ := cc_w bs _ hw h
      obtain ⟨y, hy⟩ : ∃ y, (cc bs [.mk x]).1 = [y] := by
        match hc : (cc bs [.mk x]).1, h2 with
        | [y], _ => exact ⟨y, rfl⟩
      rw [hy] at h1 ⊢
      rw [show ix [y] (0 : Int) = some y from rfl, omS, bS, bS, bS]
      refine fin y.f 0 ?_
      rw [gStmt.mk_f]
      exact h1.2 y (by simp)
    · rw [if_neg h, bS, bS]
      have hz : okL ⟨0, []⟩ := ⟨by unfold fits; decide, by simp, fun m hm => by simp at hm⟩
      exact fin zS _ (.mk _ (by simp [zS]) (fun i hi => by simp [zS] at hi) (.mk _ hz (by simp [zS, zE]) (fun i hi => by simp [zS, zE] at hi) (by simp [zS, zE]) (fun i hi => by simp [zS, zE] at hi)) (by simp [zS]) (fun i hi => by simp [zS] at hi))
  unfold F_law33_TraceConcrete
  rw [bS, bS, bS, hv, bS]
  cases v with
  | true => rfl
  | false =>
    rw [ite_f, bS]
    by_cases c : (12 : Int) < bs.length
    · rw [if_pos c]; rfl
    · rw [if_neg c, bS, ite_f, bS, hr, bS]
      rcases hr2 with rfl | rfl
      · exact main
      · rfl
end Go.Proofs.YtfaenlhmhlabeaaGreatDoor
end
section
namespace Go.Proofs.YtfaenlhmhlabeaaGreatDoor
open Go HY Go.RowKit Go.ChangeShapes Go.WideShapes
set_option maxRecDepth 1000000
set_option linter.unusedVariables false
def ok_gMono (x : gMono) : Prop := True ∧ fits x.fBy ∧ True
theorem u2 : Tryz.prog.underlying 2 = some (.int .i64) := by kernel_rfl
theorem u9 : Tryz.prog.underlying 9 = some .string := by kernel_rfl
def ok_gLin (x : gLin) : Prop := fits x.fK ∧ (x.fL.length * Tryz.prog.bytesOf 117 ≤ reachBytes ∧ ∀ a ∈ x.fL, ok_gMono a) ∧ True
theorem u27 : Tryz.prog.underlying 27 = some (.slice 117) := by kernel_rfl
theorem c27 : Tryz.prog.cellsOf 117 = 2 := by kernel_rfl
theorem b27 : 1 ≤ Tryz.prog.bytesOf 117 := by
  have : Nat.ble 1 (Tryz.prog.bytesOf 117) = true := by kernel_rfl
  exact Nat.le_of_ble_eq_true this
def ok_gIndex (x : gIndex) : Prop := ok_gLin x.fLin ∧ True ∧ (x.fAt.length * Tryz.prog.bytesOf 29 ≤ reachBytes ∧ ∀ a ∈ x.fAt, ok_gLin a) ∧ True
theorem u81 : Tryz.prog.underlying 81 = some (.slice 29) := by kernel_rfl
theorem c81 : Tryz.prog.cellsOf 29 = 2 := by kernel_rfl
theorem b81 : 1 ≤ Tryz.prog.bytesOf 29 := by
  have : Nat.ble 1 (Tryz.prog.bytesOf 29) = true := by kernel_rfl
  exact Nat.le_of_ble_eq_true this
def ok_gVal (x : gVal) : Prop := fits x.fN ∧ fits x.fD ∧ True
def ok_gType (x : gType) : Prop := True ∧ True ∧ True ∧ True ∧ True ∧ True
theorem u3 : Tryz.prog.underlying 3 = some (.int .i64) := by kernel_rfl
inductive ok_gExpr : gExpr → Prop
  | mk (x : gExprS) (h0 : True) (h1 : True) (h2 : ok_gVal x.fVal) (h3 : ok_gType x.fType) (h4 : ok_gLin x.fLin) (h5 : (x.fIdx.length * Tryz.prog.bytesOf 83 ≤ reachBytes ∧ ∀ a ∈ x.fIdx, ok_gIndex a)) (h6 : x.fArgs.length * Tryz.prog.bytesOf 32 ≤ reachBytes) (g6 : ∀ a ∈ x.fArgs, ok_gExpr a) : ok_gExpr (.mk x)
theorem u30 : Tryz.prog.underlying 30 = some (.slice 32) := by kernel_rfl
theorem c30 : Tryz.prog.cellsOf 32 = 13 := by kernel_rfl
theorem b30 : 1 ≤ Tryz.prog.bytesOf 32 := by
  have : Nat.ble 1 (Tryz.prog.bytesOf 32) = true := by kernel_rfl
  exact Nat.le_of_ble_eq_true this
theorem u22 : Tryz.prog.underlying 22 = some (.slice 83) := by kernel_rfl
theorem c22 : Tryz.prog.cellsOf 83 = 4 := by kernel_rfl
theorem b22 : 1 ≤ Tryz.prog.bytesOf 83 := by
  have : Nat.ble 1 (Tryz.prog.bytesOf 83) = true := by kernel_rfl
  exact Nat.le_of_ble_eq_true this
inductive ok_gStmt : gStmt → Prop
  | mk (x : gStmtS) (h0 : True) (h1 : True) (h2 : True) (h3 : True) (h4 : True) (h5 : (x.fIdx.length * Tryz.prog.bytesOf 83 ≤ reachBytes ∧ ∀ a ∈ x.fIdx, ok_gIndex a)) (h6 : ok_gExpr (.mk x.fExpr)) (h7 : x.fBody.length * Tryz.prog.bytesOf 35 ≤ reachBytes) (g7 : ∀ a ∈ x.fBody, ok_gStmt a) : ok_gStmt (.mk x)
theorem u33 : Tryz.prog.underlying 33 = some (.slice 35) := by kernel_rfl
theorem c33 : Tryz.prog.cellsOf 35 = 20 := by kernel_rfl
theorem b33 : 1 ≤ Tryz.prog.bytesOf 35 := by
  have : Nat.ble 1 (Tryz.prog.bytesOf 35) = true := by kernel_rfl
  exact Nat.le_of_ble_eq_true this
def ok_gBinding (x : gBinding) : Prop := True ∧ fits x.fVal ∧ True
theorem u36 : Tryz.prog.underlying 36 = some (.slice 43) := by kernel_rfl
theorem c36 : Tryz.prog.cellsOf 43 = 2 := by kernel_rfl
theorem b36 : 1 ≤ Tryz.prog.bytesOf 43 := by
  have : Nat.ble 1 (Tryz.prog.bytesOf 43) = true := by kernel_rfl
  exact Nat.le_of_ble_eq_true this
section
variable {H : Type} {enc : TypeId × Value → H} {w : World} {base : Nat} {spare : Nat → Bool} {held : Bool}
theorem rzI64 {P : Program} (n : Nat) {t : TypeId} (ht : P.underlying t = some (.int .i64)) : Reads enc P w base spare held n t (fun a : Int => [.int .i64 a]) (fun a d => Sz P t d → fits a) :=
  (reads_int n ht).to id (fun _ => rfl) fun a d h _ => by
    have h1 := h.1
    simp only [Lit.wf, Bool.and_eq_true, decide_eq_true_eq] at h1
    have e1 : IntKind.i64.min = -9223372036854775808 := by decide
    have e2 : IntKind.i64.max = 9223372036854775807 := by decide
    rw [e1, e2] at h1
    exact h1
theorem rd_gMono (n : Nat) : Reads enc Tryz.prog w base spare held n 117 (fun x : gMono => (egMono x).cells) (fun x d => Sz Tryz.prog 117 d → ok_gMono x) :=
  ((rzStruct Tryz.underlying117 (by kernel_rfl) (fzCons (rzStr n u9) (fzCons (rzI64 n u2) (fzNil n)))).to (fun x => gMono.mk x.1 x.2.1) (fun _ => rfl) (fun a d h hz => h hz)).le (Nat.le_succ n)
theorem rd_gLin (n : Nat) : Reads enc Tryz.prog w base spare held n 29 (fun x : gLin => (egLin x).cells) (fun x d => Sz Tryz.prog 29 d → ok_gLin x) :=
  ((rzStruct Tryz.underlying29 (by kernel_rfl) (fzCons (rzI64 n u2) (fzCons ((rzSlice egMono u27 c27 (by decide) (fun _ => rfl) (rd_gMono n)).le (Nat.le_succ _)) (fzNil n)))).to (fun x => gLin.mk x.1 x.2.1) (fun _ => rfl) (fun a d h hz => h hz)).le (Nat.le_succ n)
theorem rd_gIndex (n : Nat) : Reads enc Tryz.prog w base spare held n 83 (fun x : gIndex => (egIndex x).cells) (fun x d => Sz Tryz.prog 83 d → ok_gIndex x) :=
  ((rzStruct Tryz.underlying83 (by kernel_rfl) (fzCons (rd_gLin n) (fzCons (rzStr n u9) (fzCons ((rzSlice egLin u81 c81 (by decide) (fun _ => rfl) (rd_gLin n)).le (Nat.le_succ _)) (fzNil n))))).to (fun x => gIndex.mk x.1 x.2.1 x.2.2.1) (fun _ => rfl) (fun a d h hz => h hz)).le (Nat.le_succ n)
theorem rd_gVal (n : Nat) : Reads enc Tryz.prog w base spare held n 24 (fun x : gVal => (egVal x).cells) (fun x d => Sz Tryz.prog 24 d → ok_gVal x) :=
  ((rzStruct Tryz.underlying24 (by kernel_rfl) (fzCons (rzI64 n u2) (fzCons (rzI64 n u2) (fzNil n)))).to (fun x => gVal.mk x.1 x.2.1) (fun _ => rfl) (fun a d h hz => h hz)).le (Nat.le_succ n)
theorem rd_gType (n : Nat) : Reads enc Tryz.prog w base spare held n 26 (fun x : gType => (egType x).cells) (fun x d => Sz Tryz.prog 26 d → ok_gType x) :=
  ((rzStruct Tryz.underlying26 (by kernel_rfl) (fzCons (rzInt n u3) (fzCons (rzInt n u3) (fzCons (rzInt n u3) (fzCons (rzInt n u3) (fzCons (rzInt n u3) (fzNil n))))))).to (fun x => gType.mk x.1 x.2.1 x.2.2.1 x.2.2.2.1 x.2.2.2.2.1) (fun _ => rfl) (fun a d h hz => h hz)).le (Nat.le_succ n)
theorem rd_gExpr : ∀ n, Reads enc Tryz.prog w base spare held n 32 (fun x : gExprS => (hgExpr x).cells) (fun x d => Sz Tryz.prog 32 d → ok_gExpr (.mk x))
  | 0 => rzZero _ _
  | n + 1 => (rzStruct Tryz.underlying32 (by kernel_rfl) (fzCons (rzInt n u3) (fzCons (rzStr n u9) (fzCons (rd_gVal n) (fzCons (rd_gType n) (fzCons (rd_gLin n) (fzCons ((rzSlice egIndex u22 c22 (by decide) (fun _ => rfl) (rd_gIndex n)).le (Nat.le_succ _)) (fzCons ((rzSlice egExpr u30 c30 (by decide) (fun _ => rfl) ((rd_gExpr n).to gExpr.mk (fun x => by rw [egExpr_mk]) (fun x d h => h))).le (Nat.le_succ _)) (fzNil n))))))))).to (fun x => (gExprF.mk x.1 x.2.1 x.2.2.1 x.2.2.2.1 x.2.2.2.2.1 x.2.2.2.2.2.1 x.2.2.2.2.2.2.1 : gExprS)) (fun _ => rfl) (fun a d h hz => by obtain ⟨p0, p1, p2, p3, p4, p5, p6, _⟩ := h hz; exact .mk _ p0 p1 p2 p3 p4 p5 p6.1 p6.2)
theorem rd_gExpre (n : Nat) : Reads enc Tryz.prog w base spare held n 32 (fun x : gExpr => (egExpr x).cells) (fun x d => Sz Tryz.prog 32 d → ok_gExpr x) := (rd_gExpr n).to gExpr.mk (fun x => by rw [egExpr_mk]) (fun x d h => h)
theorem rd_gStmt : ∀ n, Reads enc Tryz.prog w base spare held n 35 (fun x : gStmtS => (hgStmt x).cells) (fun x d => Sz Tryz.prog 35 d → ok_gStmt (.mk x))
  | 0 => rzZero _ _
  | n + 1 => (rzStruct Tryz.underlying35 (by kernel_rfl) (fzCons (rzInt n u3) (fzCons (rzStr n u9) (fzCons (rzInt n u3) (fzCons (rzInt n u3) (fzCons (rzInt n u3) (fzCons ((rzSlice egIndex u22 c22 (by decide) (fun _ => rfl) (rd_gIndex n)).le (Nat.le_succ _)) (fzCons (rd_gExpr n) (fzCons ((rzSlice egStmt u33 c33 (by decide) (fun _ => rfl) ((rd_gStmt n).to gStmt.mk (fun x => by rw [egStmt_mk]) (fun x d h => h))).le (Nat.le_succ _)) (fzNil n)))))))))).to (fun x => (gStmtF.mk x.1 x.2.1 x.2.2.1 x.2.2.2.1 x.2.2.2.2.1 x.2.2.2.2.2.1 x.2.2.2.2.2.2.1 x.2.2.2.2.2.2.2.1 : gStmtS)) (fun _ => rfl) (fun a d h hz => by obtain ⟨p0, p1, p2, p3, p4, p5, p6, p7, _⟩ := h hz; exact .mk _ p0 p1 p2 p3 p4 p5 p6 p7.1 p7.2)
theorem rd_gStmte (n : Nat) : Reads enc Tryz.prog w base spare held n 35 (fun x : gStmt => (egStmt x).cells) (fun x d => Sz Tryz.prog 35 d → ok_gStmt x) := (rd_gStmt n).to gStmt.mk (fun x => by rw [egStmt_mk]) (fun x d h => h)
theorem rd_gBinding (n : Nat) : Reads enc Tryz.prog w base spare held n 43 (fun x : gBinding => (egBinding x).cells) (fun x d => Sz Tryz.prog 43 d → ok_gBinding x) :=
  ((rzStruct Tryz.underlying43 (by kernel_rfl) (fzCons (rzStr n u9) (fzCons (rzI64 n u2) (fzNil n)))).to (fun x => gBinding.mk x.1 x.2.1) (fun _ => rfl) (fun a d h hz => h hz)).le (Nat.le_succ n)
end
theorem bytes117 : Tryz.prog.bytesOf 117 = 24 := by kernel_rfl
theorem bytes29 : Tryz.prog.bytesOf 29 = 32 := by kernel_rfl
theorem bytes83 : Tryz.prog.bytesOf 83 = 72 := by kernel_rfl
theorem bytes32 : Tryz.prog.bytesOf 32 = 160 := by kernel_rfl
theorem bytes35 : Tryz.prog.bytesOf 35 = 256 := by kernel_rfl
theorem reachB : reachBytes = 140737488351232 := rfl
theorem okL_r {l : gLin} (h : ok_gLin l) : okL l := by
  obtain ⟨h1, ⟨h2, h3⟩, _⟩ := h
  rw [bytes117, reachB] at h2
  exact ⟨h1, h2, fun m hm => (h3 m hm).2.1⟩
theorem okI_r {x : gIndex} (h : ok_gIndex x) : okI x := by
  obtain ⟨h1, _, ⟨h2, h3⟩, _⟩ := h
  rw [bytes29, reachB] at h2
  exact ⟨okL_r h1, h2, fun l hl => okL_r (h3 l hl)⟩
theorem okE_r : ∀ e, ok_gExpr e → okE e := gExpr.ind fun x ih h => by
  cases h with
  | mk _ h0 h1 h2 h3 h4 h5 h6 g6 =>
    rw [bytes32, reachB] at h6
    have h5' := h5.1
    rw [bytes83, reachB] at h5'
    exact .mk x (okL_r h4) h5' (fun i hi => okI_r (h5.2 i hi)) h6 (fun a ha => ih a ha (g6 a ha))
theorem okS_r : ∀ e, ok_gStmt e → okS e := gStmt.ind fun x ih h => by
  cases h with
  | mk _ h0 h1 h2 h3 h4 h5 h6 h7 g7 =>
    rw [bytes35, reachB] at h7
    have h5' := h5.1
    rw [bytes83, reachB] at h5'
    exact .mk x h5' (fun i hi => okI_r (h5.2 i hi)) (okE_r _ h6) h7 (fun a ha => ih a ha (g7 a ha))
end Go.Proofs.YtfaenlhmhlabeaaGreatDoor
end
section
namespace HY
open Go Go.RowKit Go.ChangeShapes Go.WideShapes Go.ChangeAt
theorem trodAll_below {H : Type} {enc : TypeId × Value → H} {P : Program} (hl : laidOutB P = true) {W W' : World} (hb : Below W.heap.size W W') : ∀ {ts : List TypeId} {vs : List Value} {ds : List (DataW H)} {ps : List MemPlace},
    (∀ t ∈ ts, P.readableRec t = true ∧ t < P.types.size) → DataW.TrodAll enc P W 0 (fun _ => true) true ts vs ds ps → (∀ p ∈ ps, p.block < W.heap.size) → DataW.TrodAll enc P W' 0 (fun b => decide (b < W.heap.size)) true ts vs ds ps
  | [], [], [], _, _, h, _ => h
  | t :: ts, v :: vs, d :: ds, _, ht, ⟨p, q, h1, h2, e⟩, hp =>
    ⟨p, q, Below.trod hl (ht t (List.mem_cons_self ..)).1 (ht t (List.mem_cons_self ..)).2 h1 hb (fun x hx => hp x (by rw [e]; exact List.mem_append_left _ hx)),
      trodAll_below hl hb (fun t' h' => ht t' (List.mem_cons_of_mem _ h')) h2 (fun x hx => hp x (by rw [e]; exact List.mem_append_right _ hx)), e⟩
  | [], _ :: _, _, _, _, h, _ => h.elim
  | [], [], _ :: _, _, _, h, _ => h.elim
  | _ :: _, [], _, _, _, h, _ => h.elim
  | _ :: _, _ :: _, [], _, _, h, _ => h.elim
structure LawOk (P : Program) (f : Func) (tb : TypeId) : Prop where
  laid : laidOutB P = true
  pars : (f.params.toList.all fun t => P.readableRec t && decide (t < P.types.size)) = true
  res : f.resultTypes = #[tb]
  bool : P.underlying tb = some .bool
theorem post_true {H : Type} {enc : TypeId × Value → H} {P : Program} {f : Func} {tb : TypeId} (hok : LawOk P f tb) {s : ChangeSpec} {W W' : World} {args : Array Value} {ds gs : List (DataW H)} {before : List MemPlace} (hv : s.vars = [])
    (hW : DataW.Whole enc P f.params.toList s.vars false W args.toList ds gs before) (hfn : s.fn H (ds ++ gs) = { results := [.lit (.bool true)], args := ds }) (hb : Below W.heap.size W W') : s.post enc P f false true false false W args (.bool true) W' := by
  have hlt := hW.lt
  have hW' := hW
  obtain ⟨p, q, hA, hV, rfl, _, _⟩ := hW
  rw [hv] at hV
  obtain ⟨rfl, rfl⟩ : gs = [] ∧ q = [] := by
    cases gs with
    | nil => exact ⟨rfl, hV⟩
    | cons => exact hV.elim
  have hp := hok.pars
  rw [List.all_eq_true] at hp
  refine ⟨ds, [], p ++ [], [], p, [], hW', ?_, ?_, ?_, hb.frame _, fun h => by cases h⟩
  · rw [hfn, hok.res]
    exact ⟨[], [], shut_bool hok.bool _, rfl, rfl⟩
  · rw [hfn]
    exact trodAll_below hok.laid hb (fun t ht => by have := hp t ht; simp only [Bool.and_eq_true, decide_eq_true_eq] at this; exact this) hA (fun x hx => hlt x (List.mem_append_left _ hx))
  · rw [hfn, hv]; exact rfl
end HY
end
section
namespace HY
open Go Go.RowKit Go.ChangeShapes Go.WideShapes Go.ChangeAt
theorem law_callsP {P : Program} {gl : Nat → AV} {f : FuncId} {args : List AV} (hent : Enters P f) (h : Pu P gl f args (.bool true)) {W : World} {vs : Array Value} (hl : args.length = vs.size) (hgl : ∀ g, RelI (HV.full W) (gl g) (.pointer (some ⟨g, 0, none⟩))) (hgv : GvOk gl (fun k => k < W.heap.size) W)
    (hr : ∀ (j : Nat) (x : AV) (v : Value), args[j]? = some x → vs[j]? = some v → RelI (HV.full W) x v) : Calls P f vs W fun e W' => e = .returned (.bool true) ∧ Below W.heap.size W W' := by
  refine (Ans.calls (he := hent) <| h.ok (fun _ => ⟨0, 0, 0⟩) (HV.full W) (fun k => k < W.heap.size) (HV.full W) W vs
    { sat := full_sat W, old := fun _ _ _ => rfl, low := fun _ h => h, fresh := fun _ _ => lkb_nil _, box := (fun _ _ hh => by rw [lkb_nil] at hh; cases hh), sepR := (fun _ _ hh => by rw [lkb_nil] at hh; cases hh), injR := (fun _ _ _ _ hh => by rw [lkb_nil] at hh; cases hh), gv := hgv, gl := hgl, ty := (fun _ _ _ hh => by rw [lkb_nil] at hh; cases hh) } hl
    (fun j x v hx hv => .imm _ _ (hr j x v hx hv))).mono fun e W' hpost => ?_
  obtain ⟨v, m', H', he, hb, _, hv⟩ := hpost
  have := hv.bool_inv
  subst this
  exact ⟨he, hb.toB⟩
theorem handed_and_shaped {H : Type} {enc : TypeId × Value → H} {C : Checked} {os : Os} {f : FuncId} {fn : Func} {s : ChangeSpec} {X : World → Prop} (hX : ∀ w w' : World, w.heap = w'.heap → X w → X w')
    (own : ownKnob C.prog.godebug = none) (started : os.Started) (noInit : C.prog.inits.idxOf? f = none) (hfn : C.prog.funcs[f]? = some fn)
    (witness : ∃ (w : World) (tape : Tape) (i : Input), w.os = os ∧ (w.forCall tape i).Shaped C.prog ∧ i.vars = [] ∧ Input.okWide C.prog (w.forCall tape i) .any w.heap.size f i ∧
      ((s.pre enc C.prog fn [] false (w.forCall tape i).memory i.args ∧ X (w.forCall tape i).memory) ∧ sizedMet enc C.prog fn (OpenSpec.ofChange s) false (w.forCall tape i).memory i.args) ∧ ({} : Assume).holds C.prog (lone (Frame.enter C.prog f i.args .normal) [] (w.forCall tape i)))
    (contract : ∀ (W : World) (base : Nat) (args : Array Value) (ds gs : List (DataW H)) (before : List MemPlace),
      (∀ (j : Nat) t v, fn.params[j]? = some t → args[j]? = some v → Value.okWide C.prog W .any base t v) → DataW.Whole enc C.prog fn.params.toList s.vars false W args.toList ds gs before → X W → W.ShapedOpen C.prog →
      Calls C.prog f args W fun e W' => ∃ v, e = .returned v ∧ s.post enc C.prog fn false true false false W args v W') :
    ReturnsInHanded {} C os f .any (fun w args => (s.pre enc C.prog fn [] false w args ∧ X w) ∧ sizedMet enc C.prog fn (OpenSpec.ofChange s) false w args) (s.post enc C.prog fn false true false false) := by
  refine returnsInHanded_of_calls own started noInit witness fun w tape i _ hsh _ hok hpre _ => ?_
  obtain ⟨_, _, _, fn', hfn', _, _, _, _, hval⟩ := hok
  obtain rfl : fn' = fn := Option.some.inj (hfn'.symm.trans hfn)
  obtain ⟨⟨⟨ds, gs, before, hw, _⟩, hx⟩, _⟩ := hpre
  refine (contract (w.forCall tape i) w.heap.size i.args ds gs before hval (DataW.Whole.of_heap (w' := w.forCall tape i) (by rfl) hw) (hX _ _ (by rfl) hx) hsh).mono fun e W' ⟨v, he, hp⟩ => ?_
  subst he
  exact ChangeSpec.post_blind hp
theorem handed_all {H : Type} {enc : TypeId × Value → H} {C : Checked} {os : Os} {f : FuncId} {fn : Func} {s : ChangeSpec} {X : World → Prop} (hX : ∀ w w' : World, w.heap = w'.heap → X w → X w')
    (own : ownKnob C.prog.godebug = none) (started : os.Started) (noInit : C.prog.inits.idxOf? f = none) (hfn : C.prog.funcs[f]? = some fn)
    (witness : ∃ (w : World) (tape : Tape) (i : Input), w.os = os ∧ (w.forCall tape i).Shaped C.prog ∧ i.vars = [] ∧ Input.okWide C.prog (w.forCall tape i) .any w.heap.size f i ∧
      ((s.pre enc C.prog fn [] false (w.forCall tape i).memory i.args ∧ X (w.forCall tape i).memory) ∧ sizedMet enc C.prog fn (OpenSpec.ofChange s) false (w.forCall tape i).memory i.args) ∧ ({} : Assume).holds C.prog (lone (Frame.enter C.prog f i.args .normal) [] (w.forCall tape i)))
    (contract : ∀ (W : World) (base : Nat) (args : Array Value) (ds gs : List (DataW H)) (before : List MemPlace),
      (∀ (j : Nat) t v, fn.params[j]? = some t → args[j]? = some v → Value.okWide C.prog W .any base t v) → DataW.Whole enc C.prog fn.params.toList s.vars false W args.toList ds gs before → X W → W.ShapedOpen C.prog → (DataW.weightsEach C.prog (fn.params.toList ++ s.plain.varTypes C.prog) (ds ++ gs)).all (· ≤ reachBytes) = true →
      Calls C.prog f args W fun e W' => ∃ v, e = .returned v ∧ s.post enc C.prog fn false true false false W args v W') :
    ReturnsInHanded {} C os f .any (fun w args => (s.pre enc C.prog fn [] false w args ∧ X w) ∧ sizedMet enc C.prog fn (OpenSpec.ofChange s) false w args) (s.post enc C.prog fn false true false false) := by
  refine returnsInHanded_of_calls own started noInit witness fun w tape i _ hsh _ hok hpre _ => ?_
  obtain ⟨_, _, _, fn', hfn', _, _, _, _, hval⟩ := hok
  obtain rfl : fn' = fn := Option.some.inj (hfn'.symm.trans hfn)
  obtain ⟨⟨⟨ds, gs, before, hw, _⟩, hx⟩, hz⟩ := hpre
  refine (contract (w.forCall tape i) w.heap.size i.args ds gs before hval (DataW.Whole.of_heap (w' := w.forCall tape i) (by rfl) hw) (hX _ _ (by rfl) hx) hsh (hz.weights hw)).mono fun e W' ⟨v, he, hp⟩ => ?_
  subst he
  exact ChangeSpec.post_blind hp
theorem laidVars_at {P : Program} {w : World} : ∀ {l : List (String × DataW Unit)} {ps : List MemPlace} (i : Nat) {n : String} {d : DataW Unit}, DataW.LaidVars P w l ps → l[i]? = some (n, d) →
    ∃ g t cs fuel p, P.globalNamed n = some g ∧ (P.globals[g]?).map (·.type) = some t ∧ w.var? P n = some cs ∧ DataW.trod (fun _ => ()) P w 0 (fun _ => true) false fuel t cs.toList = some (d, p)
  | [], _, i, _, _, _, hi => by simp at hi
  | (n0, d0) :: r, ps, i, n, d, h, hi => by
    obtain ⟨g, t, cs, fuel, p, q, h1, h2, h3, h4, h5, _⟩ := h
    cases i with
    | zero => cases hi; exact ⟨g, t, cs, fuel, p, h1, h2, h3, h4⟩
    | succ i => exact laidVars_at i h5 hi
def litZ (k : IntKind) (z : Int) : DataW Unit := .lit (.int k z)
theorem laid_cells {P : Program} {w : World} {laid : List (String × DataW Unit)} (hm : laidMetH P laid w) (hpl : (laid.all fun x => x.2.handleName?.isNone) = true) (i : Nat) {n : String} {k : IntKind} {zs : List Int} (hi : laid[i]? = some (n, .agg (zs.map (litZ k))))
    {g t e : Nat} (hg : P.globalNamed n = some g) (hgt : (P.globals[g]?).map (·.type) = some t) (hu : P.underlying t = some (.array zs.length e)) (hc : P.cellsOf e = 1) (hue : P.underlying e = some (.int k)) (j : Nat) (z : Int) (hj : zs[j]? = some z) :
    w.cell? ⟨g, j, none⟩ = some (.int k z) := by
  rw [MakeChecks.laidMetH_plain _ _ _ hpl] at hm
  obtain ⟨ps, hl, _, _⟩ := hm
  obtain ⟨g', t', cs, fuel, p, e1, e2, e3, e4⟩ := laidVars_at i hl hi
  rw [hg] at e1; cases e1
  rw [hgt] at e2; cases e2
  obtain ⟨xs, m, rfl, hxe, hcl, hxl, hel⟩ := DataW.trod_array hu e4
  rw [World.var?_cell hg e3 j]
  have hjl : j < zs.length := (List.getElem?_eq_some_iff.1 hj).1
  have h1 := hel j hjl
  rw [hc] at h1
  have hxj : xs[j]? = some (xs[j]'(by omega)) := List.getElem?_eq_getElem (by omega)
  rw [hxj] at h1
  obtain ⟨v, h2, h3, _⟩ := DataW.trod_int hue h1
  have h4 : (xs.map (·.1))[j]? = some (.lit (.int k v)) := by rw [List.getElem?_map, hxj, Option.map_some, h3]
  have h5 : (.agg (zs.map (litZ k)) : DataW Unit) = .agg (xs.map (·.1)) := congrArg Prod.fst hxe
  have h6 : zs.map (litZ k) = xs.map (·.1) := by injection h5
  rw [← h6, List.getElem?_map, hj, Option.map_some] at h4
  simp only [litZ, Option.some.injEq, DataW.lit.injEq, Lit.int.injEq, true_and] at h4
  subst h4
  have h7 := congrArg (·[0]?) h2
  simp only [Nat.mul_one, List.getElem?_take, List.getElem?_drop, Nat.add_zero] at h7
  simpa using h7
theorem tab_rel {W : World} {g : Nat} {k : IntKind} {zs : List Int} (hz : 0 < zs.length) (h : ∀ (j : Nat) (z : Int), zs[j]? = some z → W.cell? ⟨g, j, none⟩ = some (.int k z)) : RelI (HV.full W) (.ip zs.length [.agg (zs.map (.int k))] 0 0) (.pointer (some ⟨g, 0, none⟩)) := by
  have hx0 : ∀ (i : Nat) (x : AV), [AV.agg (zs.map (AV.int k))][i]? = some x → i = 0 ∧ x = .agg (zs.map (.int k)) := fun i x hx => by
    cases i with
    | zero => simp at hx; exact ⟨rfl, hx.symm⟩
    | succ i => simp at hx
  have hc0 : ∀ (j : Nat) (c : AV), (zs.map (AV.int k))[j]? = some c → ∃ z, zs[j]? = some z ∧ c = .int k z := fun j c hc => by
    rw [List.getElem?_map, Option.map_eq_some_iff] at hc
    obtain ⟨z, h1, rfl⟩ := hc
    exact ⟨z, h1, rfl⟩
  suffices hs : RelI (HV.full W) (.ip zs.length [.agg (zs.map (.int k))] 0 0) (.pointer (some ⟨g, 0 + 0 * zs.length + 0, none⟩)) by
    rwa [show 0 + 0 * zs.length + 0 = 0 by omega] at hs
  refine RelI.ip zs.length [.agg (zs.map (.int k))] g 0 0 0 (fun _ j => .int k ((zs[j]?).getD 0)) hz (by simp) (fun i x hx => ?_) (fun i x j c hx hc => ?_) (fun i x j c hx hc => ?_)
  · obtain ⟨rfl, rfl⟩ := hx0 i x hx
    show (zs.map (AV.int k)).length = _
    simp
  · obtain ⟨rfl, rfl⟩ := hx0 i x hx
    obtain ⟨z, hz', rfl⟩ := hc0 j c hc
    rw [hz']
    refine ⟨?_, rfl⟩
    show W.cell? ⟨g, 0 + 0 * zs.length + j, none⟩ = _
    rw [show 0 + 0 * zs.length + j = j by omega]
    exact h j z hz'
  · obtain ⟨rfl, rfl⟩ := hx0 i x hx
    obtain ⟨z, hz', rfl⟩ := hc0 j c hc
    rw [hz']
    exact .int _ _
theorem tab_gv {P : Program} {W : World} (h : W.ShapedOpen P) {g n t : Nat} {zero : Array Value} (hg : g < P.globals.size) (h0 : ((begin P (fun _ _ => 0) default).world.heap[g]?).bind Obj.row? = some (zero, t)) (hz : zero.size = n) : g < W.heap.size ∧ ∃ C e fr, W.heap[g]? = some (.cells C e fr) ∧ C.size = n := by
  obtain ⟨cs, h1, h2, _⟩ := h.1 g zero t hg h0
  refine ⟨?_, cs, t, _, h1, by omega⟩
  rcases Nat.lt_or_ge g W.heap.size with h | h
  · exact h
  · rw [Array.getElem?_eq_none h] at h1; cases h1
end HY
end
section
namespace Go.Proofs.YtfaenlhmhlabeaaGreatDoor
open Go HY Go.RowKit Go.ChangeShapes Go.WideShapes Go.ChangeAt
set_option linter.unusedVariables false
theorem own : ownKnob Tryz.prog.godebug = none := by kernel_rfl
theorem lawOk : LawOk Tryz.prog Tryz.f3 4 := ⟨by kernel_rfl, by kernel_rfl, by kernel_rfl, by kernel_rfl⟩
def laidL : List (String × DataW Unit) := [("unicode.White_Space", Rows.laid_unicode_White_Space), ("strings.asciiSpace", Rows.laid_strings_asciiSpace)]
def spZ : List Int := List.replicate 9 0 ++ List.replicate 5 1 ++ List.replicate 18 0 ++ [1] ++ List.replicate 223 0
theorem sp_eq : spaces = spZ.map (.int .u8) := by kernel_rfl
theorem laid_sp : Rows.laid_strings_asciiSpace = .agg (spZ.map (litZ .u8)) := by kernel_rfl
theorem pos_of_blt {a b : Nat} (h : Nat.blt a b = true) : a < b := Nat.le_of_ble_eq_true h
set_option maxRecDepth 100000 in
theorem gls_ok {W : World} (h : laidMetH Tryz.prog laidL W) (g : Nat) : RelI (HV.full W) (gls g) (.pointer (some ⟨g, 0, none⟩)) := by
  unfold gls
  cases h1 : Nat.beq g 0 with
  | true =>
    obtain rfl := Nat.eq_of_beq_eq_true h1
    have := tab_rel (W := W) (g := 0) (k := .u8) (zs := spZ) (pos_of_blt (by kernel_rfl)) fun j z hj => laid_cells h (by kernel_rfl) 1 (n := "strings.asciiSpace") (by rw [← laid_sp]; rfl) (g := 0) (t := 229) (e := 5) (by kernel_rfl) (by kernel_rfl) (by kernel_rfl) (by kernel_rfl) (by kernel_rfl) j z hj
    rw [← sp_eq] at this
    exact this
  | false => exact .undef _
theorem gv_ok {W : World} (h : W.ShapedOpen Tryz.prog) : GvOk gls (fun k => k < W.heap.size) W := fun g sz cs hg => by
  unfold gls at hg
  cases h1 : Nat.beq g 0 with
  | true =>
    obtain rfl := Nat.eq_of_beq_eq_true h1
    cases hg
    exact tab_gv h (g := 0) (n := 256) (zero := Array.replicate 256 (.int .u8 0)) (t := 229) (of_decide_eq_true (by kernel_rfl)) (by kernel_rfl) (by kernel_rfl)
  | false => rw [h1] at hg; cases hg
theorem relAgg {K : HV} {ys : List AV} {cs : Array Value} (h : RelL K ys (Value.agg cs).cells.toList) : RelI K (.agg ys) (.agg cs) := by
  have hc : (Value.agg cs).cells = cs := rfl
  rw [hc] at h
  refine .agg ys cs (by rw [h.1]; simp) (fun v hv => ?_) fun j a v ha hv => (h.2 j a v ha (by simpa using hv)).2
  obtain ⟨j, hj, rfl⟩ := Array.mem_iff_getElem.1 hv
  have hl : j < ys.length := by have := h.1; simp at this; omega
  obtain ⟨h1, h2⟩ := h.2 j ys[j] cs[j] (List.getElem?_eq_getElem hl) (by simp [hj])
  exact h2.oneCell h1
set_option maxRecDepth 100000 in
theorem contract (H : Type) (enc : TypeId × Value → H) (W : World) (base : Nat) (args : Array Value) (ds gs : List (DataW H)) (before : List MemPlace)
    (hval : ∀ (j : Nat) t v, Tryz.f3.params[j]? = some t → args[j]? = some v → Value.okWide Tryz.prog W .any base t v)
    (hW : DataW.Whole enc Tryz.prog Tryz.f3.params.toList Rows.traceConcreteSpec.vars false W args.toList ds gs before)
    (hL : laidMetH Tryz.prog laidL W) (hS : W.ShapedOpen Tryz.prog) (hz : (DataW.weightsEach Tryz.prog (Tryz.f3.params.toList ++ Rows.traceConcreteSpec.plain.varTypes Tryz.prog) (ds ++ gs)).all (· ≤ reachBytes) = true) :
    Calls Tryz.prog 3 args W fun e W' => ∃ v, e = .returned v ∧ Rows.traceConcreteSpec.post enc Tryz.prog Tryz.f3 false true false false W args v W' := by
  have hW' := hW
  obtain ⟨p, q, hA0, hV, rfl, hfz, hnd⟩ := hW
  have hA : DataW.TrodAll enc Tryz.prog W 0 (fun _ => true) true Tryz.f3.params.toList args.toList ds p := hA0
  rw [Tryz.params3] at hA hval hz
  obtain ⟨v0, vs0, d0, ds0, p0, q0, hargs0, rfl, rfl, h0, r0⟩ := trodAll_cons hA
  obtain ⟨v1, vs1, d1, ds1, p1, q1, hargs1, rfl, rfl, h1, r1⟩ := trodAll_cons r0
  obtain ⟨v2, vs2, d2, ds2, p2, q2, hargs2, rfl, rfl, h2, r2⟩ := trodAll_cons r1
  obtain ⟨rfl, rfl, rfl⟩ := trodAll_nil r2
  obtain rfl : args = #[v0, v1, v2] := by cases args; simp_all
  obtain ⟨rfl, rfl⟩ := trodVars_none hV
  have hz1 : SzE Tryz.prog [35, 36, 32] [d0, d1, d2] := fun k hk => by
    have := List.all_eq_true.1 hz k hk
    simpa using this
  obtain ⟨z0, hz1⟩ := hz1.cons
  obtain ⟨z1, hz1⟩ := hz1.cons
  obtain ⟨z2, _⟩ := hz1.cons
  obtain ⟨c0, rfl, _⟩ := okWide_struct Tryz.underlying35 (hval 0 35 v0 rfl rfl)
  obtain ⟨a1, len1, cap1, rfl⟩ := okWide_slice u36 (hval 1 36 v1 rfl rfl)
  obtain ⟨c2, rfl, _⟩ := okWide_struct Tryz.underlying32 (hval 2 32 v2 rfl rfl)
  obtain ⟨x0, i0, x0r⟩ := Reads.arg (rd_gStmt (enc := enc) (w := W) (base := 0) (spare := fun _ => true) (held := true)) h0
  obtain ⟨x1, i1, x1r⟩ := Reads.arg (fun n => (rzSlice egBinding u36 c36 (by decide) (fun _ => rfl) (rd_gBinding (enc := enc) (w := W) (base := 0) (spare := fun _ => true) (held := true) n)).le (Nat.le_succ _)) h1
  obtain ⟨x2, i2, x2r⟩ := Reads.arg (rd_gExpr (enc := enc) (w := W) (base := 0) (spare := fun _ => true) (held := true)) h2
  have hlen : x1.length ≤ 140737488351232 := by
    have h3 := (i1 z1).1
    rw [reachB] at h3
    exact Nat.le_trans (Nat.le_mul_of_pos_right _ b36) h3
  refine (law_callsP (bodied_enters (by kernel_rfl)) (P_law33_TraceConcrete x0 x1 x2 true (s_lawC x0 x1 x2 (okS_r _ (i0 z0)) hlen (fun b hb => ((i1 z1).2 b hb).2.1) (okE_r _ (i2 z2)))) (W := W) rfl (gls_ok hL) (gv_ok hS) fun j t v ht hv => ?_).mono fun e W' ⟨he, hb⟩ => ⟨_, he, post_true lawOk rfl hW' rfl hb⟩
  match j with
  | 0 => cases ht; cases hv; exact relAgg x0r
  | 1 => cases ht; cases hv; exact x1r.val1 (fun _ h => by cases h)
  | 2 => cases ht; cases hv; exact relAgg x2r
  | j + 3 => cases ht
set_option maxRecDepth 100000 in
theorem lifted (os : Os) (started : os.Started) (H : Type) (enc : TypeId × Value → H) :
    ReturnsInHanded {} Tryz.checked os 3 .any (fun w args => (Rows.traceConcreteSpec.pre enc Tryz.prog Tryz.f3 [] false w args ∧ laidMetH Tryz.prog laidL w) ∧ sizedMet enc Tryz.prog Tryz.f3 (OpenSpec.ofChange Rows.traceConcreteSpec) false w args)
      (Rows.traceConcreteSpec.post enc Tryz.prog Tryz.f3 false true false false) := by
  refine handed_all (C := Tryz.checked) (X := fun w => laidMetH Tryz.prog laidL w) (fun _ _ hh h => h.of_heap hh) own started (by kernel_rfl) Tryz.func3
    (ChangeSpec.witness_shaped (enc := enc) (C := Tryz.checked) (os := os) (X := fun w _ => laidMetH Tryz.prog laidL w) false (World.laidAll Tryz.prog os laidL)
      #[.agg #[.int .i64 0, .string ⟨#[]⟩, .int .i64 0, .int .i64 0, .int .i64 0, .slice none 0 0,
  .int .i64 0, .string ⟨#[]⟩, .int .i64 0, .int .i64 0, .int .i64 0, .int .i64 0, .int .i64 0, .int .i64 0, .int .i64 0, .int .i64 0, .slice none 0 0, .slice none 0 0, .slice none 0 0, .slice none 0 0], .slice none 0 0,
        .agg #[.int .i64 0, .string ⟨#[]⟩, .int .i64 0, .int .i64 0, .int .i64 0, .int .i64 0, .int .i64 0, .int .i64 0, .int .i64 0, .int .i64 0, .slice none 0 0, .slice none 0 0, .slice none 0 0]] 8 (World.laidAll_os _ _ _)
      (World.shaped_of_ZipB (by kernel_rfl) (by kernel_rfl)) (by kernel_rfl) (by kernel_rfl) (by kernel_rfl)
      (by rw [MakeChecks.laidMetH_plain _ _ _ (by kernel_rfl)]; exact laidMet_laidAll _ (by kernel_rfl) (by kernel_rfl))) ?_
  intro W base args ds gs before hval hW hL hS hz
  exact contract H enc W base args ds gs before hval hW hL hS hz
theorem row_holds : Rows.TraceConcreteSaid :=
  OpenClaim.holds_of_wide 3 Tryz.f3 rfl rfl rfl rfl rfl rfl rfl ⟨rfl, rfl, rfl, rfl, rfl⟩ rfl rfl rfl rfl rfl (by kernel_rfl) Tryz.func3 (by kernel_rfl)
    (of_decide_eq_true (by kernel_rfl)) (by unfold Func.isWrapper; first | (rw [if_pos (by decide +kernel)]; kernel_rfl) | (rw [if_neg (by decide +kernel)]; exact ⟨rfl, rfl⟩))
    (fun os started H enc _ => lifted os started H enc)
theorem proved : Rows.TraceConcreteCardSaid :=
  Claim7.holds_tied_plain_at .later [] [.listed, .data] true (true, "eceefd263df23f057d8e98bd4b294fa95604b859aa6ba0c8e008eb088ab948e5") false row_holds (fun _ h => by cases h) (by kernel_rfl) (fun _ h => by cases h) traceConcrete_row_tie rfl ⟨rfl, rfl⟩ (by kernel_rfl) rfl
    (fun f fn hf hfn => by
      obtain rfl : f = 3 := Option.some.inj ((show Tryz.prog.funcNamed "brocade/brocadelaw33.TraceConcrete" = some 3 by kernel_rfl).symm.trans hf) |>.symm
      obtain rfl : fn = Tryz.f3 := (Option.some.inj (Tryz.func3.symm.trans hfn)).symm
      exact ⟨by kernel_rfl, fun j t ht => by
        rw [Tryz.params3] at ht
        have hm : t ∈ [35, 36, 32] := by simpa using Array.mem_of_getElem? ht
        have hall : ([35, 36, 32].all fun u => !Tryz.prog.wantsStandIn u) = true := by kernel_rfl
        exact (show Tryz.prog.wantsStandIn t = false by simpa using List.all_eq_true.1 hall t hm)⟩)
    (by kernel_rfl)
#print axioms proved
end Go.Proofs.YtfaenlhmhlabeaaGreatDoor
end
