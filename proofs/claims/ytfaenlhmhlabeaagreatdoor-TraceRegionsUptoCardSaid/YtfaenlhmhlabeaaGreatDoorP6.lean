/- For every input within the second form's bound the law TraceRegions returns true and its arguments read afterwards as they read before; the listed package-level variables are tied to the program's text. -/
import Derived.Test.YtfaenlhmhlabeaaGreatDoorP5
import Derived.ChangeArms
import Derived.Deep.DeepHandedRow
import Derived.HandedShaped
import Derived.Handy
import Derived.JoinedCond
import Derived.Lay
import Derived.OpenShut
import Derived.ProofKit
import Derived.SevenTiedAt
import Derived.Shelf.Vars
import Derived.Test.YtfaenlhmhlabeaaGreatDoorCards
import Derived.Test.YtfaenlhmhlabeaaGreatDoorTie
import Derived.WalkKit
set_option linter.unusedVariables false
set_option linter.unusedSimpArgs false
section
namespace Go.Proofs.YtfaenlhmhlabeaaGreatDoor
open Go HY
set_option linter.unusedVariables false
set_option linter.unusedSimpArgs false
theorem nodes_all {R : gExpr → Prop} (h : ∀ x : gExprS, R (.mk x) → ∀ a ∈ x.fArgs, R a) : ∀ e, R e → ∀ a ∈ nodes e, R a := gExpr.ind fun x ih hx a ha => by
  rw [nodes_mk, List.mem_cons, List.mem_flatten] at ha
  rcases ha with rfl | ⟨l, hl, ha⟩
  · exact hx
  · obtain ⟨b, hb, rfl⟩ := List.mem_map.1 hl
    exact ih b hb (h x hx b hb) a ha
theorem nodes_w (x : gExprS) (N : Nat) (hx : wExprS x ≤ N) : ∀ a ∈ nodes (.mk x), wExprS a.f ≤ N :=
  nodes_all (R := fun a => wExprS a.f ≤ N) (fun x h a ha => by have := wE_arg ha; simp only [gExpr.f_mk] at h; omega) (.mk x) hx
structure okN (n : gNest) : Prop where
  len : n.fBufs.length ≤ 1048576
  dims : ∀ b ∈ n.fBufs, b.fDims.length ≤ 1048576
theorem okN.of {n : gNest} (h : wNest n ≤ 1048576) : okN n := by
  have hn : wNest n = 1 + wSum wBuf n.fBufs + wSum wStmt n.fBody := rfl
  obtain ⟨h1, h2⟩ := B_facts (l := n.fBufs) (by omega)
  exact ⟨h1, fun b hb => (h2 b hb).2⟩
theorem s_gathers_L8 (l : List gLin) (hl : l.length ≤ 1048576) : F_trace_gathers_L8 [] l l.length 0 = some (l.map fun x => gIndex.mk x [] []) := by
  have := loopEqI (F := fun a i => F_trace_gathers_L8 a l l.length i) (l := l) (fun a t => a.length + t.length ≤ 1048576) (fun a t => a ++ t.map fun x => gIndex.mk x [] []) (by
    intro a _
    rw [F_trace_gathers_L8]; simp) (by
    intro i y t a h0 h1 hm hix hI ih
    simp only [List.length_cons] at hI
    rw [F_trace_gathers_L8, if_pos h1, hix]
    simp only [bS, wrapS h0 h1 (by omega)]
    rw [if_pos (by omega), ih _ (by simp; omega)]
    simp) [] (by simpa using hl)
  simpa using this
theorem s_ref_gathers_L8 (idx : List gIndex) (k : Int) (x : gIndex) (hk : ix idx k = some x) (hl : x.fAt.length ≤ 1048576) : F_ref33_gathers_L8 idx k [] 0 = some (x.fAt.map fun x => gIndex.mk x [] []) := by
  have := loopEqI (F := fun a i => F_ref33_gathers_L8 idx k a i) (l := x.fAt) (fun a t => a.length + t.length ≤ 1048576) (fun a t => a ++ t.map fun x => gIndex.mk x [] []) (by
    intro a _
    rw [F_ref33_gathers_L8, hk]; simp [bS]) (by
    intro i y t a h0 h1 hm hix hI ih
    simp only [List.length_cons] at hI
    rw [F_ref33_gathers_L8, hk, bS, bS, if_pos h1, bS, hix]
    simp only [bS, wrapS h0 h1 (by omega)]
    rw [if_pos (by omega), ih _ (by simp; omega)]
    simp) [] (by simpa using hl)
  simpa using this
theorem gath_from {n : gNest} {x : gIndex} (h : (x.fFrom == []) = true) : gath1 n x = [] := by
  unfold gath1; rw [if_pos (by simpa using h)]
theorem gath_no {n : gNest} {x : gIndex} (h : ¬ (x.fFrom == []) = true) : gath1 n x = regionS n x.fFrom (x.fAt.map fun l => gIndex.mk l [] []) := by
  unfold gath1; rw [if_neg (by simpa using h)]
theorem gathersS_cons (n : gNest) (x : gIndex) (t : List gIndex) : gathersS n (x :: t) = gath1 n x ++ gathersS n t := by simp [gathersS]
theorem s_trace_gathers (n : gNest) (idx : List gIndex) (hn : okN n) (hl : idx.length ≤ 1048576) (ha : ∀ x ∈ idx, x.fAt.length ≤ 1048576) : F_trace_gathers n idx = some (gathersS n idx) := by
  have L := loopEqI (F := fun a i => F_trace_gathers_L3 n a idx idx.length i) (l := idx) (fun a t => a.length + t.length ≤ 1048576) (fun a t => a ++ gathersS n t) (by
    intro a _
    rw [F_trace_gathers_L3]; simp [gathersS]) (by
    intro i y t a h0 h1 hm hix hI ih
    simp only [List.length_cons] at hI
    rw [F_trace_gathers_L3, if_pos h1, hix]
    simp only [bS, wrapS h0 h1 (by omega), gathersS_cons]
    by_cases h2 : (y.fFrom == []) = true
    · rw [if_pos h2, gath_from h2, ih _ (by omega)]; simp
    · rw [if_neg h2, s_gathers_L8 y.fAt (ha y hm), bS, s_trace_region n y.fFrom _ (by simpa using ha y hm) hn.len hn.dims, bS, ← gath_no h2]
      have := gath1_len n y
      rw [if_pos (by rw [List.length_map]; omega), ih _ (by rw [List.length_append]; omega)]; simp) [] (by simpa using hl)
  unfold F_trace_gathers
  simp only [bS]
  rw [show F_trace_gathers_L3 n [] idx (↑idx.length) 0 = _ from L]
  simp [bS]
theorem s_ref33_gathers (n : gNest) (idx : List gIndex) (hn : okN n) (hl : idx.length ≤ 1048576) (ha : ∀ x ∈ idx, x.fAt.length ≤ 1048576) : F_ref33_gathers n idx = some (gathersS n idx) := by
  have L := loopEqI (F := fun a i => F_ref33_gathers_L3 idx n a i) (l := idx) (fun a t => a.length + t.length ≤ 1048576) (fun a t => a ++ gathersS n t) (by
    intro a _
    rw [F_ref33_gathers_L3]; simp [gathersS, bS]) (by
    intro i y t a h0 h1 hm hix hI ih
    simp only [List.length_cons] at hI
    rw [F_ref33_gathers_L3, bS, if_pos h1, hix]
    simp only [bS, wrapS h0 h1 (by omega), gathersS_cons, hix]
    by_cases h2 : (y.fFrom == []) = true
    · rw [if_pos h2, gath_from h2, ih _ (by omega)]; simp
    · rw [if_neg h2, s_ref_gathers_L8 idx i y hix (ha y hm), bS, s_ref33_region n y.fFrom _ (by simpa using ha y hm) hn.len hn.dims, bS, ← gath_no h2]
      have := gath1_len n y
      rw [if_pos (by rw [List.length_map]; omega), ih _ (by rw [List.length_append]; omega)]; simp) [] (by simpa using hl)
  unfold F_ref33_gathers
  simp only [bS]
  rw [show F_ref33_gathers_L3 idx n [] 0 = _ from L]
  simp [bS]
theorem idx_at {l : List gIndex} (h : ∀ i ∈ l, wIdx i ≤ 1048576) : ∀ x ∈ l, x.fAt.length ≤ 1048576 := fun x hx => by have := wIdx_len x; have := h x hx; omega
theorem read1_is {n : gNest} {y : gExprS} (h : (y.fOp == (3 : Int)) = true) : read1 n y = gathersS n y.fIdx ++ regionS n y.fName y.fIdx := by unfold read1; rw [if_pos (by simpa using h)]
theorem read1_no {n : gNest} {y : gExprS} (h : ¬ (y.fOp == (3 : Int)) = true) : read1 n y = [] := by unfold read1; rw [if_neg (by simpa using h)]
theorem s_reads_R (n : gNest) (hn : okN n) : ∀ (l : List gExpr) (out : List gRegion), (∀ e ∈ l, wExprS e.f ≤ 1048576) → out.length + (readsL n l).length ≤ 1099511627776 → F_trace_reads_R n l out = some (out ++ readsL n l)
  | [], out, _, _ => by simp [F_trace_reads_R, readsL]
  | e :: t, out, he, hs => by
    rw [readsL_cons, List.length_append] at hs
    obtain ⟨e1, e2, e3, e4, e5, e6, e7⟩ := E_facts (he e (by simp))
    have ih := fun o => s_reads_R n hn t o fun a ha => he a (by simp [ha])
    rw [F_trace_reads_R, readsL_cons]
    by_cases h : (e.f.fOp == (3 : Int)) = true
    · rw [read1_is h] at hs ⊢
      rw [List.length_append] at hs
      rw [if_pos h, s_trace_gathers n e.f.fIdx hn e4 (idx_at e5), bS, if_pos (by omega), s_trace_region n _ _ e4 hn.len hn.dims, bS, if_pos (by omega), ih _ (by simp only [List.length_append]; omega)]
      simp
    · rw [read1_no h] at hs ⊢
      rw [if_neg h, ih _ (by simpa using hs)]
      simp
theorem s_trace_reads (n : gNest) (x : gExprS) (hn : okN n) (hx : wExprS x ≤ 1048576) : F_trace_reads n x = some (readsS n x) := by
  unfold F_trace_reads F_expr_Walk
  rw [dif_pos (by omega), bS]
  have hl := readsS_len' n x
  have h := s_reads_R n hn (nodes (.mk x)) [] (nodes_all (R := fun a => wExprS a.f ≤ 1048576) (fun y hy a ha => by have := wE_arg ha; simp only [gExpr.f_mk] at hy; omega) (.mk x) hx) (by
    have : (readsL n (nodes (.mk x))).length ≤ wExprS x := hl
    simp; omega)
  rw [h]; rfl
theorem s_ref33_read (n : gNest) (hn : okN n) : ∀ e : gExpr, wExprS e.f ≤ 1048576 → F_ref33_read n e.f = some (readsS n e.f) := gExpr.ind fun x ih hx => by
  rw [gExpr.f_mk] at hx ⊢
  obtain ⟨e1, e2, e3, e4, e5, e6, e7⟩ := E_facts hx
  have hxe : wExprS x = 1 + x.fName.length + wLin x.fLin + wSum wIdx x.fIdx + wSum wExpr x.fArgs := rfl
  have hr1 := read1_len n x
  have hil := wSum_len (f := wIdx) (l := x.fIdx) wIdx1
  have hll := wLin1 x.fLin
  have L : ∀ a : List gRegion, a.length + wSum wExpr x.fArgs ≤ 1048576 → F_ref33_read_L6 n x a 0 = some (a ++ (x.fArgs.map fun b => readsS n b.f).flatten) := fun a ha =>
    loopEqI (F := fun a i => F_ref33_read_L6 n x a i) (l := x.fArgs) (fun a t => a.length + wSum wExpr t ≤ 1048576) (fun a t => a ++ (t.map fun b => readsS n b.f).flatten) (by
      intro a _
      rw [F_ref33_read_L6]; simp [bS]) (by
      intro i y t a h0 h1 hm hix hI ih2
      rw [wSum_cons] at hI
      have hy := readsS_len n y
      rw [F_ref33_read_L6, bS, if_pos h1, hix, omS, bS, ih y hm (e7 y hm), bS]
      simp only [wrapS h0 h1 (by omega)]
      rw [if_pos (by rw [List.length_map]; omega), bS, ih2 _ (by rw [List.length_append]; omega)]
      simp) a ha
  rw [F_ref33_read, bS]
  have tail : ∀ a : List gRegion, a = read1 n x → ((some a >>= fun v6 => some () >>= fun v7 => F_ref33_read_L6 n x v6 (0 : Int) >>= fun v9 => some v9) : Option (List gRegion)) = some (readsS n x) := fun a ha => by
    subst ha
    rw [bS, bS, L _ (by omega), bS, readsS_mk]
  by_cases h : (x.fOp == (3 : Int)) = true
  · have hg := gathersS_len n x.fIdx
    have hr := regionS_len n x.fName x.fIdx
    rw [if_pos h, s_ref33_gathers n x.fIdx hn e4 (idx_at e5), bS, if_pos ⟨rfl, by rw [List.length_map]; omega⟩, bS, s_ref33_region n _ _ e4 hn.len hn.dims, bS, if_pos (by rw [List.length_map]; simp; omega), bS]
    exact tail _ (by rw [read1_is h]; rfl)
  · rw [if_neg h]
    exact tail _ (by rw [read1_no h])
theorem s_ref33_read' (n : gNest) (x : gExprS) (hn : okN n) (hx : wExprS x ≤ 1048576) : F_ref33_read n x = some (readsS n x) := s_ref33_read n hn (.mk x) hx
theorem op23 {x : gStmtS} : ((if x.fOp == (2 : Int) then some true else if x.fOp == (3 : Int) then some true else some false) : Option Bool) = some (decide (x.fOp = 2 ∨ x.fOp = 3)) := by
  by_cases h2 : x.fOp = 2 <;> by_cases h3 : x.fOp = 3 <;> simp [h2, h3]
theorem s_trace_store (x : gStmtS) : F_trace_store x = some (decide (x.fOp = 2 ∨ x.fOp = 3)) := by
  unfold F_trace_store
  by_cases h2 : x.fOp = 2 <;> by_cases h3 : x.fOp = 3 <;> simp [h2, h3]
theorem op14 {x : gStmtS} : ((if x.fOp == (1 : Int) then some true else if x.fOp == (4 : Int) then some true else some false) : Option Bool) = some (decide (x.fOp = 1 ∨ x.fOp = 4)) := by
  by_cases h2 : x.fOp = 1 <;> by_cases h3 : x.fOp = 4 <;> simp [h2, h3]
theorem s_trace_Writes (n : gNest) (hn : okN n) : ∀ e : gStmt, wStmtS e.f ≤ 1048576 → F_trace_Writes n e.f = some (writesS n e) := gStmt.ind fun x ih hx => by
  rw [gStmt.f_mk] at hx ⊢
  obtain ⟨e1, e2, e3, e4, e5, e6, e7⟩ := S_facts hx
  have L : F_trace_Writes_L6 n [] x.fBody x.fBody.length 0 = some ((x.fBody.map (writesS n)).flatten) := by
    have := loopEqI (F := fun a i => F_trace_Writes_L6 n a x.fBody x.fBody.length i) (l := x.fBody) (fun a t => a.length + wSum wStmt t ≤ 1048576) (fun a t => a ++ (t.map (writesS n)).flatten) (by
      intro a _
      rw [F_trace_Writes_L6]; simp) (by
      intro i y t a h0 h1 hm hix hI ih2
      rw [wSum_cons] at hI
      have hy := writesS_len n y
      rw [F_trace_Writes_L6, if_pos h1, hix, omS, bS, ih y hm (e7 y hm), bS]
      simp only [wrapS h0 h1 (by omega)]
      rw [if_pos (by rw [List.length_map]; omega), bS, ih2 _ (by rw [List.length_append]; omega)]
      simp) [] (by simpa using e6)
    simpa using this
  rw [F_trace_Writes, s_trace_store, bS, writesS_mk]
  by_cases h : x.fOp = 2 ∨ x.fOp = 3
  · rw [if_pos (by simpa using h), if_pos h, s_trace_region n _ _ e3 hn.len hn.dims, bS]
  · rw [if_neg (by simpa using h), if_neg h, bS, op14, bS]
    by_cases h2 : x.fOp = 1 ∨ x.fOp = 4
    · rw [if_pos (by simpa using h2), if_pos h2]
      simp only [bS, L]
    · rw [if_neg (by simpa using h2), if_neg h2]
theorem s_ref33_Writes (n : gNest) (hn : okN n) : ∀ e : gStmt, wStmtS e.f ≤ 1048576 → F_ref33_Writes n e.f = some (writesS n e) := gStmt.ind fun x ih hx => by
  rw [gStmt.f_mk] at hx ⊢
  obtain ⟨e1, e2, e3, e4, e5, e6, e7⟩ := S_facts hx
  have L : (x.fOp = 1 ∨ x.fOp = 4) → F_ref33_Writes_L5 n x [] 0 = some ((x.fBody.map (writesS n)).flatten) := fun ho => by
    have := loopEqI (F := fun a i => F_ref33_Writes_L5 n x a i) (l := x.fBody) (fun a t => a.length + wSum wStmt t ≤ 1048576) (fun a t => a ++ (t.map (writesS n)).flatten) (by
      intro a _
      rw [F_ref33_Writes_L5]; simp [bS]) (by
      intro i y t a h0 h1 hm hix hI ih2
      rw [wSum_cons] at hI
      have hy := writesS_len n y
      rw [F_ref33_Writes_L5, bS]
      simp only [bS]
      rw [if_pos h1, op14, bS, if_pos (by simpa using ho), hix, omS, bS, ih y hm (e7 y hm), bS]
      simp only [wrapS h0 h1 (by omega)]
      rw [if_pos (by rw [List.length_map]; omega), ih2 _ (by rw [List.length_append]; omega)]
      simp) [] (by simpa using e6)
    simpa using this
  rw [F_ref33_Writes, bS, op23, bS, writesS_mk]
  by_cases h : x.fOp = 2 ∨ x.fOp = 3
  · rw [if_pos (by simpa using h), if_pos h, s_ref33_region n _ _ e3 hn.len hn.dims, bS]
  · rw [if_neg (by simpa using h), if_neg h, bS]
    by_cases h2 : x.fOp = 1 ∨ x.fOp = 4
    · rw [if_pos h2, L h2, bS]
    · rw [if_neg h2, F_ref33_Writes_L5]
      simp only [bS]
      rw [op14]
      simp [h2, bS]
      try (split <;> simp [bS])
theorem s_trace_Reads (n : gNest) (hn : okN n) : ∀ e : gStmt, wStmtS e.f ≤ 1048576 → F_trace_Reads n e.f = some (stReads n e) := gStmt.ind fun x ih hx => by
  rw [gStmt.f_mk] at hx ⊢
  obtain ⟨e1, e2, e3, e4, e5, e6, e7⟩ := S_facts hx
  have hxe : wStmtS x = 1 + x.fName.length + wSum wIdx x.fIdx + wExprS x.fExpr + wSum wStmt x.fBody := rfl
  have L : ∀ a : List gRegion, a.length + wSum wStmt x.fBody ≤ 1048576 → F_trace_Reads_L9 n a x.fBody x.fBody.length 0 = some (a ++ (x.fBody.map (stReads n)).flatten) := fun a ha =>
    loopEqI (F := fun a i => F_trace_Reads_L9 n a x.fBody x.fBody.length i) (l := x.fBody) (fun a t => a.length + wSum wStmt t ≤ 1048576) (fun a t => a ++ (t.map (stReads n)).flatten) (by
      intro a _
      rw [F_trace_Reads_L9]; simp) (by
      intro i y t a h0 h1 hm hix hI ih2
      rw [wSum_cons] at hI
      have hy := stReads_len n y
      rw [F_trace_Reads_L9, if_pos h1, hix, omS, bS, ih y hm (e7 y hm), bS]
      simp only [wrapS h0 h1 (by omega)]
      rw [if_pos (by rw [List.length_map]; omega), bS, ih2 _ (by rw [List.length_append]; omega)]
      simp) a ha
  have hg := gathersS_len n x.fIdx
  have hr := readsS_len' n x.fExpr
  have hil := wSum_len (f := wIdx) (l := x.fIdx) wIdx1
  rw [F_trace_Reads, s_trace_store, bS, stReads_mk]
  by_cases h : x.fOp = 2 ∨ x.fOp = 3
  · rw [if_pos (by simpa using h), if_pos h, s_trace_gathers n _ hn e3 (idx_at e4), bS, s_trace_reads n _ hn e2, bS, if_pos (by rw [List.length_map]; omega), bS]
  · rw [if_neg (by simpa using h), if_neg h]
    by_cases h4 : x.fOp = 4
    · rw [if_pos (by simpa using h4), if_pos h4, s_trace_reads n _ hn e2]
      simp only [bS]
      rw [L _ (by omega), bS]
    · rw [if_neg (by simpa using h4), if_neg h4]
      by_cases h1 : x.fOp = 1
      · rw [if_neg (by simp [h1]), if_pos h1]
        simp only [bS]
        rw [L [] (by simp; omega), bS]; simp
      · rw [if_pos (by simpa using h1), if_neg h1]
theorem s_ref33_Reads (n : gNest) (hn : okN n) : ∀ e : gStmt, wStmtS e.f ≤ 1048576 → F_ref33_Reads n e.f = some (stReads n e) := gStmt.ind fun x ih hx => by
  rw [gStmt.f_mk] at hx ⊢
  obtain ⟨e1, e2, e3, e4, e5, e6, e7⟩ := S_facts hx
  have hxe : wStmtS x = 1 + x.fName.length + wSum wIdx x.fIdx + wExprS x.fExpr + wSum wStmt x.fBody := rfl
  have L : (x.fOp = 1 ∨ x.fOp = 4) → ∀ a : List gRegion, a.length + wSum wStmt x.fBody ≤ 1048576 → F_ref33_Reads_L7 n x a 0 = some (a ++ (x.fBody.map (stReads n)).flatten) := fun ho a ha =>
    loopEqI (F := fun a i => F_ref33_Reads_L7 n x a i) (l := x.fBody) (fun a t => a.length + wSum wStmt t ≤ 1048576) (fun a t => a ++ (t.map (stReads n)).flatten) (by
      intro a _
      rw [F_ref33_Reads_L7]; simp [bS]) (by
      intro i y t a h0 h1 hm hix hI ih2
      rw [wSum_cons] at hI
      have hy := stReads_len n y
      rw [F_ref33_Reads_L7, bS]
      simp only [bS]
      rw [if_pos h1, op14, bS, if_pos (by simpa using ho), hix, omS, bS, ih y hm (e7 y hm), bS]
      simp only [wrapS h0 h1 (by omega)]
      rw [if_pos (by rw [List.length_map]; omega), ih2 _ (by rw [List.length_append]; omega)]
      simp) a ha
  have hg := gathersS_len n x.fIdx
  have hr := readsS_len' n x.fExpr
  have hil := wSum_len (f := wIdx) (l := x.fIdx) wIdx1
  rw [F_ref33_Reads, bS, op23, bS, stReads_mk]
  by_cases h : x.fOp = 2 ∨ x.fOp = 3
  · rw [if_pos (by simpa using h), if_pos h, s_ref33_gathers n _ hn e3 (idx_at e4), bS, s_ref33_read' n _ hn e2, bS, if_pos (by rw [List.length_map]; omega), bS]
  · rw [if_neg (by simpa using h), if_neg h, bS]
    by_cases h4 : x.fOp = 4
    · rw [if_pos (by simpa using h4), if_pos h4, s_ref33_read' n _ hn e2]
      simp only [bS]
      rw [L (.inr h4) _ (by omega), bS]
    · rw [if_neg (by simpa using h4), if_neg h4]
      by_cases h1 : x.fOp = 1
      · rw [if_pos h1]
        simp only [bS]
        rw [L (.inl h1) [] (by simp; omega), bS]; simp
      · rw [if_neg h1]
        simp only [bS]
        rw [F_ref33_Reads_L7]
        simp only [bS]
        rw [op14]
        simp [h1, h4, bS]
        try (split <;> simp [bS])
end Go.Proofs.YtfaenlhmhlabeaaGreatDoor
end
section
namespace Go.Proofs.YtfaenlhmhlabeaaGreatDoor
open Go HY
set_option linter.unusedVariables false
set_option linter.unusedSimpArgs false
theorem ix_ok {α : Type} {l : List α} {i : Int} (h0 : 0 ≤ i) (h1 : i < l.length) : ∃ x, ix l i = some x ∧ x ∈ l := by
  refine ⟨l[i.toNat]'(by omega), ?_, List.getElem_mem _⟩
  unfold ix
  rw [if_pos h0, List.getElem?_eq_getElem]
theorem t_indices (l : List gIndex) (hl : l.length ≤ 1048576) (ha : ∀ y ∈ l, y.fAt.length ≤ 1048576) : wp (F_ref33_indices l) (fun _ => True) := by
  have L7 : ∀ (y : gIndex) (k : Int), ix l k = some y → y.fAt.length ≤ 1048576 → ∀ (a i : Int), 0 ≤ i → i ≤ (y.fAt.length : Nat) → wp (F_ref33_indices_L7 l a k i) (fun _ => True) := fun y k hk hy a i i0 i1 => by
    refine loopUp1 (F := fun a i => F_ref33_indices_L7 l a k i) (y.fAt.length) ?_ ?_ i a i0 i1
    · intro a
      rw [F_ref33_indices_L7]
      simp only [bS, hk, Int.lt_irrefl, if_false]
      exact ⟨_, rfl, trivial⟩
    · intro i a h0 h1 ih
      rw [F_ref33_indices_L7]
      obtain ⟨z, hz, _⟩ := ix_ok h0 h1
      simp only [bS, hk, if_pos h1, hz, wrapS h0 h1 (by omega)]
      exact ih _
  have L3 : ∀ (a i : Int), 0 ≤ i → i ≤ (l.length : Nat) → wp (F_ref33_indices_L3 l a i) (fun _ => True) := fun a i i0 i1 => by
    refine loopUp1 (F := fun a i => F_ref33_indices_L3 l a i) (l.length) ?_ ?_ i a i0 i1
    · intro a
      rw [F_ref33_indices_L3]
      simp only [bS, Int.lt_irrefl, if_false]
      exact ⟨_, rfl, trivial⟩
    · intro i a h0 h1 ih
      rw [F_ref33_indices_L3]
      obtain ⟨z, hz, hm⟩ := ix_ok h0 h1
      simp only [bS, if_pos h1, hz, wrapS h0 h1 (by omega)]
      obtain ⟨v, hv, _⟩ := L7 z i hz (ha z hm) (IntKind.i64.wrap (a + ↑z.fLin.fL.length)) 0 (Int.le_refl _) (by omega)
      rw [hv]
      exact ih _
  unfold F_ref33_indices
  simp only [bS]
  obtain ⟨v, hv, _⟩ := L3 l.length 0 (Int.le_refl _) (by omega)
  rw [hv]
  exact ⟨_, rfl, trivial⟩
theorem idx_two {l : List gIndex} (h : ∀ i ∈ l, wIdx i ≤ 1048576) : ∀ x ∈ l, x.fAt.length ≤ 1048576 := idx_at h
theorem t_nodes : ∀ e : gExpr, wExprS e.f ≤ 1048576 → ∀ m, wp (F_ref33_nodes e.f m) (fun _ => True) := gExpr.ind fun x ih hx m => by
  simp only [gExpr.f_mk] at hx
  obtain ⟨e1, e2, e3, e4, e5, e6, e7⟩ := E_facts hx
  have L3 : ∀ (a i : Int), 0 ≤ i → i ≤ (x.fArgs.length : Nat) → wp (F_ref33_nodes_L3 m x a i) (fun _ => True) := fun a i i0 i1 => by
    refine loopUp1 (F := fun a i => F_ref33_nodes_L3 m x a i) (x.fArgs.length) ?_ ?_ i a i0 i1
    · intro a
      rw [F_ref33_nodes_L3]
      simp only [bS, Int.lt_irrefl, if_false, Bool.false_eq_true]
      exact ⟨_, rfl, trivial⟩
    · intro i a h0 h1 ih2
      rw [F_ref33_nodes_L3]
      obtain ⟨z, hz, hm⟩ := ix_ok h0 h1
      have hw := wrapS h0 h1 (by omega)
      simp only [bS, if_pos h1]
      by_cases h5 : a ≤ m
      · simp only [if_pos h5, bS, if_true, hz, hw, Option.map_some]
        obtain ⟨v, hv, _⟩ := ih z hm (e7 z hm) (IntKind.i64.wrap (m - a))
        rw [hv]
        exact ih2 _
      · simp only [if_neg h5, bS, Bool.false_eq_true, if_false]
        exact ⟨_, rfl, trivial⟩
  simp only [gExpr.f_mk]
  rw [F_ref33_nodes]
  obtain ⟨v, hv, _⟩ := t_indices x.fIdx e4 (idx_at e5)
  rw [hv]
  simp only [bS]
  obtain ⟨v', hv', _⟩ := L3 (IntKind.i64.wrap (IntKind.i64.wrap (1 + (↑(List.map egMono x.fLin.fL).length : Int)) + v)) 0 (Int.le_refl _) (by omega)
  rw [hv']
  exact ⟨_, rfl, trivial⟩
theorem t_weigh_of (l : List gStmt) (hl : l.length ≤ 1048576) (hx : ∀ a ∈ l, wStmtS a.f ≤ 1048576) (ih : ∀ a ∈ l, ∀ m, wp (F_ref33_weigh a.f.fBody m) (fun _ => True)) (m : Int) : wp (F_ref33_weigh l m) (fun _ => True) := by
  have L3 : ∀ (a i : Int), 0 ≤ i → i ≤ (l.length : Nat) → wp (F_ref33_weigh_L3 l m a i) (fun _ => True) := fun a i i0 i1 => by
    refine loopUp1 (F := fun a i => F_ref33_weigh_L3 l m a i) (l.length) ?_ ?_ i a i0 i1
    · intro a
      rw [F_ref33_weigh_L3]
      simp only [bS, Int.lt_irrefl, if_false, Bool.false_eq_true]
      exact ⟨_, rfl, trivial⟩
    · intro i a h0 h1 ih2
      rw [F_ref33_weigh_L3]
      obtain ⟨z, hz, hm⟩ := ix_ok h0 h1
      have hw := wrapS h0 h1 (by omega)
      obtain ⟨s1, s2, s3, s4, s5, s6, s7⟩ := S_facts (hx z hm)
      simp only [bS, if_pos h1]
      by_cases h5 : a ≤ m
      · simp only [if_pos h5, bS, if_true, hz, hw, Option.map_some]
        obtain ⟨v, hv, _⟩ := t_nodes (.mk z.f.fExpr) (by simpa using s2) (IntKind.i64.wrap (m - a))
        simp only [gExpr.f_mk] at hv
        rw [hv]
        simp only [bS]
        obtain ⟨v2, hv2, _⟩ := t_indices z.f.fIdx s3 (idx_at s4)
        rw [hv2]
        simp only [bS]
        obtain ⟨v3, hv3, _⟩ := ih z hm (max 0 (IntKind.i64.wrap (m - a)))
        rw [hv3]
        exact ih2 _
      · simp only [if_neg h5, bS, Bool.false_eq_true, if_false]
        exact ⟨_, rfl, trivial⟩
  rw [F_ref33_weigh]
  simp only [bS]
  obtain ⟨v, hv, _⟩ := L3 l.length 0 (Int.le_refl _) (by omega)
  rw [hv]
  exact ⟨_, rfl, trivial⟩
theorem t_weigh1 : ∀ e : gStmt, wStmtS e.f ≤ 1048576 → ∀ m, wp (F_ref33_weigh e.f.fBody m) (fun _ => True) := gStmt.ind fun x ih hx m => by
  simp only [gStmt.f_mk] at hx ⊢
  obtain ⟨s1, s2, s3, s4, s5, s6, s7⟩ := S_facts hx
  exact t_weigh_of x.fBody s5 s7 (fun a ha => ih a ha (s7 a ha)) m
theorem t_Long (n : gNest) (x : gStmtS) (hn : okN n) (hx : wStmtS x ≤ 1048576) : wp (F_ref33_Long (gNest.mk n.fBufs [gStmt.mk x]) 400) (fun _ => True) := by
  have hl := hn.len
  have L4 : ∀ (i : Int), 0 ≤ i → i ≤ (n.fBufs.length : Nat) → wp (F_ref33_Long_L4 (gNest.mk n.fBufs [gStmt.mk x]) i) (fun _ => True) := by
    refine loopUp0 (F := fun i => F_ref33_Long_L4 (gNest.mk n.fBufs [gStmt.mk x]) i) (n.fBufs.length) ?_ ?_
    · rw [F_ref33_Long_L4]
      simp only [bS, Int.lt_irrefl, if_false]
      exact ⟨_, rfl, trivial⟩
    · intro i h0 h1 ih
      rw [F_ref33_Long_L4]
      obtain ⟨z, hz, hm⟩ := ix_ok h0 h1
      simp only [bS, if_pos h1, hz, wrapS h0 h1 (by omega)]
      by_cases c1 : (12 : Int) < z.fDims.length
      · simp only [if_pos c1, bS, if_true]; exact ⟨_, rfl, trivial⟩
      · by_cases c2 : (100 : Int) < z.fName.length
        · simp only [if_neg c1, if_pos c2, bS, if_true]; exact ⟨_, rfl, trivial⟩
        · simp only [if_neg c1, if_neg c2, bS, Bool.false_eq_true, if_false]; exact ih
  unfold F_ref33_Long
  simp only [bS]
  by_cases c : (20 : Int) < n.fBufs.length
  · rw [if_pos c]; exact ⟨_, rfl, trivial⟩
  · rw [if_neg c]
    obtain ⟨v, hv, _⟩ := L4 0 (Int.le_refl _) (by omega)
    rw [hv]
    simp only [bS]
    cases v with
    | inr b => exact ⟨_, rfl, trivial⟩
    | inl u =>
      obtain ⟨v2, hv2, _⟩ := t_weigh_of [gStmt.mk x] (by simp) (fun a ha => by simp at ha; subst ha; exact hx) (fun a ha m => by simp at ha; subst ha; exact t_weigh1 (.mk x) hx m) 400
      simp only [hv2, bS]
      exact ⟨_, rfl, trivial⟩
theorem s_regions (a : List gRegion) (hl : a.length ≤ 1099511627776) : F_law33_regions a a = some true := by
  have L4 : F_law33_regions_L4 a a 0 = some (.inl ()) := by
    refine loopEq (F := fun i => F_law33_regions_L4 a a i) (l := a) (fun _ => .inl ()) ?_ ?_
    · rw [F_law33_regions_L4]; simp [bS]
    · intro i y t h0 h1 hix ih
      rw [F_law33_regions_L4]
      simp only [bS, if_pos h1, hix, wrapS h0 h1 hl, beq_self_eq_true, Bool.and_self, Bool.not_true, Bool.false_eq_true, if_false]
      exact ih
  unfold F_law33_regions
  simp only [bS, bne_self_eq_false, Bool.false_eq_true, if_false, L4]
end Go.Proofs.YtfaenlhmhlabeaaGreatDoor
namespace Go.Proofs.YtfaenlhmhlabeaaGreatDoor
open Go HY
theorem s_lawR (n : gNest) (x : gStmtS) (hn : wNest n ≤ 1048576) (hx : wStmtS x ≤ 1048576) : F_law33_TraceRegions n x = some true := by
  have ho := okN.of hn
  obtain ⟨v, hv, _⟩ := t_Long n x ho hx
  have e1 := s_trace_Writes n ho (.mk x) hx
  have e2 := s_ref33_Writes n ho (.mk x) hx
  have e3 := s_trace_Reads n ho (.mk x) hx
  have e4 := s_ref33_Reads n ho (.mk x) hx
  simp only [gStmt.f_mk] at e1 e2 e3 e4
  have l1 := writesS_len n (.mk x)
  have l2 := stReads_len n (.mk x)
  rw [wStmt_f, gStmt.f_mk] at l1 l2
  unfold F_law33_TraceRegions F_law33_examples
  simp only [bS, hv]
  cases v with
  | true => rfl
  | false => simp only [Bool.false_eq_true, if_false, e1, e2, e3, e4, bS, s_regions _ (show (writesS n (.mk x)).length ≤ 1099511627776 by omega), s_regions _ (show (stReads n (.mk x)).length ≤ 1099511627776 by omega), if_true]
end Go.Proofs.YtfaenlhmhlabeaaGreatDoor
end
section
namespace HY
open Go Go.RowKit
def HV.full (w : World) : HV := fun b o => w.cell? ⟨b, o, none⟩
theorem full_sat (w : World) : HV.sat (HV.full w) w := fun _ _ _ h => h
def RelL (H : HV) (avs : List AV) (cs : List Value) : Prop := avs.length = cs.length ∧ ∀ (j : Nat) (a : AV) (v : Value), avs[j]? = some a → cs[j]? = some v → a.one = true ∧ RelI H a v
theorem RelL.nil {H : HV} : RelL H [] [] := ⟨rfl, fun j a v h => by simp at h⟩
theorem RelL.one {H : HV} {a : AV} {v : Value} (h1 : a.one = true) (h : RelI H a v) : RelL H [a] [v] := ⟨rfl, fun j x u hx hu => by
  cases j with
  | zero => simp at hx hu; subst hx; subst hu; exact ⟨h1, h⟩
  | succ j => simp at hx⟩
theorem RelL.append {H : HV} {a b : List AV} {c d : List Value} (h : RelL H a c) (k : RelL H b d) : RelL H (a ++ b) (c ++ d) := by
  refine ⟨by simp [h.1, k.1], fun j x u hx hu => ?_⟩
  rw [List.getElem?_append] at hx hu
  split at hx
  · rename_i hj; rw [if_pos (by rw [← h.1]; exact hj)] at hu; exact h.2 j x u hx hu
  · rename_i hj; rw [if_neg (by rw [← h.1]; exact hj), ← h.1] at hu; exact k.2 _ x u hx hu
section
variable {H : Type} {enc : TypeId × Value → H} {P : Program} {w : World} {base : Nat} {spare : Nat → Bool} {held : Bool}
def Reads (enc : TypeId × Value → H) (P : Program) (w : World) (base : Nat) (spare : Nat → Bool) (held : Bool) (n : Nat) (t : TypeId) {α : Type} (E : α → List AV) (I : α → DataW H → Prop) : Prop :=
  ∀ fuel cs d ps, fuel ≤ n → DataW.trod enc P w base spare held fuel t cs = some (d, ps) → ∃ a, I a d ∧ RelL (HV.full w) (E a) cs
theorem reads_int (n : Nat) {t : TypeId} {k : IntKind} (ht : P.underlying t = some (.int k)) :
    Reads enc P w base spare held n t (fun a : Int => [.int k a]) (fun a d => (Lit.int k a).wf = true ∧ d = .lit (.int k a)) := fun fuel cs d ps _ h => by
  obtain ⟨m, rfl, he, hw⟩ := DataW.trod_int ht h
  cases he
  exact ⟨m, ⟨hw, rfl⟩, .one rfl (.int k m)⟩
theorem reads_bool (n : Nat) {t : TypeId} (ht : P.underlying t = some .bool) :
    Reads enc P w base spare held n t (fun a : Bool => [.bool a]) (fun a d => d = .lit (.bool a)) := fun fuel cs d ps _ h => by
  obtain ⟨m, rfl, he⟩ := DataW.trod_bool ht h
  cases he
  exact ⟨m, rfl, .one rfl (.bool m)⟩
theorem reads_string (n : Nat) {t : TypeId} (ht : P.underlying t = some .string) :
    Reads enc P w base spare held n t (fun a : List UInt8 => [.str a]) (fun a d => a.length ≤ maxLen ∧ d = .lit (.string a)) := fun fuel cs d ps _ h => by
  obtain ⟨m, rfl, he, hl⟩ := DataW.trod_string ht h
  cases he
  refine ⟨m.data.toList, ⟨by rw [Array.length_toList]; exact hl, rfl⟩, .one rfl ?_⟩
  have := RelI.str (H := HV.full w) m.data.toList
  simpa using this
def SliceI {α : Type} (I : α → DataW H → Prop) (l : List α) (d : DataW H) : Prop :=
  l.length ≤ maxLen ∧ ((l = [] ∧ d = .nil) ∨ ∃ elems spare, d = .slice elems spare ∧ elems.length = l.length ∧ ∀ (i : Nat) (a : α) (e : DataW H), l[i]? = some a → elems[i]? = some e → I a e)
theorem choose_list {α β : Type} (R : Nat → α → β → Prop) : ∀ (l : List β) (k : Nat), (∀ i b, l[i]? = some b → ∃ a, R (k + i) a b) → ∃ azz : List α, azz.length = l.length ∧ ∀ i a b, azz[i]? = some a → l[i]? = some b → R (k + i) a b
  | [], k, _ => ⟨[], rfl, fun i a b h => by simp at h⟩
  | b :: l, k, h => by
    obtain ⟨a, ha⟩ := h 0 b rfl
    obtain ⟨azz, hl, has⟩ := choose_list R l (k + 1) (fun i b' hb => by
      have := h (i + 1) b' hb
      rw [show k + 1 + i = k + (i + 1) by omega]; exact this)
    refine ⟨a :: azz, by simp [hl], fun i x y hx hy => ?_⟩
    cases i with
    | zero => simp at hx hy; subst hx; subst hy; exact ha
    | succ i =>
      have := has i x y hx hy
      rw [show k + 1 + i = k + (i + 1) by omega] at this; exact this
theorem reads_slice {n : Nat} {t e : TypeId} {sz : Nat} {α : Type} {E : α → List AV} {I : α → DataW H → Prop} (F : α → AV) (ht : P.underlying t = some (.slice e)) (hc : P.cellsOf e = sz) (hpos : 0 < sz) (hF : ∀ a, (F a).cells = E a) (he : Reads enc P w base spare held n e E I) :
    Reads enc P w base spare held (n + 1) t (fun l : List α => [.sl sz (l.map F)]) (SliceI I) := fun fuel cs d ps hfu h => by
  rcases DataW.trod_slice ht h with ⟨rfl, hx⟩ | ⟨a, len, cap, elems, rest, m, rfl, rfl, hx, hb, hl, hm, hlen, hel, _, _⟩
  · cases hx
    exact ⟨[], ⟨Nat.zero_le _, .inl ⟨rfl, rfl⟩⟩, .one rfl (.sl0 _ _ _ (Nat.zero_le _))⟩
  · cases hx
    subst hc
    have hel' : ∀ i b, elems[i]? = some b → ∃ x : α, I x b.1 ∧ ∃ cs', w.cells? base (a.add ((0 + i) * P.cellsOf e)) (P.cellsOf e) = some cs' ∧ RelL (HV.full w) (E x) cs' := fun i b hb => by
      have hi : i < len := by rw [← hlen]; exact (List.getElem?_eq_some_iff.1 hb).1
      have := hel i hi
      rw [hb] at this
      obtain ⟨cs', h1, h2⟩ := Option.bind_eq_some_iff.1 this
      obtain ⟨x, hx, hr⟩ := he m cs' b.1 b.2 (by omega) h2
      exact ⟨x, hx, cs', by rw [Nat.zero_add]; exact h1, hr⟩
    obtain ⟨azz, hal, has⟩ := choose_list (fun i (x : α) (b : DataW H × List MemPlace) => I x b.1 ∧ ∃ cs', w.cells? base (a.add (i * P.cellsOf e)) (P.cellsOf e) = some cs' ∧ RelL (HV.full w) (E x) cs') elems 0 hel'
    have hget : ∀ i x, azz[i]? = some x → ∃ b, elems[i]? = some b := fun i x hx => by
      have : i < azz.length := (List.getElem?_eq_some_iff.1 hx).1
      exact ⟨_, List.getElem?_eq_getElem (by omega)⟩
    refine ⟨azz, ⟨by omega, .inr ⟨_, _, rfl, by simp [hal], fun i x e' hx he' => ?_⟩⟩, .one rfl ?_⟩
    · rw [List.getElem?_map, Option.map_eq_some_iff] at he'
      obtain ⟨b, hb', rfl⟩ := he'
      exact (has i x b hx hb').1
    · by_cases h0 : azz = []
      · subst h0
        have : len = 0 := by rw [← hlen, ← hal]; rfl
        subst this
        exact .sl0 _ _ _ hm
      · have hlen' : (azz.map F).length = len := by simp [hal, hlen]
        have h00 : 0 < azz.length := List.length_pos_iff.2 h0
        obtain ⟨b0, hb0⟩ := hget 0 azz[0] (List.getElem?_eq_getElem h00)
        obtain ⟨_, cs0, hc0, _⟩ := has 0 _ _ (List.getElem?_eq_getElem h00) hb0
        obtain ⟨_, hcl, hcell⟩ := World.cells?_some hc0
        have hspot : a.spot = none := by
          have := hcell 0 hpos
          rw [List.getElem?_eq_getElem (by omega)] at this
          have := World.cell?_spot this
          simpa [Addr.add] using this
        obtain ⟨ab, ao, asp⟩ := a
        simp only at hspot
        subst hspot
        rw [← hlen']
        refine .sl (P.cellsOf e) (azz.map F) ab ao cap (fun i j => (w.cell? ⟨ab, ao + i * P.cellsOf e + j, none⟩).getD Go.undef) hpos (by omega) hm (fun i x hx => ?_) (fun i x j c hx hj => ?_) (fun i x j c hx hj => ?_)
        all_goals
          rw [List.getElem?_map, Option.map_eq_some_iff] at hx
          obtain ⟨y, hy, rfl⟩ := hx
          obtain ⟨b, hb'⟩ := hget i y hy
          obtain ⟨_, cs', hc', hr⟩ := has i y b hy hb'
          obtain ⟨_, hcl', hcell'⟩ := World.cells?_some hc'
        · rw [hF, hr.1, hcl']
        all_goals
          rw [hF] at hj
          have hjl : j < P.cellsOf e := by
            have := (List.getElem?_eq_some_iff.1 hj).1
            rw [hr.1, hcl'] at this; exact this
          have hcj : cs'[j]? = some (cs'[j]'(by omega)) := List.getElem?_eq_getElem (by omega)
          have hw := hcell' j hjl
          rw [hcj] at hw
          have hadd : ((⟨ab, ao, none⟩ : Addr).add ((0 + i) * P.cellsOf e)).add j = ⟨ab, ao + i * P.cellsOf e + j, none⟩ := by
            rw [Nat.zero_add]
            unfold Addr.add
            split <;> split <;> simp_all
          rw [hadd] at hw
          obtain ⟨h1, h2⟩ := hr.2 j c _ hj hcj
        · simp only [HV.full, hw, Option.getD_some, true_and]
          exact h2.oneCell h1
        · simp only [hw, Option.getD_some]
          exact h2
def fieldsB (P : Program) : Nat → List Field → Nat → Bool
  | o, [], o' => o == o'
  | o, f :: fs, o' => f.offset == o && fieldsB P (o + P.cellsOf f.type) fs o'
def FReads (enc : TypeId × Value → H) (P : Program) (w : World) (base : Nat) (spare : Nat → Bool) (held : Bool) (n : Nat) (fs : List Field) {α : Type} (E : α → List AV) (I : α → List (DataW H) → Prop) : Prop :=
  ∀ (fuel o o' : Nat) (cs : List Value) (xs : List (DataW H × List MemPlace)), fuel ≤ n → xs.length = fs.length → fieldsB P o fs o' = true → cs.length = o' →
    (∀ (i : Nat) (f : Field), fs[i]? = some f → DataW.trod enc P w base spare held fuel f.type ((cs.drop f.offset).take (P.cellsOf f.type)) = xs[i]?) → ∃ a, I a (xs.map (·.1)) ∧ RelL (HV.full w) (E a) (cs.drop o)
theorem freads_nil (n : Nat) : FReads enc P w base spare held n [] (fun _ : Unit => []) (fun _ ds => ds = []) := fun fuel o o' cs xs _ hl hf hc _ => by
  simp only [fieldsB, beq_iff_eq] at hf
  have : xs = [] := List.length_eq_zero_iff.1 hl
  subst this
  refine ⟨(), rfl, ?_⟩
  rw [List.drop_of_length_le (by omega)]
  exact .nil
theorem freads_cons {n : Nat} {f : Field} {fs : List Field} {α β : Type} {E1 : α → List AV} {I1 : α → DataW H → Prop} {E2 : β → List AV} {I2 : β → List (DataW H) → Prop}
    (h1 : Reads enc P w base spare held n f.type E1 I1) (h2 : FReads enc P w base spare held n fs E2 I2) :
    FReads enc P w base spare held n (f :: fs) (fun x : α × β => E1 x.1 ++ E2 x.2) (fun x ds => ∃ d ds', ds = d :: ds' ∧ I1 x.1 d ∧ I2 x.2 ds') := fun fuel o o' cs xs hfu hl hf hc hx => by
  simp only [fieldsB, Bool.and_eq_true, beq_iff_eq] at hf
  obtain ⟨ho, hf⟩ := hf
  cases xs with
  | nil => simp at hl
  | cons x xs =>
    have h0 := hx 0 f rfl
    simp only [List.getElem?_cons_zero] at h0
    obtain ⟨a, ha, hra⟩ := h1 fuel _ x.1 x.2 hfu h0
    obtain ⟨b, hb, hrb⟩ := h2 fuel (o + P.cellsOf f.type) o' cs xs hfu (by simpa using hl) hf hc (fun i g hg => hx (i + 1) g hg)
    refine ⟨(a, b), ⟨x.1, xs.map (·.1), rfl, ha, hb⟩, ?_⟩
    have := hra.append hrb
    rw [ho, ← List.drop_drop, List.take_append_drop] at this
    exact this
theorem reads_struct {n : Nat} {t : TypeId} {fs : Array Field} {α : Type} {E : α → List AV} {I : α → List (DataW H) → Prop} (ht : P.underlying t = some (.struct fs)) (hf : fieldsB P 0 fs.toList (P.cellsOf t) = true)
    (h : FReads enc P w base spare held n fs.toList E I) : Reads enc P w base spare held (n + 1) t E (fun a d => ∃ ds, d = .agg ds ∧ I a ds) := fun fuel cs d ps hfu hh => by
  obtain ⟨xs, m, rfl, hx, hc, hl, hel⟩ := DataW.trod_struct ht hh
  cases hx
  obtain ⟨a, ha, hr⟩ := h m 0 _ cs xs (by omega) (by simpa using hl) hf hc (fun i f hfi => hel i f (by rw [← Array.getElem?_toList]; exact hfi))
  exact ⟨a, ⟨_, rfl, ha⟩, by simpa using hr⟩
theorem Reads.to {n : Nat} {t : TypeId} {α β : Type} {E : α → List AV} {I : α → DataW H → Prop} (h : Reads enc P w base spare held n t E I) (g : α → β) {E' : β → List AV} {I' : β → DataW H → Prop} (hE : ∀ a, E' (g a) = E a) (hI : ∀ a d, I a d → I' (g a) d) :
    Reads enc P w base spare held n t E' I' := fun fuel cs d ps hfu hh => by
  obtain ⟨a, ha, hr⟩ := h fuel cs d ps hfu hh
  exact ⟨g a, hI a d ha, by rw [hE]; exact hr⟩
theorem Reads.le {n m : Nat} {t : TypeId} {α : Type} {E : α → List AV} {I : α → DataW H → Prop} (h : Reads enc P w base spare held n t E I) (hm : m ≤ n) : Reads enc P w base spare held m t E I :=
  fun fuel cs d ps hfu hh => h fuel cs d ps (Nat.le_trans hfu hm) hh
theorem Reads.arg {t : TypeId} {α : Type} {E : α → List AV} {I : α → DataW H → Prop} (h : ∀ n, Reads enc P w base spare held n t E I) {v : Value} {d : DataW H} {ps : List MemPlace} (hd : DataW.Trod enc P w base spare held t v d ps) :
    ∃ a, I a d ∧ RelL (HV.full w) (E a) v.cells.toList := by
  obtain ⟨fuel, hf⟩ := hd
  exact h fuel fuel _ _ _ (Nat.le_refl _) hf
theorem RelL.val1 {K : HV} {a : AV} {v : Value} (h : RelL K [a] v.cells.toList) (hv : ∀ cs, v ≠ .agg cs) : RelI K a v := by
  have hc : v.cells = #[v] := by cases v <;> first | rfl | exact absurd rfl (hv _)
  rw [hc] at h
  exact (h.2 0 a v rfl rfl).2
end
end HY
end
section
namespace HY
open Go Go.RowKit Go.ChangeShapes Go.WideShapes Go.ChangeAt
theorem trodAll_below {H : Type} {enc : TypeId × Value → H} {P : Program} (hl : laidOutB P = true) {W W' : World} (hb : Below W.heap.size W W') : ∀ {ts : List TypeId} {vs : List Value} {ds : List (DataW H)} {ps : List MemPlace},
    (∀ t ∈ ts, P.readableRec t = true ∧ t < P.types.size) → DataW.TrodAll enc P W 0 (fun _ => true) true ts vs ds ps → (∀ p ∈ ps, p.block < W.heap.size) → DataW.TrodAll enc P W' 0 (fun b => decide (b < W.heap.size)) true ts vs ds ps
  | [], [], [], _, _, h, _ => h
  | t :: ts, v :: vs, d :: ds, _, ht, ⟨p, q, h1, h2, e⟩, hp =>
    ⟨p, q, Below.trod hl (ht t (List.mem_cons_self ..)).1 (ht t (List.mem_cons_self ..)).2 h1 hb (fun x hx => hp x (by rw [e]; exact List.mem_append_left _ hx)),
      trodAll_below hl hb (fun t' h' => ht t' (List.mem_cons_of_mem _ h')) h2 (fun x hx => hp x (by rw [e]; exact List.mem_append_right _ hx)), e⟩
  | [], _ :: _, _, _, _, h, _ => h.elim
  | [], [], _ :: _, _, _, h, _ => h.elim
  | _ :: _, [], _, _, _, h, _ => h.elim
  | _ :: _, _ :: _, [], _, _, h, _ => h.elim
structure LawOk (P : Program) (f : Func) (tb : TypeId) : Prop where
  laid : laidOutB P = true
  pars : (f.params.toList.all fun t => P.readableRec t && decide (t < P.types.size)) = true
  res : f.resultTypes = #[tb]
  bool : P.underlying tb = some .bool
theorem post_true {H : Type} {enc : TypeId × Value → H} {P : Program} {f : Func} {tb : TypeId} (hok : LawOk P f tb) {s : ChangeSpec} {W W' : World} {args : Array Value} {ds gs : List (DataW H)} {before : List MemPlace} (hv : s.vars = [])
    (hW : DataW.Whole enc P f.params.toList s.vars false W args.toList ds gs before) (hfn : s.fn H (ds ++ gs) = { results := [.lit (.bool true)], args := ds }) (hb : Below W.heap.size W W') : s.post enc P f false true false false W args (.bool true) W' := by
  have hlt := hW.lt
  have hW' := hW
  obtain ⟨p, q, hA, hV, rfl, _, _⟩ := hW
  rw [hv] at hV
  obtain ⟨rfl, rfl⟩ : gs = [] ∧ q = [] := by
    cases gs with
    | nil => exact ⟨rfl, hV⟩
    | cons => exact hV.elim
  have hp := hok.pars
  rw [List.all_eq_true] at hp
  refine ⟨ds, [], p ++ [], [], p, [], hW', ?_, ?_, ?_, hb.frame _, fun h => by cases h⟩
  · rw [hfn, hok.res]
    exact ⟨[], [], shut_bool hok.bool _, rfl, rfl⟩
  · rw [hfn]
    exact trodAll_below hok.laid hb (fun t ht => by have := hp t ht; simp only [Bool.and_eq_true, decide_eq_true_eq] at this; exact this) hA (fun x hx => hlt x (List.mem_append_left _ hx))
  · rw [hfn, hv]; exact rfl
end HY
end
section
namespace HY
open Go Go.RowKit Go.ChangeShapes Go.WideShapes Go.ChangeAt
theorem law_callsP {P : Program} {gl : Nat → AV} {f : FuncId} {args : List AV} (hent : Enters P f) (h : Pu P gl f args (.bool true)) {W : World} {vs : Array Value} (hl : args.length = vs.size) (hgl : ∀ g, RelI (HV.full W) (gl g) (.pointer (some ⟨g, 0, none⟩))) (hgv : GvOk gl (fun k => k < W.heap.size) W)
    (hr : ∀ (j : Nat) (x : AV) (v : Value), args[j]? = some x → vs[j]? = some v → RelI (HV.full W) x v) : Calls P f vs W fun e W' => e = .returned (.bool true) ∧ Below W.heap.size W W' := by
  refine (Ans.calls (he := hent) <| h.ok (fun _ => ⟨0, 0, 0⟩) (HV.full W) (fun k => k < W.heap.size) (HV.full W) W vs
    { sat := full_sat W, old := fun _ _ _ => rfl, low := fun _ h => h, fresh := fun _ _ => lkb_nil _, box := (fun _ _ hh => by rw [lkb_nil] at hh; cases hh), sepR := (fun _ _ hh => by rw [lkb_nil] at hh; cases hh), injR := (fun _ _ _ _ hh => by rw [lkb_nil] at hh; cases hh), gv := hgv, gl := hgl, ty := (fun _ _ _ hh => by rw [lkb_nil] at hh; cases hh) } hl
    (fun j x v hx hv => .imm _ _ (hr j x v hx hv))).mono fun e W' hpost => ?_
  obtain ⟨v, m', H', he, hb, _, hv⟩ := hpost
  have := hv.bool_inv
  subst this
  exact ⟨he, hb.toB⟩
theorem handed_and_shaped {H : Type} {enc : TypeId × Value → H} {C : Checked} {os : Os} {f : FuncId} {fn : Func} {s : ChangeSpec} {X : World → Prop} (hX : ∀ w w' : World, w.heap = w'.heap → X w → X w')
    (own : ownKnob C.prog.godebug = none) (started : os.Started) (noInit : C.prog.inits.idxOf? f = none) (hfn : C.prog.funcs[f]? = some fn)
    (witness : ∃ (w : World) (tape : Tape) (i : Input), w.os = os ∧ (w.forCall tape i).Shaped C.prog ∧ i.vars = [] ∧ Input.okWide C.prog (w.forCall tape i) .any w.heap.size f i ∧
      ((s.pre enc C.prog fn [] false (w.forCall tape i).memory i.args ∧ X (w.forCall tape i).memory) ∧ sizedMet enc C.prog fn (OpenSpec.ofChange s) false (w.forCall tape i).memory i.args) ∧ ({} : Assume).holds C.prog (lone (Frame.enter C.prog f i.args .normal) [] (w.forCall tape i)))
    (contract : ∀ (W : World) (base : Nat) (args : Array Value) (ds gs : List (DataW H)) (before : List MemPlace),
      (∀ (j : Nat) t v, fn.params[j]? = some t → args[j]? = some v → Value.okWide C.prog W .any base t v) → DataW.Whole enc C.prog fn.params.toList s.vars false W args.toList ds gs before → X W → W.ShapedOpen C.prog →
      Calls C.prog f args W fun e W' => ∃ v, e = .returned v ∧ s.post enc C.prog fn false true false false W args v W') :
    ReturnsInHanded {} C os f .any (fun w args => (s.pre enc C.prog fn [] false w args ∧ X w) ∧ sizedMet enc C.prog fn (OpenSpec.ofChange s) false w args) (s.post enc C.prog fn false true false false) := by
  refine returnsInHanded_of_calls own started noInit witness fun w tape i _ hsh _ hok hpre _ => ?_
  obtain ⟨_, _, _, fn', hfn', _, _, _, _, hval⟩ := hok
  obtain rfl : fn' = fn := Option.some.inj (hfn'.symm.trans hfn)
  obtain ⟨⟨⟨ds, gs, before, hw, _⟩, hx⟩, _⟩ := hpre
  refine (contract (w.forCall tape i) w.heap.size i.args ds gs before hval (DataW.Whole.of_heap (w' := w.forCall tape i) (by rfl) hw) (hX _ _ (by rfl) hx) hsh).mono fun e W' ⟨v, he, hp⟩ => ?_
  subst he
  exact ChangeSpec.post_blind hp
theorem handed_all {H : Type} {enc : TypeId × Value → H} {C : Checked} {os : Os} {f : FuncId} {fn : Func} {s : ChangeSpec} {X : World → Prop} (hX : ∀ w w' : World, w.heap = w'.heap → X w → X w')
    (own : ownKnob C.prog.godebug = none) (started : os.Started) (noInit : C.prog.inits.idxOf? f = none) (hfn : C.prog.funcs[f]? = some fn)
    (witness : ∃ (w : World) (tape : Tape) (i : Input), w.os = os ∧ (w.forCall tape i).Shaped C.prog ∧ i.vars = [] ∧ Input.okWide C.prog (w.forCall tape i) .any w.heap.size f i ∧
      ((s.pre enc C.prog fn [] false (w.forCall tape i).memory i.args ∧ X (w.forCall tape i).memory) ∧ sizedMet enc C.prog fn (OpenSpec.ofChange s) false (w.forCall tape i).memory i.args) ∧ ({} : Assume).holds C.prog (lone (Frame.enter C.prog f i.args .normal) [] (w.forCall tape i)))
    (contract : ∀ (W : World) (base : Nat) (args : Array Value) (ds gs : List (DataW H)) (before : List MemPlace),
      (∀ (j : Nat) t v, fn.params[j]? = some t → args[j]? = some v → Value.okWide C.prog W .any base t v) → DataW.Whole enc C.prog fn.params.toList s.vars false W args.toList ds gs before → X W → W.ShapedOpen C.prog → (DataW.weightsEach C.prog (fn.params.toList ++ s.plain.varTypes C.prog) (ds ++ gs)).all (· ≤ reachBytes) = true →
      Calls C.prog f args W fun e W' => ∃ v, e = .returned v ∧ s.post enc C.prog fn false true false false W args v W') :
    ReturnsInHanded {} C os f .any (fun w args => (s.pre enc C.prog fn [] false w args ∧ X w) ∧ sizedMet enc C.prog fn (OpenSpec.ofChange s) false w args) (s.post enc C.prog fn false true false false) := by
  refine returnsInHanded_of_calls own started noInit witness fun w tape i _ hsh _ hok hpre _ => ?_
  obtain ⟨_, _, _, fn', hfn', _, _, _, _, hval⟩ := hok
  obtain rfl : fn' = fn := Option.some.inj (hfn'.symm.trans hfn)
  obtain ⟨⟨⟨ds, gs, before, hw, _⟩, hx⟩, hz⟩ := hpre
  refine (contract (w.forCall tape i) w.heap.size i.args ds gs before hval (DataW.Whole.of_heap (w' := w.forCall tape i) (by rfl) hw) (hX _ _ (by rfl) hx) hsh (hz.weights hw)).mono fun e W' ⟨v, he, hp⟩ => ?_
  subst he
  exact ChangeSpec.post_blind hp
theorem laidVars_at {P : Program} {w : World} : ∀ {l : List (String × DataW Unit)} {ps : List MemPlace} (i : Nat) {n : String} {d : DataW Unit}, DataW.LaidVars P w l ps → l[i]? = some (n, d) →
    ∃ g t cs fuel p, P.globalNamed n = some g ∧ (P.globals[g]?).map (·.type) = some t ∧ w.var? P n = some cs ∧ DataW.trod (fun _ => ()) P w 0 (fun _ => true) false fuel t cs.toList = some (d, p)
  | [], _, i, _, _, _, hi => by simp at hi
  | (n0, d0) :: r, ps, i, n, d, h, hi => by
    obtain ⟨g, t, cs, fuel, p, q, h1, h2, h3, h4, h5, _⟩ := h
    cases i with
    | zero => cases hi; exact ⟨g, t, cs, fuel, p, h1, h2, h3, h4⟩
    | succ i => exact laidVars_at i h5 hi
def litZ (k : IntKind) (z : Int) : DataW Unit := .lit (.int k z)
theorem laid_cells {P : Program} {w : World} {laid : List (String × DataW Unit)} (hm : laidMetH P laid w) (hpl : (laid.all fun x => x.2.handleName?.isNone) = true) (i : Nat) {n : String} {k : IntKind} {zs : List Int} (hi : laid[i]? = some (n, .agg (zs.map (litZ k))))
    {g t e : Nat} (hg : P.globalNamed n = some g) (hgt : (P.globals[g]?).map (·.type) = some t) (hu : P.underlying t = some (.array zs.length e)) (hc : P.cellsOf e = 1) (hue : P.underlying e = some (.int k)) (j : Nat) (z : Int) (hj : zs[j]? = some z) :
    w.cell? ⟨g, j, none⟩ = some (.int k z) := by
  rw [MakeChecks.laidMetH_plain _ _ _ hpl] at hm
  obtain ⟨ps, hl, _, _⟩ := hm
  obtain ⟨g', t', cs, fuel, p, e1, e2, e3, e4⟩ := laidVars_at i hl hi
  rw [hg] at e1; cases e1
  rw [hgt] at e2; cases e2
  obtain ⟨xs, m, rfl, hxe, hcl, hxl, hel⟩ := DataW.trod_array hu e4
  rw [World.var?_cell hg e3 j]
  have hjl : j < zs.length := (List.getElem?_eq_some_iff.1 hj).1
  have h1 := hel j hjl
  rw [hc] at h1
  have hxj : xs[j]? = some (xs[j]'(by omega)) := List.getElem?_eq_getElem (by omega)
  rw [hxj] at h1
  obtain ⟨v, h2, h3, _⟩ := DataW.trod_int hue h1
  have h4 : (xs.map (·.1))[j]? = some (.lit (.int k v)) := by rw [List.getElem?_map, hxj, Option.map_some, h3]
  have h5 : (.agg (zs.map (litZ k)) : DataW Unit) = .agg (xs.map (·.1)) := congrArg Prod.fst hxe
  have h6 : zs.map (litZ k) = xs.map (·.1) := by injection h5
  rw [← h6, List.getElem?_map, hj, Option.map_some] at h4
  simp only [litZ, Option.some.injEq, DataW.lit.injEq, Lit.int.injEq, true_and] at h4
  subst h4
  have h7 := congrArg (·[0]?) h2
  simp only [Nat.mul_one, List.getElem?_take, List.getElem?_drop, Nat.add_zero] at h7
  simpa using h7
theorem tab_rel {W : World} {g : Nat} {k : IntKind} {zs : List Int} (hz : 0 < zs.length) (h : ∀ (j : Nat) (z : Int), zs[j]? = some z → W.cell? ⟨g, j, none⟩ = some (.int k z)) : RelI (HV.full W) (.ip zs.length [.agg (zs.map (.int k))] 0 0) (.pointer (some ⟨g, 0, none⟩)) := by
  have hx0 : ∀ (i : Nat) (x : AV), [AV.agg (zs.map (AV.int k))][i]? = some x → i = 0 ∧ x = .agg (zs.map (.int k)) := fun i x hx => by
    cases i with
    | zero => simp at hx; exact ⟨rfl, hx.symm⟩
    | succ i => simp at hx
  have hc0 : ∀ (j : Nat) (c : AV), (zs.map (AV.int k))[j]? = some c → ∃ z, zs[j]? = some z ∧ c = .int k z := fun j c hc => by
    rw [List.getElem?_map, Option.map_eq_some_iff] at hc
    obtain ⟨z, h1, rfl⟩ := hc
    exact ⟨z, h1, rfl⟩
  suffices hs : RelI (HV.full W) (.ip zs.length [.agg (zs.map (.int k))] 0 0) (.pointer (some ⟨g, 0 + 0 * zs.length + 0, none⟩)) by
    rwa [show 0 + 0 * zs.length + 0 = 0 by omega] at hs
  refine RelI.ip zs.length [.agg (zs.map (.int k))] g 0 0 0 (fun _ j => .int k ((zs[j]?).getD 0)) hz (by simp) (fun i x hx => ?_) (fun i x j c hx hc => ?_) (fun i x j c hx hc => ?_)
  · obtain ⟨rfl, rfl⟩ := hx0 i x hx
    show (zs.map (AV.int k)).length = _
    simp
  · obtain ⟨rfl, rfl⟩ := hx0 i x hx
    obtain ⟨z, hz', rfl⟩ := hc0 j c hc
    rw [hz']
    refine ⟨?_, rfl⟩
    show W.cell? ⟨g, 0 + 0 * zs.length + j, none⟩ = _
    rw [show 0 + 0 * zs.length + j = j by omega]
    exact h j z hz'
  · obtain ⟨rfl, rfl⟩ := hx0 i x hx
    obtain ⟨z, hz', rfl⟩ := hc0 j c hc
    rw [hz']
    exact .int _ _
theorem tab_gv {P : Program} {W : World} (h : W.ShapedOpen P) {g n t : Nat} {zero : Array Value} (hg : g < P.globals.size) (h0 : ((begin P (fun _ _ => 0) default).world.heap[g]?).bind Obj.row? = some (zero, t)) (hz : zero.size = n) : g < W.heap.size ∧ ∃ C e fr, W.heap[g]? = some (.cells C e fr) ∧ C.size = n := by
  obtain ⟨cs, h1, h2, _⟩ := h.1 g zero t hg h0
  refine ⟨?_, cs, t, _, h1, by omega⟩
  rcases Nat.lt_or_ge g W.heap.size with h | h
  · exact h
  · rw [Array.getElem?_eq_none h] at h1; cases h1
end HY
end
section
namespace Go.Proofs.YtfaenlhmhlabeaaGreatDoor
open Go HY Go.RowKit Go.ChangeShapes Go.WideShapes Go.ChangeAt
set_option linter.unusedVariables false
set_option linter.unusedSimpArgs false
section
variable {H : Type} {enc : TypeId × Value → H} {P : Program} {w : World} {base : Nat} {spare : Nat → Bool} {held : Bool}
theorem wSum_one {α : Type} (l : List α) : wSum (fun _ => 1) l = l.length := by
  induction l with
  | nil => rfl
  | cons a l ih => rw [wSum_cons, ih, List.length_cons]; omega
theorem rwZero {α : Type} (t : TypeId) (E : α → List AV) {I : α → DataW H → Prop} : Reads enc P w base spare held 0 t E I := fun fuel cs d ps hf h => by
  obtain rfl : fuel = 0 := by omega
  simp [DataW.trod] at h
theorem rwInt (n : Nat) {t : TypeId} {k : IntKind} (ht : P.underlying t = some (.int k)) : Reads enc P w base spare held n t (fun a : Int => [.int k a]) (fun _ d => 1 ≤ Rows.uptoBulk d) :=
  (reads_int n ht).to id (fun _ => rfl) fun a d h => by obtain ⟨_, rfl⟩ := h; simp [Rows.uptoBulk]
theorem rwStr (n : Nat) {t : TypeId} (ht : P.underlying t = some .string) : Reads enc P w base spare held n t (fun a : Str => [.str a]) (fun a d => a.length + 1 ≤ Rows.uptoBulk d) :=
  (reads_string n ht).to id (fun _ => rfl) fun a d h => by obtain ⟨_, rfl⟩ := h; simp [Rows.uptoBulk]
theorem bulk_sum {α : Type} {f : α → Nat} : ∀ (l : List α) (ds : List (DataW H)), ds.length = l.length → (∀ (i : Nat) (a : α) (e : DataW H), l[i]? = some a → ds[i]? = some e → f a ≤ Rows.uptoBulk e) → wSum f l ≤ Rows.uptoBulkAll ds
  | [], _, _, _ => by rw [wSum_nil]; omega
  | a :: l, [], h, _ => by simp at h
  | a :: l, d :: ds, h, hi => by
    have h0 := hi 0 a d rfl rfl
    have := bulk_sum (f := f) l ds (by simpa using h) fun i b e hb he => hi (i + 1) b e (by simpa using hb) (by simpa using he)
    rw [wSum_cons]; simp only [Rows.uptoBulkAll]; omega
theorem rwSlice {n : Nat} {t e : TypeId} {sz : Nat} {α : Type} {E : α → List AV} {f : α → Nat} (F : α → AV) (ht : P.underlying t = some (.slice e)) (hc : P.cellsOf e = sz) (hpos : 0 < sz) (hF : ∀ a, (F a).cells = E a) (he : Reads enc P w base spare held n e E (fun a d => f a ≤ Rows.uptoBulk d)) :
    Reads enc P w base spare held (n + 1) t (fun l : List α => [.sl sz (l.map F)]) (fun l d => wSum f l + 1 ≤ Rows.uptoBulk d) :=
  (reads_slice F ht hc hpos hF he).to id (fun _ => rfl) fun l d h => by
    obtain ⟨_, ⟨rfl, rfl⟩ | ⟨elems, sp, rfl, hl, hi⟩⟩ := h
    · simp [Rows.uptoBulk, wSum_nil]
    · have := bulk_sum (f := f) l elems hl hi
      simp only [Rows.uptoBulk, id]; omega
theorem fwNil (n : Nat) : FReads enc P w base spare held n [] (fun _ : Unit => []) (fun _ ds => 0 ≤ Rows.uptoBulkAll ds) := fun fuel o o' cs xs hf hl hb hc hx => by
  obtain ⟨a, _, h⟩ := freads_nil n fuel o o' cs xs hf hl hb hc hx
  exact ⟨a, Nat.zero_le _, h⟩
theorem fwCons {n : Nat} {f : Field} {fs : List Field} {α β : Type} {E1 : α → List AV} {w1 : α → Nat} {E2 : β → List AV} {w2 : β → Nat}
    (h1 : Reads enc P w base spare held n f.type E1 (fun a d => w1 a ≤ Rows.uptoBulk d)) (h2 : FReads enc P w base spare held n fs E2 (fun a ds => w2 a ≤ Rows.uptoBulkAll ds)) :
    FReads enc P w base spare held n (f :: fs) (fun x : α × β => E1 x.1 ++ E2 x.2) (fun x ds => w1 x.1 + w2 x.2 ≤ Rows.uptoBulkAll ds) := fun fuel o o' cs xs hf hl hb hc hx => by
  obtain ⟨a, ⟨d, ds, e, i1, i2⟩, h⟩ := freads_cons h1 h2 fuel o o' cs xs hf hl hb hc hx
  exact ⟨a, by rw [e]; simp only [Rows.uptoBulkAll]; omega, h⟩
theorem rwStruct {n : Nat} {t : TypeId} {fs : Array Field} {α : Type} {E : α → List AV} {f : α → Nat} (ht : P.underlying t = some (.struct fs)) (hf : fieldsB P 0 fs.toList (P.cellsOf t) = true)
    (h : FReads enc P w base spare held n fs.toList E (fun a ds => f a ≤ Rows.uptoBulkAll ds)) : Reads enc P w base spare held (n + 1) t E (fun a d => f a + 1 ≤ Rows.uptoBulk d) :=
  (reads_struct ht hf h).to id (fun _ => rfl) fun a d hd => by
    obtain ⟨ds, rfl, h⟩ := hd
    simp only [Rows.uptoBulk, id]; omega
end
theorem u3 : Tryz.prog.underlying 3 = some (.int .i64) := by kernel_rfl
theorem u54 : Tryz.prog.underlying 54 = some (.slice 3) := by kernel_rfl
theorem c54 : Tryz.prog.cellsOf 3 = 1 := by kernel_rfl
theorem u9 : Tryz.prog.underlying 9 = some .string := by kernel_rfl
theorem u2 : Tryz.prog.underlying 2 = some (.int .i64) := by kernel_rfl
theorem u27 : Tryz.prog.underlying 27 = some (.slice 117) := by kernel_rfl
theorem c27 : Tryz.prog.cellsOf 117 = 2 := by kernel_rfl
theorem u81 : Tryz.prog.underlying 81 = some (.slice 29) := by kernel_rfl
theorem c81 : Tryz.prog.cellsOf 29 = 2 := by kernel_rfl
theorem u30 : Tryz.prog.underlying 30 = some (.slice 32) := by kernel_rfl
theorem c30 : Tryz.prog.cellsOf 32 = 13 := by kernel_rfl
theorem u22 : Tryz.prog.underlying 22 = some (.slice 83) := by kernel_rfl
theorem c22 : Tryz.prog.cellsOf 83 = 4 := by kernel_rfl
theorem u33 : Tryz.prog.underlying 33 = some (.slice 35) := by kernel_rfl
theorem c33 : Tryz.prog.cellsOf 35 = 20 := by kernel_rfl
theorem u38 : Tryz.prog.underlying 38 = some (.slice 56) := by kernel_rfl
theorem c38 : Tryz.prog.cellsOf 56 = 8 := by kernel_rfl
section
variable {H : Type} {enc : TypeId × Value → H} {w : World} {base : Nat} {spare : Nat → Bool} {held : Bool}
theorem rd_gType (n : Nat) : Reads enc Tryz.prog w base spare held n 26 (fun x : gType => (egType x).cells) (fun x d => 1 ≤ Rows.uptoBulk d) :=
  ((rwStruct Tryz.underlying26 (by kernel_rfl) (fwCons (rwInt n u3) (fwCons (rwInt n u3) (fwCons (rwInt n u3) (fwCons (rwInt n u3) (fwCons (rwInt n u3) (fwNil n))))))).to (fun x => gType.mk x.1 x.2.1 x.2.2.1 x.2.2.2.1 x.2.2.2.2.1) (fun _ => rfl) (fun a d h => by first | omega | (simp only [wMono, wLin, wIdx, wExprS, wStmtS, wBuf, wNest, wSum_one] at *; omega))).le (Nat.le_succ n)
theorem rd_gBuffer (n : Nat) : Reads enc Tryz.prog w base spare held n 56 (fun x : gBuffer => (egBuffer x).cells) (fun x d => wBuf x ≤ Rows.uptoBulk d) :=
  ((rwStruct Tryz.underlying56 (by kernel_rfl) (fwCons (rwStr n u9) (fwCons (rd_gType n) (fwCons ((rwSlice eI u54 c54 (by decide) (fun _ => rfl) (rwInt n u3)).le (Nat.le_succ _)) (fwCons (rwInt n u3) (fwNil n)))))).to (fun x => gBuffer.mk x.1 x.2.1 x.2.2.1 x.2.2.2.1) (fun _ => rfl) (fun a d h => by first | omega | (simp only [wMono, wLin, wIdx, wExprS, wStmtS, wBuf, wNest, wSum_one] at *; omega))).le (Nat.le_succ n)
theorem rd_gMono (n : Nat) : Reads enc Tryz.prog w base spare held n 117 (fun x : gMono => (egMono x).cells) (fun x d => wMono x ≤ Rows.uptoBulk d) :=
  ((rwStruct Tryz.underlying117 (by kernel_rfl) (fwCons (rwStr n u9) (fwCons (rwInt n u2) (fwNil n)))).to (fun x => gMono.mk x.1 x.2.1) (fun _ => rfl) (fun a d h => by first | omega | (simp only [wMono, wLin, wIdx, wExprS, wStmtS, wBuf, wNest, wSum_one] at *; omega))).le (Nat.le_succ n)
theorem rd_gLin (n : Nat) : Reads enc Tryz.prog w base spare held n 29 (fun x : gLin => (egLin x).cells) (fun x d => wLin x ≤ Rows.uptoBulk d) :=
  ((rwStruct Tryz.underlying29 (by kernel_rfl) (fwCons (rwInt n u2) (fwCons ((rwSlice egMono u27 c27 (by decide) (fun _ => rfl) (rd_gMono n)).le (Nat.le_succ _)) (fwNil n)))).to (fun x => gLin.mk x.1 x.2.1) (fun _ => rfl) (fun a d h => by first | omega | (simp only [wMono, wLin, wIdx, wExprS, wStmtS, wBuf, wNest, wSum_one] at *; omega))).le (Nat.le_succ n)
theorem rd_gIndex (n : Nat) : Reads enc Tryz.prog w base spare held n 83 (fun x : gIndex => (egIndex x).cells) (fun x d => wIdx x ≤ Rows.uptoBulk d) :=
  ((rwStruct Tryz.underlying83 (by kernel_rfl) (fwCons (rd_gLin n) (fwCons (rwStr n u9) (fwCons ((rwSlice egLin u81 c81 (by decide) (fun _ => rfl) (rd_gLin n)).le (Nat.le_succ _)) (fwNil n))))).to (fun x => gIndex.mk x.1 x.2.1 x.2.2.1) (fun _ => rfl) (fun a d h => by first | omega | (simp only [wMono, wLin, wIdx, wExprS, wStmtS, wBuf, wNest, wSum_one] at *; omega))).le (Nat.le_succ n)
theorem rd_gVal (n : Nat) : Reads enc Tryz.prog w base spare held n 24 (fun x : gVal => (egVal x).cells) (fun x d => 1 ≤ Rows.uptoBulk d) :=
  ((rwStruct Tryz.underlying24 (by kernel_rfl) (fwCons (rwInt n u2) (fwCons (rwInt n u2) (fwNil n)))).to (fun x => gVal.mk x.1 x.2.1) (fun _ => rfl) (fun a d h => by first | omega | (simp only [wMono, wLin, wIdx, wExprS, wStmtS, wBuf, wNest, wSum_one] at *; omega))).le (Nat.le_succ n)
theorem rd_gExpr : ∀ n, Reads enc Tryz.prog w base spare held n 32 (fun x : gExprS => (hgExpr x).cells) (fun x d => wExprS x ≤ Rows.uptoBulk d)
  | 0 => rwZero _ _
  | n + 1 => (rwStruct Tryz.underlying32 (by kernel_rfl) (fwCons (rwInt n u3) (fwCons (rwStr n u9) (fwCons (rd_gVal n) (fwCons (rd_gType n) (fwCons (rd_gLin n) (fwCons ((rwSlice egIndex u22 c22 (by decide) (fun _ => rfl) (rd_gIndex n)).le (Nat.le_succ _)) (fwCons ((rwSlice (f := wExpr) egExpr u30 c30 (by decide) (fun _ => rfl) ((rd_gExpr n).to gExpr.mk (fun x => by rw [egExpr_mk]) (fun x d h => by rw [wExpr_f]; exact h))).le (Nat.le_succ _)) (fwNil n))))))))).to (fun x => (gExprF.mk x.1 x.2.1 x.2.2.1 x.2.2.2.1 x.2.2.2.2.1 x.2.2.2.2.2.1 x.2.2.2.2.2.2.1 : gExprS)) (fun _ => rfl) (fun a d h => by first | omega | (simp only [wMono, wLin, wIdx, wExprS, wStmtS, wBuf, wNest, wSum_one] at *; omega))
theorem rd_gExpre (n : Nat) : Reads enc Tryz.prog w base spare held n 32 (fun x : gExpr => (egExpr x).cells) (fun x d => wExpr x ≤ Rows.uptoBulk d) := (rd_gExpr n).to gExpr.mk (fun x => by rw [egExpr_mk]) (fun x d h => by rw [wExpr_f]; exact h)
theorem rd_gStmt : ∀ n, Reads enc Tryz.prog w base spare held n 35 (fun x : gStmtS => (hgStmt x).cells) (fun x d => wStmtS x ≤ Rows.uptoBulk d)
  | 0 => rwZero _ _
  | n + 1 => (rwStruct Tryz.underlying35 (by kernel_rfl) (fwCons (rwInt n u3) (fwCons (rwStr n u9) (fwCons (rwInt n u3) (fwCons (rwInt n u3) (fwCons (rwInt n u3) (fwCons ((rwSlice egIndex u22 c22 (by decide) (fun _ => rfl) (rd_gIndex n)).le (Nat.le_succ _)) (fwCons (rd_gExpr n) (fwCons ((rwSlice (f := wStmt) egStmt u33 c33 (by decide) (fun _ => rfl) ((rd_gStmt n).to gStmt.mk (fun x => by rw [egStmt_mk]) (fun x d h => by rw [wStmt_f]; exact h))).le (Nat.le_succ _)) (fwNil n)))))))))).to (fun x => (gStmtF.mk x.1 x.2.1 x.2.2.1 x.2.2.2.1 x.2.2.2.2.1 x.2.2.2.2.2.1 x.2.2.2.2.2.2.1 x.2.2.2.2.2.2.2.1 : gStmtS)) (fun _ => rfl) (fun a d h => by first | omega | (simp only [wMono, wLin, wIdx, wExprS, wStmtS, wBuf, wNest, wSum_one] at *; omega))
theorem rd_gStmte (n : Nat) : Reads enc Tryz.prog w base spare held n 35 (fun x : gStmt => (egStmt x).cells) (fun x d => wStmt x ≤ Rows.uptoBulk d) := (rd_gStmt n).to gStmt.mk (fun x => by rw [egStmt_mk]) (fun x d h => by rw [wStmt_f]; exact h)
theorem rd_gNest (n : Nat) : Reads enc Tryz.prog w base spare held n 40 (fun x : gNest => (egNest x).cells) (fun x d => wNest x ≤ Rows.uptoBulk d) :=
  ((rwStruct Tryz.underlying40 (by kernel_rfl) (fwCons ((rwSlice egBuffer u38 c38 (by decide) (fun _ => rfl) (rd_gBuffer n)).le (Nat.le_succ _)) (fwCons ((rwSlice (f := wStmt) egStmt u33 c33 (by decide) (fun _ => rfl) (rd_gStmte n)).le (Nat.le_succ _)) (fwNil n)))).to (fun x => gNest.mk x.1 x.2.1) (fun _ => rfl) (fun a d h => by first | omega | (simp only [wMono, wLin, wIdx, wExprS, wStmtS, wBuf, wNest, wSum_one] at *; omega))).le (Nat.le_succ n)
end
end Go.Proofs.YtfaenlhmhlabeaaGreatDoor
end
section
namespace Go.Proofs.YtfaenlhmhlabeaaGreatDoor
open Go HY Go.RowKit Go.ChangeShapes Go.WideShapes Go.ChangeAt
set_option linter.unusedVariables false
theorem own : ownKnob Tryz.prog.godebug = none := by kernel_rfl
theorem lawOk : LawOk Tryz.prog Tryz.f4 4 := ⟨by kernel_rfl, by kernel_rfl, by kernel_rfl, by kernel_rfl⟩
def laidL : List (String × DataW Unit) := [("unicode.White_Space", Rows.laid_unicode_White_Space), ("strings.asciiSpace", Rows.laid_strings_asciiSpace)]
def spZ : List Int := List.replicate 9 0 ++ List.replicate 5 1 ++ List.replicate 18 0 ++ [1] ++ List.replicate 223 0
theorem sp_eq : spaces = spZ.map (.int .u8) := by kernel_rfl
theorem laid_sp : Rows.laid_strings_asciiSpace = .agg (spZ.map (litZ .u8)) := by kernel_rfl
theorem pos_of_blt {a b : Nat} (h : Nat.blt a b = true) : a < b := Nat.le_of_ble_eq_true h
set_option maxRecDepth 100000 in
theorem gls_ok {W : World} (h : laidMetH Tryz.prog laidL W) (g : Nat) : RelI (HV.full W) (gls g) (.pointer (some ⟨g, 0, none⟩)) := by
  unfold gls
  cases h1 : Nat.beq g 0 with
  | true =>
    obtain rfl := Nat.eq_of_beq_eq_true h1
    have := tab_rel (W := W) (g := 0) (k := .u8) (zs := spZ) (pos_of_blt (by kernel_rfl)) fun j z hj => laid_cells h (by kernel_rfl) 1 (n := "strings.asciiSpace") (by rw [← laid_sp]; rfl) (g := 0) (t := 229) (e := 5) (by kernel_rfl) (by kernel_rfl) (by kernel_rfl) (by kernel_rfl) (by kernel_rfl) j z hj
    rw [← sp_eq] at this
    exact this
  | false => exact .undef _
theorem gv_ok {W : World} (h : W.ShapedOpen Tryz.prog) : GvOk gls (fun k => k < W.heap.size) W := fun g sz cs hg => by
  unfold gls at hg
  cases h1 : Nat.beq g 0 with
  | true =>
    obtain rfl := Nat.eq_of_beq_eq_true h1
    cases hg
    exact tab_gv h (g := 0) (n := 256) (zero := Array.replicate 256 (.int .u8 0)) (t := 229) (of_decide_eq_true (by kernel_rfl)) (by kernel_rfl) (by kernel_rfl)
  | false => rw [h1] at hg; cases hg
theorem relAgg {K : HV} {ys : List AV} {cs : Array Value} (h : RelL K ys (Value.agg cs).cells.toList) : RelI K (.agg ys) (.agg cs) := by
  have hc : (Value.agg cs).cells = cs := rfl
  rw [hc] at h
  refine .agg ys cs (by rw [h.1]; simp) (fun v hv => ?_) fun j a v ha hv => (h.2 j a v ha (by simpa using hv)).2
  obtain ⟨j, hj, rfl⟩ := Array.mem_iff_getElem.1 hv
  have hl : j < ys.length := by have := h.1; simp at this; omega
  obtain ⟨h1, h2⟩ := h.2 j ys[j] cs[j] (List.getElem?_eq_getElem hl) (by simp [hj])
  exact h2.oneCell h1
set_option maxRecDepth 100000 in
theorem contract (H : Type) (enc : TypeId × Value → H) (W : World) (base : Nat) (args : Array Value) (ds gs : List (DataW H)) (before : List MemPlace)
    (hval : ∀ (j : Nat) t v, Tryz.f4.params[j]? = some t → args[j]? = some v → Value.okWide Tryz.prog W .any base t v)
    (hW : DataW.Whole enc Tryz.prog Tryz.f4.params.toList Rows.traceRegionsSpec.vars false W args.toList ds gs before) (hk : Rows.uptoSmall H (ds ++ gs) = true)
    (hL : laidMetH Tryz.prog laidL W) (hS : W.ShapedOpen Tryz.prog) :
    Calls Tryz.prog 4 args W fun e W' => ∃ v, e = .returned v ∧ Rows.traceRegionsSpec.post enc Tryz.prog Tryz.f4 false true false false W args v W' := by
  have hW' := hW
  obtain ⟨p, q, hA0, hV, rfl, hfz, hnd⟩ := hW
  have hA : DataW.TrodAll enc Tryz.prog W 0 (fun _ => true) true Tryz.f4.params.toList args.toList ds p := hA0
  rw [Tryz.params4] at hA hval
  obtain ⟨v0, vs0, d0, ds0, p0, q0, hargs0, rfl, rfl, h0, r0⟩ := trodAll_cons hA
  obtain ⟨v1, vs1, d1, ds1, p1, q1, hargs1, rfl, rfl, h1, r1⟩ := trodAll_cons r0
  obtain ⟨rfl, rfl, rfl⟩ := trodAll_nil r1
  obtain rfl : args = #[v0, v1] := by cases args; simp_all
  obtain ⟨rfl, rfl⟩ := trodVars_none hV
  have hk2 := of_decide_eq_true hk
  simp only [List.append_nil, Rows.uptoBulkAll] at hk2
  obtain ⟨c0, rfl, _⟩ := okWide_struct Tryz.underlying40 (hval 0 40 v0 rfl rfl)
  obtain ⟨c1, rfl, _⟩ := okWide_struct Tryz.underlying35 (hval 1 35 v1 rfl rfl)
  obtain ⟨x0, i0, x0r⟩ := Reads.arg (rd_gNest (enc := enc) (w := W) (base := 0) (spare := fun _ => true) (held := true)) h0
  obtain ⟨x1, i1, x1r⟩ := Reads.arg (rd_gStmt (enc := enc) (w := W) (base := 0) (spare := fun _ => true) (held := true)) h1
  refine (law_callsP (bodied_enters (by kernel_rfl)) (P_law33_TraceRegions x0 x1 true (s_lawR x0 x1 (by omega) (by omega))) (W := W) rfl (gls_ok hL) (gv_ok hS) fun j t v ht hv => ?_).mono fun e W' ⟨he, hb⟩ => ⟨_, he, post_true lawOk rfl hW' rfl hb⟩
  match j with
  | 0 => cases ht; cases hv; exact relAgg x0r
  | 1 => cases ht; cases hv; exact relAgg x1r
  | j + 2 => cases ht
def wArgs : Array Value := #[.agg #[.slice none 0 0, .slice none 0 0], .agg #[.int .i64 0, .string ⟨#[]⟩, .int .i64 0, .int .i64 0, .int .i64 0, .slice none 0 0,
  .int .i64 0, .string ⟨#[]⟩, .int .i64 0, .int .i64 0, .int .i64 0, .int .i64 0, .int .i64 0, .int .i64 0, .int .i64 0, .int .i64 0, .slice none 0 0, .slice none 0 0, .slice none 0 0, .slice none 0 0]]
set_option maxRecDepth 100000 in
theorem witness (os : Os) (H : Type) (enc : TypeId × Value → H) : ∃ (w : World) (tape : Tape) (i : Input), w.os = os ∧ (w.forCall tape i).Shaped Tryz.checked.prog ∧ i.vars = [] ∧ Input.okWide Tryz.checked.prog (w.forCall tape i) .any w.heap.size 4 i ∧
      (Rows.OpenSpec.upto Rows.traceRegionsSpec).preRow enc Tryz.checked.prog Tryz.f4 Rows.traceRegionsUptoRow.domain false Rows.traceRegionsUptoRow.laid (w.forCall tape i).memory i.args ∧ ({} : Assume).holds Tryz.checked.prog (lone (Frame.enter Tryz.checked.prog 4 i.args .normal) [] (w.forCall tape i)) := by
  have hx : ∃ x, DataW.whole enc Tryz.prog ((World.laidAll Tryz.prog os laidL).forCall (fun _ _ => 0) ⟨#[], wArgs, []⟩).memory Tryz.f4.params.toList Rows.traceRegionsSpec.vars false wArgs.toList 8 = some x ∧ Rows.uptoSmall H (x.1 ++ x.2.1) = true :=
    ⟨([.agg [.nil, .nil], .agg [.lit (.int .i64 0), .lit (.string []), .lit (.int .i64 0), .lit (.int .i64 0), .lit (.int .i64 0), .nil,
      .agg [.lit (.int .i64 0), .lit (.string []), .agg [.lit (.int .i64 0), .lit (.int .i64 0)], .agg [.lit (.int .i64 0), .lit (.int .i64 0), .lit (.int .i64 0), .lit (.int .i64 0), .lit (.int .i64 0)], .agg [.lit (.int .i64 0), .nil], .nil, .nil], .nil]], [], []), by kernel_rfl, by kernel_rfl⟩
  obtain ⟨x, hx, hsm⟩ := hx
  have hl : laidMetH Tryz.prog laidL ((World.laidAll Tryz.prog os laidL).forCall (fun _ _ => 0) ⟨#[], wArgs, []⟩).memory := by
    rw [MakeChecks.laidMetH_plain _ _ _ (by kernel_rfl)]
    exact laidMet_laidAll _ (by kernel_rfl) (by kernel_rfl)
  have hp : (Rows.OpenSpec.upto Rows.traceRegionsSpec).preRow enc Tryz.prog Tryz.f4 Rows.traceRegionsUptoRow.domain false laidL ((World.laidAll Tryz.prog os laidL).forCall (fun _ _ => 0) ⟨#[], wArgs, []⟩).memory wArgs :=
    OpenSpec.preRow_of_cond 8 hx (by kernel_rfl) (fun k hk => by cases hk; exact hsm) (by kernel_rfl) hl
  have hok : Input.okWideB Tryz.prog ((World.laidAll Tryz.prog os laidL).forCall (fun _ _ => 0) ⟨#[], wArgs, []⟩) 4 ⟨#[], wArgs, []⟩ = true := by kernel_rfl
  exact ⟨World.laidAll Tryz.prog os laidL, fun _ _ => 0, ⟨#[], wArgs, []⟩, World.laidAll_os _ _ _, World.shaped_of_ZipB (by kernel_rfl) (by kernel_rfl), (Input.okWide_of_okWideB (base := 0) hok).1, (Input.okWide_of_okWideB hok).2, hp, by
    simp only [Assume.holds]
    exact ⟨by simp, by simp, fun _ => Modest.zero, by simp, by simp⟩⟩
set_option maxRecDepth 100000 in
theorem lifted (os : Os) (started : os.Started) (H : Type) (enc : TypeId × Value → H) (F : Stop.Interp) :
    ReturnsInHanded {} Tryz.checked os 4 .any ((Rows.OpenSpec.upto Rows.traceRegionsSpec).preRow enc Tryz.prog Tryz.f4 Rows.traceRegionsUptoRow.domain false Rows.traceRegionsUptoRow.laid) (((Rows.OpenSpec.upto Rows.traceRegionsSpec).at F).post enc Tryz.prog Tryz.f4 false true false false) := by
  refine returnsInHanded_of_row (C := Tryz.checked) (s := Rows.OpenSpec.upto Rows.traceRegionsSpec) own started (by kernel_rfl) Tryz.func4 (witness os H enc) ?_
  intro W base args ds gs before hval hW _ hcond _ hL hS _
  exact contract H enc W base args ds gs before hval hW (hcond _ rfl) hL hS
theorem row_holds : Rows.TraceRegionsUptoSaid :=
  OpenClaim.holds_of_cond 4 Tryz.f4 rfl rfl rfl rfl rfl rfl rfl ⟨rfl, rfl, rfl, rfl, rfl⟩ rfl rfl rfl rfl rfl (by kernel_rfl) Tryz.func4 (by kernel_rfl)
    (of_decide_eq_true (by kernel_rfl)) (by unfold Func.isWrapper; first | (rw [if_pos (by decide +kernel)]; kernel_rfl) | (rw [if_neg (by decide +kernel)]; exact ⟨rfl, rfl⟩))
    (fun os started H enc _ F => by rw [OpenClaim.pre_eq_preRow]; exact lifted os started H enc F)
theorem proved : Rows.TraceRegionsUptoCardSaid :=
  Claim7.holds_tied_plain_at .later [] [.listed, .data] true (true, "eceefd263df23f057d8e98bd4b294fa95604b859aa6ba0c8e008eb088ab948e5") false row_holds (fun _ h => by cases h) (by kernel_rfl) (fun _ h => by cases h) traceRegionsUpto_row_tie rfl ⟨rfl, rfl⟩ (by kernel_rfl) rfl
    (fun f fn hf hfn => by
      obtain rfl : f = 4 := Option.some.inj ((show Tryz.prog.funcNamed "brocade/brocadelaw33.TraceRegions" = some 4 by kernel_rfl).symm.trans hf) |>.symm
      obtain rfl : fn = Tryz.f4 := (Option.some.inj (Tryz.func4.symm.trans hfn)).symm
      exact ⟨by kernel_rfl, fun j t ht => by
        rw [Tryz.params4] at ht
        have hm : t ∈ [40, 35] := by simpa using Array.mem_of_getElem? ht
        have hall : ([40, 35].all fun u => !Tryz.prog.wantsStandIn u) = true := by kernel_rfl
        exact (show Tryz.prog.wantsStandIn t = false by simpa using List.all_eq_true.1 hall t hm)⟩)
    (by kernel_rfl)
#print axioms proved
end Go.Proofs.YtfaenlhmhlabeaaGreatDoor
end
