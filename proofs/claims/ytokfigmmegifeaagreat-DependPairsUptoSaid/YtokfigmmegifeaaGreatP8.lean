/- Proved here: for every input of bulk at most 1048576 the law DependPairs returns true, and its argument reads afterwards as it read before. Condition: the bound on the bulk of what is read (the statement's own). -/
import Derived.Test.YtokfigmmegifeaaGreatP7
import Derived.StillTailTactics
import Derived.WalkKit
section
namespace Go.Proofs.YtokfigmmegifeaaGreat
open Go HY Go.RowKit Go.Lib Go.Sort Go.Proofs
set_option linter.unusedVariables false
theorem or23a (a b : Int) (ha : a ≠ 0) (blk : Nat) (W : World) (h0 : W.cell? ⟨blk, 0, none⟩ = some (.int .i64 a)) (h1 : W.cell? ⟨blk, 1, none⟩ = some (.int .i64 b)) :
  Calls Tryz.prog 23 #[.slice (some ⟨blk, 0, none⟩) 2 2] W fun e w' => e = .returned (.int .i64 a) ∧ w' = W := by
 go_enter Tryz.func23, Tryz.ntmps23
 go_wp2
 refine wp_loop_rounds 3 ?_
 rw [rounds_succ]
 go_wp2
 go_ret
 exact ⟨rfl, rfl⟩
theorem or23b (b : Int) (blk : Nat) (W : World) (h0 : W.cell? ⟨blk, 0, none⟩ = some (.int .i64 0)) (h1 : W.cell? ⟨blk, 1, none⟩ = some (.int .i64 b)) :
  Calls Tryz.prog 23 #[.slice (some ⟨blk, 0, none⟩) 2 2] W fun e w' => e = .returned (.int .i64 b) ∧ w' = W := by
 by_cases hb : b = 0
 ·subst hb
  go_enter Tryz.func23, Tryz.ntmps23
  go_wp2
  refine wp_loop_rounds 3 ?_
  rw [rounds_succ]
  go_wp2
  rw [rounds_succ]
  go_wp2
  rw [rounds_succ]
  go_wp2
  go_ret
  exact ⟨rfl, rfl⟩
 ·go_enter Tryz.func23, Tryz.ntmps23
  go_wp2
  refine wp_loop_rounds 3 ?_
  rw [rounds_succ]
  go_wp2
  rw [rounds_succ]
  go_wp2
  go_ret
  exact ⟨rfl, rfl⟩
def cf2 (x y : QA) : Int := if Lib.compareInt x.f_0 y.f_0 ≠ 0 then Lib.compareInt x.f_0 y.f_0 else Lib.compareInt x.f_1 y.f_1
set_option maxRecDepth 100000 in
set_option maxHeartbeats 1000000 in
theorem cl22 (x y : QA) (W : World) : Calls Tryz.prog 22 #[.agg #[.int .i64 x.f_0, .int .i64 x.f_1], .agg #[.int .i64 y.f_0, .int .i64 y.f_1]] W fun e w' => e = .returned (.int .i64 (cf2 x y)) ∧ ∃ q os', w' = grow (W.drewN q) os' := by
 have hcon := fun a b W' => Tryz.cmp_Compare_int a b W'
 go_enter Tryz.func22, Tryz.ntmps22
 go_wp2
 generalize hW : (W.alloc (Obj.cells #[Value.int IntKind.i64 x.f_0, Value.int IntKind.i64 x.f_1] 54)).alloc (Obj.cells #[Value.int IntKind.i64 y.f_0, Value.int IntKind.i64 y.f_1] 54) = W1
 have h1 : W1.cell? ⟨W.heap.size, 0, none⟩ = some (.int .i64 x.f_0) := by subst hW; go_simp
 have h2 : W1.cell? ⟨W.heap.size, 1, none⟩ = some (.int .i64 x.f_1) := by subst hW; go_simp
 have h3 : W1.cell? ⟨W.heap.size + 1, 0, none⟩ = some (.int .i64 y.f_0) := by subst hW; go_simp
 have h4 : W1.cell? ⟨W.heap.size + 1, 1, none⟩ = some (.int .i64 y.f_1) := by subst hW; go_simp
 refine wp_region_still_tail 10 mixed (by kernel_rfl) ?_
 simp only [List.take_succ_cons, List.take_zero, List.drop_succ_cons, List.drop_zero]
 generalize hW2 : ({ heap := W1.heap, tape := W1.tape, drawn := W1.drawn + 1, os := W1.os, output := W1.output } : World) = W2
 have k1 : W2.cell? ⟨W.heap.size, 0, none⟩ = some (.int .i64 x.f_0) := by subst hW2; exact h1
 have k2 : W2.cell? ⟨W.heap.size, 1, none⟩ = some (.int .i64 x.f_1) := by subst hW2; exact h2
 have k3 : W2.cell? ⟨W.heap.size + 1, 0, none⟩ = some (.int .i64 y.f_0) := by subst hW2; exact h3
 have k4 : W2.cell? ⟨W.heap.size + 1, 1, none⟩ = some (.int .i64 y.f_1) := by subst hW2; exact h4
 have hgr : ∃ q os', W2 = grow (W.drewN q) os' := by
  subst hW2; subst hW
  exact ⟨1, _, by rw [alloc_eq_grow, alloc_eq_grow, grow_grow]; rfl⟩
 clear hW hW2 h1 h2 h3 h4
 still_step
 still_step
 still_step
 still_step
 still_call (hcon _ _ _)
 still_step
 still_step
 still_step
 still_step
 still_call (hcon _ _ _)
 refine wpStill_nil ?_
 have hor : ∀ W3, W3 = W2.alloc (Obj.cells #[Value.int IntKind.i64 (compareInt x.f_0 y.f_0), Value.int IntKind.i64 (compareInt x.f_1 y.f_1)] 3) → Calls Tryz.prog 23 #[.slice (some ⟨W2.heap.size, 0, none⟩) 2 2] W3 fun e w' => e = .returned (.int .i64 (cf2 x y)) ∧ w' = W3 := fun W3 e3 => by
  have c0 : W3.cell? ⟨W2.heap.size, 0, none⟩ = some (.int .i64 (compareInt x.f_0 y.f_0)) := by subst e3; go_simp
  have c1 : W3.cell? ⟨W2.heap.size, 1, none⟩ = some (.int .i64 (compareInt x.f_1 y.f_1)) := by subst e3; go_simp
  unfold cf2
  split
  ·rename_i hne
   exact or23a _ _ hne _ _ c0 c1
  ·rename_i he
   rw [Classical.not_not.1 he] at c0
   exact or23b _ _ _ c0 c1
 generalize compareInt x.f_0 y.f_0 = a at *
 generalize compareInt x.f_1 y.f_1 = b at *
 go_wp2_with (go_at_call 23; refine (hor _ rfl).mono ?_; rintro e w' ⟨rfl, rfl⟩)
 go_ret
 obtain ⟨q, os', hg⟩ := hgr
 exact ⟨rfl, q, _, by rw [hg, alloc_eq_grow, grow_grow]⟩
theorem lt2 (x y : QA) : ltOf cf2 x y = decide (x.f_0 < y.f_0 ∨ x.f_0 = y.f_0 ∧ x.f_1 < y.f_1) := by
 unfold ltOf cf2 Lib.compareInt
 by_cases a : x.f_0 < y.f_0 <;> by_cases b : y.f_0 < x.f_0 <;> by_cases c : x.f_1 < y.f_1 <;> by_cases d : y.f_1 < x.f_1 <;> simp [a, b, c, d] <;> omega
theorem swo2 : SWO (ltOf cf2) where
 irrefl x := by rw [lt2]; simp
 trans x y z h1 h2 := by rw [lt2] at *; simp at *; omega
 ntrans x y z h1 h2 := by rw [lt2] at *; simp at *; omega
theorem le2_eq (x y : QA) : (!(ltOf cf2) y x) = le2 x y := by
 rw [lt2, le2]
 rw [← decide_not]
 apply decide_eq_decide.2
 omega
theorem ext2 {x y : QA} (h0 : x.f_0 = y.f_0) (h1 : x.f_1 = y.f_1) : x = y := by
 cases x; cases y; simp at h0 h1; subst h0; subst h1; rfl
theorem total2 (x y : QA) (h1 : ltOf cf2 x y = false) (h2 : ltOf cf2 y x = false) : x = y := by
 rw [lt2] at h1 h2
 simp at h1 h2
 exact ext2 (by omega) (by omega)
theorem wfS_ok : WF.Ok Tryz.prog gls wfS := fun f hs args hp nx K h => by
 unfold wfS at h
 split at h
 ·rename_i hf
  split at h
  ·rename_i id ver len
   obtain ⟨l, ⟨h1, h2, h3⟩, hK⟩ := h
   have hf' : f = 21 := Nat.eq_of_beq_eq_true hf
   subst hf'
   intro m H B H0 rest w vs hh hl hargs hrest
   obtain ⟨v0, v1, rfl⟩ : ∃ v0 v1, vs = #[v0, v1] := by
    rcases vs with ⟨_ | ⟨a, _ | ⟨b, _ | ⟨c, r⟩⟩⟩⟩ <;> simp at hl
    exact ⟨a, b, rfl⟩
   have a0 := hargs 0 _ v0 rfl rfl
   have a1 := hargs 1 _ v1 rfl rfl
   obtain ⟨oa, cap, rfl, _, hlc, _, _, hloc⟩ := a0.ow_inv
   obtain ⟨us, rfl, hu, _⟩ := a1.fn_inv
   have hu0 : us = #[] := by
    have : us.size = 0 := by simpa using hu.symm
    exact Array.eq_empty_of_size_eq_zero this
   subst hu0
   have hn : id < nx := by
    rcases Nat.lt_or_ge id nx with h | h
    ·exact h
    ·rw [hh.fresh id h] at h1; cases h1
   have hEn : NA Tryz.prog 21 := NE Tryz.func21 (by kernel_rfl) rfl
   have hloc := hloc (m id) (Dn h1 rfl)
   have fin : ∀ (w' : World) (e : Ending), e = .returned (.tuple #[]) → (Qv B w w' ∧ RelH m H B H0 gls (updF (lkb hp) id (some (.own ver 2 ((srt l).map QD)))) nx w') → ∃ v m' H' r hp' nx', K r hp' nx' ∧ e = .returned v ∧ Qv B w w' ∧ RelH m' H' B H0 gls (lkb hp') nx' w' ∧ RV H' (Qq (lkb hp') m') r v ∧ ∀ p ∈ rest, RV H' (Qq (lkb hp') m') p.1 p.2 := fun w' e he ⟨hb, hr⟩ => by
    refine ⟨_, m, H, _, _, _, hK, he, hb, by rw [Zo]; exact hr, .imm _ _ (.tup _ _ rfl (fun j c v hj => by simp at hj)), fun p hp2 => ?_⟩
    rw [Zo, SQ h1]
    exact hrest p hp2
   rcases hloc with ⟨hz, hc⟩ | ⟨hpos, ha, hsz⟩
   ·have hle : l = [] := by
     cases l with
     | nil => rfl
     | cons _ _ => simp at h2; omega
    subst hle
    simp at h2
    subst h2
    refine .inl ⟨hEn, (Tryz.slices_SortFunc_none (α := QA) oa cap _ w).mono fun e w' ⟨he, hw⟩ => ?_⟩
    subst hw
    refine fin _ _ he ⟨.refl _ _, ?_⟩
    have : updF (lkb hp) id (some (.own ver 2 ((srt []).map QD))) = lkb hp := by
     funext k
     by_cases hk : k = id
     ·subst hk; rw [QE, h1]; simp [srt]
     ·rw [QS _ _ hk]
    rw [this]; exact hh
   ·subst ha
    subst h2
    have hH := holds2 hh h1 hpos
    have hcmp : CmpLays Tryz.prog 22 #[] enc2 2 cf2 (m id).g (m id).base l.toArray.size w := fun _ _ _ _ x y => cl22 x y _
    have hlt := (hh.sepR id _ h1 hpos).2.1
    have eg : ∀ args w, (callFunc 22 args).run Tryz.prog w = .ok (.enter 22 args) w := NE Tryz.func22 (by kernel_rfl) rfl
    have hs := Tryz.slices_SortFunc_total 2 Tryz.isAgg54 Tryz.sizeOf54 enc2 (fun _ => rfl) (fun x v hv => by simp [enc2] at hv; rcases hv with rfl | rfl <;> rfl) cf2 swo2 22 #[] (m id).g (m id).base cap l.toArray w eg hcmp hH hlt (by simpa using h3) total2
    refine .inl ⟨hEn, hs.mono fun e w' ⟨he, n, os, hw⟩ => ?_⟩
    subst hw
    have hsr : (l.toArray.toList.mergeSort fun x y => !(ltOf cf2) y x) = srt l := by
     unfold srt; congr 1; funext x y; exact le2_eq x y
    rw [hsr]
    exact fin _ _ he (sorted2 hh h1 hn hpos (by simp [srt, List.length_mergeSort]) n os)
  ·cases h
 ·exact CS f hs args hp nx K h
theorem S7 (x0 : Qb) (x1 : List Qz) (r : List QA) (h : Dd x0 x1 = some r) : PU 10 [Qp x0, GN x1] (UR r) := RY wfS_ok x0 x1 r h
end Go.Proofs.YtokfigmmegifeaaGreat
end
noncomputable section
namespace Go.Proofs.YtokfigmmegifeaaGreat
open Go HY
set_option maxRecDepth 1000000
set_option linter.unusedVariables false
def XO (s : Unit) (u : ((List QA) × (List QA))) (o : Unit ⊕ Bool) : List Alt := [⟨fun (x : Unit) => (Sum.inl x : Unit ⊕ Bool) = o, .exit 0, fun x => [.undef], fun x => []⟩, ⟨fun (x : Bool) => (Sum.inr x : Unit ⊕ Bool) = o, .ret, fun x => [.bool x], fun x => []⟩]
def Zg (x5 : List QA) (x6 : List QA) (x7 : Int) : Option (Unit ⊕ Bool) :=
 some (List.length x5 : Int) >>= fun v0 =>
 if x7 < v0 then
 ix x5 x7 >>= fun v1 =>
 ix x6 x7 >>= fun v2 =>
 if !(v1.f_0 == v2.f_0 && (v1.f_1 == v2.f_1 && true)) then
 some (.inr false)
 else
 Zg x5 x6 (wr (x7 + 1))
 else
 some (.inl ())
 partial_fixpoint
theorem MK (x5 : List QA) (x6 : List QA) (x7 : Int) (o : Unit ⊕ Bool) (h : Zg x5 x6 x7 = some o) : LO 4 10 47 [5, 6, 7] [.sl 2 (List.map QD x5), .sl 2 (List.map QD x6), ii x7] [] [2] (XO () (x5, x6) o) :=
 Zg.partial_correctness x5 x6 (fun x7 o => LO 4 10 47 [5, 6, 7] [.sl 2 (List.map QD x5), .sl 2 (List.map QD x6), ii x7] [] [2] (XO () (x5, x6) o))
 (fun Zg Q3a x7 o h  =>
 Lp2 (hs := [(33, .n eI 33 none), (34, .split), (39, .e QD), (43, .e QD), (45, .split)]) (kb := []) (kbx := []) ((kN _ (mLen (sh := QD) x5) fun v0 => (kIfD (p := x7 < v0) (kIx (enc := QD) (l := x5) (k := x7) fun v1 => (kIx (enc := QD) (l := x6) (k := x7) fun v2 => (kIf (c := !(v1.f_0 == v2.f_0 && (v1.f_1 == v2.f_1 && true))) (kX (alts := XO () (x5, x6)) (.inr false) (.next (.here _ rfl (.refl _) (.refl _))))
 (kM0 (alts := XO () (x5, x6)) (Q3a (wr (x7 + 1)))))))
 (kX (alts := XO () (x5, x6)) (.inl ()) (.here _ rfl (.refl _) (.refl _))))) h)) x7 o h
def C3 (x0 : Qb) : Option Bool :=
 Np x0 >>= fun v0 => if v0 then
 Uc x0 >>= fun v1 =>
 if v1.snd != 0 then
 G3 >>= fun v2 =>
 some v2
 else
 Dd x0 v1.fst >>= fun v3 =>
 Wb x0 v1.fst >>= fun v4 =>
 some (List.length v3 : Int) >>= fun v5 =>
 some (List.length v4 : Int) >>= fun v6 =>
 if v5 != v6 then
 some false
 else
 some (v3, v4) >>= fun v7 =>
 Zg v3 v4 0 >>= fun v8 => (match v8 with
 | (.inl v9) =>
 G3 >>= fun v10 =>
 some v10
 | (.inr v11) =>
 some v11)
 else
 G3 >>= fun v12 =>
 some v12
theorem Iz (x0 : Qb) (r : Bool) (h : C3 x0 = some r) : PU 4 [Qp x0] (eB r) :=
 Pu2 (hs := [(9, .cb), (11, .c eB), (14, .c YV), (18, .split), (19, .c eB), (22, .c UR), (25, .c UR), (27, .n eI 27 none), (29, .n eI 29 none), (30, .split), (46, .c eB), (3000011, .l [] [5, 6, 7] [] [2] [] (XO ()))]) ((kCb (OJ x0) (kC (sh := YV) (NT x0) fun v1 => (kIf (c := v1.snd != 0) (kC (sh := eB) (NM) fun v2 => (kEr (enc := eB) v2))
 (kC (sh := UR) (S7 x0 v1.fst) fun v3 => (kC (sh := UR) (AK x0 v1.fst) fun v4 => (kN _ (mLen (sh := QD) v3) fun v5 => (kN _ (mLen (sh := QD) v4) fun v6 => (kIf (c := v5 != v6) (kEr (enc := eB) false)
 (kL2 (v3, v4) (hL := (MK v3 v4 0)) (hA := fun v7 v9 => (kC (sh := eB) (NM) fun v10 => (kEr (enc := eB) v10)))
 (hB := fun v7 v11 => (kEr (enc := eB) v11))))))))))
 (kC (sh := eB) (NM) fun v12 => (kEr (enc := eB) v12))) h)
end Go.Proofs.YtokfigmmegifeaaGreat
end
section
namespace Go.Proofs.YtokfigmmegifeaaGreat
open Go HY
set_option linter.unusedVariables false
def aD (n : Qb) (x : Qa) : QI := ⟨ZR n (.mk x), XS n (.mk x), UW (.mk x)⟩
def aR (n : Qb) (x : Qa) : QM := ⟨ZR n (.mk x), XS n (.mk x), UW (.mk x)⟩
theorem Le (n : Qb) (a : Qa) (hn : okN n) (ha : QB a ≤ 1048576) : GL n a = some (aD n a) := by
 have wa := Nd n hn (.mk a) ha
 have ra := NS n hn (.mk a) ha
 rw [Q7.f_mk] at wa ra
 unfold GL aD
 simp only [bS, wa, ra, Ij]
theorem LW (n : Qb) (a : Qa) (hn : okN n) (ha : QB a ≤ 1048576) (ca : cd (.mk a) ≤ 40) : DF n a = some (aR n a) := by
 have wa := Nb n hn (.mk a) ha
 have ra := NR n hn (.mk a) ha
 rw [Q7.f_mk] at wa ra
 unfold DF aR
 simp only [bS, wa, ra, MC _ ca]
theorem bindId {α : Type} (x : Option α) : (x >>= fun v => some v) = x := by cases x <;> rfl
theorem Ew (n : Qb) (a b : Qa) (hn : okN n) (ha : QB a ≤ 1048576) (hb : QB b ≤ 1048576) : YP (aD n a) (aD n b) = some (LG n a b) := by
 have h := Ev n a b hn ha hb
 unfold CJ at h
 simpa only [bS, Le n a hn ha, Le n b hn hb, bindId] using h
theorem AP (n : Qb) (a b : Qa) (hn : okN n) (ha : QB a ≤ 1048576) (hb : QB b ≤ 1048576) (ca : cd (.mk a) ≤ 40) (cb : cd (.mk b) ≤ 40) : U2 (aR n a) (aR n b) = some (LG n a b) := by
 have h := Ry n a b hn ha hb ca cb
 unfold Wh at h
 simpa only [bS, LW n a hn ha ca, LW n b hn hb cb, bindId] using h
theorem PG (n : Qb) (l : List Qz) (hn : okN n) (hl : l.length ≤ 2048) (h : ∀ x ∈ l, QB x.fOp ≤ 1048576) : Ws n l = some (l.map fun x => aD n x.fOp) := by
 have := K5 (F := fun a i => YU n a l l.length i) (l := l) (fun a t => a.length + t.length ≤ 2048) (fun a t => a ++ t.map fun x => aD n x.fOp) (by
  intro a _
  rw [YU]; simp) (by
  intro i y t a h0 h1 hm hix hI ih
  simp only [List.length_cons] at hI
  rw [YU, if_pos h1, hix]
  simp only [bS, Le n _ hn (h y hm), QH h0 h1 (by omega)]
  rw [if_pos (by omega), ih _ (by simp; omega)]
  simp) [] (by simpa using hl)
 unfold Ws
 simpa [bS] using this
theorem OQ (n : Qb) (l : List Qz) (hn : okN n) (hl : l.length ≤ 2048) (h : ∀ x ∈ l, cd (.mk x.fOp) ≤ 40 ∧ QB x.fOp ≤ 1048576) : Nq n l = some (l.map fun x => aR n x.fOp) := by
 have := K5 (F := fun a i => KF l n a i) (l := l) (fun a t => a.length + t.length ≤ 2048) (fun a t => a ++ t.map fun x => aR n x.fOp) (by
  intro a _
  rw [KF]; simp [bS]) (by
  intro i y t a h0 h1 hm hix hI ih
  simp only [List.length_cons] at hI
  rw [KF, bS, if_pos h1, hix]
  simp only [bS, LW n _ hn (h y hm).2 (h y hm).1, QH h0 h1 (by omega)]
  rw [if_pos (by omega), ih _ (by simp; omega)]
  simp) [] (by simpa using hl)
 unfold Nq
 simpa [bS] using this
section
variable (C : Int → Int → Int) (N : Int) (hN : N ≤ 2048)
def In2 (x : QA) : Prop := 0 ≤ x.f_0 ∧ x.f_0 < x.f_1 ∧ x.f_1 < N ∧ C x.f_0 x.f_1 ≠ 0
def lt2P (x y : QA) : Prop := x.f_0 < y.f_0 ∨ x.f_0 = y.f_0 ∧ x.f_1 < y.f_1
theorem Q03 {l : List QA} {v : QA} (h : l.Nodup) (hv : v ∉ l) : (l ++ [v]).Nodup := List.pairwise_append.2 ⟨h, by simp, fun a ha b hb e => by simp at hb; subst hb; subst e; exact hv ha⟩
 include hN
theorem dP9 (acc : List QI) (hq : ∀ i j : Int, 0 ≤ i → i < N → 0 ≤ j → j < N → ∃ a b, ix acc i = some a ∧ ix acc j = some b ∧ YP a b = some (C i j)) (j : Nat) (hj : (j : Int) < N) (o : List QA) (ho : o.Nodup) (hb : ∀ x ∈ o, x.f_1 < j) (hl : o.length ≤ 4294967296) :
  wp (Xk acc o j j 0) (fun r => r.Nodup ∧ r.length ≤ o.length + j ∧ ∀ x, x ∈ r ↔ x ∈ o ∨ (x.f_1 = j ∧ 0 ≤ x.f_0 ∧ x.f_0 < j ∧ C x.f_0 j ≠ 0)) := by
 refine Gv (F := fun a i => Xk acc a j j i) j (fun i r => r.Nodup ∧ (r.length : Int) ≤ o.length + i ∧ ∀ x, x ∈ r ↔ x ∈ o ∨ (x.f_1 = j ∧ 0 ≤ x.f_0 ∧ x.f_0 < i ∧ C x.f_0 j ≠ 0)) (fun r ⟨h1, h2, h3⟩ => ?_) (fun i r h0 h1 ⟨i1, i2, i3⟩ ih => ?_) 0 o (Int.le_refl _) (by omega) ⟨ho, by omega, fun x => ⟨.inl, fun h => h.elim id fun h => by omega⟩⟩
 ·rw [Xk, if_neg (by omega)]
  exact ⟨r, rfl, h1, by omega, h3⟩
 ·obtain ⟨a, b, e1, e2, e3⟩ := hq i j h0 (by omega) (by omega) hj
  rw [Xk, if_pos h1]
  simp only [bS, e1, e2, e3, QH h0 h1 (by omega)]
  by_cases hc : C i j = 0
  ·rw [if_neg (by simpa using hc), bS]
   refine ih r ⟨i1, by omega, fun x => ?_⟩
   rw [i3]
   constructor
   ·rintro (h | ⟨h1, h2, h3, h4⟩)
    ·exact .inl h
    ·exact .inr ⟨h1, h2, by omega, h4⟩
   ·rintro (h | ⟨h1, h2, h3, h4⟩)
    ·exact .inl h
    ·refine .inr ⟨h1, h2, ?_, h4⟩
     have : x.f_0 ≠ i := fun e => h4 (e ▸ hc)
     omega
  ·rw [if_pos (by simpa using hc), if_pos (by omega), bS]
   refine ih _ ⟨Q03 i1 fun hm => ?_, by simp; omega, fun x => ?_⟩
   ·rw [i3] at hm
    rcases hm with h | h
    ·have := hb _ h; simp at this
    ·simp at h
   ·rw [List.mem_append, i3, List.mem_singleton]
    constructor
    ·rintro ((h | ⟨h1, h2, h3, h4⟩) | rfl)
     ·exact .inl h
     ·exact .inr ⟨h1, h2, by omega, h4⟩
     ·exact .inr ⟨rfl, h0, by simp; omega, hc⟩
    ·rintro (h | ⟨h1, h2, h3, h4⟩)
     ·exact .inl (.inl h)
     ·by_cases e : x.f_0 = i
      ·exact .inr (ext2 e h1)
      ·exact .inl (.inr ⟨h1, h2, by omega, h4⟩)
theorem dP6 (acc : List QI) (hN0 : N = acc.length) (hq : ∀ i j : Int, 0 ≤ i → i < N → 0 ≤ j → j < N → ∃ a b, ix acc i = some a ∧ ix acc j = some b ∧ YP a b = some (C i j)) :
  wp (Xj acc [] N 0) (fun r => r.Nodup ∧ r.length ≤ 4294967296 ∧ ∀ x, x ∈ r ↔ In2 C N x) := by
 subst hN0
 refine Gv (F := fun a i => Xj acc a acc.length i) acc.length (fun j r => r.Nodup ∧ (r.length : Int) ≤ j * 2048 ∧ ∀ x, x ∈ r ↔ In2 C j x) (fun r ⟨h1, h2, h3⟩ => ?_) (fun j r h0 h1 ⟨i1, i2, i3⟩ ih => ?_) 0 [] (Int.le_refl _) (by omega) ⟨.nil, by simp, fun x => ⟨fun h => by simp at h, fun ⟨h1, h2, h3, _⟩ => by omega⟩⟩
 ·rw [Xj, if_neg (by omega)]
  exact ⟨r, rfl, h1, by omega, h3⟩
 ·rw [Xj, if_pos h1]
  obtain ⟨j', rfl⟩ := Int.eq_ofNat_of_zero_le h0
  simp only [bS, Int.ofNat_eq_natCast]
  obtain ⟨r', e, k1, k2, k3⟩ := dP9 C acc.length hN acc hq j' h1 r i1 (fun x hx => ((i3 x).1 hx).2.2.1) (by omega)
  rw [e, bS, QH h0 h1 (by omega)]
  refine ih r' ⟨k1, by omega, fun x => ?_⟩
  rw [k3, i3]
  unfold In2
  constructor
  ·rintro (⟨a, b, c, d⟩ | ⟨a, b, c, d⟩)
   ·exact ⟨a, b, by omega, d⟩
   ·exact ⟨b, by omega, by omega, by rw [a]; exact d⟩
  ·rintro ⟨a, b, c, d⟩
   by_cases e : x.f_1 = j'
   ·exact .inr ⟨e, a, by omega, by rw [← e]; exact d⟩
   ·exact .inl ⟨a, b, by omega, d⟩
theorem rP9 (l : List Qz) (acc : List QM) (hN0 : N = l.length) (hq : ∀ i j : Int, 0 ≤ i → i < N → 0 ≤ j → j < N → ∃ a b, ix acc i = some a ∧ ix acc j = some b ∧ U2 a b = some (C i j)) (i : Nat) (hi : (i : Int) < N) (o : List QA) (ho : o.Pairwise lt2P) (hb : ∀ x ∈ o, x.f_0 < i) (hl : o.length ≤ 4294967296) :
  wp (Y6 l o acc i (i + 1)) (fun r => r.Pairwise lt2P ∧ r.length ≤ o.length + 2048 ∧ ∀ x, x ∈ r ↔ x ∈ o ∨ (x.f_0 = i ∧ i < x.f_1 ∧ x.f_1 < N ∧ C i x.f_1 ≠ 0)) := by
 refine Gv (F := fun a k => Y6 l a acc i k) l.length (fun k r => (i : Int) < k ∧ r.Pairwise lt2P ∧ (r.length : Int) ≤ o.length + k ∧ ∀ x, x ∈ r ↔ x ∈ o ∨ (x.f_0 = i ∧ i < x.f_1 ∧ x.f_1 < k ∧ C i x.f_1 ≠ 0)) (fun r ⟨h0, h1, h2, h3⟩ => ?_) (fun k r h0 h1 ⟨i0, i1, i2, i3⟩ ih => ?_) (i + 1) o (by omega) (by omega) ⟨by omega, ho, by omega, fun x => ⟨.inl, fun h => h.elim id fun h => by omega⟩⟩
 ·rw [Y6, bS, if_neg (by omega)]
  exact ⟨r, rfl, h1, by omega, fun x => by rw [h3, hN0]⟩
 ·obtain ⟨a, b, e1, e2, e3⟩ := hq i k (by omega) hi h0 (by omega)
  rw [Y6, bS, if_pos h1]
  simp only [bS, e1, e2, e3, QH h0 h1 (by omega)]
  by_cases hc : C i k = 0
  ·rw [if_neg (by simpa using hc), bS]
   refine ih r ⟨by omega, i1, by omega, fun x => ?_⟩
   rw [i3]
   constructor
   ·rintro (h | ⟨h1, h2, h3, h4⟩)
    ·exact .inl h
    ·exact .inr ⟨h1, h2, by omega, h4⟩
   ·rintro (h | ⟨h1, h2, h3, h4⟩)
    ·exact .inl h
    ·refine .inr ⟨h1, h2, ?_, h4⟩
     have : x.f_1 ≠ k := fun e => h4 (e ▸ hc)
     omega
  ·rw [if_pos (by simpa using hc), if_pos (by omega), bS]
   refine ih _ ⟨by omega, List.pairwise_append.2 ⟨i1, by simp, fun x hx y hy => ?_⟩, by simp; omega, fun x => ?_⟩
   ·simp at hy; subst hy
    rcases (i3 x).1 hx with h | ⟨h1, h2, h3, _⟩
    ·exact .inl (hb x h)
    ·exact .inr ⟨h1, h3⟩
   ·rw [List.mem_append, i3, List.mem_singleton]
    constructor
    ·rintro ((h | ⟨h1, h2, h3, h4⟩) | rfl)
     ·exact .inl h
     ·exact .inr ⟨h1, h2, by omega, h4⟩
     ·exact .inr ⟨rfl, i0, by simp; omega, hc⟩
    ·rintro (h | ⟨h1, h2, h3, h4⟩)
     ·exact .inl (.inl h)
     ·by_cases e : x.f_1 = k
      ·exact .inr (ext2 h1 e)
      ·exact .inl (.inr ⟨h1, h2, by omega, h4⟩)
theorem rP6 (l : List Qz) (acc : List QM) (hN0 : N = l.length) (hq : ∀ i j : Int, 0 ≤ i → i < N → 0 ≤ j → j < N → ∃ a b, ix acc i = some a ∧ ix acc j = some b ∧ U2 a b = some (C i j)) :
  wp (Y5 l [] acc 0) (fun r => r.Pairwise lt2P ∧ ∀ x, x ∈ r ↔ In2 C N x) := by
 subst hN0
 refine Gv (F := fun a i => Y5 l a acc i) l.length (fun i r => r.Pairwise lt2P ∧ (r.length : Int) ≤ i * 2048 ∧ ∀ x, x ∈ r ↔ x.f_0 < i ∧ In2 C l.length x) (fun r ⟨h1, h2, h3⟩ => ?_) (fun i r h0 h1 ⟨i1, i2, i3⟩ ih => ?_) 0 [] (Int.le_refl _) (by omega) ⟨.nil, by simp, fun x => ⟨fun h => by simp at h, fun ⟨h0, h1, h2, h3, _⟩ => by omega⟩⟩
 ·rw [Y5, bS, if_neg (by omega)]
  exact ⟨r, rfl, h1, fun x => by rw [h3]; exact ⟨fun h => h.2, fun h => ⟨by have := h.2.1; have := h.2.2.1; omega, h⟩⟩⟩
 ·rw [Y5, bS, if_pos h1]
  obtain ⟨j', rfl⟩ := Int.eq_ofNat_of_zero_le h0
  simp only [bS, Int.ofNat_eq_natCast, QH h0 h1 (by omega)]
  obtain ⟨r', e, k1, k2, k3⟩ := rP9 C l.length hN l acc rfl hq j' h1 r i1 (fun x hx => ((i3 x).1 hx).1) (by omega)
  rw [e, bS]
  refine ih r' ⟨k1, by omega, fun x => ?_⟩
  rw [k3, i3]
  unfold In2
  constructor
  ·rintro (⟨z, a, b, c, d⟩ | ⟨a, b, c, d⟩)
   ·exact ⟨by omega, a, b, c, d⟩
   ·exact ⟨by omega, by omega, by omega, c, by rw [a]; exact d⟩
  ·rintro ⟨z, a, b, c, d⟩
   by_cases e : x.f_0 = j'
   ·exact .inr ⟨e, by omega, c, by rw [← e]; exact d⟩
   ·exact .inl ⟨by omega, a, b, c, d⟩
end
theorem Pf (x : QA) : ¬ lt2P x x := by unfold lt2P; omega
theorem Q1l {x y : QA} (h : lt2P x y) : ¬ lt2P y x := by unfold lt2P at *; omega
theorem same2 : ∀ (l r : List QA), l.Pairwise lt2P → r.Pairwise lt2P → (∀ x, x ∈ l ↔ x ∈ r) → l = r
 | [], [], _, _, _ => rfl
 | [], y :: r, _, _, h => by have := (h y).2 (by simp); simp at this
 | x :: l, [], _, _, h => by have := (h x).1 (by simp); simp at this
 | x :: l, y :: r, hl, hr, h => by
  rw [List.pairwise_cons] at hl hr
  have e : x = y := by
   rcases List.mem_cons.1 ((h x).1 (by simp)) with e | hx
   ·exact e
   ·rcases List.mem_cons.1 ((h y).2 (by simp)) with e | hy
    ·exact e.symm
    ·exact absurd (hl.1 y hy) (Q1l (hr.1 x hx))
  subst e
  rw [same2 l r hl.2 hr.2 fun z => ?_]
  have hz := h z
  simp only [List.mem_cons] at hz
  constructor
  ·intro hm
   rcases hz.1 (.inr hm) with e | h
   ·subst e; exact absurd (hl.1 z hm) (Pf z)
   ·exact h
  ·intro hm
   rcases hz.2 (.inr hm) with e | h
   ·subst e; exact absurd (hr.1 z hm) (Pf z)
   ·exact h
theorem srt_lt (l : List QA) (h : l.Nodup) : (srt l).Pairwise lt2P := by
 have h1 : (srt l).Pairwise (fun a b => le2 a b = true) := List.pairwise_mergeSort (fun a b c h1 h2 => by simp only [le2, decide_eq_true_eq] at *; omega) (fun a b => by simp only [le2, Bool.or_eq_true, decide_eq_true_eq]; omega) l
 have h2 : (srt l).Nodup := (List.mergeSort_perm l le2).nodup_iff.2 h
 refine (h1.and h2).imp fun {a b} ⟨h1, h2⟩ => ?_
 simp only [le2, decide_eq_true_eq] at h1
 unfold lt2P
 by_cases e0 : a.f_0 = b.f_0
 ·by_cases e1 : a.f_1 = b.f_1
  ·exact absurd (ext2 e0 e1) h2
  ·omega
 ·omega
theorem srt_mem (l : List QA) (x : QA) : x ∈ srt l ↔ x ∈ l := (List.mergeSort_perm l le2).mem_iff
theorem eq_L10 (l : List QA) (hl : l.length ≤ 4294967296) : Zg l l 0 = some (.inl ()) := by
 refine Fo (ZQ (F := fun i => Zg l l i) l.length ?_ (fun i h0 h1 ih => ?_) 0 (Int.le_refl _) (by omega))
 ·rw [Zg, bS, if_neg (by omega)]; exact ⟨_, rfl, rfl⟩
 ·obtain ⟨v, hv⟩ : ∃ v, ix l i = some v := ⟨l[i.toNat]'(by omega), by unfold ix; rw [if_pos h0, List.getElem?_eq_getElem]⟩
  rw [Zg, bS, if_pos h1, hv]
  simp only [bS, beq_self_eq_true, Bool.and_self, Bool.not_true, Bool.false_eq_true, if_false, QH h0 h1 (by omega)]
  exact ih
theorem IH (n : Qb) (h : JZ n ≤ 1048576) : C3 n = some true := by
 have hn := okN.of h
 obtain ⟨b, e1, _⟩ := OZ n h
 obtain ⟨r, e2, hr1, hr2⟩ := NV n h
 unfold C3
 rw [e1]
 simp only [bS, s_alive]
 cases b with
 | false => rfl
 | true =>
  simp only [if_true, e2, bS]
  by_cases he : (r.2 != (0 : Int)) = true
  ·rw [if_pos he]
  ·rw [if_neg he]
   generalize hl : r.1 = l at hr1 hr2 ⊢
   let C : Int → Int → Int := fun i j => match ix l i, ix l j with | some a, some b => LG n a.fOp b.fOp | _, _ => 0
   have hat : ∀ i : Int, 0 ≤ i → i < l.length → ∃ a, ix l i = some a ∧ a ∈ l := fun i h0 h1 => ⟨l[i.toNat]'(by omega), by unfold ix; rw [if_pos h0, List.getElem?_eq_getElem], List.getElem_mem _⟩
   have hmap : ∀ {β : Type} (f : Qz → β) (i : Int) (a : Qz), ix l i = some a → ix (l.map f) i = some (f a) := fun f i a h => by
    unfold ix at h ⊢
    split at h
    ·rename_i h0; rw [if_pos h0, List.getElem?_map, h]; rfl
    ·cases h
   have ed := PG n l hn hr1 fun x hx => (hr2 x hx).2
   have er := OQ n l hn hr1 hr2
   obtain ⟨o, o1, o2, o3, o4⟩ := dP6 C l.length (by omega) (l.map fun x => aD n x.fOp) (by simp) (fun i j i0 i1 j0 j1 => by
    obtain ⟨a, a1, a2⟩ := hat i i0 i1
    obtain ⟨b, b1, b2⟩ := hat j j0 j1
    refine ⟨_, _, hmap _ i a a1, hmap _ j b b1, ?_⟩
    rw [Ew n _ _ hn (hr2 a a2).2 (hr2 b b2).2]
    simp only [C, a1, b1])
   obtain ⟨q, q1, q2, q3⟩ := rP6 C l.length (by omega) l (l.map fun x => aR n x.fOp) rfl (fun i j i0 i1 j0 j1 => by
    obtain ⟨a, a1, a2⟩ := hat i i0 i1
    obtain ⟨b, b1, b2⟩ := hat j j0 j1
    refine ⟨_, _, hmap _ i a a1, hmap _ j b b1, ?_⟩
    rw [AP n _ _ hn (hr2 a a2).2 (hr2 b b2).2 (hr2 a a2).1 (hr2 b b2).1]
    simp only [C, a1, b1])
   have hs : srt o = q := same2 _ _ (srt_lt o o2) q2 fun x => by rw [srt_mem, o4, q3]
   have hd : Dd n l = some q := by
    unfold Dd
    rw [bS, if_neg (by omega), ed, bS, bS, bS, List.length_map, o1, bS, if_pos (by omega), hs]
   have hf : Wb n l = some q := by
    unfold Wb
    rw [bS, if_neg (by omega), er, bS, bS, q1, bS]
   have hql : q.length ≤ 4294967296 := by rw [← hs]; simpa [srt, List.length_mergeSort] using o3
   rw [hd, hf]
   simp only [bS, bne_self_eq_false, Bool.false_eq_true, if_false, eq_L10 q hql]
end Go.Proofs.YtokfigmmegifeaaGreat
end
section
namespace Go.Proofs.YtokfigmmegifeaaGreat
open Go HY Go.RowKit Go.ChangeShapes Go.WideShapes Go.ChangeAt
set_option linter.unusedVariables false
theorem lawOkP : LawOk Tryz.prog Tryz.f4 4 := ⟨by kernel_rfl, by kernel_rfl, by kernel_rfl, by kernel_rfl⟩
set_option maxRecDepth 100000 in
theorem Q0f (H : Type) (enc : TypeId × Value → H) (W : World) (base : Nat) (args : Array Value) (ds gs : List (DataW H)) (before : List MemPlace)
  (hval : ∀ (j : Nat) t v, Tryz.f4.params[j]? = some t → args[j]? = some v → Value.okWide Tryz.prog W .any base t v)
  (hW : DataW.Whole enc Tryz.prog Tryz.f4.params.toList Rows.dependPairsSpec.vars false W args.toList ds gs before) (hk : Rows.uptoSmall H (ds ++ gs) = true) :
  Calls Tryz.prog 4 args W fun e W' => ∃ v, e = .returned v ∧ Rows.dependPairsSpec.post enc Tryz.prog Tryz.f4 false true false false W args v W' := by
 have hW' := hW
 obtain ⟨p, q, hA0, hV, rfl, hfz, hnd⟩ := hW
 have hA : DataW.TrodAll enc Tryz.prog W 0 (fun _ => true) true Tryz.f4.params.toList args.toList ds p := hA0
 rw [Tryz.params4] at hA hval
 obtain ⟨v0, vs0, d0, ds0, p0, q0, hargs0, rfl, rfl, h0, r0⟩ := trodAll_cons hA
 obtain ⟨rfl, rfl, rfl⟩ := trodAll_nil r0
 obtain rfl : args = #[v0] := by cases args; simp_all
 obtain ⟨rfl, rfl⟩ := trodVars_none hV
 have hk2 := of_decide_eq_true hk
 simp only [List.append_nil, Rows.uptoBulkAll] at hk2
 obtain ⟨c0, rfl, _⟩ := okWide_struct Tryz.underlying25 (hval 0 25 v0 rfl rfl)
 obtain ⟨n, hn, hx⟩ := XJ.arg (fun k => Q1s enc W 0 (fun _ => true) true k) h0
 have hF := IH n (by omega)
 refine (BW (NQ (by kernel_rfl)) (Iz n true hF) (W := W) rfl (fun g => .undef _) (fun g sz cs hg => by cases hg) fun j z v hz hv => ?_).mono fun e W' ⟨he, hb⟩ => ⟨_, he, Q0o lawOkP rfl hW' rfl hb⟩
 match j with
 | 0 => cases hz; cases hv; exact RelL.agg hx
 | j + 1 => cases hz
set_option maxRecDepth 100000 in
theorem liftedP (os : Os) (started : os.Started) (H : Type) (enc : TypeId × Value → H) (F : Stop.Interp) :
  ReturnsInHanded {} Tryz.checked os 4 .any ((Rows.OpenSpec.upto Rows.dependPairsSpec).pre6 enc Tryz.prog Tryz.f4 Rows.dependPairsUptoRow.domain false) (((Rows.OpenSpec.upto Rows.dependPairsSpec).at F).post enc Tryz.prog Tryz.f4 false true false false) := by
 refine returnsInHanded_of_cond (C := Tryz.checked) (s := Rows.OpenSpec.upto Rows.dependPairsSpec) (k := Rows.uptoSmall) rfl own started (by kernel_rfl) Tryz.func4
  (OpenSpec.witness (enc := enc) (C := Tryz.checked) (s := Rows.OpenSpec.upto Rows.dependPairsSpec) (k := Rows.uptoSmall) rfl false ⟨#[], #[.agg #[.slice none 0 0, .slice none 0 0]], []⟩ 8 (by kernel_rfl) (by kernel_rfl) (by kernel_rfl)
   (x := ([.agg [.nil, .nil]], [], [])) (by kernel_rfl) rfl (by kernel_rfl)) ?_
 intro W base args ds gs before hval hW _ hk _
 exact Q0f H enc W base args ds gs before hval hW hk
theorem provedP : Rows.DependPairsUptoSaid :=
 OpenClaim.holds_of_cond 4 Tryz.f4 rfl rfl rfl rfl rfl rfl rfl ⟨rfl, rfl, rfl, rfl, rfl⟩ rfl rfl rfl rfl rfl (by kernel_rfl) Tryz.func4 (by kernel_rfl)
  (of_decide_eq_true (by kernel_rfl)) (by unfold Func.isWrapper; first | (rw [if_pos (by decide +kernel)]; kernel_rfl) | (rw [if_neg (by decide +kernel)]; exact ⟨rfl, rfl⟩))
  (fun os started H enc _ F => liftedP os started H enc F)
end Go.Proofs.YtokfigmmegifeaaGreat
end
