/- Walks: the reference's Validate; few. -/
import Derived.Test.YtcphiogbjdehhaaDoorD2
namespace Go.Proofs.YtcphiogbjdehhaaDoor
open Go HX Go.IntWalk
set_option maxRecDepth 1000000
variable [ML]
set_option linter.unusedSectionVars false

theorem vldR_f (s : Step) (i : Nat) (x : Str) (alts : List Alt) (N : List AV → List Bx → Prop) : ((decide ((↑i : Int) < (↑(List.length (List.map sAV (Step.names s))) : Int)) = true →
    ((0 : Int) ≤ (↑i : Int) ∧ (List.map sAV (Step.names s))[Int.toNat (↑i : Int)]? = some (AV.agg [AV.str x])) ∧
      Pu Tryd.prog gls (26 : Nat) [AV.str x] (AV.bool (isName x)) ∧
        (isName x = true →
            N [AV.ptr (0 : Nat) (0 : Nat) (0 : Nat), AV.int IntKind.i64 (IntKind.wrap IntKind.i64 ((↑i : Int) + (1 : Int)))]
              [((0 : Nat),
                  [AV.int IntKind.i64 (Step.op s), AV.str (Step.loop s), AV.int IntKind.i64 (Step.by_ s),
                    AV.sl (1 : Nat) (List.map sAV (Step.names s))])]) ∧
          (isName x = false → Out alts Exit.ret [AV.int IntKind.i64 (7 : Int)] [])) ∧
  (decide ((↑i : Int) < (↑(List.length (List.map sAV (Step.names s))) : Int)) = false → Out alts (Exit.exit (0 : Nat)) [AV.undef] [])) = WR 9 6 50 [(6, .split), (10, .split), (19, .split), (24, .split), (40, .split), (46, .e (sAV x)), (48, .cs (isName x))] [1, 3] [⟨1, [], false⟩] [2] [] alts [.ptr 0 0 0, .int .i64 i] [(0, s.cells)] N := by kernel_rfl

theorem vldRF_f (s : Step) (r : AV) : ((decide (Step.op s < (1 : Int)) = true → some (AV.int IntKind.i64 (26 : Int)) = some r) ∧
  (decide (Step.op s < (1 : Int)) = false →
    (decide ((13 : Int) < Step.op s) = true → some (AV.int IntKind.i64 (26 : Int)) = some r) ∧
      (decide ((13 : Int) < Step.op s) = false →
        Pu Tryd.prog gls (24 : Nat) [AV.int IntKind.i64 (Step.op s)] (AV.int IntKind.i64 (nmZ (Step.op s))) ∧
          (((↑(List.length (List.map sAV (Step.names s))) : Int) != nmZ (Step.op s)) = true → some (AV.int IntKind.i64 (26 : Int)) = some r) ∧
            (((↑(List.length (List.map sAV (Step.names s))) : Int) != nmZ (Step.op s)) = false →
              ((Step.by_ s != (0 : Int)) = true →
                  Pu Tryd.prog gls (25 : Nat) [AV.int IntKind.i64 (Step.op s)] (AV.bool (cntB (Step.op s))) ∧
                    (cntB (Step.op s) = true →
                        Pu Tryd.prog gls (26 : Nat) [AV.str (Step.loop s)] (AV.bool (isName (Step.loop s))) ∧
                          (isName (Step.loop s) = true →
                              LoopOk Tryd.prog gls (50 : Nat) (lcode Tryd.prog (9 : Nat) (7 : Nat)) [(1 : Nat), (3 : Nat)]
                                  [AV.ptr (0 : Nat) (0 : Nat) (0 : Nat), AV.int IntKind.i64 (0 : Int)]
                                  [((0 : Nat),
                                      [AV.int IntKind.i64 (Step.op s), AV.str (Step.loop s), AV.int IntKind.i64 (Step.by_ s),
                                        AV.sl (1 : Nat) (List.map sAV (Step.names s))])]
                                  [(2 : Nat)]
                                  [{ φ := List.all (Step.names s) isName = false, ex := Exit.ret, vs := [AV.int IntKind.i64 (7 : Int)], bs := [] },
                                    { φ := List.all (Step.names s) isName = true, ex := Exit.exit (0 : Nat), vs := [AV.undef], bs := [] }] ∧
                                (List.all (Step.names s) isName = false → some (AV.int IntKind.i64 (7 : Int)) = some r) ∧
                                  (List.all (Step.names s) isName = true → some (AV.int IntKind.i64 (0 : Int)) = some r)) ∧
                            (isName (Step.loop s) = false → some (AV.int IntKind.i64 (7 : Int)) = some r)) ∧
                      (cntB (Step.op s) = false → some (AV.int IntKind.i64 (26 : Int)) = some r)) ∧
                ((Step.by_ s != (0 : Int)) = false →
                  Pu Tryd.prog gls (26 : Nat) [AV.str (Step.loop s)] (AV.bool (isName (Step.loop s))) ∧
                    (isName (Step.loop s) = true →
                        LoopOk Tryd.prog gls (50 : Nat) (lcode Tryd.prog (9 : Nat) (7 : Nat)) [(1 : Nat), (3 : Nat)]
                            [AV.ptr (0 : Nat) (0 : Nat) (0 : Nat), AV.int IntKind.i64 (0 : Int)]
                            [((0 : Nat),
                                [AV.int IntKind.i64 (Step.op s), AV.str (Step.loop s), AV.int IntKind.i64 (Step.by_ s),
                                  AV.sl (1 : Nat) (List.map sAV (Step.names s))])]
                            [(2 : Nat)]
                            [{ φ := List.all (Step.names s) isName = false, ex := Exit.ret, vs := [AV.int IntKind.i64 (7 : Int)], bs := [] },
                              { φ := List.all (Step.names s) isName = true, ex := Exit.exit (0 : Nat), vs := [AV.undef], bs := [] }] ∧
                          (List.all (Step.names s) isName = false → some (AV.int IntKind.i64 (7 : Int)) = some r) ∧
                            (List.all (Step.names s) isName = true → some (AV.int IntKind.i64 (0 : Int)) = some r)) ∧
                      (isName (Step.loop s) = false → some (AV.int IntKind.i64 (7 : Int)) = some r)))))) = W 9 [(6, .split), (10, .split), (19, .split), (24, .split), (40, .split), (18, .c (.int .i64 (nmZ s.op))), (28, .cs (cntB s.op)), (34, .cs (isName s.loop)), (3000007, .l [1, 3] [⟨1, [], false⟩] [2] [] [⟨s.names.all isName = false, .ret, [.int .i64 7], []⟩, ⟨s.names.all isName = true, .exit 0, [.undef], []⟩])] [s.av] r := by kernel_rfl

theorem few1_f (l : List Step) (i k : Nat) (x : Step) (y : Str) (alts : List Alt) (N : List AV → List Bx → Prop) : (((0 : Int) ≤ (↑i : Int) ∧
    (List.map Step.av l)[Int.toNat (↑i : Int)]? =
      some
        (AV.agg
          [AV.int IntKind.i64 (Step.op x), AV.str (Step.loop x), AV.int IntKind.i64 (Step.by_ x), AV.sl (1 : Nat) (List.map sAV (Step.names x))])) ∧
  (decide ((↑k : Int) < (↑(List.length (List.map sAV (Step.names x))) : Int)) = true →
      ((0 : Int) ≤ (↑i : Int) ∧
          (List.map Step.av l)[Int.toNat (↑i : Int)]? =
            some
              (AV.agg
                [AV.int IntKind.i64 (Step.op x), AV.str (Step.loop x), AV.int IntKind.i64 (Step.by_ x),
                  AV.sl (1 : Nat) (List.map sAV (Step.names x))])) ∧
        ((0 : Int) ≤ (↑k : Int) ∧ (List.map sAV (Step.names x))[Int.toNat (↑k : Int)]? = some (AV.agg [AV.str y])) ∧
          (decide ((100 : Int) < (↑(List.length y) : Int)) = true →
              Out alts Exit.ret [AV.bool false, AV.sl (4 : Nat) (List.map Step.av l), AV.int IntKind.i64 (↑i : Int)] []) ∧
            (decide ((100 : Int) < (↑(List.length y) : Int)) = false →
              N
                [AV.sl (4 : Nat) (List.map Step.av l), AV.int IntKind.i64 (↑i : Int),
                  AV.int IntKind.i64 (IntKind.wrap IntKind.i64 ((↑k : Int) + (1 : Int)))]
                [])) ∧
    (decide ((↑k : Int) < (↑(List.length (List.map sAV (Step.names x))) : Int)) = false →
      Out alts (Exit.exit (2 : Nat)) [AV.undef, AV.sl (4 : Nat) (List.map Step.av l), AV.int IntKind.i64 (↑i : Int)] [])) = WR 6 7 50 [(8, .split), (17, .split), (25, .split), (34, .split), (46, .split), (49, .split), (30, .e x.av), (39, .e x.av), (43, .e (sAV y))] [0, 3, 4] [] [2, 0, 3] [] alts [stepsAV l, .int .i64 i, .int .i64 k] [] N := by kernel_rfl

theorem few2_f (l : List Step) (i : Nat) (x : Step) (alts : List Alt) (N : List AV → List Bx → Prop) : ((decide ((↑i : Int) < (↑(List.length (List.map Step.av l)) : Int)) = true →
    ((0 : Int) ≤ (↑i : Int) ∧
        (List.map Step.av l)[Int.toNat (↑i : Int)]? =
          some
            (AV.agg
              [AV.int IntKind.i64 (Step.op x), AV.str (Step.loop x), AV.int IntKind.i64 (Step.by_ x),
                AV.sl (1 : Nat) (List.map sAV (Step.names x))])) ∧
      (decide ((100 : Int) < (↑(List.length (Step.loop x)) : Int)) = true →
          Out alts Exit.ret [AV.sl (4 : Nat) (List.map Step.av l), AV.bool false] []) ∧
        (decide ((100 : Int) < (↑(List.length (Step.loop x)) : Int)) = false →
          ((0 : Int) ≤ (↑i : Int) ∧
              (List.map Step.av l)[Int.toNat (↑i : Int)]? =
                some
                  (AV.agg
                    [AV.int IntKind.i64 (Step.op x), AV.str (Step.loop x), AV.int IntKind.i64 (Step.by_ x),
                      AV.sl (1 : Nat) (List.map sAV (Step.names x))])) ∧
            (decide ((10 : Int) < (↑(List.length (List.map sAV (Step.names x))) : Int)) = true →
                Out alts Exit.ret [AV.sl (4 : Nat) (List.map Step.av l), AV.bool false] []) ∧
              (decide ((10 : Int) < (↑(List.length (List.map sAV (Step.names x))) : Int)) = false →
                LoopOk Tryd.prog gls (50 : Nat) (lcode Tryd.prog (6 : Nat) (8 : Nat)) [(0 : Nat), (3 : Nat), (4 : Nat)]
                    [AV.sl (4 : Nat) (List.map Step.av l), AV.int IntKind.i64 (↑i : Int), AV.int IntKind.i64 (0 : Int)] []
                    [(2 : Nat), (0 : Nat), (3 : Nat)]
                    [{ φ := List.all (Step.names x) short = false, ex := Exit.ret,
                        vs := [AV.bool false, AV.sl (4 : Nat) (List.map Step.av l), AV.int IntKind.i64 (↑i : Int)], bs := [] },
                      { φ := List.all (Step.names x) short = true, ex := Exit.exit (2 : Nat),
                        vs := [AV.undef, AV.sl (4 : Nat) (List.map Step.av l), AV.int IntKind.i64 (↑i : Int)], bs := [] }] ∧
                  (List.all (Step.names x) short = false → Out alts Exit.ret [AV.sl (4 : Nat) (List.map Step.av l), AV.bool false] []) ∧
                    (List.all (Step.names x) short = true →
                      N [AV.sl (4 : Nat) (List.map Step.av l), AV.int IntKind.i64 (IntKind.wrap IntKind.i64 ((↑i : Int) + (1 : Int)))] [])))) ∧
  (decide ((↑i : Int) < (↑(List.length (List.map Step.av l)) : Int)) = false →
    Out alts (Exit.exit (0 : Nat)) [AV.sl (4 : Nat) (List.map Step.av l), AV.undef] [])) = WR 6 2 50 [(8, .split), (17, .split), (25, .split), (34, .split), (46, .split), (49, .split), (13, .e x.av), (21, .e x.av), (3000008, .l [0, 3, 4] [] [2, 0, 3] [] [⟨x.names.all short = false, .ret, [.bool false, stepsAV l, .int .i64 i], []⟩, ⟨x.names.all short = true, .exit 2, [.undef, stepsAV l, .int .i64 i], []⟩])] [0, 3] [] [0, 2] [] alts [stepsAV l, .int .i64 i] [] N := by kernel_rfl

theorem few_f (l : List Step) (r : AV) : (LoopOk Tryd.prog gls (50 : Nat) (lcode Tryd.prog (6 : Nat) (3 : Nat)) [(0 : Nat), (3 : Nat)]
    [AV.sl (4 : Nat) (List.map Step.av l), AV.int IntKind.i64 (0 : Int)] [] [(0 : Nat), (2 : Nat)]
    [{ φ := List.all l fewS = false, ex := Exit.ret, vs := [AV.sl (4 : Nat) (List.map Step.av l), AV.bool false], bs := [] },
      { φ := List.all l fewS = true, ex := Exit.exit (0 : Nat), vs := [AV.sl (4 : Nat) (List.map Step.av l), AV.undef], bs := [] }] ∧
  (List.all l fewS = false → some (AV.bool false) = some r) ∧
    (List.all l fewS = true →
      (decide ((↑(List.length (List.map Step.av l)) : Int) ≤ (80 : Int)) = true → some (AV.bool true) = some r) ∧
        (decide ((↑(List.length (List.map Step.av l)) : Int) ≤ (80 : Int)) = false → some (AV.bool false) = some r))) = W 6 [(8, .split), (17, .split), (25, .split), (34, .split), (46, .split), (49, .split), (3000003, .l [0, 3] [] [0, 2] [] [⟨l.all fewS = false, .ret, [stepsAV l, .bool false], []⟩, ⟨l.all fewS = true, .exit 0, [stepsAV l, .undef], []⟩])] [stepsAV l] r := by kernel_rfl


theorem vldR_loop (s : Step) (hs : s.Fit) : LoopOk Tryd.prog gls 50 (lcode Tryd.prog 9 7) [1, 3] [.ptr 0 0 0, .int .i64 (0 : Nat)] [(0, s.cells)] [2]
    [⟨s.names.all isName = false, .ret, [.int .i64 7], []⟩, ⟨s.names.all isName = true, .exit 0, [.undef], []⟩] :=
  Lp1 (r := 6) (kb := [⟨1, [], false⟩]) (kbx := []) (by kernel_rfl) (fun j vs bs => ∃ i : Nat, j = s.names.length - i ∧ i ≤ s.names.length ∧ (s.names.take i).all isName = true ∧ vs = [.ptr 0 0 0, .int .i64 i] ∧ bs = [(0, s.cells)])
    (fun j vs bs ⟨i, hj, hi, ht, hv, hb⟩ => by
      subst hv; subst hb
      have := hs.2.1
      rcases Nat.lt_or_ge i s.names.length with hlt | hge
      · obtain ⟨x, hx⟩ := some_of_lt hlt
        refine WR1 (vldR_f s i x _ _) ⟨fun _ => ⟨⟨by omega, map_get hx⟩, name_ok x (hs.2.2 x (List.mem_of_getElem? hx)), fun he => ?_, fun he => ?_⟩, fun h => by simp at h; omega⟩
        · rw [i64_in _ (by omega)]
          exact ⟨s.names.length - (i + 1), by omega, i + 1, rfl, by omega, take_succ_all ht hx he, rfl, rfl⟩
        · exact Out.here (all_false_at hx he)
      · exact WR1 (vldR_f s i [] _ _) ⟨fun h => by simp at h; omega, fun _ => Out.next (Out.here (all_of_take ht hge))⟩) (j := s.names.length) ⟨0, by omega, by omega, by simp, rfl, rfl⟩

theorem vldR_ok (s : Step) (hs : s.Fit) : Pu Tryd.prog gls 9 [s.av] (.int .i64 (validZ s)) :=
  Pu1 (vldRF_f s _) (by
    have f2 := nm2_ok s.op
    have f3 := cnt2_ok s.op
    have f4 := name_ok s.loop hs.1
    have f5 := vldR_loop s hs
    unfold validZ
    generalize s.names.all isName = A at *
    generalize isName s.loop = L at *
    generalize cntB s.op = C at *
    rw [List.length_map]
    generalize (s.names.length : Int) = n at *
    generalize nmZ s.op = z at *
    (repeat' (first | intro _ | apply And.intro)) <;> first | assumption | (simp_all; done) | (simp_all <;> omega))

theorem few1_loop (l : List Step) (i : Nat) (x : Step) (hx : l[i]? = some x) (hf : x.Fit) : LoopOk Tryd.prog gls 50 (lcode Tryd.prog 6 8) [0, 3, 4] [stepsAV l, .int .i64 i, .int .i64 (0 : Nat)] [] [2, 0, 3]
    [⟨x.names.all short = false, .ret, [.bool false, stepsAV l, .int .i64 i], []⟩, ⟨x.names.all short = true, .exit 2, [.undef, stepsAV l, .int .i64 i], []⟩] :=
  Lp1 (r := 7) (kb := []) (kbx := []) (by kernel_rfl) (fun j vs bs => ∃ k : Nat, j = x.names.length - k ∧ k ≤ x.names.length ∧ (x.names.take k).all short = true ∧ vs = [stepsAV l, .int .i64 i, .int .i64 k] ∧ bs = [])
    (fun j vs bs ⟨k, hj, hi, ht, hv, hb⟩ => by
      subst hv; subst hb
      have := hf.2.1
      rcases Nat.lt_or_ge k x.names.length with hlt | hge
      · obtain ⟨y, hy⟩ := some_of_lt hlt
        refine WR1 (few1_f l i k x y _ _) ⟨⟨by omega, map_get hx⟩, fun _ => ⟨⟨by omega, map_get hx⟩, ⟨by omega, map_get hy⟩, fun he => ?_, fun he => ?_⟩, fun h => by simp at h; omega⟩
        · exact Out.here (all_false_at hy (by simp at he; simp [short]; omega))
        · rw [i64_in _ (by omega)]
          exact ⟨x.names.length - (k + 1), by omega, k + 1, rfl, by omega, take_succ_all ht hy (by simp at he; simp [short]; omega), rfl, rfl⟩
      · exact WR1 (few1_f l i k x [] _ _) ⟨⟨by omega, map_get hx⟩, fun h => by simp at h; omega, fun _ => Out.next (Out.here (all_of_take ht hge))⟩) (j := x.names.length) ⟨0, by omega, by omega, by simp, rfl, rfl⟩

def FitS (l : List Step) : Prop := l.length ≤ 9223372036854775807 ∧ ∀ x ∈ l, x.Fit

theorem few2_loop (l : List Step) (hl : FitS l) : LoopOk Tryd.prog gls 50 (lcode Tryd.prog 6 3) [0, 3] [stepsAV l, .int .i64 (0 : Nat)] [] [0, 2]
    [⟨l.all fewS = false, .ret, [stepsAV l, .bool false], []⟩, ⟨l.all fewS = true, .exit 0, [stepsAV l, .undef], []⟩] :=
  Lp1 (r := 2) (kb := []) (kbx := []) (by kernel_rfl) (fun j vs bs => ∃ i : Nat, j = l.length - i ∧ i ≤ l.length ∧ (l.take i).all fewS = true ∧ vs = [stepsAV l, .int .i64 i] ∧ bs = [])
    (fun j vs bs ⟨i, hj, hi, ht, hv, hb⟩ => by
      subst hv; subst hb
      have := hl.1
      rcases Nat.lt_or_ge i l.length with hlt | hge
      · obtain ⟨x, hx⟩ := some_of_lt hlt
        have hf := hl.2 x (List.mem_of_getElem? hx)
        have hlp := few1_loop l i x hx hf
        refine WR1 (few2_f l i x _ _) ⟨fun _ => ⟨⟨by omega, map_get hx⟩, fun he => ?_, fun he => ⟨⟨by omega, map_get hx⟩, fun he2 => ?_, fun he2 => ⟨hlp, fun he3 => ?_, fun he3 => ?_⟩⟩⟩, fun h => by simp at h; omega⟩
        · exact Out.here (all_false_at hx (by simp at he; simp [fewS]; omega))
        · exact Out.here (all_false_at hx (by simp at he2; simp [fewS]; omega))
        · exact Out.here (all_false_at hx (by simp only [fewS, he3, Bool.and_false]))
        · rw [i64_in _ (by omega)]
          exact ⟨l.length - (i + 1), by omega, i + 1, rfl, by omega, take_succ_all ht hx (by simp at he he2; simp only [fewS, he3]; simp; omega), rfl, rfl⟩
      · exact WR1 (few2_f l i ⟨0, [], 0, []⟩ _ _) ⟨fun h => by simp at h; omega, fun _ => Out.next (Out.here (all_of_take ht hge))⟩) (j := l.length) ⟨0, by omega, by omega, by simp, rfl, rfl⟩

theorem few_ok (l : List Step) (hl : FitS l) : Pu Tryd.prog gls 6 [stepsAV l] (.bool (fewB l)) :=
  Pu1 (few_f l _) ⟨few2_loop l hl, fun h => by simp only [fewB, h, Bool.false_and], fun h => ⟨fun h2 => by simp at h2; simp only [fewB, h]; simp; omega, fun h2 => by simp at h2; simp only [fewB, h]; simp; omega⟩⟩
end Go.Proofs.YtcphiogbjdehhaaDoor
