/- Code is sound. -/
import Derived.Test.YtcphiogbjdehhaaDoorHxCode2
namespace HX
open Go Go.RowKit

section
variable {P : Program} {gl : Nat → AV} {ch : CallH} {rd : RoundH}

theorem xcode_ok' (hch : ch.Ok P gl) (hrd : rd.Ok P gl) (hmix : P.follows .mixedOrders = true) (top : Bool) (ro : Option Nat) (htop : top = true → ro = none) (n : Nat) : ∀ (K k : Nat), k ≤ K → ∀ (c : Code) (st : St) (ex : Exit) (st' : St) (ds : List Nat), okCode c = true → xcode P gl ch rd top k c st = some (ex, st', ds) → CodeOk P gl ro n c st ex st' ds
  | _, 0, _, _, _, _, _, _, _, h => by cases h
  | 0, k + 1, hK, _, _, _, _, _, _, _ => by omega
  | K + 1, k + 1, hK, c, st, ex, st', ds, hok, h => by
    have ihS := xcode_ok' hch hrd hmix top ro htop n K
    have ih := ihS k (by omega)
    intro B H0 rest m H a w hr
    cases c with
    | skip => cases h; exact wpIn_skip ⟨rfl, .nil rfl (Below.refl _ _) hr⟩
    | label l => cases h; exact wpIn_label ⟨rfl, .nil rfl (Below.refl _ _) hr⟩
    | exit id => cases h; exact wpIn_exit ⟨rfl, .nil rfl (Below.refl _ _) hr⟩
    | ret => cases h; exact wpIn_ret ⟨rfl, .nil rfl (Below.refl _ _) hr⟩
    | region id ops draw =>
      simp only [xcode] at h
      cases draw with
      | true =>
        simp only [cond_true] at h
        obtain ⟨hs, rfl, rfl⟩ := lift_inv h
        simp only [okCode, Bool.not_true, Bool.false_or] at hok
        have := xregD_ok hch hrd hmix hok ro n id hr hs
        simpa using this
      | false =>
        simp only [cond_false] at h
        obtain ⟨hs, rfl, rfl⟩ := lift_inv h
        refine wpIn_region ?_
        have := xseq_ok hch hrd (all := ops.toList) (ro := ro) (n := n) (d0 := a.defers) (w0 := w) (Q := fun e a' w' => e = .normal ∧ CPost gl B H0 rest a w st' [] a' w') (fun a' w' m' H' hd hb hr' => ⟨rfl, .nil hd hb hr'⟩) [] ops.toList st a w m H rfl hs rfl (Below.refl _ _) hr
        simpa [List.range_eq_range'] using this
    | seq x y =>
      simp only [xcode] at h
      simp only [okCode, Bool.and_eq_true] at hok
      split at h
      · rename_i s d hs
        split at h
        · rename_i e2 s2 d2 hs2
          cases h
          refine wpIn_seq (wpIn_mono (ih x st .normal s d hok.1 hs B H0 rest m H a w hr) fun e a' w' hq => ?_)
          obtain ⟨rfl, m', H', D, hD, hd, hlp, hb, hr'⟩ := hq
          refine wpIn_mono (ih y s ex st' d2 hok.2 hs2 B H0 _ m' H' a' w' (hr'.more hlp)) fun e a2 w2 hq => ?_
          obtain ⟨rfl, hq⟩ := hq
          exact ⟨rfl, CPost.then (s1 := s) hD hd hb hq⟩
        · cases h
      · rename_i hno
        refine wpIn_seq (wpIn_mono (ih x st ex st' ds hok.1 h B H0 rest m H a w hr) fun e a' w' hq => ?_)
        obtain ⟨rfl, hq⟩ := hq
        cases e with
        | normal => exact absurd h (hno _ _)
        | _ => exact ⟨rfl, hq⟩
    | cond c x y =>
      simp only [xcode] at h
      simp only [okCode, Bool.and_eq_true] at hok
      split at h
      · rename_i t ht
        have hv := hr.ev c
        rw [ht] at hv
        cases t with
        | true => exact wpIn_cond hv.bool_inv (ih x st ex st' ds hok.1 h B H0 rest m H a w hr)
        | false => exact wpIn_cond hv.bool_inv (ih y st ex st' ds hok.2 h B H0 rest m H a w hr)
      · cases h
    | block id c =>
      simp only [xcode] at h
      simp only [okCode] at hok
      split at h
      · rename_i i s d hs
        refine wpIn_block (wpIn_mono (ih c st (.exit i) s d hok hs B H0 rest m H a w hr) fun e a' w' hq => ?_)
        obtain ⟨rfl, hq⟩ := hq
        split at h
        · rename_i hi
          cases h
          simp only [Exit.inBlock, hi, if_true]
          exact ⟨trivial, hq⟩
        · rename_i hi
          cases h
          simp only [Exit.inBlock, hi, if_false]
          exact ⟨trivial, hq⟩
      · rename_i hno
        refine wpIn_block (wpIn_mono (ih c st ex st' ds hok h B H0 rest m H a w hr) fun e a' w' hq => ?_)
        obtain ⟨rfl, hq⟩ := hq
        cases e with
        | exit i => exact absurd h (hno _ _ _)
        | _ => exact ⟨rfl, hq⟩
    | loop c =>
      have hok' := hok
      simp only [okCode] at hok
      refine wpIn_loop_n (j := k + 1) (fun j a' w' => j ≤ k + 1 ∧ ∃ st1 m1 H1 D ds1, xcode P gl ch rd top j (.loop c) st1 = some (ex, st', ds1) ∧ ds1 ++ D.map (·.1) = ds ∧ a'.defers = marks D ++ a.defers ∧ (∀ p ∈ D, (st1.env m1).lp p.1 = some p.2) ∧ Below B w w' ∧ RelS m1 H1 B H0 gl rest st1 a'.tmps w') (fun j a1 w1 hI => ?_) ⟨Nat.le_refl _, st, m, H, [], ds, h, by simp, by simp [marks], by simp, Below.refl _ _, hr⟩
      obtain ⟨hj, st1, m1, H1, D, ds1, hx, hD, hd1, hlp, hb1, hr1⟩ := hI
      cases j with
      | zero => cases hx
      | succ j =>
        simp only [xcode] at hx
        split at hx
        · rename_i s d hs
          split at hx
          · rename_i e2 s2 d2 hs2
            cases hx
            refine wpIn_mono (ihS j (by omega) c st1 .normal s d hok hs B H0 _ m1 H1 a1 w1 (hr1.more hlp)) fun e a2 w2 hq => ?_
            obtain ⟨rfl, hq⟩ := hq
            obtain ⟨m2, H2, D2, e1, e2, e3, e4, e5⟩ := CPost.then (a := a) (s1 := st1) rfl hd1 hb1 hq
            exact ⟨j, Nat.lt_succ_self _, by omega, s, m2, H2, D2, d2, hs2, by rw [e1, ← List.append_assoc]; exact hD, e2, e3, e4, e5⟩
          · cases hx
        · rename_i hno
          refine wpIn_mono (ihS j (by omega) c st1 ex st' ds1 hok hx B H0 _ m1 H1 a1 w1 (hr1.more hlp)) fun e a2 w2 hq => ?_
          obtain ⟨rfl, hq⟩ := hq
          have hq' := CPost.then (a := a) (s1 := st1) rfl hd1 hb1 hq
          rw [hD] at hq'
          cases e with
          | normal => exact absurd hx (hno _ _)
          | _ => exact ⟨rfl, hq'⟩
    | rangeFunc g ps as bd =>
      cases top with
      | true =>
        have := htop rfl
        subst this
        exact xrange_ok hch h n B H0 rest m H a w hr
      | false => cases h
    | _ => cases h

theorem xcode_ok (hch : ch.Ok P gl) (hrd : rd.Ok P gl) (hmix : P.follows .mixedOrders = true) (top : Bool) (ro : Option Nat) (htop : top = true → ro = none) (n k : Nat) (c : Code) (st : St) (ex : Exit) (st' : St) (ds : List Nat) (hok : okCode c = true) (h : xcode P gl ch rd top k c st = some (ex, st', ds)) : CodeOk P gl ro n c st ex st' ds :=
  xcode_ok' hch hrd hmix top ro htop n k k (Nat.le_refl _) c st ex st' ds hok h
end
end HX
