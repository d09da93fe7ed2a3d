/- Proved here: for every input the law TraceLimits returns true, and its arguments read afterwards as they read before. Condition: none beyond the statement's own. -/
import Derived.Test.YtkgphhemcglgnaaGreatDoorP6
import Derived.HandedShaped
import Derived.Handy
import Derived.Lay
import Derived.ProofKit
import Derived.SevenTiedAt
import Derived.Shelf.Vars
import Derived.Test.YtkgphhemcglgnaaGreatDoorCards
import Derived.Test.YtkgphhemcglgnaaGreatDoorRows
import Derived.Test.YtkgphhemcglgnaaGreatDoorTie
import Derived.WalkKit
set_option linter.unusedVariables false
set_option linter.unusedSimpArgs false
set_option linter.unusedSectionVars false
section
namespace Go.Proofs.YtkgphhemcglgnaaGreatDoor
open Go HY
set_option maxRecDepth 100000
set_option linter.unusedSimpArgs false
set_option linter.unusedVariables false
theorem t_key : ∃ k, GF [0, 0, 0] = some k := by
 rw [GF]
 repeat (simp [bSs, ix, w0, w1, w2, show wr 3 = 3 from rfl, show IntKind.i32.wrap 0 = 0 from rfl]; try rw [VL])
abbrev eI1 (x : Int) : Xk := ⟨[105], x⟩
abbrev eK1 (x : Int) : Xk := ⟨[107], x⟩
theorem t_rec (s : Q2) (x y : Int) (hc : s.fc = []) (he : s.fm = [eI1 x, eK1 y]) (hl : s.fj.length ≤ 2048) :
  ∃ k, KP s tSt [0, 0, 0] = some (if 2048 ≤ s.fj.length then (2, s) else (0, { s with fj := s.fj ++ [⟨k, [x, y]⟩] })) := by
 obtain ⟨k, hk⟩ := t_key
 refine ⟨(CF k s.fA).getD 0, ?_⟩
 obtain ⟨nu, it, en, co, ou⟩ := s
 simp only at hc he hl
 subst hc; subst he
 have h1 := t_conc x y
 rw [KP]
 simp only [h1, ↓bSs, bne_self_eq_false, Bool.false_eq_true, ↓reduceIte, List.length_nil]
 rw [Xm]
 simp only [Int.natCast_zero, Int.lt_irrefl, ↓reduceIte, ↓bSs, Kh, List.length_nil, Nat.zero_le, ↓reduceDIte, Vg]
 by_cases h2 : 2048 ≤ ou.length
 ·simp [h2]
  omega
 ·rw [if_neg (by omega), hk]
  simp only [↓bSs]
  repeat (simp [ix, w0, w1, w2, bSs]; try rw [Xc])
  omega
abbrev zE1 : Q3 := Qv.mk (0 : Int) [] (gVal.mk (0 : Int) (0 : Int)) (Qg.mk (0 : Int) (0 : Int) (0 : Int) (0 : Int) (0 : Int)) (gLin.mk (0 : Int) []) [] []
def bdy (st : Bool) : List Q7 := if st then [.mk tSt] else []
def inn (B : Int) (st : Bool) : Qe := QC.mk 1 [107] B 0 0 [] zE1 (bdy st)
def otn (A B : Int) (st : Bool) : Qe := QC.mk 1 [105] A 0 0 [] zE1 [.mk (inn B st)]
theorem clo (l : List Int) (h : l.length ≤ 10) : X0 l = some l := by
 unfold X0
 rw [if_pos (by omega)]
theorem t_body (st : Bool) (s : Q2) (x y : Int) (hc : s.fc = []) (he : s.fm = [eI1 x, eK1 y]) (hl : s.fj.length ≤ 2048) :
  ∃ k, Z8 s (bdy st) [0, 0] = some (if st = true ∧ 2048 ≤ s.fj.length then (2, s) else (0, { s with fj := if st = true then s.fj ++ [⟨k, [x, y]⟩] else s.fj })) := by
 obtain ⟨k, hk⟩ := t_rec s x y hc he hl
 refine ⟨k, ?_⟩
 rw [Z8]
 cases st with
 | false =>
  simp only [bdy, Bool.false_eq_true, ↓reduceIte, ↓bSs, List.length_nil, false_and]
  rw [QE]
  simp [bSs]
 | true =>
  simp only [bdy, ↓reduceIte, ↓bSs, List.length_cons, List.length_nil, true_and]
  rw [QE]
  simp [bSs, ix, clo]
  rw [hk]
  simp only [tSt, ↓bSs]
  by_cases h2 : 2048 ≤ s.fj.length
  ·simp [h2, bSs]
  ·simp [h2, bSs, w1]
   rw [QE]
   simp [bSs]
structure Aft (st : Bool) (t d : Int) (o : List QY) (a : List Int) (s : Q2) : Prop where
 c : s.fc = []
 it : s.fe = t + d
 it2 : t + d ≤ 65536
 o0 : st = false → s.fj = o
 o1 : st = true → s.fj.length ≤ 2048
def Bad (st : Bool) (t d m : Int) (o : List QY) : Prop := 65536 < t + d ∨ (st = true ∧ 2048 < o.length + m)
theorem t_in (A B : Int) (st : Bool) (x : Int) (hB : 1 ≤ B ∧ B ≤ 300) : ∀ (d : Nat) (y : Int) (s : Q2), y + d = B → 0 ≤ y → s.fc = [] → s.fm.take 1 = [eI1 x] → 0 ≤ s.fe → s.fe ≤ 65536 → s.fj.length ≤ 2048 →
    ∃ r, QT s [0, 0] (inn B st) 1 B y = some r ∧
      ((∃ s', r = .inl s' ∧ s'.fm.take 1 = [eI1 x] ∧ Aft st s.fe d s.fj [] s' ∧ (st = true → (s'.fj.length : Int) = s.fj.length + d ∧ (0 < d → ∃ k, s'.fj.getLast? = some ⟨k, [x, B - 1]⟩)) ∧ (d = 0 → s'.fj = s.fj)) ∨
       (∃ s', r = .inr (s', 2) ∧ s'.fm.take 1 = [eI1 x] ∧ Bad st s.fe d d s.fj))
  | 0, y, s, hy, h0, hc, he, hi0, hi1, ho => by
    rw [QT, if_neg (by omega)]
    exact ⟨_, rfl, .inl ⟨s, rfl, he, ⟨hc, by simp, by simpa using hi1, fun _ => rfl, fun _ => ho⟩, fun _ => ⟨by simp, fun h => absurd h (Nat.lt_irrefl 0)⟩, fun _ => rfl⟩⟩
  | d + 1, y, s, hy, h0, hc, he, hi0, hi1, ho => by
    have hlen : 1 ≤ s.fm.length := by
      cases hh : s.fm with
      | nil => rw [hh] at he; simp at he
      | cons a l => simp
    rw [QT, if_pos (by omega), ZI (by omega)]
    by_cases hlim : 65536 < s.fe + 1
    · rw [if_pos hlim]
      exact ⟨_, rfl, .inr ⟨_, rfl, he, .inl (by omega)⟩⟩
    · rw [if_neg hlim, if_pos (by omega)]
      have ht : List.take (Int.toNat 1) s.fm = [eI1 x] := he
      rw [if_pos (by simp; omega)]
      simp only [ht, ↓bSs, List.length_append, List.length_cons, List.length_nil]
      rw [if_pos (by decide)]
      obtain ⟨k, hk⟩ := t_body st (Q2.mk s.fA (s.fe + 1) ([eI1 x] ++ [Xk.mk (inn B st).fb y]) s.fc s.fj) x y hc rfl ho
      simp only [show (inn B st).fd = bdy st from rfl, hk]
      by_cases h2 : st = true ∧ 2048 ≤ s.fj.length
      · obtain ⟨rfl, h3⟩ := h2
        simp only [h3, and_self, ↓reduceIte, ↓bSs]
        exact ⟨_, rfl, .inr ⟨_, rfl, rfl, .inr ⟨rfl, by omega⟩⟩⟩
      · rw [if_neg h2]
        simp only [↓bSs, bne_self_eq_false, Bool.false_eq_true, ↓reduceIte]
        rw [ZI (by omega)]
        obtain ⟨r, hr, hq⟩ := t_in A B st x hB d (y + 1) (Q2.mk s.fA (s.fe + 1) ([eI1 x] ++ [Xk.mk (inn B st).fb y]) s.fc (if st = true then s.fj ++ [⟨k, [x, y]⟩] else s.fj)) (by omega) (by omega) hc rfl (by show 0 ≤ s.fe + 1; omega) (by show s.fe + 1 ≤ 65536; omega) (by
          show (if st = true then _ else _ : List QY).length ≤ 2048
          split
          · rename_i h4
            have : ¬ 2048 ≤ s.fj.length := fun h3 => h2 ⟨h4, h3⟩
            simp; omega
          · exact ho)
        refine ⟨r, hr, ?_⟩
        rcases hq with ⟨s', e1, e2, e3, e4, e5⟩ | ⟨s', e1, e2, e3⟩
        · refine .inl ⟨s', e1, e2, ⟨e3.c, ?_, ?_, fun h => ?_, e3.o1⟩, fun h => ?_, fun h => absurd h (by omega)⟩
          · have := e3.it; simp only at this; omega
          · have := e3.it2; simp only at this; omega
          · have := e3.o0 h; simpa [h] using this
          · subst h
            obtain ⟨f1, f2⟩ := e4 rfl
            simp only [↓reduceIte, List.length_append, List.length_cons, List.length_nil] at f1
            refine ⟨by omega, fun _ => ?_⟩
            by_cases hd : 0 < d
            · exact f2 hd
            · have hd0 : d = 0 := by omega
              subst hd0
              refine ⟨k, ?_⟩
              rw [e5 rfl, show y = B - 1 by omega]
              simp
        · refine .inr ⟨s', e1, e2, ?_⟩
          rcases e3 with h | ⟨h, h'⟩
          · exact .inl (by simp only at h; omega)
          · refine .inr ⟨h, ?_⟩
            subst h
            simp at h'
            omega
theorem t_loop (A B : Int) (st : Bool) (x : Int) (hB : 1 ≤ B ∧ B ≤ 300) (s : Q2) (hc : s.fc = []) (he : s.fm = [eI1 x]) (hi0 : 0 ≤ s.fe) (hi1 : s.fe ≤ 65536) (ho : s.fj.length ≤ 2048) :
  ∃ e s', Yo s (inn B st) [0, 0] = some (e, s') ∧ s'.fm = [eI1 x] ∧
   ((e = 0 ∧ Aft st s.fe B s.fj [] s' ∧ (st = true → (s'.fj.length : Int) = s.fj.length + B ∧ ∃ k, s'.fj.getLast? = some ⟨k, [x, B - 1]⟩)) ∨ (e = 2 ∧ Bad st s.fe B B s.fj)) := by
 obtain ⟨r, hr, hq⟩ := t_in A B st x hB B.toNat 0 s (by omega) (by omega) hc (by rw [he]; rfl) hi0 hi1 ho
 have hb : (B.toNat : Int) = B := by omega
 rw [hb] at hq
 rw [Yo]
 simp only [he, ↓bSs, List.length_cons, List.length_nil, show (inn B st).fE = B from rfl]
 rw [show ((0 + 1 : Nat) : Int) = 1 from rfl, hr]
 have fin : ∀ s' : Q2, s'.fm.take 1 = [eI1 x] → 1 ≤ s'.fm.length := fun s' h => by
  cases hh : s'.fm with
  | nil => rw [hh] at h; simp at h
  | cons a l => simp
 rcases hq with ⟨s', rfl, e2, e3, e4, e5⟩ | ⟨s', rfl, e2, e3⟩
 ·have hl := fin s' e2
  have e2' : List.take (Int.toNat 1) s'.fm = [eI1 x] := e2
  simp only [↓bSs, e2']
  rw [if_pos (by simp; omega), if_pos (by simp)]
  exact ⟨_, _, rfl, rfl, .inl ⟨rfl, ⟨e3.c, e3.it, e3.it2, e3.o0, e3.o1⟩, fun h => ⟨(e4 h).1, (e4 h).2 (by omega)⟩⟩⟩
 ·have hl := fin s' e2
  have e2' : List.take (Int.toNat 1) s'.fm = [eI1 x] := e2
  simp only [↓bSs, e2']
  rw [if_pos (by simp; omega), if_pos (by simp)]
  exact ⟨_, _, rfl, rfl, .inr ⟨rfl, e3⟩⟩
theorem t_mid (A B : Int) (st : Bool) (x : Int) (hB : 1 ≤ B ∧ B ≤ 300) (s : Q2) (hc : s.fc = []) (he : s.fm = [eI1 x]) (hi0 : 0 ≤ s.fe) (hi1 : s.fe ≤ 65536) (ho : s.fj.length ≤ 2048) :
  ∃ e s', Z8 s [.mk (inn B st)] [0] = some (e, s') ∧
   ((e = 0 ∧ Aft st s.fe B s.fj [] s' ∧ (st = true → (s'.fj.length : Int) = s.fj.length + B ∧ ∃ k, s'.fj.getLast? = some ⟨k, [x, B - 1]⟩)) ∨ (e = 2 ∧ Bad st s.fe B B s.fj)) := by
 obtain ⟨e, s', h1, h2, h3⟩ := t_loop A B st x hB s hc he hi0 hi1 ho
 rw [Z8]
 simp only [↓bSs, List.length_cons, List.length_nil]
 rw [QE]
 simp [bSs, ix, clo, show (inn B st).fOp = 1 from rfl, h1]
 rcases h3 with ⟨rfl, h3⟩ | ⟨rfl, h3⟩
 ·simp [w1]
  rw [QE]
  simp [bSs]
  exact ⟨0, s', ⟨rfl, rfl⟩, .inl ⟨rfl, h3⟩⟩
 ·simp
  exact ⟨2, s', ⟨rfl, rfl⟩, .inr ⟨rfl, h3⟩⟩
theorem t_out (A B : Int) (st : Bool) (hA : 1 ≤ A ∧ A ≤ 300) (hB : 1 ≤ B ∧ B ≤ 300) : ∀ (d : Nat) (x : Int) (s : Q2), x + d = A → 0 ≤ x → s.fc = [] → 0 ≤ s.fe → s.fe ≤ 65536 → s.fj.length ≤ 2048 →
    ∃ r, QT s [0] (otn A B st) 0 A x = some r ∧
      ((∃ s', r = .inl s' ∧ Aft st s.fe (d + d * B) s.fj [] s' ∧ (st = true → (s'.fj.length : Int) = s.fj.length + d * B ∧ (0 < d → ∃ k, s'.fj.getLast? = some ⟨k, [A - 1, B - 1]⟩)) ∧ (d = 0 → s'.fj = s.fj)) ∨
       (∃ s', r = .inr (s', 2) ∧ Bad st s.fe (d + d * B) (d * B) s.fj))
  | 0, x, s, hy, h0, hc, hi0, hi1, ho => by
    rw [QT, if_neg (by omega)]
    exact ⟨_, rfl, .inl ⟨s, rfl, ⟨hc, by simp, by simpa using hi1, fun _ => rfl, fun _ => ho⟩, fun _ => ⟨by simp, fun h => absurd h (Nat.lt_irrefl 0)⟩, fun _ => rfl⟩⟩
  | d + 1, x, s, hy, h0, hc, hi0, hi1, ho => by
    have hmul : ((d + 1 : Nat) : Int) * B = d * B + B := by rw [Int.natCast_add, Int.add_mul]; simp
    have hpos : 0 ≤ (d : Int) * B := Int.mul_nonneg (by omega) (by omega)
    rw [QT, if_pos (by omega), ZI (by omega)]
    by_cases hlim : 65536 < s.fe + 1
    · rw [if_pos hlim]
      exact ⟨_, rfl, .inr ⟨_, rfl, .inl (by omega)⟩⟩
    · rw [if_neg hlim, if_pos (by omega), if_pos (by simp)]
      simp only [Int.toNat_zero, List.take_zero, ↓bSs, List.nil_append, List.length_cons, List.length_nil, ↓reduceIte]
      obtain ⟨e, s', g1, g3⟩ := t_mid A B st x hB (Q2.mk s.fA (s.fe + 1) [Xk.mk (otn A B st).fb x] s.fc s.fj) hc rfl (by show 0 ≤ s.fe + 1; omega) (by show s.fe + 1 ≤ 65536; omega) ho
      simp only [show (otn A B st).fd = [.mk (inn B st)] from rfl, g1, ↓bSs]
      rcases g3 with ⟨rfl, a1, a2⟩ | ⟨rfl, a1⟩
      · simp only [bne_self_eq_false, Bool.false_eq_true, ↓reduceIte]
        rw [ZI (by omega)]
        have i1 := a1.it
        have i2 := a1.it2
        simp only at i1 i2
        have ho' : s'.fj.length ≤ 2048 := by
          cases st with
          | true => exact a1.o1 rfl
          | false => rw [a1.o0 rfl]; exact ho
        obtain ⟨r, hr, hq⟩ := t_out A B st hA hB d (x + 1) s' (by omega) (by omega) a1.c (by omega) (by omega) ho'
        refine ⟨r, hr, ?_⟩
        rcases hq with ⟨s2, e1, e3, e4, e5⟩ | ⟨s2, e1, e3⟩
        · refine .inl ⟨s2, e1, ⟨e3.c, ?_, ?_, fun h => ?_, e3.o1⟩, fun h => ?_, fun h => absurd h (by omega)⟩
          · have := e3.it; omega
          · have := e3.it2; omega
          · rw [e3.o0 h, a1.o0 h]
          · obtain ⟨f1, f2⟩ := e4 h
            obtain ⟨b1, b2⟩ := a2 h
            simp only at b1
            refine ⟨by omega, fun _ => ?_⟩
            by_cases hd : 0 < d
            · exact f2 hd
            · have hd0 : d = 0 := by omega
              subst hd0
              rw [e5 rfl, show A - 1 = x by omega]
              exact b2
        · refine .inr ⟨s2, e1, ?_⟩
          rcases e3 with h | ⟨h, h'⟩
          · exact .inl (by omega)
          · refine .inr ⟨h, ?_⟩
            have := (a2 h).1
            simp only at this
            omega
      · simp only [show ((2 : Int) != 0) = true from rfl, ↓reduceIte]
        refine ⟨_, rfl, .inr ⟨_, rfl, ?_⟩⟩
        rcases a1 with h | ⟨h, h'⟩
        · exact .inl (by simp only at h; omega)
        · exact .inr ⟨h, by simp only at h'; omega⟩
end Go.Proofs.YtkgphhemcglgnaaGreatDoor
end
section
namespace Go.Proofs.YtkgphhemcglgnaaGreatDoor
open Go HY
set_option maxRecDepth 100000
set_option linter.unusedSimpArgs false
set_option linter.unusedVariables false
abbrev frc : Qg := Qg.mk (1 : Int) (0 : Int) (0 : Int) (0 : Int) (0 : Int)
def nst (A B : Int) (st : Bool) : Qq := Qq.mk [Qj.mk [97] frc [2] 1, Qj.mk [99] frc [2] 2] [.mk (otn A B st)]
theorem nm_a : nm [97] = true := by decide
theorem nm_c : nm [99] = true := by decide
theorem nm_i : nm [105] = true := by decide
theorem nm_k : nm [107] = true := by decide
theorem vd_nest (A B : Int) (st : Bool) (hA : 1 ≤ A ∧ A ≤ 300) (hB : 1 ≤ B ∧ B ≤ 300) : vd (nst A B st) = ([], 0) := by
 have a1 : ¬ A < 1 := by omega
 have a2 : ¬ 65536 < A := by omega
 have b1 : ¬ B < 1 := by omega
 have b2 : ¬ 65536 < B := by omega
 have hb : J5 [] (nst A B st).fk = 0 := by
  simp [nst, J5, nm_a, nm_c, tyOK, Ig, D5]
 cases st with
 | false =>
  have hd : dpL (nst A B false).fd = 2 := by simp [nst, dpL, dp, maxL, otn, inn, bdy]
  have hs : szL (nst A B false).fd = 2 := by simp [nst, szL, sz, otn, inn, bdy]
  rw [vd, hd, hs, hb]
  simp [nst, otn, inn, bdy, bdB, bdL, Gl, plS, isZE, zT, zLn, M9, nm_i, nm_k, Kz, a1, a2, b1, b2, bd_f]
 | true =>
  have hd : dpL (nst A B true).fd = 3 := by simp [nst, dpL, dp, maxL, otn, inn, bdy, tSt]
  have hs : szL (nst A B true).fd = 3 := by simp [nst, szL, sz, otn, inn, bdy, tSt]
  rw [vd, hd, hs, hb]
  simp [nst, otn, inn, bdy, bdB, bdL, Gl, plS, isZE, zT, zLn, M9, nm_i, nm_k, nm_c, Kz, a1, a2, b1, b2, bd_f, tSt, MW, JE, rdE, Nq, dpE, X7, DQ, maxL, fstE, Up, plE, naE, raE, tyE, foE, MG, argG, isC, Jj, JG, Wp, badL, vlOK, tyOK, Gd, inS, Uj, kd, kd1, wfI]
theorem ok_tSt : okS (.mk tSt) := .mk _ (by decide) (by simp [tSt, okI, okL, fits]) (.mk _ (by simp [tSt, okL, fits]) (by decide) (by simp [tSt]) (by decide) (by simp [tSt])) (by decide) (by simp [tSt])
theorem ok_zE : okE (.mk zE1) := .mk _ (by simp [okL, fits]) (by decide) (by simp) (by decide) (by simp)
theorem AS (A B : Int) (st : Bool) (hA : 1 ≤ A ∧ A ≤ 300) (hB : 1 ≤ B ∧ B ≤ 300) : KS (nst A B st) = some ([], 0) := by
 rw [← vd_nest A B st hA hB]
 refine p_valid _ ⟨by simp [nst], fun b hb => ?_⟩ ⟨by simp [nst], ?_⟩
 ·simp only [nst, List.mem_cons, List.not_mem_nil, or_false] at hb
  rcases hb with rfl | rfl <;> simp [okBf, fits]
 ·intro a ha
  simp only [nst, List.mem_singleton] at ha
  subst ha
  refine .mk _ (by simp [otn]) (by simp [otn]) ok_zE (by simp [otn]) fun a ha => ?_
  simp only [otn, List.mem_singleton] at ha
  subst ha
  refine .mk _ (by simp [inn]) (by simp [inn]) ok_zE ?_ fun a ha => ?_
  ·cases st <;> simp [inn, bdy]
  ·cases st with
   | false => simp [inn, bdy] at ha
   | true => simp only [inn, bdy, ↓reduceIte, List.mem_singleton] at ha; subst ha; exact ok_tSt
theorem Po (A B : Int) (st : Bool) : ∃ l, Vf (nst A B st) = some l ∧ (l = [] ∨ l = [[0, 0, 0]]) := by
 cases st with
 | false =>
  refine ⟨[], ?_, .inl rfl⟩
  rw [Vf]
  simp only [nst]
  repeat (simp [bSs, ix, w0, w1, w2, clo, otn, inn, bdy, GX]; try first | rw [Xs] | rw [Xj])
 | true =>
  refine ⟨[[0, 0, 0]], ?_, .inr rfl⟩
  rw [Vf]
  simp only [nst]
  repeat (simp [bSs, ix, w0, w1, w2, clo, otn, inn, bdy, GX, tSt]; try first | rw [Xs] | rw [Xj])
theorem Pc (l : List (List Int)) (h : l = [] ∨ l = [[0, 0, 0]]) : ∃ nu, ZU (Q2.mk [] 0 [] [] []) l l.length 0 = some (Q2.mk nu 0 [] [] []) := by
 obtain ⟨k, hk⟩ := t_key
 rcases h with rfl | rfl
 ·refine ⟨[], ?_⟩
  rw [ZU]
  simp
 ·refine ⟨CG k 0 [], ?_⟩
  rw [ZU]
  simp [ix, bSs, hk, w1]
  rw [ZU]
  simp
theorem P6 (A B : Int) (st : Bool) (hA : 1 ≤ A ∧ A ≤ 300) (hB : 1 ≤ B ∧ B ≤ 300) : ∃ l e, JD (nst A B st) = some (l, e) ∧
  ((e = 0 ∧ A + A * B ≤ 65536 ∧ (st = false → l = []) ∧ (st = true → (l.length : Int) = A * B ∧ A * B ≤ 2048 ∧ ∃ k, l.getLast? = some ⟨k, [A - 1, B - 1]⟩)) ∨ (e = 2 ∧ l = [] ∧ (65536 < A + A * B ∨ (st = true ∧ 2048 < A * B)))) := by
 obtain ⟨l, hl, hl2⟩ := Po A B st
 obtain ⟨nu, hn⟩ := Pc l hl2
 obtain ⟨r, hr, hq⟩ := t_out A B st hA hB A.toNat 0 (Q2.mk nu 0 [] [] []) (by omega) (by omega) rfl (by simp) (by simp) (by simp)
 rw [show (A.toNat : Int) = A by omega] at hq
 rw [JD, AS A B st hA hB]
 simp only [↓bSs, bne_self_eq_false, Bool.false_eq_true, ↓reduceIte, hl, hn]
 have hall : ∃ e s', Z8 (Q2.mk nu 0 [] [] []) (nst A B st).fd [] = some (e, s') ∧ ((e = 0 ∧ Aft st 0 (A + A * B) [] [] s' ∧ (st = true → (s'.fj.length : Int) = A * B ∧ ∃ k, s'.fj.getLast? = some ⟨k, [A - 1, B - 1]⟩)) ∨ (e = 2 ∧ Bad st 0 (A + A * B) (A * B) [])) := by
  rw [Z8]
  simp only [nst, ↓bSs, List.length_cons, List.length_nil]
  rw [QE]
  simp [bSs, ix, clo, show (otn A B st).fOp = 1 from rfl]
  rw [Yo]
  simp only [↓bSs, List.length_nil, show (otn A B st).fE = A from rfl]
  rw [show ((0 : Nat) : Int) = 0 from rfl, hr]
  rcases hq with ⟨s', rfl, e2, e3, e4⟩ | ⟨s', rfl, e2⟩
  ·simp [bSs, w1]
   rw [QE]
   simp [bSs]
   refine ⟨_, _, ⟨rfl, rfl⟩, .inl ⟨rfl, ⟨e2.c, by simpa using e2.it, by simpa using e2.it2, e2.o0, e2.o1⟩, fun h => ⟨by simpa using (e3 h).1, (e3 h).2 (by omega)⟩⟩⟩
  ·simp [bSs]
   refine ⟨_, _, ⟨rfl, rfl⟩, .inr ⟨rfl, ?_⟩⟩
   simpa [Bad] using e2
 obtain ⟨e, s', h1, h2⟩ := hall
 rw [h1]
 rcases h2 with ⟨rfl, a1, a2⟩ | ⟨rfl, a1⟩
 ·simp only [↓bSs, bne_self_eq_false, Bool.false_eq_true, ↓reduceIte]
  have := a1.it2
  refine ⟨_, _, rfl, .inl ⟨rfl, by omega, a1.o0, fun h => ⟨(a2 h).1, ?_, (a2 h).2⟩⟩⟩
  have := a1.o1 h
  have := (a2 h).1
  omega
 ·simp only [↓bSs, show ((2 : Int) != 0) = true from rfl, ↓reduceIte]
  refine ⟨_, _, rfl, .inr ⟨rfl, rfl, ?_⟩⟩
  simpa [Bad] using a1
end Go.Proofs.YtkgphhemcglgnaaGreatDoor
end
section
namespace Go.Proofs.YtkgphhemcglgnaaGreatDoor
open Go HY
set_option maxRecDepth 100000
set_option linter.unusedSimpArgs false
set_option linter.unusedVariables false
theorem ints2 (a b : Int) : Cw [a, b] [a, b] = some true := by
 rw [Cw]
 repeat (simp [bSs, ix, w0, w1, w2]; try rw [VK])
theorem s_law (x0 x1 : Int) (st : Bool) (h0 : 0 ≤ x0 ∧ x0 ≤ 65535) (h1 : 0 ≤ x1 ∧ x1 ≤ 65535) : Ut x0 x1 st = some true := by
 have hm0 : x0.tmod 300 = x0 % 300 := Int.tmod_eq_emod_of_nonneg h0.1
 have hm1 : x1.tmod 300 = x1 % 300 := Int.tmod_eq_emod_of_nonneg h1.1
 obtain ⟨A, hA, hAr⟩ : ∃ A, 1 + x0 % 300 = A ∧ 1 ≤ A ∧ A ≤ 300 := ⟨_, rfl, by omega, by omega⟩
 obtain ⟨B, hB, hBr⟩ : ∃ B, 1 + x1 % 300 = B ∧ 1 ≤ B ∧ B ≤ 300 := ⟨_, rfl, by omega, by omega⟩
 have wA : wr (1 + (wr x0).tmod 300) = A := by rw [ZI (n := x0) (by omega), hm0, hA, ZI (by omega)]
 have wB : wr (1 + (wr x1).tmod 300) = B := by rw [ZI (n := x1) (by omega), hm1, hB, ZI (by omega)]
 have hAB0 : 0 ≤ A * B := Int.mul_nonneg (by omega) (by omega)
 have hAB1 : A * B ≤ 90000 := by
  have := Int.mul_le_mul (a := A) (b := B) (c := 300) (d := 300) (by omega) (by omega) (by omega) (by omega)
  omega
 have hABp : 1 ≤ A * B := by
  have := Int.mul_le_mul (a := 1) (b := 1) (c := A) (d := B) (by omega) (by omega) (by omega) (by omega)
  omega
 obtain ⟨l, e, hI, hq⟩ := P6 A B st hAr hBr
 have wAB : wr (A * B) = A * B := ZI (by omega)
 have wS : wr (A + A * B) = A + A * B := ZI (by omega)
 unfold Ut Dz D7
 simp only [wA, wB]
 have wl : wr (A * B - 1) = A * B - 1 := ZI (by omega)
 have w3 : wr (A - 1) = A - 1 := ZI (by omega)
 have w4 : wr (B - 1) = B - 1 := ZI (by omega)
 have hex : VQ = some true := rfl
 cases st with
 | false =>
  have hI' := hI
  simp only [nst, otn, inn, bdy, Bool.false_eq_true, ↓reduceIte] at hI'
  simp [bSs, ix, wAB, wS, hI']
  rcases hq with ⟨rfl, a1, a2, _⟩ | ⟨rfl, rfl, a1⟩
  ·rw [if_neg (by omega)]
   simp [a2 rfl, hex]
  ·have : 65536 < A + A * B := by simpa using a1
   simp [this, hex]
 | true =>
  have hI' := hI
  simp only [nst, otn, inn, bdy, tSt, ↓reduceIte] at hI'
  simp [bSs, ix, wAB, wS, wl, w3, w4, hI']
  rcases hq with ⟨rfl, a1, _, a3⟩ | ⟨rfl, rfl, a1⟩
  ·obtain ⟨b1, b2, k, b3⟩ := a3 rfl
   rw [if_neg (by omega), if_neg (by omega)]
   have hne : l ≠ [] := by rintro rfl; simp at b3
   have hk : l[(A * B).toNat - 1]? = some ⟨k, [A - 1, B - 1]⟩ := by
    rw [← b3, List.getLast?_eq_getElem?]
    congr 1
    omega
   simp [b1, hABp, show (1 : Int) ≤ A * B from hABp, hk, ints2, hex]
   try omega
  ·have : (65536 < A + A * B) ∨ 2048 < A * B := by simpa using a1
   by_cases h : 65536 < A + A * B
   ·simp [h, hex]
   ·rw [if_neg h, if_pos (by omega)]
    simp [hex]
end Go.Proofs.YtkgphhemcglgnaaGreatDoor
end
section
namespace Go.Proofs.YtkgphhemcglgnaaGreatDoor
open Go HY Go.RowKit Go.ChangeShapes Go.WideShapes
set_option maxRecDepth 1000000
set_option linter.unusedVariables false
theorem u41 : Tryz.prog.underlying 41 = some (.int .u16) := by kernel_rfl
theorem u4 : Tryz.prog.underlying 4 = some .bool := by kernel_rfl
section
variable {H : Type} {enc : TypeId × Value → H} {w : World} {base : Nat} {spare : Nat → Bool} {held : Bool}
theorem rzU16 {P : Program} (n : Nat) {t : TypeId} (ht : P.underlying t = some (.int .u16)) : DH enc P w base spare held n t (fun a : Int => [.int .u16 a]) (fun a d => Sz P t d → 0 ≤ a ∧ a ≤ 65535) :=
 (Fp n ht).to id (fun _ => rfl) fun a d h _ => by
  have h1 := h.1
  simp only [Lit.wf, Bool.and_eq_true, decide_eq_true_eq] at h1
  have e1 : IntKind.u16.min = 0 := by decide
  have e2 : IntKind.u16.max = 65535 := by decide
  rw [e1, e2] at h1
  exact h1
end
end Go.Proofs.YtkgphhemcglgnaaGreatDoor
end
section
namespace HY
open Go Go.RowKit Go.ChangeShapes Go.WideShapes Go.ChangeAt
theorem Le {H : Type} {enc : TypeId × Value → H} {P : Program} (hl : laidOutB P = true) {W W' : World} (hb : Below W.heap.size W W') : ∀ {ts : List TypeId} {vs : List Value} {ds : List (DataW H)} {ps : List MemPlace},
  (∀ t ∈ ts, P.readableRec t = true ∧ t < P.types.size) → DataW.TrodAll enc P W 0 (fun _ => true) true ts vs ds ps → (∀ p ∈ ps, p.block < W.heap.size) → DataW.TrodAll enc P W' 0 (fun b => decide (b < W.heap.size)) true ts vs ds ps
 | [], [], [], _, _, h, _ => h
 | t :: ts, v :: vs, d :: ds, _, ht, ⟨p, q, h1, h2, e⟩, hp =>
  ⟨p, q, Below.trod hl (ht t (List.mem_cons_self ..)).1 (ht t (List.mem_cons_self ..)).2 h1 hb (fun x hx => hp x (by rw [e]; exact List.mem_append_left _ hx)),
   Le hl hb (fun t' h' => ht t' (List.mem_cons_of_mem _ h')) h2 (fun x hx => hp x (by rw [e]; exact List.mem_append_right _ hx)), e⟩
 | [], _ :: _, _, _, _, h, _ => h.elim
 | [], [], _ :: _, _, _, h, _ => h.elim
 | _ :: _, [], _, _, _, h, _ => h.elim
 | _ :: _, _ :: _, [], _, _, h, _ => h.elim
structure LawOk (P : Program) (f : Func) (tb : TypeId) : Prop where
 laid : laidOutB P = true
 pars : (f.params.toList.all fun t => P.readableRec t && decide (t < P.types.size)) = true
 res : f.resultTypes = #[tb]
 bool : P.underlying tb = some .bool
theorem Fo {H : Type} {enc : TypeId × Value → H} {P : Program} {f : Func} {tb : TypeId} (hok : LawOk P f tb) {s : ChangeSpec} {W W' : World} {args : Array Value} {ds gs : List (DataW H)} {before : List MemPlace} (hv : s.vars = [])
  (hW : DataW.Whole enc P f.params.toList s.vars false W args.toList ds gs before) (hfn : s.fn H (ds ++ gs) = { results := [.lit (.bool true)], args := ds }) (hb : Below W.heap.size W W') : s.post enc P f false true false false W args (.bool true) W' := by
 have hlt := hW.lt
 have hW' := hW
 obtain ⟨p, q, hA, hV, rfl, _, _⟩ := hW
 rw [hv] at hV
 obtain ⟨rfl, rfl⟩ : gs = [] ∧ q = [] := by
  cases gs with
  | nil => exact ⟨rfl, hV⟩
  | cons => exact hV.elim
 have hp := hok.pars
 rw [List.all_eq_true] at hp
 refine ⟨ds, [], p ++ [], [], p, [], hW', ?_, ?_, ?_, hb.frame _, fun h => by cases h⟩
 ·rw [hfn, hok.res]
  exact ⟨[], [], shut_bool hok.bool _, rfl, rfl⟩
 ·rw [hfn]
  exact Le hok.laid hb (fun t ht => by have := hp t ht; simp only [Bool.and_eq_true, decide_eq_true_eq] at this; exact this) hA (fun x hx => hlt x (List.mem_append_left _ hx))
 ·rw [hfn, hv]; exact rfl
end HY
end
section
namespace HY
open Go Go.RowKit Go.ChangeShapes Go.WideShapes Go.ChangeAt
theorem AD {P : Program} {gl : Nat → AV} {f : FuncId} {args : List AV} (hent : Wz P f) (h : Pu P gl f args (.bool true)) {W : World} {vs : Array Value} (hl : args.length = vs.size) (hgl : ∀ g, RelI (HV.full W) (gl g) (.pointer (some ⟨g, 0, none⟩))) (hgv : GvOk gl (fun k => k < W.heap.size) W)
  (hr : ∀ (j : Nat) (x : AV) (v : Value), args[j]? = some x → vs[j]? = some v → RelI (HV.full W) x v) : Calls P f vs W fun e W' => e = .returned (.bool true) ∧ Below W.heap.size W W' := by
 refine (Ans.calls (he := hent) <| h.ok (fun _ => ⟨0, 0, 0⟩) (HV.full W) (fun k => k < W.heap.size) (HV.full W) W vs
  { sat := P2 W, old := fun _ _ _ => rfl, low := fun _ h => h, fresh := fun _ _ => Zm _, box := (fun _ _ hh => by rw [Zm] at hh; cases hh), sepR := (fun _ _ hh => by rw [Zm] at hh; cases hh), injR := (fun _ _ _ _ hh => by rw [Zm] at hh; cases hh), gv := hgv, gl := hgl, ty := (fun _ _ _ hh => by rw [Zm] at hh; cases hh) } hl
  (fun j x v hx hv => .imm _ _ (hr j x v hx hv))).mono fun e W' hpost => ?_
 obtain ⟨v, m', H', he, hb, _, hv⟩ := hpost
 have := hv.bool_inv
 subst this
 exact ⟨he, hb.toB⟩
theorem AA {H : Type} {enc : TypeId × Value → H} {C : Checked} {os : Os} {f : FuncId} {fn : Func} {s : ChangeSpec} {X : World → Prop} (hX : ∀ w w' : World, w.heap = w'.heap → X w → X w')
  (own : ownKnob C.prog.godebug = none) (started : os.Started) (noInit : C.prog.inits.idxOf? f = none) (hfn : C.prog.funcs[f]? = some fn)
  (witness : ∃ (w : World) (tape : Tape) (i : Input), w.os = os ∧ (w.forCall tape i).Shaped C.prog ∧ i.vars = [] ∧ Input.okWide C.prog (w.forCall tape i) .any w.heap.size f i ∧
   ((s.pre enc C.prog fn [] false (w.forCall tape i).memory i.args ∧ X (w.forCall tape i).memory) ∧ sizedMet enc C.prog fn (OpenSpec.ofChange s) false (w.forCall tape i).memory i.args) ∧ ({} : Assume).holds C.prog (lone (Frame.enter C.prog f i.args .normal) [] (w.forCall tape i)))
  (Hd : ∀ (W : World) (base : Nat) (args : Array Value) (ds gs : List (DataW H)) (before : List MemPlace),
   (∀ (j : Nat) t v, fn.params[j]? = some t → args[j]? = some v → Value.okWide C.prog W .any base t v) → DataW.Whole enc C.prog fn.params.toList s.vars false W args.toList ds gs before → X W → W.ShapedOpen C.prog → (DataW.weightsEach C.prog (fn.params.toList ++ s.plain.varTypes C.prog) (ds ++ gs)).all (· ≤ reachBytes) = true →
   Calls C.prog f args W fun e W' => ∃ v, e = .returned v ∧ s.post enc C.prog fn false true false false W args v W') :
  ReturnsInHanded {} C os f .any (fun w args => (s.pre enc C.prog fn [] false w args ∧ X w) ∧ sizedMet enc C.prog fn (OpenSpec.ofChange s) false w args) (s.post enc C.prog fn false true false false) := by
 refine returnsInHanded_of_calls own started noInit witness fun w tape i _ hsh _ hok hpre _ => ?_
 obtain ⟨_, _, _, fn', hfn', _, _, _, _, hval⟩ := hok
 obtain rfl : fn' = fn := Option.some.inj (hfn'.symm.trans hfn)
 obtain ⟨⟨⟨ds, gs, before, hw, _⟩, hx⟩, hz⟩ := hpre
 refine (Hd (w.forCall tape i) w.heap.size i.args ds gs before hval (DataW.Whole.of_heap (w' := w.forCall tape i) (by rfl) hw) (hX _ _ (by rfl) hx) hsh (hz.weights hw)).mono fun e W' ⟨v, he, hp⟩ => ?_
 subst he
 exact ChangeSpec.post_blind hp
theorem IK {P : Program} {w : World} : ∀ {l : List (String × DataW Unit)} {ps : List MemPlace} (i : Nat) {n : String} {d : DataW Unit}, DataW.LaidVars P w l ps → l[i]? = some (n, d) →
  ∃ g t cs fuel p, P.globalNamed n = some g ∧ (P.globals[g]?).map (·.type) = some t ∧ w.var? P n = some cs ∧ DataW.trod (fun _ => ()) P w 0 (fun _ => true) false fuel t cs.toList = some (d, p)
 | [], _, i, _, _, _, hi => by simp at hi
 | (n0, d0) :: r, ps, i, n, d, h, hi => by
  obtain ⟨g, t, cs, fuel, p, q, h1, h2, h3, h4, h5, _⟩ := h
  cases i with
  | zero => cases hi; exact ⟨g, t, cs, fuel, p, h1, h2, h3, h4⟩
  | succ i => exact IK i h5 hi
def litZ (k : IntKind) (z : Int) : DataW Unit := .lit (.int k z)
theorem AC {P : Program} {w : World} {laid : List (String × DataW Unit)} (hm : laidMetH P laid w) (hpl : (laid.all fun x => x.2.handleName?.isNone) = true) (i : Nat) {n : String} {k : IntKind} {zs : List Int} (hi : laid[i]? = some (n, .agg (zs.map (litZ k))))
  {g t e : Nat} (hg : P.globalNamed n = some g) (hgt : (P.globals[g]?).map (·.type) = some t) (hu : P.underlying t = some (.array zs.length e)) (hc : P.cellsOf e = 1) (hue : P.underlying e = some (.int k)) (j : Nat) (z : Int) (hj : zs[j]? = some z) :
  w.cell? ⟨g, j, none⟩ = some (.int k z) := by
 rw [MakeChecks.laidMetH_plain _ _ _ hpl] at hm
 obtain ⟨ps, hl, _, _⟩ := hm
 obtain ⟨g', t', cs, fuel, p, e1, e2, e3, e4⟩ := IK i hl hi
 rw [hg] at e1; cases e1
 rw [hgt] at e2; cases e2
 obtain ⟨xs, m, rfl, hxe, hcl, hxl, hel⟩ := DataW.trod_array hu e4
 rw [World.var?_cell hg e3 j]
 have hjl : j < zs.length := (List.getElem?_eq_some_iff.1 hj).1
 have h1 := hel j hjl
 rw [hc] at h1
 have hxj : xs[j]? = some (xs[j]'(by omega)) := List.getElem?_eq_getElem (by omega)
 rw [hxj] at h1
 obtain ⟨v, h2, h3, _⟩ := DataW.trod_int hue h1
 have h4 : (xs.map (·.1))[j]? = some (.lit (.int k v)) := by rw [List.getElem?_map, hxj, Option.map_some, h3]
 have h5 : (.agg (zs.map (litZ k)) : DataW Unit) = .agg (xs.map (·.1)) := congrArg Prod.fst hxe
 have h6 : zs.map (litZ k) = xs.map (·.1) := by injection h5
 rw [← h6, List.getElem?_map, hj, Option.map_some] at h4
 simp only [litZ, Option.some.injEq, DataW.lit.injEq, Lit.int.injEq, true_and] at h4
 subst h4
 have h7 := congrArg (·[0]?) h2
 simp only [Nat.mul_one, List.getElem?_take, List.getElem?_drop, Nat.add_zero] at h7
 simpa using h7
theorem tab_rel {W : World} {g : Nat} {k : IntKind} {zs : List Int} (hz : 0 < zs.length) (h : ∀ (j : Nat) (z : Int), zs[j]? = some z → W.cell? ⟨g, j, none⟩ = some (.int k z)) : RelI (HV.full W) (.ip zs.length [.agg (zs.map (.int k))] 0 0) (.pointer (some ⟨g, 0, none⟩)) := by
 have hx0 : ∀ (i : Nat) (x : AV), [AV.agg (zs.map (AV.int k))][i]? = some x → i = 0 ∧ x = .agg (zs.map (.int k)) := fun i x hx => by
  cases i with
  | zero => simp at hx; exact ⟨rfl, hx.symm⟩
  | succ i => simp at hx
 have hc0 : ∀ (j : Nat) (c : AV), (zs.map (AV.int k))[j]? = some c → ∃ z, zs[j]? = some z ∧ c = .int k z := fun j c hc => by
  rw [List.getElem?_map, Option.map_eq_some_iff] at hc
  obtain ⟨z, h1, rfl⟩ := hc
  exact ⟨z, h1, rfl⟩
 suffices hs : RelI (HV.full W) (.ip zs.length [.agg (zs.map (.int k))] 0 0) (.pointer (some ⟨g, 0 + 0 * zs.length + 0, none⟩)) by
  rwa [show 0 + 0 * zs.length + 0 = 0 by omega] at hs
 refine RelI.ip zs.length [.agg (zs.map (.int k))] g 0 0 0 (fun _ j => .int k ((zs[j]?).getD 0)) hz (by simp) (fun i x hx => ?_) (fun i x j c hx hc => ?_) (fun i x j c hx hc => ?_)
 ·obtain ⟨rfl, rfl⟩ := hx0 i x hx
  show (zs.map (AV.int k)).length = _
  simp
 ·obtain ⟨rfl, rfl⟩ := hx0 i x hx
  obtain ⟨z, hz', rfl⟩ := hc0 j c hc
  rw [hz']
  refine ⟨?_, rfl⟩
  show W.cell? ⟨g, 0 + 0 * zs.length + j, none⟩ = _
  rw [show 0 + 0 * zs.length + j = j by omega]
  exact h j z hz'
 ·obtain ⟨rfl, rfl⟩ := hx0 i x hx
  obtain ⟨z, hz', rfl⟩ := hc0 j c hc
  rw [hz']
  exact .int _ _
theorem tab_gv {P : Program} {W : World} (h : W.ShapedOpen P) {g n t : Nat} {zero : Array Value} (hg : g < P.globals.size) (h0 : ((begin P (fun _ _ => 0) default).world.heap[g]?).bind Obj.row? = some (zero, t)) (hz : zero.size = n) : g < W.heap.size ∧ ∃ C e fr, W.heap[g]? = some (.cells C e fr) ∧ C.size = n := by
 obtain ⟨cs, h1, h2, _⟩ := h.1 g zero t hg h0
 refine ⟨?_, cs, t, _, h1, by omega⟩
 rcases Nat.lt_or_ge g W.heap.size with h | h
 ·exact h
 ·rw [Array.getElem?_eq_none h] at h1; cases h1
end HY
end
section
namespace Go.Proofs.YtkgphhemcglgnaaGreatDoor
open Go HY Go.RowKit Go.ChangeShapes Go.WideShapes Go.ChangeAt
set_option linter.unusedVariables false
theorem own : ownKnob Tryz.prog.godebug = none := by kernel_rfl
theorem lawOk : LawOk Tryz.prog Tryz.f5 4 := ⟨by kernel_rfl, by kernel_rfl, by kernel_rfl, by kernel_rfl⟩
def I6 : List (String × DataW Unit) := [("unicode.White_Space", Rows.laid_unicode_White_Space), ("strings.asciiSpace", Rows.laid_strings_asciiSpace)]
def spZ : List Int := List.replicate 9 0 ++ List.replicate 5 1 ++ List.replicate 18 0 ++ [1] ++ List.replicate 223 0
theorem sp_eq : spaces = spZ.map (.int .u8) := by kernel_rfl
theorem laid_sp : Rows.laid_strings_asciiSpace = .agg (spZ.map (litZ .u8)) := by kernel_rfl
theorem AN {a b : Nat} (h : Nat.blt a b = true) : a < b := Nat.le_of_ble_eq_true h
set_option maxRecDepth 100000 in
theorem gls_ok {W : World} (h : laidMetH Tryz.prog I6 W) (g : Nat) : RelI (HV.full W) (gls g) (.pointer (some ⟨g, 0, none⟩)) := by
 unfold gls
 cases h1 : Nat.beq g 0 with
 | true =>
  obtain rfl := Nat.eq_of_beq_eq_true h1
  have := tab_rel (W := W) (g := 0) (k := .u8) (zs := spZ) (AN (by kernel_rfl)) fun j z hj => AC h (by kernel_rfl) 1 (n := "strings.asciiSpace") (by rw [← laid_sp]; rfl) (g := 0) (t := 294) (e := 5) (by kernel_rfl) (by kernel_rfl) (by kernel_rfl) (by kernel_rfl) (by kernel_rfl) j z hj
  rw [← sp_eq] at this
  exact this
 | false => exact .undef _
theorem gv_ok {W : World} (h : W.ShapedOpen Tryz.prog) : GvOk gls (fun k => k < W.heap.size) W := fun g sz cs hg => by
 unfold gls at hg
 cases h1 : Nat.beq g 0 with
 | true =>
  obtain rfl := Nat.eq_of_beq_eq_true h1
  cases hg
  exact tab_gv h (g := 0) (n := 256) (zero := Array.replicate 256 (.int .u8 0)) (t := 294) (of_decide_eq_true (by kernel_rfl)) (by kernel_rfl) (by kernel_rfl)
 | false => rw [h1] at hg; cases hg
set_option maxRecDepth 100000 in
theorem Hd (H : Type) (enc : TypeId × Value → H) (W : World) (base : Nat) (args : Array Value) (ds gs : List (DataW H)) (before : List MemPlace)
  (hval : ∀ (j : Nat) t v, Tryz.f5.params[j]? = some t → args[j]? = some v → Value.okWide Tryz.prog W .any base t v)
  (hW : DataW.Whole enc Tryz.prog Tryz.f5.params.toList Rows.traceLimitsSpec.vars false W args.toList ds gs before)
  (hL : laidMetH Tryz.prog I6 W) (hS : W.ShapedOpen Tryz.prog) (hz : (DataW.weightsEach Tryz.prog (Tryz.f5.params.toList ++ Rows.traceLimitsSpec.plain.varTypes Tryz.prog) (ds ++ gs)).all (· ≤ reachBytes) = true) :
  Calls Tryz.prog 5 args W fun e W' => ∃ v, e = .returned v ∧ Rows.traceLimitsSpec.post enc Tryz.prog Tryz.f5 false true false false W args v W' := by
 have hW' := hW
 obtain ⟨p, q, hA0, hV, rfl, hfz, hnd⟩ := hW
 have hA : DataW.TrodAll enc Tryz.prog W 0 (fun _ => true) true Tryz.f5.params.toList args.toList ds p := hA0
 rw [Tryz.params5] at hA hval hz
 obtain ⟨v0, vs0, d0, ds0, p0, q0, hargs0, rfl, rfl, h0, r0⟩ := trodAll_cons hA
 obtain ⟨v1, vs1, d1, ds1, p1, q1, hargs1, rfl, rfl, h1, r1⟩ := trodAll_cons r0
 obtain ⟨v2, vs2, d2, ds2, p2, q2, hargs2, rfl, rfl, h2, r2⟩ := trodAll_cons r1
 obtain ⟨rfl, rfl, rfl⟩ := trodAll_nil r2
 obtain rfl : args = #[v0, v1, v2] := by cases args; simp_all
 obtain ⟨rfl, rfl⟩ := trodVars_none hV
 have hz1 : SzE Tryz.prog [41, 41, 4] [d0, d1, d2] := fun k hk => by
  have := List.all_eq_true.1 hz k hk
  simpa using this
 obtain ⟨z0, hz1⟩ := hz1.cons
 obtain ⟨z1, hz1⟩ := hz1.cons
 obtain ⟨z2, hz1⟩ := hz1.cons
 obtain ⟨a0, rfl⟩ := okWide_int u41 (hval 0 41 v0 rfl rfl)
 obtain ⟨a1, rfl⟩ := okWide_int u41 (hval 1 41 v1 rfl rfl)
 obtain ⟨a2, rfl⟩ := okWide_bool u4 (hval 2 4 v2 rfl rfl)
 obtain ⟨x0, i0, x0r⟩ := DH.arg (fun n => rzU16 (enc := enc) (w := W) (base := 0) (spare := fun _ => true) (held := true) n u41) h0
 obtain ⟨x1, i1, x1r⟩ := DH.arg (fun n => rzU16 (enc := enc) (w := W) (base := 0) (spare := fun _ => true) (held := true) n u41) h1
 obtain ⟨x2, i2, x2r⟩ := DH.arg (fun n => AO (enc := enc) (w := W) (base := 0) (spare := fun _ => true) (held := true) n u4) h2
 refine (AD (J4 (by kernel_rfl)) (Lg x0 x1 x2 true (s_law x0 x1 x2 (i0 z0) (i1 z1))) (W := W) rfl (gls_ok hL) (gv_ok hS) fun j t v ht hv => ?_).mono fun e W' ⟨he, hb⟩ => ⟨_, he, Fo lawOk rfl hW' rfl hb⟩
 match j with
 | 0 => cases ht; cases hv; exact x0r.val1 (fun _ h => by cases h)
 | 1 => cases ht; cases hv; exact x1r.val1 (fun _ h => by cases h)
 | 2 => cases ht; cases hv; exact x2r.val1 (fun _ h => by cases h)
 | j + 3 => cases ht
set_option maxRecDepth 100000 in
theorem lifted (os : Os) (started : os.Started) (H : Type) (enc : TypeId × Value → H) :
  ReturnsInHanded {} Tryz.checked os 5 .any (fun w args => (Rows.traceLimitsSpec.pre enc Tryz.prog Tryz.f5 [] false w args ∧ laidMetH Tryz.prog I6 w) ∧ sizedMet enc Tryz.prog Tryz.f5 (OpenSpec.ofChange Rows.traceLimitsSpec) false w args)
   (Rows.traceLimitsSpec.post enc Tryz.prog Tryz.f5 false true false false) := by
 refine AA (C := Tryz.checked) (X := fun w => laidMetH Tryz.prog I6 w) (fun _ _ hh h => h.of_heap hh) own started (by kernel_rfl) Tryz.func5
  (ChangeSpec.witness_shaped (enc := enc) (C := Tryz.checked) (os := os) (X := fun w _ => laidMetH Tryz.prog I6 w) false (World.laidAll Tryz.prog os I6)
   #[.int .u16 0, .int .u16 0, .bool false] 8 (World.laidAll_os _ _ _)
   (World.shaped_of_ZipB (by kernel_rfl) (by kernel_rfl)) (by kernel_rfl) (by kernel_rfl) (by kernel_rfl)
   (by rw [MakeChecks.laidMetH_plain _ _ _ (by kernel_rfl)]; exact laidMet_laidAll _ (by kernel_rfl) (by kernel_rfl))) ?_
 intro W base args ds gs before hval hW hL hS hz
 exact Hd H enc W base args ds gs before hval hW hL hS hz
theorem j1 : (Rows.traceLimitsRow.inPlace == Tryz.prog.inPlace 5) = true := by kernel_rfl
theorem j2 : (Rows.traceLimitsRow.unfollowed == Tryz.prog.unfollowed 5) = true := by kernel_rfl
theorem j3 : (Rows.traceLimitsRow.recurses == Tryz.prog.recurses 5) = true := by kernel_rfl
theorem j4 : (Rows.traceLimitsRow.named == Tryz.prog.varsNamed 5) = true := by kernel_rfl
theorem joined : joinedFacts Tryz.prog 5 Tryz.f5 Rows.traceLimitsSpec Rows.traceLimitsRow = true := by
 unfold joinedFacts
 rw [j1, j2, j3, j4]
 kernel_rfl
theorem g1 : Tryz.prog.funcNamed "brocade/brocadelaw33.TraceLimits" = some 5 := by kernel_rfl
theorem g2 : false = Tryz.prog.looks [] := by kernel_rfl
theorem g3 : false = Rows.traceLimitsRow.goesBy Tryz.prog := by kernel_rfl
theorem g4 : ([41, 41, 4].all fun u => !Tryz.prog.wantsStandIn u) = true := by kernel_rfl
theorem Fq : Rows.TraceLimitsSaid :=
 OpenClaim.holds_of_wide 5 Tryz.f5 rfl rfl rfl rfl rfl rfl rfl ⟨rfl, rfl, rfl, rfl, rfl⟩ rfl rfl rfl rfl rfl g1 Tryz.func5 joined
  (of_decide_eq_true (by kernel_rfl)) (by unfold Func.isWrapper; first | (rw [if_pos (by decide +kernel)]; kernel_rfl) | (rw [if_neg (by decide +kernel)]; exact ⟨rfl, rfl⟩))
  (fun os started H enc _ => lifted os started H enc)
theorem proved : Rows.TraceLimitsCardSaid :=
 Claim7.holds_tied_plain_at .later [] [.listed, .data] true (true, "220fbd8a5ba5e9f04272a9f9d4f892d20933e6e2bcfad22ded9e3ded4a41cff9") false Fq (fun _ h => by cases h) (by kernel_rfl) (fun _ h => by cases h) traceLimits_row_tie rfl ⟨rfl, rfl⟩ (by kernel_rfl) rfl
  (fun f fn hf hfn => by
   obtain rfl : f = 5 := Option.some.inj (g1.symm.trans hf) |>.symm
   obtain rfl : fn = Tryz.f5 := (Option.some.inj (Tryz.func5.symm.trans hfn)).symm
   exact ⟨g2, fun j t ht => by
    rw [Tryz.params5] at ht
    have hm : t ∈ [41, 41, 4] := by simpa using Array.mem_of_getElem? ht
    have hall := g4
    exact (show Tryz.prog.wantsStandIn t = false by simpa using List.all_eq_true.1 hall t hm)⟩)
  g3
end Go.Proofs.YtkgphhemcglgnaaGreatDoor
end
