/- A schedule's text, read line by line. -/
import Derived.Test.YtcphiogbjdehhaaDoorS5
import Derived.Test.YtcphiogbjdehhaaDoorS4
namespace Go.Proofs.YtcphiogbjdehhaaDoor
open Go HX

theorem cutS_len (c : UInt8) : ∀ (s l r : Str), cutS c s = some (l, r) → s = l ++ c :: r
  | [], l, r, h => by simp [cutS] at h
  | a :: s, l, r, h => by
    unfold cutS at h
    split at h
    · rename_i e; cases h; subst e; rfl
    · split at h
      · cases h
      · rename_i l' r' e
        cases h
        rw [cutS_len c s l' r e]; rfl
theorem cutS_no (c : UInt8) : ∀ (s : Str), (∀ x ∈ s, x ≠ c) → cutS c s = none
  | [], _ => rfl
  | a :: s, h => by unfold cutS; rw [if_neg (h a List.mem_cons_self), cutS_no c s fun x hx => h x (List.mem_cons_of_mem _ hx)]
theorem cutS_at (c : UInt8) : ∀ (p r : Str), (∀ x ∈ p, x ≠ c) → cutS c (p ++ c :: r) = some (p, r)
  | [], r, _ => by simp [cutS]
  | a :: p, r, h => by
    rw [List.cons_append]; unfold cutS
    rw [if_neg (h a List.mem_cons_self), cutS_at c p r fun x hx => h x (List.mem_cons_of_mem _ hx)]

/-- The steps read so far, when reading stops, the error, and what is left. -/
structure PR where
  o : List Step
  e : Int
  r : Str
def parF : Nat → List Step → Str → PR
  | 0, out, s => ⟨out, 0, s⟩
  | n + 1, out, s => if s = [] then ⟨out, 0, s⟩ else if out.length = 64 then ⟨out, 2, s⟩ else match cutS 10 s with
    | none => ⟨out, 6, s⟩
    | some (l, r) => if linE l ≠ 0 then ⟨out, linE l, s⟩ else parF n (out ++ [linX l]) r
theorem parF_eq : ∀ (n m : Nat) (out : List Step) (s : Str), s.length ≤ n → s.length ≤ m → parF n out s = parF m out s
  | 0, m, out, s, h, _ => by
    have : s = [] := List.eq_nil_of_length_eq_zero (by omega)
    subst this
    cases m <;> simp [parF]
  | n + 1, 0, out, s, _, h => by
    have : s = [] := List.eq_nil_of_length_eq_zero (by omega)
    subst this
    simp [parF]
  | n + 1, m + 1, out, s, h1, h2 => by
    unfold parF
    split
    · rfl
    · split
      · rfl
      · cases hc : cutS 10 s with
        | none => rfl
        | some p =>
          have := cutS_len 10 s p.1 p.2 hc
          have hl := congrArg List.length this
          simp only [List.length_append, List.length_cons] at hl
          simp only
          split
          · rfl
          · exact parF_eq n m _ _ (by omega) (by omega)
def parS (out : List Step) (s : Str) : PR := parF s.length out s
theorem parS_nil (out : List Step) : parS out [] = ⟨out, 0, []⟩ := rfl
theorem parS_eq {out : List Step} {s : Str} (h : s ≠ []) : parS out s = if out.length = 64 then ⟨out, 2, s⟩ else match cutS 10 s with
    | none => ⟨out, 6, s⟩
    | some (l, r) => if linE l ≠ 0 then ⟨out, linE l, s⟩ else parS (out ++ [linX l]) r := by
  obtain ⟨a, t, rfl⟩ := List.exists_cons_of_ne_nil h
  show parF (t.length + 1) out (a :: t) = _
  unfold parF
  rw [if_neg h]
  split
  · rfl
  · cases hc : cutS 10 (a :: t) with
    | none => rfl
    | some p =>
      have := cutS_len 10 _ p.1 p.2 hc
      have hl := congrArg List.length this
      simp only [List.length_append, List.length_cons] at hl
      simp only
      split
      · rfl
      · exact parF_eq _ _ _ _ (by omega) (by omega)

theorem parS_64 {out : List Step} {s : Str} (h : s ≠ []) (ho : out.length = 64) : parS out s = ⟨out, 2, s⟩ := by rw [parS_eq h, if_pos ho]
theorem parS_no {out : List Step} {s : Str} (h : s ≠ []) (ho : out.length ≠ 64) (hc : cutS 10 s = none) : parS out s = ⟨out, 6, s⟩ := by rw [parS_eq h, if_neg ho, hc]
theorem parS_bad {out : List Step} {s l r : Str} (h : s ≠ []) (ho : out.length ≠ 64) (hc : cutS 10 s = some (l, r)) (he : linE l ≠ 0) : parS out s = ⟨out, linE l, s⟩ := by rw [parS_eq h, if_neg ho, hc]; simp only; rw [if_pos he]
theorem parS_go {out : List Step} {s l r : Str} (h : s ≠ []) (ho : out.length ≠ 64) (hc : cutS 10 s = some (l, r)) (he : linE l = 0) : parS out s = parS (out ++ [linX l]) r := by rw [parS_eq h, if_neg ho, hc]; simp only; rw [if_neg (by simp [he])]

theorem parS_end {out : List Step} {s : Str} (h : ∀ x ∈ s, x ≠ 10) : parS out s = ⟨out, if s = [] then 0 else if out.length = 64 then 2 else 6, s⟩ := by
  by_cases h0 : s = []
  · subst h0; rfl
  · by_cases h1 : out.length = 64
    · rw [parS_64 h0 h1, if_neg h0, if_pos h1]
    · rw [parS_no h0 h1 (cutS_no 10 s h), if_neg h0, if_neg h1]
theorem parS_fin : ∀ (n : Nat) (out : List Step) (s : Str), s.length ≤ n → ((parS out s).e = 0 ↔ (parS out s).r = []) ∧ ((∀ x ∈ (parS out s).r, x ≠ 10) → (parS out s).e = if (parS out s).r = [] then 0 else if (parS out s).o.length = 64 then 2 else 6)
  | n, out, [], _ => by simp [parS_nil]
  | 0, out, a :: s, h => by simp at h
  | n + 1, out, a :: s, h => by
    have h0 : a :: s ≠ [] := by simp
    by_cases h1 : out.length = 64
    · rw [parS_64 h0 h1]; simp [h1]
    · cases hc : cutS 10 (a :: s) with
      | none => rw [parS_no h0 h1 hc]; simp [h1]
      | some p =>
        obtain ⟨l, r⟩ := p
        have hs := cutS_len 10 _ _ _ hc
        by_cases he : linE l = 0
        · rw [parS_go h0 h1 hc he]
          have hl := congrArg List.length hs
          simp only [List.length_append, List.length_cons] at hl h
          exact parS_fin n _ _ (by omega)
        · rw [parS_bad h0 h1 hc he]
          refine ⟨by simp [he], fun hx => absurd rfl (hx 10 (by simp only; rw [hs]; simp))⟩

theorem parS_rlen : ∀ (n : Nat) (out : List Step) (s : Str), s.length ≤ n → (parS out s).r.length ≤ s.length
  | n, out, [], _ => by simp [parS_nil]
  | 0, out, a :: s, h => by simp at h
  | n + 1, out, a :: s, h => by
    have h0 : a :: s ≠ [] := by simp
    by_cases h1 : out.length = 64
    · rw [parS_64 h0 h1]; exact Nat.le_refl _
    · cases hc : cutS 10 (a :: s) with
      | none => rw [parS_no h0 h1 hc]; exact Nat.le_refl _
      | some p =>
        obtain ⟨l, r⟩ := p
        have hl := congrArg List.length (cutS_len 10 _ _ _ hc)
        simp only [List.length_append, List.length_cons] at hl h
        by_cases he : linE l = 0
        · rw [parS_go h0 h1 hc he]
          have := parS_rlen n (out ++ [linX l]) r (by omega)
          simp only [List.length_cons]; omega
        · rw [parS_bad h0 h1 hc he]; exact Nat.le_refl _
theorem parS_rle {out : List Step} {s : Str} {o : List Step} {e : Int} {r : Str} (h : parS out s = ⟨o, e, r⟩) : r.length ≤ s.length := by
  have := parS_rlen s.length out s (Nat.le_refl _)
  rwa [h] at this

def celS (l : List Step) : List AV := l.flatMap Step.cells
/-- A list of steps that was made by appending. -/
def stV (l : List Step) : AV := match l with | [] => .nil | a :: t => .bs 0 0 4 0 (a :: t).length
def stB (l : List Step) : List Bx := match l with | [] => [] | a :: t => [(0, celS (a :: t))]
def stT (l : List Step) : AV := match l with | [] => .nil | a :: t => stepsAV (a :: t)
theorem stV_ne {l : List Step} (h : l ≠ []) : stV l = .bs 0 0 4 0 l.length := by cases l with | nil => exact absurd rfl h | cons a t => rfl
theorem stB_ne {l : List Step} (h : l ≠ []) : stB l = [(0, celS l)] := by cases l with | nil => exact absurd rfl h | cons a t => rfl
theorem stT_ne {l : List Step} (h : l ≠ []) : stT l = stepsAV l := by cases l with | nil => exact absurd rfl h | cons a t => rfl
theorem imm_sl {sz : Nat} {xs : List AV} : Imm (.sl sz xs) := fun _ _ _ h => h.sl_inv
theorem imm_cel (l : List Step) : ∀ c ∈ celS l, Imm c := fun c hc => by
  obtain ⟨x, _, hx⟩ := List.mem_flatMap.1 hc
  simp only [Step.cells, List.mem_cons, List.not_mem_nil, or_false] at hx
  rcases hx with rfl | rfl | rfl | rfl
  · exact imm_int _ _
  · exact imm_str _
  · exact imm_int _ _
  · exact imm_sl
theorem allImm_cel (l : List Step) : AllImm (celS l) := ⟨imm_cel l⟩
theorem celS_len (l : List Step) : (celS l).length = l.length * 4 := by
  induction l with
  | nil => rfl
  | cons a l ih => simp only [celS, List.flatMap_cons, List.length_append, List.length_cons] at ih ⊢; rw [ih]; show 4 + _ = _; omega
theorem celS_snoc (l : List Step) (x : Step) : celS (l ++ [x]) = celS l ++ x.cells := by simp [celS]
theorem rows_cel (l : List Step) : HX.Rows 4 (l.map Step.av) (celS l) := by
  refine ⟨?_, fun x hx => ?_, fun c hc => imm_cel l c hc⟩
  · induction l with
    | nil => rfl
    | cons a l ih => simp only [celS, List.flatMap_cons, List.map_cons] at ih ⊢; rw [ih]; rfl
  · obtain ⟨s, _, rfl⟩ := List.mem_map.1 hx; rfl
theorem rows_cel_take (l : List Step) : ((0 + l.length * 4 ≤ (celS l).length ∧ (l.map Step.av).length = l.length ∧ 0 < 4) ∧ HX.Rows 4 (l.map Step.av) ((List.drop 0 (celS l)).take (l.length * 4))) := by
  have h := celS_len l
  exact ⟨⟨by omega, by simp, by omega⟩, by rw [List.drop_zero, List.take_of_length_le (by omega)]; exact rows_cel l⟩
/-- What Parse answers. -/
def parR (s : Str) : AV := if 65536 < s.length then .tup [.nil, .int .i64 0, .int .i64 2] else if (parS [] s).e = 0 then .tup [stT (parS [] s).o, .int .i64 (parS [] s).o.length, .int .i64 0] else .tup [.nil, .int .i64 (parS [] s).o.length, .int .i64 (parS [] s).e]
end Go.Proofs.YtcphiogbjdehhaaDoor
