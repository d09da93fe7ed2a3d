/- Lists, searched from the front. -/
import Derived.Test.YtcphiogbjdehhaaDoorS1
namespace Go.Proofs.YtcphiogbjdehhaaDoor
open Go HX

section
variable {α : Type} {l : List α} {i : Nat} {x : α} {q : α → Bool}
theorem lt_of_some (h : l[i]? = some x) : i < l.length := (List.getElem?_eq_some_iff.1 h).1
theorem some_of_lt (h : i < l.length) : ∃ x, l[i]? = some x := ⟨_, List.getElem?_eq_getElem h⟩
theorem take_succ_all (h : (l.take i).all q = true) (hx : l[i]? = some x) (hq : q x = true) : (l.take (i + 1)).all q = true := by
  rw [List.take_add_one, hx]; simp only [List.all_append, h, Option.toList_some, List.all_cons, hq, List.all_nil, Bool.and_self]
theorem all_false_at (hx : l[i]? = some x) (hq : q x = false) : l.all q = false := by
  rw [List.all_eq_false]; exact ⟨x, List.mem_of_getElem? hx, by simp [hq]⟩
theorem all_of_take (h : (l.take i).all q = true) (hi : l.length ≤ i) : l.all q = true := by rwa [List.take_of_length_le hi] at h
theorem findIdx_at (h : (l.take i).all q = true) (hx : l[i]? = some x) (hq : q x = false) : l.findIdx (fun x => !q x) = i := by
  induction l generalizing i with
  | nil => simp at hx
  | cons a l ih =>
    cases i with
    | zero => simp at hx; subst hx; simp [List.findIdx_cons, hq]
    | succ i =>
      simp only [List.take_succ_cons, List.all_cons, Bool.and_eq_true] at h
      simp only [List.getElem?_cons_succ] at hx
      simp [List.findIdx_cons, h.1, ih h.2 hx]
theorem map_get {β : Type} {f : α → β} (h : l[i]? = some x) : (l.map f)[((i : Int)).toNat]? = some (f x) := by simp [h]
theorem str_get {s : List UInt8} {c : UInt8} (h : s[i]? = some c) : s[((i : Int)).toNat]? = some c := by simpa using h
end
theorem contains_all {s : Str} {l : List Str} : l.contains s = !(l.all fun x => !(x == s)) := by
  induction l with
  | nil => rfl
  | cons a l ih =>
    simp only [List.contains_cons, ih, List.all_cons, Bool.not_and, Bool.not_not]
    congr 1
    exact Bool.eq_iff_iff.2 ⟨fun h => by simp at h ⊢; exact h.symm, fun h => by simp at h ⊢; exact h.symm⟩
theorem idxOf_at {s : Str} {l : List Str} {i : Nat} (h : (l.take i).all (fun x => !(x == s)) = true) (hx : l[i]? = some s) : l.idxOf s = i := by
  have := findIdx_at h hx (by simp)
  simpa [List.idxOf] using this
/-- A byte of a name, at its place. -/
def nameAt (i : Nat) (c : Int) : Bool := letterB c || (decide (0 < i) && (digitB c || c == 95))
def nameUpto (s : Str) (i : Nat) : Prop := ∀ k c, k < i → s[k]? = some c → nameAt k (u8i c) = true
theorem nameUpto_all {s : Str} (hne : s ≠ []) : nameUpto s s.length ↔ (letterB (u8i (s.headD 0)) = true ∧ s.all (fun b => wordB (u8i b)) = true) := by
  cases s with
  | nil => exact absurd rfl hne
  | cons a s =>
    simp only [List.headD_cons, List.all_cons, Bool.and_eq_true]
    constructor
    · intro h
      have h0 := h 0 a (by simp) rfl
      have h0' : letterB (u8i a) = true := by simpa [nameAt] using h0
      refine ⟨h0', by simp [wordB, h0'], ?_⟩
      rw [List.all_eq_true]
      intro b hb
      obtain ⟨k, hk⟩ := List.getElem?_of_mem hb
      have := h (k + 1) b (by have := (List.getElem?_eq_some_iff.1 hk).1; simp; omega) (by simpa using hk)
      simp [nameAt] at this
      simp [wordB]
      exact or_assoc.2 this
    · rintro ⟨h1, _, h3⟩ k c hk hc
      cases k with
      | zero => simp at hc; subst hc; simp [nameAt, h1]
      | succ k =>
        rw [List.all_eq_true] at h3
        have := h3 c (List.mem_of_getElem? (by simpa using hc))
        simp [wordB] at this
        simp [nameAt]
        exact or_assoc.1 this
theorem nameUpto_succ {s : Str} {i : Nat} {c : UInt8} (h : nameUpto s i) (hc : s[i]? = some c) (hn : nameAt i (u8i c) = true) : nameUpto s (i + 1) := fun k d hk hd => by
  rcases Nat.lt_or_ge k i with h1 | h1
  · exact h k d h1 hd
  · have : k = i := by omega
    subst this; rw [hc] at hd; cases hd; exact hn

end Go.Proofs.YtcphiogbjdehhaaDoor
