/- The static check of a region that draws its order. -/
import Derived.Test.YtghdepbcnckfpaaAhMix
namespace AH
open Go Go.RowKit

def Operand.tmp? : Operand → Option Nat
  | .tmp t => some t
  | _ => none

def rdO (all : List Oper) (o : Oper) : List Nat :=
  o.op.operands.toList.filterMap Operand.tmp? ++ match o.guard with
    | some (j, _) => (gslot all j).toList
    | none => []

def Hk.cl : Hk → Hk → Bool
  | .wr, .rd => true
  | .wr, .wr => true
  | .rd, .wr => true
  | _, _ => false

def meet (a b : List Nat) : Bool := a.any fun x => b.contains x

/-- Do two operations stand in each other's way? -/
def confl (all : List Oper) (o : Oper) (fo : Bool) (p : Oper) (fp : Bool) : Bool :=
  meet (wr fo o) (rdO all p) || meet (wr fo o) (wr fp p) || meet (rdO all o) (wr fp p) || (hk fo o).cl (hk fp p)

def maskE (acc : List Nat) (es : List Edge) : Nat :=
  match es with
  | [] => 0
  | e :: r => if Region.binds .any e then (2 ^ e.on ||| acc.getD e.on 0) ||| maskE acc r else maskE acc r

/-- The operations that are surely done ahead of each. -/
def masks : List Oper → List Nat → List Nat
  | [], acc => acc
  | o :: l, acc => masks l (acc ++ [maskE acc o.after.toList])

def ckAll (all : List Oper) (ms : List Nat) : List Oper → List Oper → Bool
  | _, [] => true
  | pre, p :: l => (List.range pre.length).all (fun i => match all[i]? with
      | some o => !confl all o (futB o.dst (all.drop (i + 1))) p (futB p.dst l) || (ms.getD pre.length 0).testBit i
      | none => true)
    && p.after.toList.all (fun e => !Region.binds .any e || decide (e.on < pre.length))
    && (match p.op with | .load _ _ => !futB p.dst l | _ => true)
    && ckAll all ms (pre ++ [p]) l

def drawOk (all : List Oper) : Bool := ckAll all (masks all []) [] all

structure CkAt (all : List Oper) (j : Nat) (p : Oper) : Prop where
  pair : ∀ i o, i < j → all[i]? = some o → confl all o (futB o.dst (all.drop (i + 1))) p (futB p.dst (all.drop (j + 1))) = true → ((masks all []).getD j 0).testBit i = true
  before : ∀ e ∈ p.after, Region.binds .any e = true → e.on < j
  load : ∀ t x, p.op = .load t x → futB p.dst (all.drop (j + 1)) = false

theorem ckAll_spec {all : List Oper} : ∀ (l pre : List Oper), all = pre ++ l → ckAll all (masks all []) pre l = true → ∀ j p, pre.length ≤ j → all[j]? = some p → CkAt all j p
  | [], pre, he, _, j, p, hj, hp => by
    rw [he, List.append_nil, List.getElem?_eq_none hj] at hp; cases hp
  | q :: l, pre, he, h, j, p, hj, hp => by
    simp only [ckAll, Bool.and_eq_true, List.all_eq_true] at h
    obtain ⟨⟨⟨h1, h2⟩, h3⟩, h4⟩ := h
    by_cases hjl : j = pre.length
    · have hq : q = p := by
        rw [he, hjl, List.getElem?_append_right (Nat.le_refl _)] at hp
        simpa using hp
      subst hq
      have hdrop : all.drop (j + 1) = l := by
        rw [he, hjl, List.drop_append, List.drop_of_length_le (by omega)]
        simp
      subst hjl
      refine ⟨fun i o hi ho hc => ?_, fun e he' hb => ?_, fun t x ht => ?_⟩
      · have := h1 i (List.mem_range.2 hi)
        rw [ho] at this
        simp only [Bool.or_eq_true] at this
        rw [hdrop] at hc
        rw [hc] at this
        simpa using this
      · have := h2 e (Array.mem_toList_iff.2 he')
        simpa [hb] using this
      · rw [hdrop]
        rw [ht] at h3
        simpa using h3
    · exact ckAll_spec l (pre ++ [q]) (by simp [he]) h4 j p (by simp; omega) hp

theorem drawOk_spec {all : List Oper} (h : drawOk all = true) (j : Nat) (p : Oper) (hp : all[j]? = some p) : CkAt all j p :=
  ckAll_spec all [] rfl h j p (Nat.zero_le _) hp

/-- A set of operations that are done, with all that binds them. -/
def Closed (all : List Oper) (L : Nat → Bool) : Prop := ∀ j o, all[j]? = some o → L j = true → ∀ e ∈ o.after, Region.binds .any e = true → L e.on = true

theorem maskE_spec {acc : List Nat} {L : Nat → Bool} (hacc : ∀ p i, (acc.getD p 0).testBit i = true → L p = true → L i = true) : ∀ (es : List Edge), (∀ e ∈ es, Region.binds .any e = true → L e.on = true) → ∀ i, (maskE acc es).testBit i = true → L i = true
  | [], _, i, h => by simp [maskE] at h
  | e :: r, hes, i, h => by
    have ih := maskE_spec hacc r (fun e he => hes e (List.mem_cons_of_mem _ he)) i
    unfold maskE at h
    split at h
    · rename_i hb
      have hl := hes e (List.mem_cons_self ..) hb
      rw [Nat.testBit_or, Nat.testBit_or, Bool.or_eq_true, Bool.or_eq_true, Nat.testBit_two_pow] at h
      rcases h with (h | h) | h
      · have : e.on = i := by simpa using h
        subst this; exact hl
      · exact hacc _ _ h hl
      · exact ih h
    · exact ih h

theorem masks_spec {all : List Oper} {L : Nat → Bool} (hL : Closed all L) : ∀ (l pre : List Oper) (acc : List Nat), all = pre ++ l → acc.length = pre.length → (∀ p i, (acc.getD p 0).testBit i = true → L p = true → L i = true) →
    ∀ p i, ((masks l acc).getD p 0).testBit i = true → L p = true → L i = true
  | [], _, _, _, _, h => h
  | o :: l, pre, acc, he, hlen, h => by
    refine masks_spec hL l (pre ++ [o]) _ (by simp [he]) (by simp [hlen]) fun p i hb hp => ?_
    rcases Nat.lt_trichotomy p acc.length with hlt | heq | hgt
    · refine h p i ?_ hp
      rw [List.getD_eq_getElem?_getD, List.getElem?_append_left hlt, ← List.getD_eq_getElem?_getD] at hb
      exact hb
    · subst heq
      rw [List.getD_eq_getElem?_getD, List.getElem?_append_right (Nat.le_refl _), Nat.sub_self] at hb
      simp only [List.getElem?_cons_zero, Option.getD_some] at hb
      have ho : all[acc.length]? = some o := by rw [he, hlen, List.getElem?_append_right (Nat.le_refl _)]; simp
      exact maskE_spec h _ (fun e hm hbd => hL _ o ho hp e (Array.mem_toList_iff.1 hm) hbd) i hb
    · rw [List.getD_eq_getElem?_getD, List.getElem?_eq_none (by simp; omega)] at hb
      simp at hb

theorem masks_closed {all : List Oper} {L : Nat → Bool} (hL : Closed all L) (p i : Nat) (h : ((masks all []).getD p 0).testBit i = true) (hp : L p = true) : L i = true :=
  masks_spec hL all [] [] rfl rfl (fun p i h => by simp at h) p i h hp

theorem meet_spec {a b : List Nat} {k : Nat} (ha : k ∈ a) (hb : k ∈ b) : meet a b = true := by
  unfold meet
  rw [List.any_eq_true]
  exact ⟨k, ha, by simpa using hb⟩
end AH
