/- Code on abstract states: the transformer, and that it is sound. -/
import Derived.Test.YtghdepbcnckfpaaAhCall
namespace AH
open Go Go.RowKit

/-- Is the slot's value on its way to an append among these operations? -/
def futB (d : Option Nat) (rest : List Oper) : Bool :=
  match d with
  | some d => rest.any fun o => match o.op with
    | .call c => match c.callee with
      | .builtin .append => match c.args.toList with
        | .tmp t :: _ => t == d
        | _ => false
      | _ => false
    | _ => false
  | none => false

def astep (P : Program) (o : Oper) (fut : Bool) (st : St) (K : St → Prop) : Prop :=
  match o.op with
  | .call c => match c.callee with
    | .value (.func f) => acallF P f c.args.toList o.dst st K
    | .builtin _ => aval P fut o.dst o.op st (kput K o.dst)
    | _ => False
  | op => aval P fut o.dst op st (kput K o.dst)

def gslot (all : List Oper) (j : Nat) : Option Nat :=
  match all[j]? with
  | some o => o.dst
  | none => none

def aops (P : Program) (all : List Oper) (Q : Exit → St → Prop) : List Oper → St → Prop
  | [], st => Q .normal st
  | o :: r, st => dstOk o.dst st.n = true ∧ match o.guard with
    | none => astep P o (futB o.dst r) st (aops P all Q r)
    | some (j, want) => match gslot all j with
      | some g => match st.get g with
        | .bool t => if t = want then astep P o (futB o.dst r) (st.put g (.bool want)) (aops P all Q r) else aops P all Q r ((st.put g (.bool (!want))).putO o.dst .undef)
        | _ => False
      | none => False

def thenQ (K : St → Prop) (Q : Exit → St → Prop) : Exit → St → Prop
  | .normal, st => K st
  | e, st => Q e st

def blockQ (id : Nat) (Q : Exit → St → Prop) : Exit → St → Prop
  | .exit id', st => if id' = id then Q .normal st else Q (.exit id') st
  | e, st => Q e st

/-- The triple: from every frame and world that fit, the code comes to where Q holds. -/
def ATri (P : Program) (c : Code) (st : St) (Q : Exit → St → Prop) : Prop :=
  ∀ (B : Nat) (H0 : HV) (rest : List (AV × Value)) (G : Gh) (a : Act) (w : World), a.defers = [] → RelG G B H0 rest st a.tmps w →
    c.wp P (fun ex a' w' => ∃ st' G', Q ex st' ∧ st'.n = st.n ∧ a'.defers = [] ∧ Below B w w' ∧ RelG G' B H0 rest st' a'.tmps w') a w

theorem atri_congr {P : Program} {c : Code} {st st' : St} {Q : Exit → St → Prop} (h : st = st') : ATri P c st Q = ATri P c st' Q := by rw [h]

theorem ATri.mono {P : Program} {c : Code} {st : St} {Q Q' : Exit → St → Prop} (h : ATri P c st Q) (hq : ∀ e s, Q e s → Q' e s) : ATri P c st Q' :=
  fun B H0 rest G a w hd hr => Code.wp_mono (fun _ _ _ ⟨st', G', q, x⟩ => ⟨st', G', hq _ _ q, x⟩) (h B H0 rest G a w hd hr)

section
variable {P : Program} {G : Gh} {B : Nat} {H0 : HV} {rest : List (AV × Value)} {st : St} {a : Act} {w : World}

theorem astep_sound (h : RelG G B H0 rest st a.tmps w) {o : Oper} (hd : dstOk o.dst st.n = true) {fut : Bool} {K : St → Prop} (hk : astep P o fut st K) : StepOk P B H0 rest st.n a w o K := by
  unfold astep at hk
  split at hk
  · rename_i c ho
    split at hk
    · rename_i f hc
      exact acallF_sound h hd ho hc hk
    · exact (aval_sound h hd hk).step
    · exact hk.elim
  · exact (aval_sound h hd hk).step

theorem yielded_bool {l : List Oper} {j g : Nat} {t : Bool} (hg : gslot l j = some g) (ht : a.tmps.getD g Go.undef = .bool t) : yielded l.toArray a.tmps j = some t := by
  have hlt : g < a.tmps.size := by
    rcases Nat.lt_or_ge g a.tmps.size with h | h
    · exact h
    · rw [Array.getD_eq_getD_getElem?, Array.getElem?_eq_none h] at ht; cases ht
  have hgo : ((l.toArray[j]?).bind (·.dst)) = some g := by
    unfold gslot at hg
    simp only [List.getElem?_toArray]
    split at hg
    · rename_i o ho; rw [ho]; exact hg
    · cases hg
  rw [Array.getD_eq_getD_getElem?, Array.getElem?_eq_getElem hlt, Option.getD_some] at ht
  simp only [yielded, hgo, Option.bind_some, Array.getElem?_eq_getElem hlt, ht]

/-- The post that a triple asks for. -/
def Post (B : Nat) (H0 : HV) (rest : List (AV × Value)) (n : Nat) (w : World) (Q : Exit → St → Prop) (ex : Exit) (a' : Act) (w' : World) : Prop :=
  ∃ st' G', Q ex st' ∧ st'.n = n ∧ a'.defers = [] ∧ Below B w w' ∧ RelG G' B H0 rest st' a'.tmps w'

theorem aops_sound (all : List Oper) (Q : Exit → St → Prop) (w0 : World) (n : Nat) : ∀ (l : List Oper) (st : St) (G : Gh) (a : Act) (w : World), aops P all Q l st → st.n = n → a.defers = [] → Below B w0 w → RelG G B H0 rest st a.tmps w →
    wpList P all.toArray (Post B H0 rest n w0 Q) l a w
  | [], st, G, a, w, hk, hn, hd, hb, h => ⟨st, G, hk, hn, hd, hb, h⟩
  | o :: r, st, G, a, w, hk, hn, hd, hb, h => by
    obtain ⟨hdst, hk⟩ := hk
    unfold wpList
    have go : ∀ (st1 : St) (G1 : Gh), st1.n = n → RelG G1 B H0 rest st1 a.tmps w → astep P o (futB o.dst r) st1 (aops P all Q r) → Region.wanted o (yielded all.toArray a.tmps) = true →
        (if Region.wanted o (yielded all.toArray a.tmps) then o.wp P a w (wpList P all.toArray (Post B H0 rest n w0 Q) r) (Post B H0 rest n w0 Q) ∨ (o.asks P a w ∧ LetsOut (Post B H0 rest n w0 Q))
          else wpList P all.toArray (Post B H0 rest n w0 Q) r (a.put o.dst Go.undef) w) := by
      intro st1 G1 hn1 h1 hs hw
      rw [if_pos hw]
      refine .inl (astep_sound h1 (by rw [hn1, ← hn]; exact hdst) hs _ _ fun a' w' st' G' hk' hn' hd' hb' h' => ?_)
      exact aops_sound all Q w0 n r st' G' a' w' hk' (hn'.trans hn1) (hd'.trans hd) (hb.trans hb') h'
    cases hg : o.guard with
    | none =>
      rw [hg] at hk
      exact go st G hn h hk (by simp [Region.wanted, hg])
    | some x =>
      obtain ⟨j, want⟩ := x
      rw [hg] at hk
      simp only at hk
      split at hk
      · rename_i g hgs
        split at hk
        · rename_i t ht
          have hv := h.slot g
          rw [ht] at hv
          have hval : a.tmps.getD g Go.undef = .bool t := (show Rel0 G.H G.io (.bool t) _ from hv).bool_inv
          have hy := yielded_bool hgs hval
          by_cases hw : t = want
          · subst hw
            rw [if_pos rfl] at hk
            refine go (st.put g (.bool t)) G hn (h.weaken hv) hk ?_
            simp [Region.wanted, hg, hy]
          · rw [if_neg hw] at hk
            have ht' : t = !want := by revert hw; cases t <;> cases want <;> simp
            subst ht'
            rw [if_neg (by simp only [Region.wanted, hg, hy]; revert hw; cases want <;> simp)]
            refine aops_sound all Q w0 n r _ G _ w hk ?_ ((put_defers' _ _ _).trans hd) hb ?_
            · rw [putO_n]; exact hn
            · exact (h.weaken hv).putO hdst fun _ _ => RelV.undef
        · exact hk.elim
      · exact hk.elim

end
end AH
