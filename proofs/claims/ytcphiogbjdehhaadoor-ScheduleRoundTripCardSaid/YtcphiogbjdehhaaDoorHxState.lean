/- The abstract state of a frame and its relation; values of operations that change no memory. -/
import Derived.Test.YtcphiogbjdehhaaDoorHxBase
namespace HX
open Go Go.RowKit

theorem beq_ne {k j : Nat} (h : k ≠ j) : Nat.beq k j = false := by
  cases hb : Nat.beq k j
  · rfl
  · exact absurd (Nat.eq_of_beq_eq_true hb) h
theorem lk_pt {α : Type} (d : α) (l : Tr α) (k : Nat) (v : α) (j : Nat) : lk d (pt l k v) j = if k = j then v else lk d l j := by
  unfold lk pt
  rw [Tr.get_set]
  by_cases h : k = j
  · subst h; simp
  · rw [if_neg (fun e => h (path_inj.1 e)), if_neg h]

def lkb (t : Tr Box) (k : Nat) : Option Box := t.get (path k)
theorem lkb_pt (l : Tr Box) (k : Nat) (v : Box) : lkb (pt l k v) = updF (lkb l) k (some v) := by
  funext j
  unfold lkb pt updF
  rw [Tr.get_set]
  by_cases h : j = k
  · subst h; simp
  · rw [if_neg (fun e => h (path_inj.1 e).symm), if_neg h]
theorem lkb_nil (k : Nat) : lkb .nil k = none := by
  unfold lkb; cases path k <;> rfl

structure St where
  n : Nat
  sl : Tr AV
  hp : Tr Box
  nx : Nat

def St.get (st : St) (k : Nat) : AV := lk .undef st.sl k
def St.putO (st : St) (dst : Option Nat) (v : AV) : St :=
  match dst with
  | some d => match st with | ⟨n, sl, hp, nx⟩ => ⟨n, pt sl d v, hp, nx⟩
  | none => st
def St.setHp (st : St) (hp : Tr Box) (nx : Nat) : St := match st with | ⟨n, sl, _, _⟩ => ⟨n, sl, hp, nx⟩
def St.bump (st : St) (k : Nat) : St := match st with | ⟨n, sl, hp, nx⟩ => ⟨n, sl, hp, nx + k⟩
def St.eff (st : St) (dst : Option Nat) (r : AV × Option (Nat × Box)) : St :=
  match r with
  | (v, some (id, b)) => match dst with
    | some d => match st with | ⟨n, sl, hp, nx⟩ => ⟨n, pt sl d v, pt hp id b, nx⟩
    | none => match st with | ⟨n, sl, hp, nx⟩ => ⟨n, sl, pt hp id b, nx⟩
  | (v, none) => st.putO dst v

def St.ev (gl : Nat → AV) (st : St) : Operand → AV
  | .tmp t => st.get t
  | .const v => ofV v
  | .func f => .fn f []
  | .global g => gl g

abbrev St.env (st : St) (m : Nat → Lc) : Env := envOf (lkb st.hp) m

structure RelS (m : Nat → Lc) (H : HV) (B : Nat) (H0 : HV) (gl : Nat → AV) (rest : List (AV × Value)) (st : St) (tmps : Array Value) (w : World) : Prop where
  heap : RelH m H B H0 gl (lkb st.hp) st.nx w
  size : tmps.size = st.n
  slot : ∀ k, RV H (st.env m) (st.get k) (tmps.getD k Go.undef)
  rest : ∀ p ∈ rest, RV H (st.env m) p.1 p.2

def dstOk (dst : Option Nat) (n : Nat) : Bool :=
  match dst with
  | some d => Nat.blt d n
  | none => true

def OpOk (P : Program) (B : Nat) (H0 : HV) (gl : Nat → AV) (rest : List (AV × Value)) (a : Act) (w : World) (dst : Option Nat) (st' : St) (s : Sem Next) : Prop :=
  ∃ nx v w' m' H', s.run P w = .ok nx w' ∧ (nx = .value v ∨ nx = .skip ∧ v = Go.undef) ∧ Below B w w' ∧ RelS m' H' B H0 gl rest st' (a.put dst v).tmps w'

theorem getD_set (a : Array Value) (d k : Nat) (v : Value) (hd : d < a.size) : (a.setIfInBounds d v).getD k Go.undef = if d = k then v else a.getD k Go.undef := by
  simp only [Array.getD_eq_getD_getElem?, Array.getElem?_setIfInBounds]
  by_cases h : d = k
  · subst h; simp [hd]
  · simp [h]

section
variable {P : Program} {m : Nat → Lc} {H : HV} {B : Nat} {H0 : HV} {gl : Nat → AV} {rest : List (AV × Value)} {st : St} {a : Act} {w : World} {dst : Option Nat}

theorem RelS.ev (h : RelS m H B H0 gl rest st a.tmps w) (x : Operand) : RV H (st.env m) (st.ev gl x) (a.eval x) := by
  cases x with
  | tmp t => exact h.slot t
  | const v => exact .imm _ _ (ofV_rel _ _)
  | func f => exact .fn f [] #[] rfl (fun j c v h => by simp at h)
  | global g => exact .imm _ _ (h.heap.gl g)

theorem putO_hp (st : St) (v : AV) : (st.putO dst v).hp = st.hp := by cases dst <;> rfl
theorem putO_n (st : St) (v : AV) : (st.putO dst v).n = st.n := by cases dst <;> rfl
theorem putO_nx (st : St) (v : AV) : (st.putO dst v).nx = st.nx := by cases dst <;> rfl
theorem eff_n (st : St) (r : AV × Option (Nat × Box)) : (st.eff dst r).n = st.n := by
  obtain ⟨v, b⟩ := r
  cases b with
  | none => exact putO_n st v
  | some b => cases dst <;> rfl
theorem eff_nx (st : St) (r : AV × Option (Nat × Box)) : (st.eff dst r).nx = st.nx := by
  obtain ⟨v, b⟩ := r
  cases b with
  | none => exact putO_nx st v
  | some b => cases dst <;> rfl

/-- A slot is filled. -/
theorem RelS.putO (h : RelS m H B H0 gl rest st a.tmps w) (hd : dstOk dst st.n = true) {av : AV} {v : Value} (hv : RV H (st.env m) av v) : RelS m H B H0 gl rest (st.putO dst av) (a.put dst v).tmps w := by
  cases dst with
  | none => exact h
  | some d =>
    have hd : d < a.tmps.size := by rw [h.size]; exact Nat.le_of_ble_eq_true hd
    refine ⟨h.heap, (by show (a.tmps.setIfInBounds d v).size = st.n; simpa using h.size), fun k => ?_, h.rest⟩
    show RV H (st.env m) (lk .undef (pt st.sl d av) k) ((a.tmps.setIfInBounds d v).getD k Go.undef)
    rw [lk_pt, getD_set _ _ _ _ hd]
    by_cases e : d = k
    · simp only [e, if_true]; exact hv
    · simp only [e, if_false]; exact h.slot k

theorem OpOk.val (h : RelS m H B H0 gl rest st a.tmps w) (hd : dstOk dst st.n = true) {s : Sem Next} {v : Value} {av : AV} (hs : s.run P w = .ok (.value v) w) (hv : RV H (st.env m) av v) : OpOk P B H0 gl rest a w dst (st.eff dst (av, none)) s :=
  ⟨_, v, w, m, H, hs, .inl rfl, Below.refl _ _, h.putO hd hv⟩

/-- The heap goes on: the values go with it. -/
theorem RelS.heapTo (h : RelS m H B H0 gl rest st a.tmps w) {m' : Nat → Lc} {H' : HV} {hp' : Tr Box} {nx' : Nat} {w' : World} (hh : RelH m' H' B H0 gl (lkb hp') nx' w') (hle : HV.le H H') (hE : Env.le (st.env m) (envOf (lkb hp') m')) :
    RelS m' H' B H0 gl rest { st with hp := hp', nx := nx' } a.tmps w' :=
  ⟨hh, h.size, fun k => (h.slot k).mono hle hE, fun p hp => (h.rest p hp).mono hle hE⟩

theorem OpOk.heap (h : RelS m H B H0 gl rest st a.tmps w) (hd : dstOk dst st.n = true) {s : Sem Next} {nx : Next} {v : Value} {av : AV} {w' : World} {m' : Nat → Lc} {id : Nat} {b : Box} (hs : s.run P w = .ok nx w') (hx : nx = .value v ∨ nx = .skip ∧ v = Go.undef) (hb : Below B w w')
    (hh : RelH m' H B H0 gl (updF (lkb st.hp) id (some b)) st.nx w') (hE : Env.le (st.env m) (envOf (updF (lkb st.hp) id (some b)) m')) (hv : RV H (envOf (updF (lkb st.hp) id (some b)) m') av v) :
    OpOk P B H0 gl rest a w dst (st.eff dst (av, some (id, b))) s := by
  rw [← lkb_pt] at hh hE hv
  have h1 := h.heapTo hh (.refl _) hE
  have h2 := h1.putO (dst := dst) (by exact hd) (av := av) (v := v) hv
  refine ⟨nx, v, w', m', H, hs, hx, hb, ?_⟩
  have : ({ st with hp := pt st.hp id b, nx := st.nx } : St).putO dst av = st.eff dst (av, some (id, b)) := by cases dst <;> rfl
  rw [← this]; exact h2
end
end HX
