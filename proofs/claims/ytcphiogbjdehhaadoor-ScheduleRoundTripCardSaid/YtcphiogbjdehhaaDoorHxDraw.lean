/- Regions that draw their order: all orders come to one end. -/
import Derived.Test.YtcphiogbjdehhaaDoorHxReg
namespace HX
open Go Go.RowKit

structure StEq (a b : St) : Prop where
  n : a.n = b.n
  nx : a.nx = b.nx
  get : ∀ k, a.get k = b.get k
  hp : lkb a.hp = lkb b.hp

theorem StEq.refl (a : St) : StEq a a := ⟨rfl, rfl, fun _ => rfl, rfl⟩
theorem StEq.symm {a b : St} (h : StEq a b) : StEq b a := ⟨h.n.symm, h.nx.symm, fun k => (h.get k).symm, h.hp.symm⟩
theorem StEq.trans {a b c : St} (h : StEq a b) (k : StEq b c) : StEq a c := ⟨h.n.trans k.n, h.nx.trans k.nx, fun i => (h.get i).trans (k.get i), h.hp.trans k.hp⟩
theorem StEq.ev {a b : St} (h : StEq a b) (gl : Nat → AV) : a.ev gl = b.ev gl := by
  funext x; cases x <;> first | rfl | exact h.get _
theorem StEq.rel {m : Nat → Lc} {H : HV} {B : Nat} {H0 : HV} {gl : Nat → AV} {rest : List (AV × Value)} {a b : St} {tmps : Array Value} {w : World} (h : StEq a b) (hr : RelS m H B H0 gl rest a tmps w) : RelS m H B H0 gl rest b tmps w := by
  refine ⟨by rw [← h.hp, ← h.nx]; exact hr.heap, by rw [← h.n]; exact hr.size, fun k => ?_, fun p hp => ?_⟩
  · show RV H (envOf (lkb b.hp) m) _ _
    rw [← h.hp, ← h.get]; exact hr.slot k
  · show RV H (envOf (lkb b.hp) m) _ _
    rw [← h.hp]; exact hr.rest p hp
theorem get_eff (st : St) (d : Option Nat) (r : AV × Option (Nat × Box)) (k : Nat) : (st.eff d r).get k = if d = some k then r.1 else st.get k := by
  have : ∀ st : St, (st.putO d r.1).get k = if d = some k then r.1 else st.get k := fun st => by
    cases d with
    | none => simp [St.putO]
    | some d =>
      show lk .undef (pt st.sl d r.1) k = _
      rw [lk_pt]
      simp only [Option.some.injEq]
      rfl
  obtain ⟨v, b⟩ := r
  cases b with
  | none => exact this st
  | some b =>
    have := this st
    cases d <;> exact this
theorem hp_eff (st : St) (d : Option Nat) (r : AV × Option (Nat × Box)) : lkb (st.eff d r).hp = match r.2 with | some (id, b) => updF (lkb st.hp) id (some b) | none => lkb st.hp := by
  obtain ⟨v, b⟩ := r
  cases b with
  | none => show lkb (st.putO d v).hp = _; rw [putO_hp]
  | some b => cases d <;> exact lkb_pt _ _ _
theorem StEq.eff {a b : St} (h : StEq a b) (d : Option Nat) (r : AV × Option (Nat × Box)) : StEq (a.eff d r) (b.eff d r) :=
  ⟨by rw [eff_n, eff_n]; exact h.n, by rw [eff_nx, eff_nx]; exact h.nx, fun k => by rw [get_eff, get_eff, h.get], by rw [hp_eff, hp_eff, h.hp]⟩

/-- The rest of one operation: what it gives, apart from the state. -/
def xcore (P : Program) (ch : CallB) (bid : Nat) (o : Oper) (gv : Option AV) (ev : Operand → AV) (hp : Hp) : Option (AV × Option (Nat × Box)) :=
  match o.guard with
  | none => xo P ch bid o.dst o.op ev hp
  | some (_, want) => match gv with
    | some x => match gwant x want with
      | some true => xo P ch bid o.dst o.op ev hp
      | some false => some (.tup [], none)
      | none => none
    | none => none
def gval (all : List Oper) (o : Oper) (st : St) : Option AV :=
  match o.guard with
  | none => none
  | some (j, _) => match gslot all j with
    | some g => some (st.get g)
    | none => none

theorem xstepO_eq {P : Program} {gl : Nat → AV} {ch : CallB} {all : List Oper} {bid : Nat} {o : Oper} {st : St} :
    xstepO P gl ch all bid o st = if dstOk o.dst st.n && (lkb st.hp bid).isNone && Nat.blt bid st.nx then (match xcore P ch bid o (gval all o st) (st.ev gl) (lkb st.hp) with | some r => some (st.eff o.dst r) | none => none) else none := by
  unfold xstepO xcore gval
  split
  · cases hg : o.guard with
    | none => rfl
    | some x =>
      obtain ⟨j, want⟩ := x
      simp only
      cases hgs : gslot all j with
      | none => rfl
      | some g =>
        simp only
        cases hv : gwant (st.get g) want with
        | none => rfl
        | some b => cases b <;> rfl
  · rfl

theorem StEq.stepO {P : Program} {gl : Nat → AV} {ch : CallB} {all : List Oper} {bid : Nat} {o : Oper} {a b s : St} (h : StEq a b) (hk : xstepO P gl ch all bid o a = some s) : ∃ s', xstepO P gl ch all bid o b = some s' ∧ StEq s s' := by
  rw [xstepO_eq] at hk ⊢
  have hg : gval all o a = gval all o b := by
    unfold gval
    split
    · rfl
    · split
      · rw [h.get]
      · rfl
  rw [h.n, h.nx, h.hp, hg, h.ev] at hk
  split at hk
  · rename_i hc
    rw [if_pos hc]
    split at hk
    · rename_i r hr
      cases hk
      exact ⟨_, rfl, h.eff _ _⟩
    · cases hk
  · cases hk

def tmp? : Operand → Option Nat
  | .tmp t => some t
  | _ => none
def rdO (all : List Oper) (o : Oper) : List Nat :=
  o.op.operands.toList.filterMap tmp? ++ match o.guard with
    | some (j, _) => (gslot all j).toList
    | none => []
/-- Does it read boxes (1), write them (2), or neither (0)? -/
def hk (op : Op) : Nat :=
  match op with
  | .load .. => 1
  | .store .. => 2
  | .binOp o .. => match o with
    | .eql | .neq => 1
    | _ => 0
  | .convert .. => 1
  | .call c => match c.callee with
    | .builtin .append => 2
    | .builtin .unsafeString => 2
    | .builtin _ => 0
    | _ => 1
  | _ => 0
def hkCl (a b : Nat) : Bool := (Nat.beq a 2 && !Nat.beq b 0) || (Nat.beq b 2 && !Nat.beq a 0)
def meetD (d : Option Nat) (l : List Nat) : Bool := match d with | some d => l.contains d | none => false
def confl (all : List Oper) (o p : Oper) : Bool :=
  meetD o.dst (rdO all p) || meetD o.dst p.dst.toList || meetD p.dst (rdO all o) || hkCl (hk o.op) (hk p.op)

section
variable {P : Program} {m : Nat → Lc} {H : HV} {B : Nat} {H0 : HV} {gl : Nat → AV} {rest : List (AV × Value)} {st : St} {a : Act} {w : World} {ch : CallB}

/-- The operands' values alone matter. -/
theorem map_ev_congr {ev ev' : Operand → AV} {l : List Operand} (h : ∀ x ∈ l, ev x = ev' x) : l.map ev = l.map ev' := List.map_congr_left h

theorem xop0_congr {bid : Nat} {dst : Option Nat} {op : Op} {ev ev' : Operand → AV} {hp : Hp} (h : ∀ x ∈ op.operands, ev x = ev' x) : xop0 P bid dst op ev hp = xop0 P bid dst op ev' hp := by
  have hopt : ∀ (o : Option Operand), (∀ x ∈ o.toList, ev x = ev' x) → o.map ev = o.map ev' := fun o ho => by
    cases o with
    | none => rfl
    | some x => simp [ho x (by simp)]
  cases op <;> simp only [Op.operands, List.mem_toArray, List.mem_cons, List.not_mem_nil, or_false, forall_eq_or_imp, forall_eq, List.mem_map, Array.mem_toList_iff] at h <;> (try rfl) <;> simp only [xop0]
  case move => rw [h]
  case assign => rw [h]
  case pick => rw [h.1, h.2.1, h.2.2]
  case box => rw [h]
  case build t ps => congr 2; refine List.map_congr_left fun p hp => ?_; rw [h _ ⟨p, by simpa using hp, rfl⟩]
  case buildSlice t l ps => congr 1; refine List.map_congr_left fun p hp => ?_; rw [h _ ⟨p, by simpa using hp, rfl⟩]
  case load => rw [h]
  case store => rw [h.1, h.2]
  case nilCheck => rw [h]
  case binOp => rw [h.1, h.2]
  case unOp => rw [h]
  case convert => rw [h]
  case makeFunc fn first caps =>
    cases fn <;> try rfl
    simp only
    split
    · congr 3
      refine List.map_congr_left fun x hx => h x ?_
      simp at hx ⊢
      exact .inr hx
    · rfl
  case makeSlice => rw [h.1, h.2]
  case slice t x lo hi mx =>
    have h' : ∀ y, y = x ∨ y ∈ lo.toList ∨ y ∈ hi.toList ∨ y ∈ mx.toList → ev y = ev' y := fun y hy => h y (by
      simp only [Array.mem_append, List.mem_toArray, List.mem_singleton, Option.mem_toArray] at *
      rcases hy with h1 | h1 | h1 | h1
      · exact .inl (.inl (.inl (by simp [h1])))
      · exact .inl (.inl (.inr (by simpa using h1)))
      · exact .inl (.inr (by simpa using h1))
      · exact .inr (by simpa using h1))
    rw [h' x (.inl rfl), hopt lo (fun y hy => h' y (.inr (.inl hy))), hopt hi (fun y hy => h' y (.inr (.inr (.inl hy)))), hopt mx (fun y hy => h' y (.inr (.inr (.inr hy))))]
  case fieldAddr => rw [h]
  case field => rw [h]
  case indexAddr => rw [h.1, h.2]
  case index => rw [h.1, h.2]
  case extract => rw [h]
  case call c =>
    cases hc : c.callee <;> simp only
    rename_i b
    congr 1
    refine List.map_congr_left fun x hx => h x ?_
    simp [Call.operands, hc]
    simpa using hx

theorem xopX_congr {bid : Nat} {op : Op} {ev ev' : Operand → AV} {hp : Hp} (h : ∀ x ∈ op.operands, ev x = ev' x) : xopX P bid op ev hp = xopX P bid op ev' hp := by
  cases op <;> (try rfl)
  case binOp => simp only [Op.operands, List.mem_toArray, List.mem_cons, List.not_mem_nil, or_false, forall_eq_or_imp, forall_eq] at h; simp only [xopX]; rw [h.1, h.2]
  case convert => simp only [Op.operands, List.mem_toArray, List.mem_cons, List.not_mem_nil, or_false, forall_eq] at h; simp only [xopX]; rw [h]
  case call c =>
    simp only [xopX]
    cases hc : c.callee with
    | builtin b =>
      have hl : c.args.toList.map ev = c.args.toList.map ev' := List.map_congr_left fun x hx => h x (by simp [Op.operands, Call.operands, hc]; simpa using hx)
      simp only [hl]
    | value x => rfl
    | invoke x y => rfl
theorem xop_congr {bid : Nat} {dst : Option Nat} {op : Op} {ev ev' : Operand → AV} {hp : Hp} (h : ∀ x ∈ op.operands, ev x = ev' x) : xop P bid dst op ev hp = xop P bid dst op ev' hp := by
  unfold xop; rw [xop0_congr h, xopX_congr h]
end
end HX
