/- A call of a function that changes nothing old: its contract, and how the caller takes it. -/
import Derived.Test.YtghdepbcnckfpaaAhAval
namespace AH
open Go Go.RowKit

structure ResOk (G : Gh) (B : Nat) (H0 : HV) (w : World) : Prop where
  sat : HV.sat G.H w
  old : ∀ b o, b < B → G.H b o = H0 b o
  omlt : ∀ g p, G.om g = some p → B ≤ g ∧ g < w.heap.size
  io : ∀ id, G.io id = none

def Enters (P : Program) (f : FuncId) : Prop := ∀ args w, (callFunc f args).run P w = .ok (.enter f args) w

theorem enters_of {P : Program} {f : FuncId} {fn : Func} (hf : P.funcs[f]? = some fn) (hn : (fn.name == "runtime.NumGoroutine") = false) (hb : fn.body.isSome = true) : Enters P f := by
  intro args w
  have hb' : fn.body.isNone = false := by rw [Option.isNone_eq_false_iff]; exact hb
  simp only [callFunc, Sem.run_bind, run_program, Result.andThen_ok, hf, hn, hb', Bool.false_eq_true, if_false, Sem.run_pure]

/-- The contract of a function that changes nothing old. -/
def PureOk (P : Program) (f : FuncId) (args : List AV) (r : AV) : Prop :=
  Enters P f ∧ ∀ (w : World) (H0 : HV) (vs : Array Value), HV.sat H0 w → args.length = vs.size → (∀ (j : Nat) (x : AV) (v : Value), args[j]? = some x → vs[j]? = some v → RelI H0 x v) →
    Calls P f vs w fun e w' => ∃ v G, e = .returned v ∧ Below w.heap.size w w' ∧ ResOk G w.heap.size H0 w' ∧ RelV G w.heap.size w' [] r v

theorem RelC.retag {G G' : Gh} {B B' : Nat} {w : World} {p p' : List Nat} {c : AV} {v : Value} (h : RelC G B w p c v) (hH : G'.H = G.H) (hio : ∀ id g, G.io id = some g → G'.io id = some g) (hB : ∀ g, B ≤ g → B' ≤ g)
    (hom : ∀ g, G.om g = some p → G'.om g = some p') : RelC G' B' w p' c v := by
  cases c with
  | own sz xs =>
    rcases h with h | ⟨g, cap, hv, hb⟩
    · exact .inl h
    · exact .inr ⟨g, cap, hv, hB _ hb.low, hom g hb.om, hb.row, hb.len, hb.max, hb.pos, hb.one, by rw [hH]; exact hb.cell, by rw [hH]; exact hb.free⟩
  | _ => exact Rel0.mono (by rw [hH]; exact fun _ _ _ h => h) hio h

theorem RelV.retag {G G' : Gh} {B B' : Nat} {w : World} {p p' : List Nat} {c : AV} {v : Value} (h : RelV G B w p c v) (hH : G'.H = G.H) (hio : ∀ id g, G.io id = some g → G'.io id = some g) (hB : ∀ g, B ≤ g → B' ≤ g)
    (hom : ∀ g q, G.om g = some (p ++ q) → G'.om g = some (p' ++ q)) : RelV G' B' w p' c v := by
  rcases RelV.cases' (G := G) (B := B) (w := w) (p := p) (v := v) c with ⟨cs, rfl⟩ | ⟨hne, e⟩
  · obtain ⟨vs, hv, hl, hc⟩ := h
    exact ⟨vs, hv, hl, fun j c u hj hu => (hc j c u hj hu).retag hH hio hB fun g hg => hom g [j] hg⟩
  · rcases RelV.cases' (G := G') (B := B') (w := w) (p := p') (v := v) c with ⟨cs, rfl⟩ | ⟨_, e'⟩
    · exact absurd rfl (hne _)
    · rw [e] at h
      rw [e']
      exact h.retag hH hio hB fun g hg => by have := hom g [] (by simpa using hg); simpa using this

section
variable {P : Program} {G : Gh} {B : Nat} {H0 : HV} {rest : List (AV × Value)} {st : St} {tmps : Array Value} {w w' : World}

theorem RelG.receive (h : RelG G B H0 rest st tmps w) (hb : Below w.heap.size w w') {G1 : Gh} (hr : ResOk G1 w.heap.size G.H w') {r : AV} {v : Value} (hv : RelV G1 w.heap.size w' [] r v) (d : Nat) :
    ∃ G', RelG G' B H0 rest st tmps w' ∧ RelV G' B w' [0, d] r v := by
  let G' : Gh := { H := G1.H, om := fun g => if g < w.heap.size then G.om g else (G1.om g).map ([0, d] ++ ·), io := G.io }
  have hle : HV.le G.H G1.H := fun b o v hv => by rw [hr.old b o (sat_lt h.wf.sat hv)]; exact hv
  have f : Fwd G G' w w' fun _ => True := ⟨hle, fun _ _ h => h, fun g p _ hg => by
    have hlt := (h.wf.omlt g p hg).2
    exact ⟨by simp only [G', if_pos hlt]; exact hg, hb.block g hlt, fun o ho => by show G1.H g o = none; rw [hr.old g o hlt]; exact ho⟩⟩
  refine ⟨G', h.fwd f ?_ (fun id g hg => hb.block g (h.wf.iolt id g hg).2.1) (fun _ h => h), hv.retag rfl (fun id g hg => by rw [hr.io id] at hg; cases hg) (fun g hg => Nat.le_trans h.wf.low hg) fun g q hg => ?_⟩
  · exact { sat := hr.sat
            old := fun b o hlt => by show G1.H b o = H0 b o; rw [hr.old b o (Nat.lt_of_lt_of_le hlt h.wf.low)]; exact h.wf.old b o hlt
            omlt := fun g p hg => by
              by_cases hlt : g < w.heap.size
              · simp only [G', if_pos hlt] at hg
                exact ⟨(h.wf.omlt g p hg).1, Nat.lt_of_lt_of_le hlt hb.size⟩
              · simp only [G', if_neg hlt, Option.map_eq_some_iff] at hg
                obtain ⟨q, hq, _⟩ := hg
                have := hr.omlt g q hq
                exact ⟨Nat.le_trans h.wf.low this.1, this.2⟩
            iolt := fun id g hg => by
              obtain ⟨a, b, c, e⟩ := h.wf.iolt id g hg
              exact ⟨a, Nat.lt_of_lt_of_le b hb.size, by simp only [G', if_pos b]; exact c, fun o => by show G1.H g o = none; rw [hr.old g o b]; exact e o⟩
            ioinj := h.wf.ioinj
            iodom := h.wf.iodom
            low := Nat.le_trans h.wf.low hb.size }
  · have := hr.omlt g _ hg
    simp only [G', if_neg (show ¬ g < w.heap.size by omega), List.nil_append] at hg ⊢
    rw [hg]; rfl
end

/-- What one operation asks of the operations behind it. -/
def StepOk (P : Program) (B : Nat) (H0 : HV) (rest : List (AV × Value)) (n : Nat) (a : Act) (w : World) (o : Oper) (K : St → Prop) : Prop :=
  ∀ (next : Act → World → Prop) (Q : Exit → Act → World → Prop),
    (∀ a' w' st' G', K st' → st'.n = n → a'.defers = a.defers → Below B w w' → RelG G' B H0 rest st' a'.tmps w' → next a' w') → o.wp P a w next Q

theorem put_defers' (a : Act) (d : Option Tmp) (v : Value) : (a.put d v).defers = a.defers := by cases d <;> rfl
theorem putO_n (st : St) (d : Option Nat) (v : AV) : (st.putO d v).n = st.n := by cases d <;> rfl

section
variable {P : Program} {G : Gh} {B : Nat} {H0 : HV} {rest : List (AV × Value)} {st : St} {a : Act} {w : World}

theorem OpOk.step {o : Oper} {K : St → Prop} (h : OpOk P B H0 rest st.n a w o.dst (fun av st' => K (st'.putO o.dst av)) (execOp a.eval o)) : StepOk P B H0 rest st.n a w o K := by
  intro next Q hn
  obtain ⟨nx, v, w', G', av, st', hr, hx, hb, hk, hs, hrel⟩ := h
  unfold Oper.wp
  rw [hr]
  rcases hx with rfl | ⟨rfl, rfl⟩
  · exact hn _ _ _ _ hk (by rw [putO_n]; exact hs) (put_defers' _ _ _) hb hrel
  · exact hn _ _ _ _ hk (by rw [putO_n]; exact hs) (put_defers' _ _ _) hb hrel

/-- The next operation is a call by contract. -/
def CallK (P : Program) (f : FuncId) (args : List AV) (K : AV → Prop) : Prop := ∃ r, PureOk P f args r ∧ K r

theorem CallK.intro {P : Program} {f : FuncId} {args : List AV} {K : AV → Prop} {r : AV} (h : PureOk P f args r) (hk : K r) : CallK P f args K := ⟨r, h, hk⟩

/-- simp does not look behind a call. -/
theorem callK_congr {P : Program} {f : FuncId} {args args' : List AV} {K : AV → Prop} (h : args = args') : CallK P f args K = CallK P f args' K := by rw [h]

/-- What stands behind a call. -/
def kcall (K : St → Prop) (dst : Option Nat) (st : St) : AV → Prop := fun r => K (st.putO dst r)
/-- What stands behind an operation. -/
def kput (K : St → Prop) (dst : Option Nat) : AV → St → Prop := fun av st' => K (st'.putO dst av)

def acallF (P : Program) (f : FuncId) (args : List Operand) (dst : Option Nat) (st : St) (K : St → Prop) : Prop :=
  (args.map st.evD).all AV.imm = true ∧ CallK P f (args.map st.evD) (kcall K dst st)

theorem acallF_sound (h : RelG G B H0 rest st a.tmps w) {o : Oper} (hd : dstOk o.dst st.n = true) {f : FuncId} {c : Call} (ho : o.op = .call c) (hc : c.callee = .value (.func f)) {K : St → Prop}
    (hk : acallF P f c.args.toList o.dst st K) : StepOk P B H0 rest st.n a w o K := by
  intro next Q hn
  obtain ⟨him, r, ⟨hent, hp⟩, hk⟩ := hk
  have hargs : c.args.map a.eval = (c.args.toList.map a.eval).toArray := by apply Array.ext'; rw [Array.toList_map]
  have hcalls := hp w G.H (c.args.map a.eval) h.wf.sat (by simp) fun j x v hx hv => by
    simp only [List.getElem?_map, Array.getElem?_toList, Option.map_eq_some_iff, Array.getElem?_map] at hx hv
    obtain ⟨y, hy, rfl⟩ := hx
    obtain ⟨y', hy', rfl⟩ := hv
    rw [hy] at hy'; cases hy'
    refine (h.ev y).toI ?_
    rw [List.all_eq_true] at him
    exact him _ (List.mem_map.2 ⟨y, Array.mem_toList_iff.2 (Array.mem_of_getElem? hy), rfl⟩)
  have hrun : (execOp a.eval o).run P w = .ok (.enter f (c.args.map a.eval)) w := by
    unfold execOp
    simp only [ho, resolve, hc, Sem.run_bind, Act.eval, Deferred.ofValue, Sem.run_pure, Result.andThen_ok, invoke, Array.append_empty]
    have := hent (c.args.map a.eval) w
    simpa using this
  unfold Oper.wp
  rw [hrun]
  refine hcalls.mono fun e w' ⟨v, G1, he, hb, hr, hv⟩ => ?_
  subst he
  obtain ⟨G', h1, hv'⟩ := h.receive hb hr hv (o.dst.getD 0)
  refine hn _ _ (st.putO o.dst r) G' hk (putO_n _ _ _) (put_defers' _ _ _) (hb.mono h.wf.low) ?_
  exact h1.putO hd fun d e => by rw [e] at hv'; exact hv'
end
end AH
