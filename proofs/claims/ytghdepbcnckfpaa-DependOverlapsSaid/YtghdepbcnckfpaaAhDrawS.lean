/- A region that draws its order: soundness. -/
import Derived.Test.YtghdepbcnckfpaaAhStat
namespace AH
open Go Go.RowKit

section
variable {P : Program} {G : Gh} {B : Nat} {H0 : HV} {rest : List (AV × Value)} {st : St} {a : Act} {w : World}

theorem astepD_sound (h : RelG G B H0 rest st a.tmps w) {o : Oper} (hd : dstOk o.dst st.n = true) {fut : Bool} {K : St → Prop} (hk : astepD P o fut st K) : StepOk P B H0 rest st.n a w o K := by
  unfold astepD at hk
  split at hk
  · rename_i x j ho
    unfold aextractD at hk
    split at hk
    · rename_i vs hx
      split at hk
      · rename_i v hj
        obtain ⟨hnt, hk⟩ := hk
        refine OpOk.step ?_
        unfold execOp
        simp only [ho]
        have hv := h.ev x
        rw [hx] at hv
        have hv' : ∃ us : Array Value, a.eval x = .tuple us ∧ vs.length = us.size ∧ ∀ (j : Nat) (c : AV) (u : Value), vs[j]? = some c → us[j]? = some u → Rel0 G.H G.io c.dem0 u := by
          simp only [AV.dem] at hv
          generalize a.eval x = u at hv
          cases hv with
          | imm _ _ hv =>
            cases hv with
            | tup _ us hl hc => exact ⟨us, rfl, by simpa using hl, fun j c u hj hu => .imm _ _ (hc j _ u (by rw [List.getElem?_map, hj]; rfl) hu)⟩
          | tup _ us hl hc => exact ⟨us, rfl, by simpa using hl, fun j c u hj hu => hc j _ u (by rw [List.getElem?_map, hj]; rfl) hu⟩
        obtain ⟨us, hu, hl, hc⟩ := hv'
        have hjl : j < vs.length := (List.getElem?_eq_some_iff.1 hj).1
        have hju : us[j]? = some (us[j]'(by omega)) := Array.getElem?_eq_getElem (by omega)
        refine OpOk.val h hd (v := us[j]'(by omega)) ?_ (hc j _ _ hj hju) hk
        rw [Sem.run_bind, hu]
        simp [Instr.extract, hju]
      · exact hk.elim
    · exact hk.elim
  · exact hk.elim
  · exact hk.elim
  · exact astep_sound h hd hk

theorem RelG.dead (h : RelG G B H0 rest st a.tmps w) {id sz : Nat} (hid : st.hp[id]? = some (sz, [])) : G.io id = none := by
  rcases h.heap id sz [] hid with ⟨_, hi⟩ | ⟨g, hg⟩
  · exact hi
  · exact absurd rfl hg.ne

theorem RelG.ptr_dead (h : RelG G B H0 rest st a.tmps w) {x : Operand} {id sz i off s : Nat} (hx : st.ev x = .ptr id sz i off) (hid : st.hp[id]? = some (s, [])) : False := by
  have hv := h.ev x
  rw [hx] at hv
  obtain ⟨g, hg, _⟩ := (show Rel0 G.H G.io (.ptr id sz i off) _ from hv).ptr_inv
  rw [h.dead hid] at hg
  cases hg

/-- Places are kept for variables to come. -/
theorem RelG.reserve (h : RelG G B H0 rest st a.tmps w) (n : Nat) : RelG G B H0 rest { st with hp := st.hp ++ List.replicate n (0, []) } a.tmps w where
  size := h.size
  wf := { h.wf with iodom := fun id g hg => by have := h.wf.iodom id g hg; simp; omega }
  slot := h.slot
  rest := h.rest
  heap id sz xs hx := by
    simp only [List.getElem?_append] at hx
    split at hx
    · exact h.heap id sz xs hx
    · rename_i hge
      rw [List.getElem?_replicate] at hx
      split at hx
      · cases hx
        refine .inl ⟨rfl, ?_⟩
        cases hg : G.io id with
        | none => rfl
        | some g => have := h.wf.iodom id g hg; omega
      · cases hx

/-- A new box at a place that was kept for it. -/
theorem RelG.newBoxAt {tmps : Array Value} (h : RelG G B H0 rest st tmps w) {r s : Nat} (hr : st.hp[r]? = some (s, [])) (C : Array Value) (e : TypeId) (sz : Nat) (x : AV) (hl : x.cells.length = sz) (hC : sz ≤ C.size)
    (hc : ∀ (j : Nat) (c : AV), x.cells[j]? = some c → ∃ v, C[j]? = some v ∧ v.oneCell' = true ∧ Rel0 G.H G.io c v) :
    ∃ G', RelG G' B H0 rest { st with hp := st.hp.set r (sz, [x]) } tmps (w.alloc (.cells C e)) ∧ G'.io r = some w.heap.size ∧ G'.H = G.H ∧ G'.om = G.om := by
  have hlt : r < st.hp.length := (List.getElem?_eq_some_iff.1 hr).1
  have hrn : G.io r = none := by
    rcases h.heap r s [] hr with ⟨_, hi⟩ | ⟨g, hg⟩
    · exact hi
    · exact absurd rfl hg.ne
  let G' : Gh := { G with io := fun i => if i = r then some w.heap.size else G.io i }
  have hio : ∀ id g, G.io id = some g → G'.io id = some g := fun id g hg => by
    have : id ≠ r := fun e => by rw [e, hrn] at hg; cases hg
    simp only [G', if_neg this]; exact hg
  have hblk : ∀ g, g < w.heap.size → (w.alloc (.cells C e)).heap[g]? = w.heap[g]? := fun g hg => Below.heap_alloc w _ g hg
  have f : Fwd G G' w (w.alloc (.cells C e)) fun _ => True := ⟨fun _ _ _ h => h, hio, fun g p _ hg => ⟨hg, hblk g (h.wf.omlt g p hg).2, fun _ h => h⟩⟩
  refine ⟨G', ⟨h.size, ?_, fun k => (h.slot k).fwd f trivial fun _ => trivial, fun k x v hx => (h.rest k x v hx).fwd f.res trivial fun _ => trivial, fun id sz' xs hx => ?_⟩, by simp [G'], rfl, rfl⟩
  · exact { sat := fun b o v hv => by
              rw [← h.wf.sat b o v hv]
              exact World.cell?_alloc_lt w _ _ (sat_lt h.wf.sat hv)
            old := h.wf.old
            omlt := fun g p hg => by have := h.wf.omlt g p hg; simp; omega
            iolt := fun id g hg => by
              by_cases e' : id = r
              · simp only [G', e', if_true, Option.some.injEq] at hg
                subst hg
                refine ⟨h.wf.low, by simp, ?_, fun o => ?_⟩
                · cases ho : G.om w.heap.size with
                  | none => rfl
                  | some p => have := (h.wf.omlt _ p ho).2; omega
                · cases ho : G.H w.heap.size o with
                  | none => rfl
                  | some p => have := sat_lt h.wf.sat ho; omega
              · simp only [G', if_neg e'] at hg
                obtain ⟨a, b, c⟩ := h.wf.iolt id g hg
                exact ⟨a, by simp; omega, c⟩
            ioinj := fun id id' g hg hg' => by
              by_cases e1 : id = r <;> by_cases e2 : id' = r
              · rw [e1, e2]
              · simp only [G', e1, if_true, Option.some.injEq] at hg
                simp only [G', if_neg e2] at hg'
                have := (h.wf.iolt id' g hg').2.1
                omega
              · simp only [G', e2, if_true, Option.some.injEq] at hg'
                simp only [G', if_neg e1] at hg
                have := (h.wf.iolt id g hg).2.1
                omega
              · simp only [G', if_neg e1] at hg
                simp only [G', if_neg e2] at hg'
                exact h.wf.ioinj id id' g hg hg'
            iodom := fun id g hg => by
              by_cases e1 : id = r
              · simp [e1]; exact hlt
              · simp only [G', if_neg e1] at hg
                have := h.wf.iodom id g hg
                simp; omega
            low := by have := h.wf.low; simp; omega }
  · simp only [List.getElem?_set] at hx
    split at hx
    · rename_i e1
      subst e1
      cases hx
      refine .inr ⟨w.heap.size, by simp [G'], ⟨C, e, heap_alloc_new w _, by simpa using hC, fun i y j c hy hj => ?_⟩, fun i y hy => ?_, by simp⟩
      · cases i with
        | zero =>
          simp only [List.getElem?_cons_zero, Option.some.injEq] at hy
          subst hy
          obtain ⟨v, hv, h1, hr⟩ := hc j c hj
          refine ⟨v, by simpa using hv, h1, ?_⟩
          exact RelC.of0 (hr.mono (fun _ _ _ h => h) hio)
        | succ i => simp at hy
      · cases i with
        | zero => simp only [List.getElem?_cons_zero, Option.some.injEq] at hy; subst hy; exact hl
        | succ i => simp at hy
    · rename_i e1
      rcases h.heap id sz' xs hx with ⟨rfl, hi⟩ | ⟨g, hg⟩
      · exact .inl ⟨rfl, by simp only [G', if_neg (Ne.symm e1)]; exact hi⟩
      obtain ⟨C', e', hC', hl', hc'⟩ := hg.row
      refine .inr ⟨g, hio _ _ hg.io, ⟨C', e', by rw [hblk g (h.wf.iolt id g hg.io).2.1]; exact hC', hl', fun i x j c hx hj => ?_⟩, hg.one, hg.ne⟩
      obtain ⟨v, hv, h1, hr⟩ := hc' i x j c hx hj
      exact ⟨v, hv, h1, hr.fwd f trivial⟩

/-- A new variable at the place that was kept for it. -/
theorem new_sound (h : RelG G B H0 rest st a.tmps w) {o : Oper} (hd : dstOk o.dst st.n = true) {z : AV} {r : Nat} (hz : newOf P st o.op = some z) (h1 : z.okc = true) (hr : st.hp[r]? = some (0, []))
    {K : St → Prop} (hk : K ({ st with hp := st.hp.set r (z.cells.length, [z]) }.putO o.dst (.ptr r z.cells.length 0 0))) : StepOk P B H0 rest st.n a w o K := by
  refine OpOk.step ?_
  unfold execOp
  cases ho : o.op with
  | alloc t =>
    rw [ho] at hz
    obtain ⟨i, v, hi, hv, rfl⟩ := zeroI_inv hz
    have hr' := (Rel0.imm (io := G.io) _ _ (ofV_rel G.H v)).cells h1
    obtain ⟨G', h2, hio, hH, hom⟩ := h.newBoxAt hr v.cells t (ofV v).cells.length (ofV v) rfl (by rw [hr'.1]; exact Nat.le_refl _) hr'.2
    refine ⟨_, .pointer (some ⟨w.heap.size, 0, none⟩), w.alloc (.cells v.cells t), G', _, _, ?_, .inl rfl, (Below.refl _ _).alloc h.wf.low _, hk, rfl, h2.putO hd fun _ _ => RelV.of0 ?_⟩
    · simp [Instr.alloc, zeroValue, typeInfo, hi, hv, newVar, newRow]
    · have := Rel0.ptr (H := G'.H) (io := G'.io) r (ofV v).cells.length 0 0 _ hio
      simpa using this
  | box t x =>
    rw [ho] at hz
    simp only [newOf, Option.some.injEq] at hz
    subst hz
    have hx := ev_dem0 h x (fun vs e => by rw [e] at h1; cases h1)
    have hr' := hx.cells h1
    obtain ⟨G', h2, hio, hH, hom⟩ := h.newBoxAt hr (a.eval x).cells t (st.ev x).dem0.cells.length (st.ev x).dem0 rfl (by rw [hr'.1]; exact Nat.le_refl _) hr'.2
    refine ⟨_, .pointer (some ⟨w.heap.size, 0, none⟩), w.alloc (.cells (a.eval x).cells t), G', _, _, ?_, .inl rfl, (Below.refl _ _).alloc h.wf.low _, hk, rfl, h2.putO hd fun _ _ => RelV.of0 ?_⟩
    · simp [Instr.box, newVar, newRow]
    · have := Rel0.ptr (H := G'.H) (io := G'.io) r (st.ev x).dem0.cells.length 0 0 _ hio
      simpa using this
  | _ => rw [ho] at hz; cases hz
end
end AH
