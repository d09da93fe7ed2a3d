/- Boxes: local variables in memory. -/
import Derived.Test.YtghdepbcnckfpaaAhMem
namespace AH
open Go Go.RowKit

def AV.demc : AV → AV
  | .agg cs => .agg (cs.map AV.dem0)
  | v => v.dem0

def AV.upd (x : AV) (off : Nat) (us : List AV) : AV :=
  match x with
  | .agg cs => .agg (cs.take off ++ us ++ cs.drop (off + us.length))
  | v => match us with
    | [c] => c
    | _ => v

theorem demc_cells (x : AV) : x.demc.cells = x.cells.map AV.dem0 := by
  cases x <;> rfl

section
variable {P : Program} {G : Gh} {B : Nat} {H0 : HV} {rest : List (AV × Value)} {st : St} {tmps : Array Value} {w : World}

/-- A new box. -/
theorem RelG.newBox (h : RelG G B H0 rest st tmps w) (C : Array Value) (e : TypeId) (sz : Nat) (x : AV) (hl : x.cells.length = sz) (hC : sz ≤ C.size)
    (hc : ∀ (j : Nat) (c : AV), x.cells[j]? = some c → ∃ v, C[j]? = some v ∧ v.oneCell' = true ∧ Rel0 G.H G.io c v) :
    ∃ G', RelG G' B H0 rest { st with hp := st.hp ++ [(sz, [x])] } tmps (w.alloc (.cells C e)) ∧ G'.io st.hp.length = some w.heap.size ∧ G'.H = G.H ∧ G'.om = G.om := by
  let G' : Gh := { G with io := fun i => if i = st.hp.length then some w.heap.size else G.io i }
  have hio : ∀ id g, G.io id = some g → G'.io id = some g := fun id g hg => by
    have := h.wf.iodom id g hg
    simp only [G', if_neg (show id ≠ st.hp.length by omega)]; exact hg
  have hblk : ∀ g, g < w.heap.size → (w.alloc (.cells C e)).heap[g]? = w.heap[g]? := fun g hg => Below.heap_alloc w _ g hg
  have f : Fwd G G' w (w.alloc (.cells C e)) fun _ => True := ⟨fun _ _ _ h => h, hio, fun g p _ hg => ⟨hg, hblk g (h.wf.omlt g p hg).2, fun _ h => h⟩⟩
  refine ⟨G', ⟨h.size, ?_, fun k => (h.slot k).fwd f trivial fun _ => trivial, fun k x v hx => (h.rest k x v hx).fwd f.res trivial fun _ => trivial, fun id sz' xs hx => ?_⟩, by simp [G'], rfl, rfl⟩
  · exact { sat := fun b o v hv => by
              rw [← h.wf.sat b o v hv]
              exact World.cell?_alloc_lt w _ _ (sat_lt h.wf.sat hv)
            old := h.wf.old
            omlt := fun g p hg => by have := h.wf.omlt g p hg; simp; omega
            iolt := fun id g hg => by
              by_cases e' : id = st.hp.length
              · simp only [G', e', if_true, Option.some.injEq] at hg
                subst hg
                refine ⟨h.wf.low, by simp, ?_, fun o => ?_⟩
                · cases ho : G.om w.heap.size with
                  | none => rfl
                  | some p => have := (h.wf.omlt _ p ho).2; omega
                · cases ho : G.H w.heap.size o with
                  | none => rfl
                  | some p => have := sat_lt h.wf.sat ho; omega
              · simp only [G', if_neg e'] at hg
                obtain ⟨a, b, c⟩ := h.wf.iolt id g hg
                exact ⟨a, by simp; omega, c⟩
            ioinj := fun id id' g hg hg' => by
              by_cases e1 : id = st.hp.length <;> by_cases e2 : id' = st.hp.length
              · rw [e1, e2]
              · simp only [G', e1, if_true, Option.some.injEq] at hg
                simp only [G', if_neg e2] at hg'
                have := (h.wf.iolt id' g hg').2.1
                omega
              · simp only [G', e2, if_true, Option.some.injEq] at hg'
                simp only [G', if_neg e1] at hg
                have := (h.wf.iolt id g hg).2.1
                omega
              · simp only [G', if_neg e1] at hg
                simp only [G', if_neg e2] at hg'
                exact h.wf.ioinj id id' g hg hg'
            iodom := fun id g hg => by
              by_cases e1 : id = st.hp.length
              · simp [e1]
              · simp only [G', if_neg e1] at hg
                have := h.wf.iodom id g hg
                simp; omega
            low := by have := h.wf.low; simp; omega }
  · simp only [List.getElem?_append] at hx
    split at hx
    · rename_i hlt
      rcases h.heap id sz' xs hx with ⟨rfl, hi⟩ | ⟨g, hg⟩
      · exact .inl ⟨rfl, by simp only [G', if_neg (show id ≠ st.hp.length by omega)]; exact hi⟩
      obtain ⟨C', e', hC', hl', hc'⟩ := hg.row
      refine .inr ⟨g, hio _ _ hg.io, ⟨C', e', by rw [hblk g (h.wf.iolt id g hg.io).2.1]; exact hC', hl', fun i x j c hx hj => ?_⟩, hg.one, hg.ne⟩
      obtain ⟨v, hv, h1, hr⟩ := hc' i x j c hx hj
      exact ⟨v, hv, h1, hr.fwd f trivial⟩
    · rename_i hge
      have hid : id = st.hp.length := by
        rcases Nat.lt_or_ge id (st.hp.length + 1) with h' | h'
        · omega
        · rw [List.getElem?_eq_none (by simp; omega)] at hx; cases hx
      subst hid
      simp only [Nat.sub_self, List.getElem?_cons_zero, Option.some.injEq, Prod.mk.injEq] at hx
      obtain ⟨rfl, rfl⟩ := hx
      refine .inr ⟨w.heap.size, by simp [G'], ⟨C, e, heap_alloc_new w _, by simpa using hC, fun i y j c hy hj => ?_⟩, fun i y hy => ?_, by simp⟩
      · cases i with
        | zero =>
          simp only [List.getElem?_cons_zero, Option.some.injEq] at hy
          subst hy
          obtain ⟨v, hv, h1, hr⟩ := hc j c hj
          refine ⟨v, by simpa using hv, h1, ?_⟩
          exact RelC.of0 (hr.mono (fun _ _ _ h => h) hio)
        | succ i => simp at hy
      · cases i with
        | zero => simp only [List.getElem?_cons_zero, Option.some.injEq] at hy; subst hy; exact hl
        | succ i => simp at hy

/-- A box is written. -/
theorem RelG.store (h : RelG G B H0 rest st tmps w) {id sz g : Nat} {xs : List AV} (hid : st.hp[id]? = some (sz, xs)) (hg : G.io id = some g) {i : Nat} {x : AV} (hi : xs[i]? = some x) (off : Nat) (us : List AV) (vs : List Value)
    (hl : us.length = vs.length) (hfit : off + us.length ≤ sz) (hag : (∃ cs, x = .agg cs) ∨ ∃ c, us = [c] ∧ c.cells = [c])
    (hr : ∀ (j : Nat) (u : AV) (v : Value), us[j]? = some u → vs[j]? = some v → v.oneCell' = true ∧ RelC G B w [2, id, i, off + j] u v) :
    ∃ C e, w.heap[g]? = some (.cells C e (0, 0)) ∧ i * sz + off + vs.length ≤ C.size ∧
      RelG G B H0 rest { st with hp := st.hp.set id (sz, xs.set i (x.upd off us)) } tmps (w.setRow g (C.toList.take (i * sz + off) ++ vs ++ C.toList.drop (i * sz + off + vs.length)).toArray) := by
  obtain ⟨g', hb⟩ : ∃ g', RelB G B w id sz xs g' := by
    rcases h.heap id sz xs hid with ⟨_, hi⟩ | hb
    · rw [hi] at hg; cases hg
    · exact hb
  obtain rfl : g' = g := by have := hb.io; rw [hg] at this; cases this; rfl
  obtain ⟨C, e, hC, hlC, hcC⟩ := hb.row
  have hil : i < xs.length := (List.getElem?_eq_some_iff.1 hi).1
  have hx := hb.one i x hi
  have hfitC : i * sz + off + vs.length ≤ C.size := by
    have : (i + 1) * sz ≤ xs.length * sz := Nat.mul_le_mul_right _ hil
    rw [Nat.add_mul] at this
    omega
  refine ⟨C, e, hC, hfitC, ?_⟩
  have hw : ∀ k, k ≠ g' → (w.setRow g' (C.toList.take (i * sz + off) ++ vs ++ C.toList.drop (i * sz + off + vs.length)).toArray).heap[k]? = w.heap[k]? := fun k hk => setRow_other w g' k _ hk
  have hwl := h.wf.iolt id g' hg
  have f : Fwd G G w (w.setRow g' (C.toList.take (i * sz + off) ++ vs ++ C.toList.drop (i * sz + off + vs.length)).toArray) fun _ => True :=
    ⟨fun _ _ _ h => h, fun _ _ h => h, fun k p _ hk => ⟨hk, hw k (fun e => by subst e; rw [hwl.2.2.1] at hk; cases hk), fun _ h => h⟩⟩
  have hsz : (w.setRow g' (C.toList.take (i * sz + off) ++ vs ++ C.toList.drop (i * sz + off + vs.length)).toArray).heap.size = w.heap.size := by simp [World.setRow]
  refine ⟨h.size, ?_, fun k => (h.slot k).fwd f trivial fun _ => trivial, fun k x v hx => (h.rest k x v hx).fwd f.res trivial fun _ => trivial, fun id' sz' xs' hx' => ?_⟩
  · exact { sat := fun b o v hv => by
              have hne : b ≠ g' := fun e => by subst e; rw [hwl.2.2.2 o] at hv; cases hv
              rw [← h.wf.sat b o v hv]
              exact World.cell?_of_block (w := w) (hw b hne)
            old := h.wf.old
            omlt := fun k p hk => by rw [hsz]; exact h.wf.omlt k p hk
            iolt := fun id k hk => by rw [hsz]; exact h.wf.iolt id k hk
            ioinj := h.wf.ioinj
            iodom := fun id k hk => by simpa using h.wf.iodom id k hk
            low := by rw [hsz]; exact h.wf.low }
  · rw [List.getElem?_set] at hx'
    by_cases heq : id = id'
    · subst heq
      rw [if_pos rfl, if_pos (List.getElem?_eq_some_iff.1 hid).1] at hx'
      simp only [Option.some.injEq, Prod.mk.injEq] at hx'
      obtain ⟨rfl, rfl⟩ := hx'
      have hupd : (x.upd off us).cells = x.cells.take off ++ us ++ x.cells.drop (off + us.length) := by
        rcases hag with ⟨cs, rfl⟩ | ⟨c, rfl, hc⟩
        · rfl
        · cases x with
          | agg cs => rfl
          | _ =>
            simp only [AV.cells, List.length_cons, List.length_nil] at hx hfit
            have : off = 0 := by omega
            subst this
            simpa [AV.upd, AV.cells] using hc
      refine .inr ⟨g', hg, ⟨_, e, setRow_heap w g' C _ e _ hC, ?_, fun i' y j c hy hj => ?_⟩, fun i' y hy => ?_, fun e => hb.ne (by simpa using e)⟩
      · simp only [List.length_set, List.size_toArray, List.length_append, List.length_take, List.length_drop, Array.length_toList]
        omega
      · rw [List.getElem?_set] at hy
        by_cases hii : i = i'
        · subst hii
          rw [if_pos rfl, if_pos hil] at hy
          simp only [Option.some.injEq] at hy
          subst hy
          rw [hupd] at hj
          simp only [List.getElem?_toArray, List.getElem?_append, List.length_append, List.length_take, Array.length_toList, hx] at hj ⊢
          have e1 : min off sz = off := by omega
          have e2 : min (i * sz + off) C.size = i * sz + off := by omega
          rw [e1] at hj; rw [e2]
          by_cases c1 : j < off + us.length
          · by_cases c2 : j < off
            · rw [if_pos c1, if_pos c2, List.getElem?_take, if_pos c2] at hj
              rw [if_pos (by omega), if_pos (by omega), List.getElem?_take, if_pos (by omega), Array.getElem?_toList]
              obtain ⟨v, hv, h1, hr'⟩ := hcC i x j c hi hj
              exact ⟨v, hv, h1, hr'.fwd f trivial⟩
            · rw [if_pos c1, if_neg c2] at hj
              rw [if_pos (by omega), if_neg (by omega)]
              have hjv : j - off < vs.length := by omega
              have hv : vs[j - off]? = some vs[j - off] := List.getElem?_eq_getElem hjv
              obtain ⟨h1, hr'⟩ := hr (j - off) c _ hj hv
              refine ⟨vs[j - off], by rw [show i * sz + j - (i * sz + off) = j - off by omega]; exact hv, h1, ?_⟩
              rw [show off + (j - off) = j by omega] at hr'
              exact hr'.fwd f trivial
          · rw [if_neg c1, List.getElem?_drop] at hj
            rw [if_neg (by omega), List.getElem?_drop, Array.getElem?_toList]
            have e3 : off + us.length + (j - (off + us.length)) = j := by omega
            rw [e3] at hj
            obtain ⟨v, hv, h1, hr'⟩ := hcC i x j c hi hj
            refine ⟨v, ?_, h1, hr'.fwd f trivial⟩
            rw [show i * sz + off + vs.length + (i * sz + j - (i * sz + off + vs.length)) = i * sz + j by omega]
            exact hv
        · rw [if_neg hii] at hy
          obtain ⟨v, hv, h1, hr'⟩ := hcC i' y j c hy hj
          refine ⟨v, ?_, h1, hr'.fwd f trivial⟩
          have hyl := hb.one i' y hy
          have hjl : j < sz := by rw [← hyl]; exact (List.getElem?_eq_some_iff.1 hj).1
          have hlt := (Array.getElem?_eq_some_iff.1 hv).1
          simp only [List.getElem?_toArray, List.getElem?_append, List.length_append, List.length_take, Array.length_toList]
          have e2 : min (i * sz + off) C.size = i * sz + off := by omega
          rw [e2]
          rcases Nat.lt_or_ge i' i with hlt' | hge'
          · have hm : (i' + 1) * sz ≤ i * sz := Nat.mul_le_mul_right _ hlt'
            rw [Nat.add_mul] at hm
            rw [if_pos (by omega), if_pos (by omega), List.getElem?_take, if_pos (by omega), Array.getElem?_toList]
            exact hv
          · have hm : (i + 1) * sz ≤ i' * sz := Nat.mul_le_mul_right _ (by omega)
            rw [Nat.add_mul] at hm
            rw [if_neg (by omega), List.getElem?_drop, Array.getElem?_toList, show i * sz + off + vs.length + (i' * sz + j - (i * sz + off + vs.length)) = i' * sz + j by omega]
            exact hv
      · rw [List.getElem?_set] at hy
        by_cases hii : i = i'
        · subst hii
          rw [if_pos rfl, if_pos hil] at hy
          simp only [Option.some.injEq] at hy
          subst hy
          rw [hupd]
          simp only [List.length_append, List.length_take, List.length_drop, hx]
          omega
        · rw [if_neg hii] at hy; exact hb.one i' y hy
    · have hne := heq
      rw [if_neg heq] at hx'
      rcases h.heap id' sz' xs' hx' with hdead | ⟨k, hk⟩
      · exact .inl hdead
      obtain ⟨C', e', hC', hl', hc'⟩ := hk.row
      have hkne : k ≠ g' := fun e => by subst e; exact hne (h.wf.ioinj id id' k hg hk.io)
      refine .inr ⟨k, hk.io, ⟨C', e', by rw [hw k hkne]; exact hC', hl', fun i x j c hx hj => ?_⟩, hk.one, hk.ne⟩
      obtain ⟨v, hv, h1, hr'⟩ := hc' i x j c hx hj
      exact ⟨v, hv, h1, hr'.fwd f trivial⟩

/-- A load off a box; the right to append stays in the box. -/
theorem load_ptr (h : RelG G B H0 rest st tmps w) {t : TypeId} {n : Nat} {ag : Bool} (ht : tyI P t = some (n, ag)) {id sz i off : Nat} {xs : List AV} (hid : st.hp[id]? = some (sz, xs)) (hil : i < xs.length)
    (hl : off + (if ag then n else 1) ≤ sz) {v : Value} (hv : Rel0 G.H G.io (.ptr id sz i off) v) :
    ∃ u, (Instr.loadAt t v).run P w = .ok u w ∧ Rel0 G.H G.io (partD ag n off ((xs[i]?).getD .undef).demc) u := by
  obtain ⟨g, hg, rfl⟩ := hv.ptr_inv
  obtain ⟨g', hb⟩ : ∃ g', RelB G B w id sz xs g' := by
    rcases h.heap id sz xs hid with ⟨_, hi⟩ | hb
    · rw [hi] at hg; cases hg
    · exact hb
  obtain rfl : g' = g := by have := hb.io; rw [hg] at this; cases this; rfl
  obtain ⟨C, e, hC, hlC, hcC⟩ := hb.row
  have hx : xs[i]? = some xs[i] := List.getElem?_eq_getElem hil
  have hlen := hb.one i _ hx
  have hcell : ∀ j, j < sz → ∃ v, C[i * sz + j]? = some v ∧ v.oneCell' = true ∧ RelC G B w [2, id, i, j] (xs[i].cells[j]?.getD .undef) v := fun j hj => by
    have hj' : xs[i].cells[j]? = some (xs[i].cells[j]'(by omega)) := List.getElem?_eq_getElem (by omega)
    obtain ⟨v, h1, h2, h3⟩ := hcC i _ j _ hx hj'
    exact ⟨v, h1, h2, by rw [hj']; exact h3⟩
  have hrun := run_loadAt' (w := w) ht g' (i * sz + off) (fun j => C.getD (i * sz + (off + j)) Go.undef) (fun j hj => by
    obtain ⟨v, h1, h2, h3⟩ := hcell (off + j) (by omega)
    rw [show i * sz + off + j = i * sz + (off + j) by omega, cell_of_row w g' _ C e (0, 0) hC, h1]
    simp [Array.getD_eq_getD_getElem?, h1])
  refine ⟨_, hrun, ?_⟩
  simp only [hx, Option.getD_some]
  have hd := demc_cells xs[i]
  refine partD_rel (val := fun j => C.getD (i * sz + j) Go.undef) (by rw [hd, List.length_map, hlen]; exact hl) (fun j c hc => ?_) (fun j c hc => ?_)
  · rw [hd, List.getElem?_map, Option.map_eq_some_iff] at hc
    obtain ⟨c', hc', rfl⟩ := hc
    obtain ⟨v, h1, h2, h3⟩ := hcC i _ j _ hx hc'
    simp only [Array.getD_eq_getD_getElem?, h1, Option.getD_some]
    exact h3.dem
  · rw [hd, List.getElem?_map, Option.map_eq_some_iff] at hc
    obtain ⟨c', hc', rfl⟩ := hc
    obtain ⟨v, h1, h2, h3⟩ := hcC i _ j _ hx hc'
    simp only [Array.getD_eq_getD_getElem?, h1, Option.getD_some]
    exact h2

/-- The owned row of a box's cell is handed to position q; the cell keeps the right to read. -/
theorem RelG.takeCell (h : RelG G B H0 rest st tmps w) {id sz : Nat} {xs : List AV} (hid : st.hp[id]? = some (sz, xs)) {i : Nat} {x : AV} (hi : xs[i]? = some x) {off s : Nat} {ys : List AV} (ho : x.cells[off]? = some (.own s ys)) (q : List Nat) :
    ∃ G', RelG G' B H0 rest { st with hp := st.hp.set id (sz, xs.set i (x.upd off [.sl s ys])) } tmps w ∧ True ∧ ∃ v, OwnRel G' B w q s ys v ∧ ∀ g, G.io id = some g → w.cell? ⟨g, i * sz + off, none⟩ = some v := by
  obtain ⟨g, hb⟩ : ∃ g', RelB G B w id sz xs g' := by
    rcases h.heap id sz xs hid with ⟨rfl, _⟩ | hb
    · simp at hi
    · exact hb
  obtain ⟨C, e, hC, hlC, hcC⟩ := hb.row
  obtain ⟨v, hv, h1, hr⟩ := hcC i x off _ hi ho
  have hr : OwnRel G B w [2, id, i, off] s ys v := hr
  have hil : i < xs.length := (List.getElem?_eq_some_iff.1 hi).1
  have hoff : off < x.cells.length := (List.getElem?_eq_some_iff.1 ho).1
  have hx := hb.one i x hi
  have hcell : ∀ g', G.io id = some g' → w.cell? ⟨g', i * sz + off, none⟩ = some v := fun g' hg' => by
    rw [hb.io] at hg'; cases hg'
    rw [cell_of_row w g _ C e (0, 0) hC]; exact hv
  have hupd : (x.upd off [.sl s ys]).cells = x.cells.set off (.sl s ys) := by
    cases x with
    | agg cs =>
      simp only [AV.cells] at hoff
      simp only [AV.upd, AV.cells, List.length_cons, List.length_nil, Nat.zero_add]
      rw [List.set_eq_take_append_cons_drop, if_pos hoff]
      simp
    | _ =>
      simp only [AV.cells, List.length_cons, List.length_nil] at hoff
      have : off = 0 := by omega
      subst this
      rfl
  -- the new ghost
  have key : ∀ G' : Gh, G'.H = G.H → G'.io = G.io → Fwd G G' w w (fun r => r ≠ [2, id, i, off]) → GWf G' B H0 st.hp.length w → RelG G' B H0 rest { st with hp := st.hp.set id (sz, xs.set i (x.upd off [.sl s ys])) } tmps w := by
    intro G' hH hio f wf
    refine ⟨h.size, by simpa using wf, fun k => (h.slot k).fwd f (by simp) (by simp), fun k x v hx => (h.rest k x v hx).fwd f.res (by simp) (by simp), fun id' sz' xs' hx' => ?_⟩
    rw [List.getElem?_set] at hx'
    by_cases heq : id = id'
    · subst heq
      rw [if_pos rfl, if_pos (List.getElem?_eq_some_iff.1 hid).1] at hx'
      simp only [Option.some.injEq, Prod.mk.injEq] at hx'
      obtain ⟨rfl, rfl⟩ := hx'
      refine .inr ⟨g, by rw [hio]; exact hb.io, ⟨C, e, hC, by simpa using hlC, fun i' y j c hy hj => ?_⟩, fun i' y hy => ?_, fun e => hb.ne (by simpa using e)⟩
      · rw [List.getElem?_set] at hy
        by_cases hii : i = i'
        · subst hii
          rw [if_pos rfl, if_pos hil] at hy
          simp only [Option.some.injEq] at hy
          subst hy
          rw [hupd, List.getElem?_set] at hj
          by_cases hjo : off = j
          · subst hjo
            rw [if_pos rfl, if_pos hoff] at hj
            cases hj
            exact ⟨v, hv, h1, RelC.of0 (.imm _ _ (by rw [hH]; exact hr.sl))⟩
          · rw [if_neg hjo] at hj
            obtain ⟨v', hv', h1', hr'⟩ := hcC i x j c hi hj
            exact ⟨v', hv', h1', hr'.fwd f (by simp; omega)⟩
        · rw [if_neg hii] at hy
          obtain ⟨v', hv', h1', hr'⟩ := hcC i' y j c hy hj
          exact ⟨v', hv', h1', hr'.fwd f (by simp; omega)⟩
      · rw [List.getElem?_set] at hy
        by_cases hii : i = i'
        · subst hii
          rw [if_pos rfl, if_pos hil] at hy
          simp only [Option.some.injEq] at hy
          subst hy
          rw [hupd, List.length_set]; exact hx
        · rw [if_neg hii] at hy; exact hb.one i' y hy
    · rw [if_neg heq] at hx'
      rcases h.heap id' sz' xs' hx' with ⟨e1, e2⟩ | ⟨k, hk⟩
      · exact .inl ⟨e1, by rw [hio]; exact e2⟩
      obtain ⟨C', e', hC', hl', hc'⟩ := hk.row
      exact .inr ⟨k, by rw [hio]; exact hk.io, ⟨C', e', hC', hl', fun i x j c hx hj => let ⟨v, a, o, b⟩ := hc' i x j c hx hj; ⟨v, a, o, b.fwd f (by simp; omega)⟩⟩, hk.one, hk.ne⟩
  rcases hr with ⟨e1, e2⟩ | ⟨g0, cap, hn, hob⟩
  · exact ⟨G, key G rfl rfl ⟨fun _ _ _ h => h, fun _ _ h => h, fun _ _ _ h => ⟨h, rfl, fun _ h => h⟩⟩ h.wf, trivial, v, .inl ⟨e1, e2⟩, hcell⟩
  · exact ⟨{ G with om := fun g' => if g' = g0 then some q else G.om g' }, key { G with om := fun g' => if g' = g0 then some q else G.om g' } rfl rfl (fwd_retag (w := w) (q := q) hob.om) (wf_retag h.wf hob.om), trivial, v, .inr ⟨g0, cap, hn, hob.retag⟩, hcell⟩
end
end AH
