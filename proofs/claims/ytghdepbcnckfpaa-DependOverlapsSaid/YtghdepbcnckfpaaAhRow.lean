/- Rows of the call's own: new ones, and what append makes. -/
import Derived.Test.YtghdepbcnckfpaaAhBox
namespace AH
open Go Go.RowKit

section
variable {P : Program} {G : Gh} {B : Nat} {H0 : HV} {rest : List (AV × Value)} {st : St} {tmps : Array Value} {w : World}

/-- A new row, owned by position q. -/
theorem RelG.newRow (h : RelG G B H0 rest st tmps w) (C : Array Value) (e : TypeId) (sz cap : Nat) (xs : List AV) (q : List Nat) (hpos : 0 < sz) (hC : C.size = cap * sz) (hlen : xs.length ≤ cap) (hmax : cap ≤ maxLen)
    (hone : ∀ (i : Nat) (x : AV), xs[i]? = some x → x.cells.length = sz)
    (hc : ∀ (i : Nat) (x : AV) (j : Nat) (c : AV), xs[i]? = some x → x.cells[j]? = some c → ∃ v, C[i * sz + j]? = some v ∧ v.oneCell' = true ∧ RelI G.H c v) :
    ∃ G', RelG G' B H0 rest st tmps (w.alloc (.cells C e)) ∧ OwnRel G' B (w.alloc (.cells C e)) q sz xs (.slice (some ⟨w.heap.size, 0, none⟩) xs.length cap) ∧ HV.le G.H G'.H ∧ G'.io = G.io := by
  let G' : Gh := { H := fun b o => if b = w.heap.size then (if o < xs.length * sz then C[o]? else none) else G.H b o,
                   om := fun g => if g = w.heap.size then some q else G.om g, io := G.io }
  have hnew : ∀ o v, G.H w.heap.size o ≠ some v := fun o v hv => by have := sat_lt h.wf.sat hv; omega
  have hle : HV.le G.H G'.H := fun b o v hv => by
    have : b ≠ w.heap.size := fun e => by subst e; exact hnew o v hv
    simp only [G', if_neg this]; exact hv
  have hblk : ∀ g, g < w.heap.size → (w.alloc (.cells C e)).heap[g]? = w.heap[g]? := fun g hg => Below.heap_alloc w _ g hg
  have f : Fwd G G' w (w.alloc (.cells C e)) fun _ => True := ⟨hle, fun _ _ h => h, fun g p _ hg => by
    have hlt := (h.wf.omlt g p hg).2
    have hne : g ≠ w.heap.size := by omega
    exact ⟨by simp only [G', if_neg hne]; exact hg, hblk g hlt, fun o ho => by simp only [G', if_neg hne]; exact ho⟩⟩
  refine ⟨G', h.fwd f ?_ (fun id g hg => hblk g (h.wf.iolt id g hg).2.1) (fun _ h => h), .inr ⟨w.heap.size, cap, rfl, ?_⟩, hle, rfl⟩
  · exact { sat := fun b o v hv => by
              by_cases hb : b = w.heap.size
              · subst hb
                simp only [G', if_true] at hv
                split at hv
                · rw [World.cell?_alloc_new]; exact hv
                · cases hv
              · simp only [G', if_neg hb] at hv
                rw [← h.wf.sat b o v hv]
                exact World.cell?_alloc_lt w _ _ (sat_lt h.wf.sat hv)
            old := fun b o hb => by
              have : b ≠ w.heap.size := by have := h.wf.low; omega
              simp only [G', if_neg this]; exact h.wf.old b o hb
            omlt := fun g p hg => by
              by_cases hb : g = w.heap.size
              · subst hb; have := h.wf.low; simp; omega
              · simp only [G', if_neg hb] at hg
                have := h.wf.omlt g p hg; simp; omega
            iolt := fun id g hg => by
              obtain ⟨a, b, c, d⟩ := h.wf.iolt id g hg
              have : g ≠ w.heap.size := by omega
              exact ⟨a, by simp; omega, by simp only [G', if_neg this]; exact c, fun o => by simp only [G', if_neg this]; exact d o⟩
            ioinj := h.wf.ioinj
            iodom := h.wf.iodom
            low := by have := h.wf.low; simp; omega }
  · refine ⟨h.wf.low, by simp [G'], ⟨C, e, heap_alloc_new w _, hC⟩, hlen, hmax, hpos, hone, fun i x j c hx hj => ?_, fun o ho => ?_⟩
    · obtain ⟨v, hv, h1, hr⟩ := hc i x j c hx hj
      have hil := (List.getElem?_eq_some_iff.1 hx).1
      have hjl : j < sz := by rw [← hone i x hx]; exact (List.getElem?_eq_some_iff.1 hj).1
      have : (i + 1) * sz ≤ xs.length * sz := Nat.mul_le_mul_right _ hil
      rw [Nat.add_mul] at this
      exact ⟨v, by simp only [G', if_true]; rw [if_pos (by omega)]; exact hv, h1, hr.mono hle⟩
    · simp only [G', if_true]; rw [if_neg (by omega)]

/-- An owned row takes more elements in its room. -/
theorem RelG.extend (h : RelG G B H0 rest st tmps w) {dd sz g cap : Nat} {xs : List AV} (hdd : st.get dd = .undef) (ho : OwnBlk G B w [0, dd] sz xs g cap) (ys : List AV) (vs : List Value)
    (hl : vs.length = ys.length * sz) (hroom : xs.length + ys.length ≤ cap) (hone : ∀ (i : Nat) (x : AV), ys[i]? = some x → x.cells.length = sz)
    (hc : ∀ (i : Nat) (x : AV) (j : Nat) (c : AV), ys[i]? = some x → x.cells[j]? = some c → ∃ v, vs[i * sz + j]? = some v ∧ v.oneCell' = true ∧ RelI G.H c v) :
    ∃ C e, w.heap[g]? = some (.cells C e (0, 0)) ∧ C.size = cap * sz ∧ ∃ G',
      RelG G' B H0 rest st tmps (w.setRow g (C.toList.take (xs.length * sz) ++ vs ++ C.toList.drop (xs.length * sz + vs.length)).toArray) ∧
      OwnBlk G' B (w.setRow g (C.toList.take (xs.length * sz) ++ vs ++ C.toList.drop (xs.length * sz + vs.length)).toArray) [0, dd] sz (xs ++ ys) g cap ∧ HV.le G.H G'.H ∧ G'.io = G.io := by
  obtain ⟨C, e, hC, hs⟩ := ho.row
  refine ⟨C, e, hC, hs, ?_⟩
  have hfit : xs.length * sz + vs.length ≤ C.size := by
    rw [hl, hs, ← Nat.add_mul]; exact Nat.mul_le_mul_right _ hroom
  let G' : Gh := { G with H := fun b o => if b = g then (if xs.length * sz ≤ o ∧ o < xs.length * sz + vs.length then vs[o - xs.length * sz]? else G.H b o) else G.H b o }
  have hle : HV.le G.H G'.H := fun b o v hv => by
    by_cases hb : b = g
    · subst hb
      have : ¬ (xs.length * sz ≤ o ∧ o < xs.length * sz + vs.length) := fun hh => by rw [ho.free o hh.1] at hv; cases hv
      simp only [G', if_true, if_neg this]; exact hv
    · simp only [G', if_neg hb]; exact hv
  have hw : ∀ k, k ≠ g → (w.setRow g (C.toList.take (xs.length * sz) ++ vs ++ C.toList.drop (xs.length * sz + vs.length)).toArray).heap[k]? = w.heap[k]? := fun k hk => setRow_other w g k _ hk
  have hrow : (w.setRow g (C.toList.take (xs.length * sz) ++ vs ++ C.toList.drop (xs.length * sz + vs.length)).toArray).heap[g]? = some (.cells (C.toList.take (xs.length * sz) ++ vs ++ C.toList.drop (xs.length * sz + vs.length)).toArray e (0, 0)) := setRow_heap w g C _ e _ hC
  have hsz : (w.setRow g (C.toList.take (xs.length * sz) ++ vs ++ C.toList.drop (xs.length * sz + vs.length)).toArray).heap.size = w.heap.size := by simp [World.setRow]
  have f : Fwd G G' w (w.setRow g (C.toList.take (xs.length * sz) ++ vs ++ C.toList.drop (xs.length * sz + vs.length)).toArray) fun p => p ≠ [0, dd] :=
    ⟨hle, fun _ _ h => h, fun k p hp hk => by
      have hne : k ≠ g := fun e => by subst e; rw [ho.om] at hk; cases hk; exact hp rfl
      exact ⟨hk, hw k hne, fun o hh => by simp only [G', if_neg hne]; exact hh⟩⟩
  have hcell : ∀ o, (w.setRow g (C.toList.take (xs.length * sz) ++ vs ++ C.toList.drop (xs.length * sz + vs.length)).toArray).cell? ⟨g, o, none⟩ = (C.toList.take (xs.length * sz) ++ vs ++ C.toList.drop (xs.length * sz + vs.length))[o]? := fun o => by
    rw [cell_of_row _ g o _ e (0, 0) hrow]; simp
  have hmin : min (xs.length * sz) C.size = xs.length * sz := by omega
  have hiog : ∀ id k, G.io id = some k → k ≠ g := fun id k hk e => by subst e; have := (h.wf.iolt id k hk).2.2.1; rw [ho.om] at this; cases this
  refine ⟨G', ⟨h.size, ?_, fun k => ?_, fun k x v hx => (h.rest k x v hx).fwd f.res (by simp) (by simp), fun id sz' xs' hx => ?_⟩, ?_, hle, rfl⟩
  · exact { sat := fun b o v hv => by
              by_cases hb : b = g
              · subst hb
                rw [hcell]
                simp only [G', if_true] at hv
                simp only [List.getElem?_append, List.length_append, List.length_take, Array.length_toList, hmin]
                split at hv
                · rename_i hin
                  rw [if_pos hin.2, if_neg (by omega)]; exact hv
                · rename_i hin
                  have hlt : o < xs.length * sz := by
                    rcases Nat.lt_or_ge o (xs.length * sz) with h' | h'
                    · exact h'
                    · rw [ho.free o h'] at hv; cases hv
                  rw [if_pos (by omega), if_pos hlt, List.getElem?_take, if_pos hlt, Array.getElem?_toList]
                  have := h.wf.sat b o v hv
                  rw [cell_of_row _ b o _ e (0, 0) hC] at this
                  exact this
              · simp only [G', if_neg hb] at hv
                rw [← h.wf.sat b o v hv]
                exact World.cell?_of_block (w := w) (hw b hb)
            old := fun b o hb => by
              have : b ≠ g := by have := ho.low; omega
              simp only [G', if_neg this]; exact h.wf.old b o hb
            omlt := fun k p hk => by rw [hsz]; exact h.wf.omlt k p hk
            iolt := fun id k hk => by
              obtain ⟨a, b, c, d⟩ := h.wf.iolt id k hk
              exact ⟨a, by rw [hsz]; exact b, c, fun o => by simp only [G', if_neg (hiog id k hk)]; exact d o⟩
            ioinj := h.wf.ioinj
            iodom := h.wf.iodom
            low := by rw [hsz]; exact h.wf.low }
  · by_cases hk : k = dd
    · subst hk; rw [hdd]; exact RelV.undef
    · exact (h.slot k).fwd f (by simpa using hk) (by simp)
  · rcases h.heap id sz' xs' hx with hdead | ⟨k, hk⟩
    · exact .inl hdead
    obtain ⟨C', e', hC', hl', hc'⟩ := hk.row
    refine .inr ⟨k, hk.io, ⟨C', e', by rw [hw k (hiog id k hk.io)]; exact hC', hl', fun i x j c hx hj => ?_⟩, hk.one, hk.ne⟩
    obtain ⟨v, hv, h1, hr⟩ := hc' i x j c hx hj
    exact ⟨v, hv, h1, hr.fwd f (by simp)⟩
  · refine ⟨ho.low, ho.om, ⟨_, e, hrow, ?_⟩, by simpa using hroom, ho.max, ho.pos, fun i x hx => ?_, fun i x j c hx hj => ?_, fun o hh => ?_⟩
    · simp only [List.size_toArray, List.length_append, List.length_take, List.length_drop, Array.length_toList]
      omega
    · rw [List.getElem?_append] at hx
      split at hx
      · exact ho.one i x hx
      · exact hone _ x hx
    · rw [List.getElem?_append] at hx
      split at hx
      · obtain ⟨v, hv, h1, hr⟩ := ho.cell i x j c hx hj
        exact ⟨v, hle _ _ _ hv, h1, hr.mono hle⟩
      · rename_i hge
        obtain ⟨v, hv, h1, hr⟩ := hc _ x j c hx hj
        refine ⟨v, ?_, h1, hr.mono hle⟩
        have hvl := (List.getElem?_eq_some_iff.1 hv).1
        have e1 : i * sz + j - xs.length * sz = (i - xs.length) * sz + j := by
          have : i = xs.length + (i - xs.length) := by omega
          rw [Nat.sub_mul]
          have : xs.length * sz ≤ i * sz := Nat.mul_le_mul_right _ (by omega)
          omega
        have e2 : xs.length * sz ≤ i * sz + j := by
          have : xs.length * sz ≤ i * sz := Nat.mul_le_mul_right _ (by omega)
          omega
        simp only [G', if_true]
        rw [if_pos ⟨e2, by omega⟩, e1]
        exact hv
    · simp only [List.length_append, Nat.add_mul] at hh
      simp only [G', if_true]
      rw [if_neg (by omega)]
      exact ho.free o (by omega)
end
end AH
