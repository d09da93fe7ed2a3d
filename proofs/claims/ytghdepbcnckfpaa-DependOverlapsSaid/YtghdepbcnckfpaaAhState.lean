/- The abstract state of a frame, its relation to a frame and a world, and how it goes on. -/
import Derived.Test.YtghdepbcnckfpaaAhBase
namespace AH
open Go Go.RowKit

structure St where
  n : Nat
  fl : Nat
  sl : List (Nat × AV)
  hp : List (Nat × List AV)

def lk : List (Nat × AV) → Nat → AV
  | [], _ => .undef
  | (j, v) :: r, k => if j = k then v else lk r k

def St.get (st : St) (k : Nat) : AV := lk st.sl k
def St.put (st : St) (d : Nat) (v : AV) : St := { st with sl := (d, v) :: st.sl }

theorem St.get_put (st : St) (d k : Nat) (v : AV) : (st.put d v).get k = if d = k then v else st.get k := rfl

structure GWf (G : Gh) (B : Nat) (H0 : HV) (nh : Nat) (w : World) : Prop where
  sat : HV.sat G.H w
  old : ∀ b o, b < B → G.H b o = H0 b o
  omlt : ∀ g p, G.om g = some p → B ≤ g ∧ g < w.heap.size
  iolt : ∀ id g, G.io id = some g → B ≤ g ∧ g < w.heap.size ∧ G.om g = none ∧ ∀ o, G.H g o = none
  ioinj : ∀ id id' g, G.io id = some g → G.io id' = some g → id = id'
  iodom : ∀ id g, G.io id = some g → id < nh
  low : B ≤ w.heap.size

structure RelB (G : Gh) (B : Nat) (w : World) (id sz : Nat) (xs : List AV) (g : Nat) : Prop where
  io : G.io id = some g
  row : ∃ C e, w.heap[g]? = some (.cells C e (0, 0)) ∧ xs.length * sz ≤ C.size ∧
    ∀ (i : Nat) (x : AV) (j : Nat) (c : AV), xs[i]? = some x → x.cells[j]? = some c → ∃ v, C[i * sz + j]? = some v ∧ v.oneCell' = true ∧ RelC G B w [2, id, i, j] c v
  one : ∀ (i : Nat) (x : AV), xs[i]? = some x → x.cells.length = sz
  ne : xs ≠ []

/-- The boxes below fl alone. -/
def Gh.res (G : Gh) (fl : Nat) : Gh := { G with io := fun id => if id < fl then G.io id else none }

theorem Fwd.res {G G' : Gh} {w w' : World} {keep : List Nat → Prop} (f : Fwd G G' w w' keep) {fl : Nat} : Fwd (G.res fl) (G'.res fl) w w' keep where
  H := f.H
  io id g hg := by
    simp only [Gh.res] at hg ⊢
    split at hg
    · rename_i h; rw [if_pos h]; exact f.io id g hg
    · cases hg
  om := f.om

/-- A box, or a place that is kept for one. -/
def HeapOk (G : Gh) (B : Nat) (w : World) (id sz : Nat) (xs : List AV) : Prop := (xs = [] ∧ G.io id = none) ∨ ∃ g, RelB G B w id sz xs g

structure RelG (G : Gh) (B : Nat) (H0 : HV) (rest : List (AV × Value)) (st : St) (tmps : Array Value) (w : World) : Prop where
  size : tmps.size = st.n
  wf : GWf G B H0 st.hp.length w
  slot : ∀ k, RelV G B w [0, k] (st.get k) (tmps.getD k Go.undef)
  rest : ∀ (k : Nat) (x : AV) (v : Value), rest[k]? = some (x, v) → RelV (G.res st.fl) B w [1, k] x v
  heap : ∀ (id sz : Nat) (xs : List AV), st.hp[id]? = some (sz, xs) → HeapOk G B w id sz xs

theorem sat_lt {H : HV} {w : World} (h : HV.sat H w) {b o : Nat} {v : Value} (hv : H b o = some v) : b < w.heap.size :=
  World.block_lt_of_cell? w ⟨b, o, none⟩ (h _ _ _ hv)

theorem getD_set (a : Array Value) (d k : Nat) (v : Value) (hd : d < a.size) : (a.setIfInBounds d v).getD k Go.undef = if d = k then v else a.getD k Go.undef := by
  simp only [Array.getD_eq_getD_getElem?, Array.getElem?_setIfInBounds]
  by_cases h : d = k
  · subst h; simp [hd]
  · simp [h]

section
variable {G : Gh} {B : Nat} {H0 : HV} {rest : List (AV × Value)} {st : St} {tmps : Array Value} {w : World}

/-- A slot is written, nothing else. -/
theorem RelG.put (h : RelG G B H0 rest st tmps w) {d : Nat} (hd : d < st.n) {av : AV} {v : Value} (hv : RelV G B w [0, d] av v) :
    RelG G B H0 rest (st.put d av) (tmps.setIfInBounds d v) w where
  size := by simpa [St.put] using h.size
  wf := h.wf
  slot k := by
    rw [St.get_put, getD_set _ _ _ _ (by rw [h.size]; exact hd)]
    by_cases e : d = k
    · subst e; simpa using hv
    · simpa [e] using h.slot k
  rest := h.rest
  heap := h.heap

/-- A slot is forgotten, or weakened. -/
theorem RelG.weaken (h : RelG G B H0 rest st tmps w) {d : Nat} {av : AV} (hv : RelV G B w [0, d] av (tmps.getD d Go.undef)) :
    RelG G B H0 rest (st.put d av) tmps w where
  size := by simpa [St.put] using h.size
  wf := h.wf
  slot k := by
    rw [St.get_put]
    by_cases e : d = k
    · subst e; simpa using hv
    · simpa [e] using h.slot k
  rest := h.rest
  heap := h.heap

/-- All that is there goes on under a new ghost and a new world. -/
theorem RelG.fwd {G' : Gh} {w' : World} (h : RelG G B H0 rest st tmps w) (f : Fwd G G' w w' fun _ => True) (wf : GWf G' B H0 st.hp.length w')
    (hb : ∀ id g, G.io id = some g → w'.heap[g]? = w.heap[g]?) (hno : ∀ id, G.io id = none → G'.io id = none) : RelG G' B H0 rest st tmps w' where
  size := h.size
  wf := wf
  slot k := (h.slot k).fwd f trivial fun _ => trivial
  rest k x v hx := (h.rest k x v hx).fwd f.res trivial fun _ => trivial
  heap id sz xs hx := by
    rcases h.heap id sz xs hx with ⟨rfl, hi⟩ | ⟨g, hg⟩
    · exact .inl ⟨rfl, hno _ hi⟩
    obtain ⟨C, e, hC, hl, hc⟩ := hg.row
    refine .inr ⟨g, f.io _ _ hg.io, ⟨C, e, by rw [hb id g hg.io]; exact hC, hl, fun i x j c hx hj => ?_⟩, hg.one, hg.ne⟩
    obtain ⟨v, hv, h1, hr⟩ := hc i x j c hx hj
    exact ⟨v, hv, h1, hr.fwd f trivial⟩

/-- The world has grown (new blocks; draws). -/
theorem RelG.ext {w' : World} (h : RelG G B H0 rest st tmps w) (hb : Below w.heap.size w w') : RelG G B H0 rest st tmps w' := by
  refine h.fwd ⟨fun _ _ _ h => h, fun _ _ h => h, fun g p _ hg => ⟨hg, hb.block g (h.wf.omlt g p hg).2, fun _ h => h⟩⟩ ?_ (fun id g hg => hb.block g (h.wf.iolt id g hg).2.1) (fun _ h => h)
  exact { sat := fun b o v hv => by rw [← h.wf.sat b o v hv]; exact hb.cell (p := ⟨b, o, none⟩) (sat_lt h.wf.sat hv)
          old := h.wf.old
          omlt := fun g p hg => ⟨(h.wf.omlt g p hg).1, Nat.lt_of_lt_of_le (h.wf.omlt g p hg).2 hb.size⟩
          iolt := fun id g hg => let ⟨a, b, c⟩ := h.wf.iolt id g hg; ⟨a, Nat.lt_of_lt_of_le b hb.size, c⟩
          ioinj := h.wf.ioinj
          iodom := h.wf.iodom
          low := Nat.le_trans h.wf.low hb.size }

/-- The owner of a row changes: all others go on. -/
theorem fwd_retag {g : Nat} {p q : List Nat} (hg : G.om g = some p) : Fwd G { G with om := fun g' => if g' = g then some q else G.om g' } w w fun r => r ≠ p where
  H := fun _ _ _ h => h
  io := fun _ _ h => h
  om := fun g' r hr h => ⟨by
    by_cases e : g' = g
    · subst e; rw [hg] at h; cases h; exact absurd rfl hr
    · simpa [e] using h, rfl, fun _ h => h⟩

theorem wf_retag {nh : Nat} (h : GWf G B H0 nh w) {g : Nat} {p q : List Nat} (hg : G.om g = some p) : GWf { G with om := fun g' => if g' = g then some q else G.om g' } B H0 nh w where
  sat := h.sat
  old := h.old
  omlt g' r hr := by
    by_cases e : g' = g
    · subst e; exact h.omlt g' p hg
    · exact h.omlt g' r (by simpa [e] using hr)
  iolt id g' hi := by
    obtain ⟨a, b, c, d⟩ := h.iolt id g' hi
    refine ⟨a, b, ?_, d⟩
    by_cases e : g' = g
    · subst e; rw [hg] at c; cases c
    · simpa [e] using c
  ioinj := h.ioinj
  iodom := h.iodom
  low := h.low

theorem OwnBlk.retag {p q : List Nat} {sz : Nat} {xs : List AV} {g cap : Nat} (h : OwnBlk G B w p sz xs g cap) : OwnBlk { G with om := fun g' => if g' = g then some q else G.om g' } B w q sz xs g cap :=
  ⟨h.low, by simp, h.row, h.len, h.max, h.pos, h.one, h.cell, h.free⟩

/-- The owned row of slot s is handed to position q; the slot keeps the right to read. -/
theorem RelG.take (h : RelG G B H0 rest st tmps w) {s sz : Nat} {xs : List AV} (hs : st.get s = .own sz xs) (q : List Nat) :
    ∃ G', RelG G' B H0 rest (st.put s (.sl sz xs)) tmps w ∧ OwnRel G' B w q sz xs (tmps.getD s Go.undef) ∧ G'.H = G.H ∧ G'.io = G.io := by
  have hv := h.slot s
  rw [hs] at hv
  have hv : OwnRel G B w [0, s] sz xs (tmps.getD s Go.undef) := hv
  have h1 : RelG G B H0 rest (st.put s (.sl sz xs)) tmps w := h.weaken (RelV.of0 (.imm _ _ hv.sl))
  rcases hv with ⟨e, hn⟩ | ⟨g, cap, hn, hb⟩
  · exact ⟨G, h1, .inl ⟨e, hn⟩, rfl, rfl⟩
  · have f := fwd_retag (w := w) (q := q) hb.om
    refine ⟨_, ⟨h1.size, wf_retag h1.wf hb.om, fun k => ?_, fun k x v hx => (h1.rest k x v hx).fwd f.res (by simp) (by simp), fun id sz xs hx => ?_⟩, .inr ⟨g, cap, hn, hb.retag⟩, rfl, rfl⟩
    · by_cases e : s = k
      · subst e
        rw [St.get_put, if_pos rfl]
        refine RelV.of0 (.imm _ _ ?_)
        rw [hn]
        exact OwnRel.sl (G := G) (B := B) (w := w) (p := [0, s]) (.inr ⟨g, cap, rfl, hb⟩)
      · exact (h1.slot k).fwd f (by simpa using Ne.symm e) (by simp)
    · rcases h1.heap id sz xs hx with hdead | ⟨g', hg⟩
      · exact .inl hdead
      obtain ⟨C, e, hC, hl, hc⟩ := hg.row
      exact .inr ⟨g', hg.io, ⟨C, e, hC, hl, fun i x j c hx hj => let ⟨v, a, o, b⟩ := hc i x j c hx hj; ⟨v, a, o, b.fwd f (by simp)⟩⟩, hg.one, hg.ne⟩
end

end AH
