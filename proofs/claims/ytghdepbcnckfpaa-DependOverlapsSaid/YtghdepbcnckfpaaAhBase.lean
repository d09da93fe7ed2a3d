/- The abstract values, what it means that a value in a world represents one, and the state's relation. -/
import Derived.WalkKit
namespace AH
open Go Go.RowKit

inductive AV where
  | undef
  | bool (b : Bool)
  | int (k : IntKind) (n : Int)
  | str (s : List UInt8)
  | nil
  | sl (sz : Nat) (xs : List AV)
  | own (sz : Nat) (xs : List AV)
  | ip (sz : Nat) (xs : List AV) (i off : Nat)
  | ptr (id sz i off : Nat)
  | nilp
  | fn (f : Nat) (caps : List AV)
  | nilfn
  | agg (cs : List AV)
  | tup (vs : List AV)
  deriving Inhabited

def AV.cells : AV → List AV
  | .agg cs => cs
  | v => [v]

/-- What is known not to change any more: cell by cell. -/
abbrev HV := Nat → Nat → Option Value

def HV.sat (H : HV) (w : World) : Prop := ∀ b o v, H b o = some v → w.cell? ⟨b, o, none⟩ = some v
def HV.le (H H' : HV) : Prop := ∀ b o v, H b o = some v → H' b o = some v

inductive RelI (H : HV) : AV → Value → Prop
  | undef (v : Value) : RelI H .undef v
  | bool (b : Bool) : RelI H (.bool b) (.bool b)
  | int (k : IntKind) (n : Int) : RelI H (.int k n) (.int k n)
  | str (s : List UInt8) : RelI H (.str s) (.string ⟨s.toArray⟩)
  | nil : RelI H .nil (.slice none 0 0)
  | sl0 (sz : Nat) (a : Option Addr) (cap : Nat) : cap ≤ maxLen → RelI H (.sl sz []) (.slice a 0 cap)
  | sl (sz : Nat) (xs : List AV) (b o cap : Nat) (val : Nat → Nat → Value) : 0 < sz → xs.length ≤ cap → cap ≤ maxLen →
      (∀ (i : Nat) (x : AV), xs[i]? = some x → x.cells.length = sz) →
      (∀ (i : Nat) (x : AV) (j : Nat) (c : AV), xs[i]? = some x → x.cells[j]? = some c → H b (o + i * sz + j) = some (val i j) ∧ (val i j).oneCell' = true) →
      (∀ (i : Nat) (x : AV) (j : Nat) (c : AV), xs[i]? = some x → x.cells[j]? = some c → RelI H c (val i j)) →
      RelI H (.sl sz xs) (.slice (some ⟨b, o, none⟩) xs.length cap)
  | ip (sz : Nat) (xs : List AV) (b o i off : Nat) (val : Nat → Nat → Value) : 0 < sz → i < xs.length →
      (∀ (i : Nat) (x : AV), xs[i]? = some x → x.cells.length = sz) →
      (∀ (i : Nat) (x : AV) (j : Nat) (c : AV), xs[i]? = some x → x.cells[j]? = some c → H b (o + i * sz + j) = some (val i j) ∧ (val i j).oneCell' = true) →
      (∀ (i : Nat) (x : AV) (j : Nat) (c : AV), xs[i]? = some x → x.cells[j]? = some c → RelI H c (val i j)) →
      RelI H (.ip sz xs i off) (.pointer (some ⟨b, o + i * sz + off, none⟩))
  | nilp : RelI H .nilp (.pointer none)
  | nilfn : RelI H .nilfn .nilFunc
  | fn (f : Nat) (cs : List AV) (vs : Array Value) (h : cs.length = vs.size) (hc : ∀ (j : Nat) (c : AV) (v : Value), cs[j]? = some c → vs[j]? = some v → RelI H c v) :
      RelI H (.fn f cs) (.func (.func f) #[] vs)
  | agg (cs : List AV) (vs : Array Value) (h : cs.length = vs.size) (h1 : ∀ v ∈ vs, v.oneCell' = true) (hc : ∀ (j : Nat) (c : AV) (v : Value), cs[j]? = some c → vs[j]? = some v → RelI H c v) : RelI H (.agg cs) (.agg vs)
  | tup (cs : List AV) (vs : Array Value) (h : cs.length = vs.size) (hc : ∀ (j : Nat) (c : AV) (v : Value), cs[j]? = some c → vs[j]? = some v → RelI H c v) : RelI H (.tup cs) (.tuple vs)

theorem RelI.mono {H H' : HV} (hle : HV.le H H') {av : AV} {v : Value} (h : RelI H av v) : RelI H' av v := by
  induction h with
  | undef v => exact .undef v
  | bool b => exact .bool b
  | int k n => exact .int k n
  | str s => exact .str s
  | nil => exact .nil
  | sl0 sz a cap h => exact .sl0 sz a cap h
  | sl sz xs b o cap val h0 h1 h2 h3 h4 _ ih => exact .sl sz xs b o cap val h0 h1 h2 h3 (fun i x j c hx hc => ⟨hle _ _ _ (h4 i x j c hx hc).1, (h4 i x j c hx hc).2⟩) ih
  | ip sz xs b o i off val h0 hi h3 h4 _ ih => exact .ip sz xs b o i off val h0 hi h3 (fun i x j c hx hc => ⟨hle _ _ _ (h4 i x j c hx hc).1, (h4 i x j c hx hc).2⟩) ih
  | nilp => exact .nilp
  | nilfn => exact .nilfn
  | fn f cs vs h _ ih => exact .fn f cs vs h ih
  | agg cs vs h h1 _ ih => exact .agg cs vs h h1 ih
  | tup cs vs h _ ih => exact .tup cs vs h ih

/-- The same, with pointers into the call's own boxes. -/
inductive Rel0 (H : HV) (io : Nat → Option Nat) : AV → Value → Prop
  | imm (av : AV) (v : Value) : RelI H av v → Rel0 H io av v
  | ptr (id sz i off g : Nat) : io id = some g → Rel0 H io (.ptr id sz i off) (.pointer (some ⟨g, i * sz + off, none⟩))
  | fn (f : Nat) (cs : List AV) (vs : Array Value) (h : cs.length = vs.size) (hc : ∀ (j : Nat) (c : AV) (v : Value), cs[j]? = some c → vs[j]? = some v → Rel0 H io c v) :
      Rel0 H io (.fn f cs) (.func (.func f) #[] vs)
  | agg (cs : List AV) (vs : Array Value) (h : cs.length = vs.size) (h1 : ∀ v ∈ vs, v.oneCell' = true) (hc : ∀ (j : Nat) (c : AV) (v : Value), cs[j]? = some c → vs[j]? = some v → Rel0 H io c v) : Rel0 H io (.agg cs) (.agg vs)
  | tup (cs : List AV) (vs : Array Value) (h : cs.length = vs.size) (hc : ∀ (j : Nat) (c : AV) (v : Value), cs[j]? = some c → vs[j]? = some v → Rel0 H io c v) : Rel0 H io (.tup cs) (.tuple vs)

theorem Rel0.mono {H H' : HV} {io io' : Nat → Option Nat} (hle : HV.le H H') (hio : ∀ id g, io id = some g → io' id = some g) {av : AV} {v : Value} (h : Rel0 H io av v) : Rel0 H' io' av v := by
  induction h with
  | imm av v h => exact .imm _ _ (h.mono hle)
  | ptr id sz i off g h => exact .ptr id sz i off g (hio _ _ h)
  | fn f cs vs h _ ih => exact .fn f cs vs h ih
  | agg cs vs h h1 _ ih => exact .agg cs vs h h1 ih
  | tup cs vs h _ ih => exact .tup cs vs h ih

/-- A kind of one cell. -/
def AV.one : AV → Bool
  | .undef | .agg _ | .tup _ => false
  | _ => true

theorem RelI.oneCell {H : HV} {av : AV} {v : Value} (h : RelI H av v) (h1 : av.one = true) : v.oneCell' = true := by
  cases h <;> first | rfl | cases h1
theorem Rel0.oneCell {H : HV} {io : Nat → Option Nat} {av : AV} {v : Value} (h : Rel0 H io av v) (h1 : av.one = true) : v.oneCell' = true := by
  cases h with
  | imm _ _ h => exact h.oneCell h1
  | agg => cases h1
  | tup => cases h1
  | ptr => rfl
  | fn => rfl

/-- What the call's state knows besides: the frozen cells, who owns which growing row, where the boxes lie. -/
structure Gh where
  H : HV
  om : Nat → Option (List Nat)
  io : Nat → Option Nat

structure OwnBlk (G : Gh) (B : Nat) (w : World) (p : List Nat) (sz : Nat) (xs : List AV) (g cap : Nat) : Prop where
  low : B ≤ g
  om : G.om g = some p
  row : ∃ C e, w.heap[g]? = some (.cells C e (0, 0)) ∧ C.size = cap * sz
  len : xs.length ≤ cap
  max : cap ≤ maxLen
  pos : 0 < sz
  one : ∀ (i : Nat) (x : AV), xs[i]? = some x → x.cells.length = sz
  cell : ∀ (i : Nat) (x : AV) (j : Nat) (c : AV), xs[i]? = some x → x.cells[j]? = some c → ∃ v, G.H g (i * sz + j) = some v ∧ v.oneCell' = true ∧ RelI G.H c v
  free : ∀ o, xs.length * sz ≤ o → G.H g o = none

def OwnRel (G : Gh) (B : Nat) (w : World) (p : List Nat) (sz : Nat) (xs : List AV) (v : Value) : Prop :=
  (xs = [] ∧ ∃ a, v = .slice a 0 0) ∨ ∃ g cap, v = .slice (some ⟨g, 0, none⟩) xs.length cap ∧ OwnBlk G B w p sz xs g cap

/-- A cell: owned, or plain. -/
def RelC (G : Gh) (B : Nat) (w : World) (p : List Nat) (c : AV) (v : Value) : Prop :=
  match c with
  | .own sz xs => OwnRel G B w p sz xs v
  | c => Rel0 G.H G.io c v

/-- A slot: owned, a tuple of owned or plain ones, or plain. -/
def RelV (G : Gh) (B : Nat) (w : World) (p : List Nat) (c : AV) (v : Value) : Prop :=
  match c with
  | .tup cs => ∃ vs : Array Value, v = .tuple vs ∧ cs.length = vs.size ∧ ∀ (j : Nat) (c : AV) (u : Value), cs[j]? = some c → vs[j]? = some u → RelC G B w (p ++ [j]) c u
  | c => RelC G B w p c v

theorem RelV.cases' {G : Gh} {B : Nat} {w : World} {p : List Nat} {v : Value} (c : AV) : (∃ cs, c = .tup cs) ∨ ((∀ cs, c ≠ .tup cs) ∧ RelV G B w p c v = RelC G B w p c v) := by
  cases c <;> first | exact .inl ⟨_, rfl⟩ | exact .inr ⟨(fun _ h => by cases h), rfl⟩

def AV.dem0 : AV → AV
  | .own sz xs => .sl sz xs
  | v => v

def AV.dem : AV → AV
  | .tup vs => .tup (vs.map AV.dem0)
  | v => v.dem0

theorem OwnRel.sl {G : Gh} {B : Nat} {w : World} {p : List Nat} {sz : Nat} {xs : List AV} {v : Value} (h : OwnRel G B w p sz xs v) : RelI G.H (.sl sz xs) v := by
  rcases h with ⟨rfl, _, rfl⟩ | ⟨g, cap, rfl, h⟩
  · exact .sl0 _ _ _ (Nat.zero_le _)
  · refine .sl sz xs g 0 cap (fun i j => ((G.H g (i * sz + j)).getD Go.undef)) h.pos h.len h.max h.one ?_ ?_
    · intro i x j c hx hc
      obtain ⟨v, hv, h1, _⟩ := h.cell i x j c hx hc
      simp only [Nat.zero_add, hv, Option.getD_some, true_and]
      exact h1
    · intro i x j c hx hc
      obtain ⟨v, hv, _, hr⟩ := h.cell i x j c hx hc
      simp only [hv, Option.getD_some]
      exact hr

theorem RelC.dem {G : Gh} {B : Nat} {w : World} {p : List Nat} {c : AV} {v : Value} (h : RelC G B w p c v) : Rel0 G.H G.io c.dem0 v := by
  cases c <;> first | exact h | exact .imm _ _ (OwnRel.sl h)

theorem RelV.dem {G : Gh} {B : Nat} {w : World} {p : List Nat} {c : AV} {v : Value} (h : RelV G B w p c v) : Rel0 G.H G.io c.dem v := by
  rcases RelV.cases' (G := G) (B := B) (w := w) (p := p) (v := v) c with ⟨cs, rfl⟩ | ⟨hne, e⟩
  · obtain ⟨vs, rfl, hl, hc⟩ := h
    refine .tup _ vs (by simpa using hl) fun j c u hj hu => ?_
    simp only [List.getElem?_map, Option.map_eq_some_iff] at hj
    obtain ⟨c', hc', rfl⟩ := hj
    exact (hc j c' u hc' hu).dem
  · rw [e] at h
    have hd : c.dem = c.dem0 := by cases c <;> first | rfl | exact absurd rfl (hne _)
    rw [hd]; exact h.dem

theorem RelC.of0 {G : Gh} {B : Nat} {w : World} {p : List Nat} {c : AV} {v : Value} (h : Rel0 G.H G.io c v) : RelC G B w p c v := by
  cases c with
  | own sz xs => cases h with | imm _ _ h => cases h
  | _ => exact h

theorem RelV.of0 {G : Gh} {B : Nat} {w : World} {p : List Nat} {c : AV} {v : Value} (h : Rel0 G.H G.io c v) : RelV G B w p c v := by
  rcases RelV.cases' (G := G) (B := B) (w := w) (p := p) (v := v) c with ⟨cs, rfl⟩ | ⟨hne, e⟩
  · cases h with
    | imm _ _ h =>
      cases h with
      | tup _ vs hl hc => exact ⟨vs, rfl, hl, fun j c u hj hu => RelC.of0 (.imm _ _ (hc j c u hj hu))⟩
    | tup _ vs hl hc => exact ⟨vs, rfl, hl, fun j c u hj hu => RelC.of0 (hc j c u hj hu)⟩
  · rw [e]; exact RelC.of0 h

theorem RelV.undef {G : Gh} {B : Nat} {w : World} {p : List Nat} {v : Value} : RelV G B w p .undef v := RelV.of0 (.imm _ _ (.undef v))

/-- The step from one ghost and world to the next: what is asked so that a relation at positions of the class 'keep' goes on. -/
structure Fwd (G G' : Gh) (w w' : World) (keep : List Nat → Prop) : Prop where
  H : HV.le G.H G'.H
  io : ∀ id g, G.io id = some g → G'.io id = some g
  om : ∀ g p, keep p → G.om g = some p → G'.om g = some p ∧ w'.heap[g]? = w.heap[g]? ∧ ∀ o, G.H g o = none → G'.H g o = none

theorem OwnRel.fwd {G G' : Gh} {B : Nat} {w w' : World} {keep : List Nat → Prop} (f : Fwd G G' w w' keep) {p : List Nat} (hp : keep p) {sz : Nat} {xs : List AV} {v : Value}
    (h : OwnRel G B w p sz xs v) : OwnRel G' B w' p sz xs v := by
  rcases h with h | ⟨g, cap, hv, h⟩
  · exact .inl h
  · obtain ⟨h1, h2, h3⟩ := f.om g p hp h.om
    exact .inr ⟨g, cap, hv, h.low, h1, by rw [h2]; exact h.row, h.len, h.max, h.pos, h.one,
      fun i x j c hx hc => let ⟨v, a, o, b⟩ := h.cell i x j c hx hc; ⟨v, f.H _ _ _ a, o, b.mono f.H⟩, fun o ho => h3 o (h.free o ho)⟩

theorem RelC.fwd {G G' : Gh} {B : Nat} {w w' : World} {keep : List Nat → Prop} (f : Fwd G G' w w' keep) {p : List Nat} (hp : keep p) {c : AV} {v : Value}
    (h : RelC G B w p c v) : RelC G' B w' p c v := by
  cases c with
  | own sz xs => exact OwnRel.fwd f hp h
  | _ => exact Rel0.mono f.H f.io h

theorem RelV.fwd {G G' : Gh} {B : Nat} {w w' : World} {keep : List Nat → Prop} (f : Fwd G G' w w' keep) {p : List Nat} (hp : keep p) (hpj : ∀ j, keep (p ++ [j])) {c : AV} {v : Value}
    (h : RelV G B w p c v) : RelV G' B w' p c v := by
  rcases RelV.cases' (G := G) (B := B) (w := w) (p := p) (v := v) c with ⟨cs, rfl⟩ | ⟨hne, e⟩
  · obtain ⟨vs, hv, hl, hc⟩ := h
    exact ⟨vs, hv, hl, fun j c u hj hu => (hc j c u hj hu).fwd f (hpj j)⟩
  · rcases RelV.cases' (G := G') (B := B) (w := w') (p := p) (v := v) c with ⟨cs, rfl⟩ | ⟨_, e'⟩
    · exact absurd rfl (hne _)
    · rw [e]  at h; rw [e']; exact h.fwd f hp

end AH
