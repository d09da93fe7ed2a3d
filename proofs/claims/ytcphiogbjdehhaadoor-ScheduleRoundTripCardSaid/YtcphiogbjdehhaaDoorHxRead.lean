/- From a reading of an argument to an abstract value of a typed form. -/
import Derived.Test.YtcphiogbjdehhaaDoorHxFn
import Derived.ChangeArms
namespace HX
open Go Go.RowKit

def HV.full (w : World) : HV := fun b o => w.cell? ⟨b, o, none⟩
theorem full_sat (w : World) : HV.sat (HV.full w) w := fun _ _ _ h => h

def RelL (H : HV) (avs : List AV) (cs : List Value) : Prop := avs.length = cs.length ∧ ∀ (j : Nat) (a : AV) (v : Value), avs[j]? = some a → cs[j]? = some v → a.one = true ∧ RelI H a v

theorem RelL.nil {H : HV} : RelL H [] [] := ⟨rfl, fun j a v h => by simp at h⟩
theorem RelL.one {H : HV} {a : AV} {v : Value} (h1 : a.one = true) (h : RelI H a v) : RelL H [a] [v] := ⟨rfl, fun j x u hx hu => by
  cases j with
  | zero => simp at hx hu; subst hx; subst hu; exact ⟨h1, h⟩
  | succ j => simp at hx⟩
theorem RelL.append {H : HV} {a b : List AV} {c d : List Value} (h : RelL H a c) (k : RelL H b d) : RelL H (a ++ b) (c ++ d) := by
  refine ⟨by simp [h.1, k.1], fun j x u hx hu => ?_⟩
  rw [List.getElem?_append] at hx hu
  split at hx
  · rename_i hj; rw [if_pos (by rw [← h.1]; exact hj)] at hu; exact h.2 j x u hx hu
  · rename_i hj; rw [if_neg (by rw [← h.1]; exact hj), ← h.1] at hu; exact k.2 _ x u hx hu

section
variable {H : Type} {enc : TypeId × Value → H} {P : Program} {w : World} {base : Nat} {spare : Nat → Bool} {held : Bool}

/-- What a reading of type t, up to the depth n, shows: a typed form, with a relation to what was read. -/
def Reads (enc : TypeId × Value → H) (P : Program) (w : World) (base : Nat) (spare : Nat → Bool) (held : Bool) (n : Nat) (t : TypeId) {α : Type} (E : α → List AV) (I : α → DataW H → Prop) : Prop :=
  ∀ fuel cs d ps, fuel ≤ n → DataW.trod enc P w base spare held fuel t cs = some (d, ps) → ∃ a, I a d ∧ RelL (HV.full w) (E a) cs

theorem reads_int (n : Nat) {t : TypeId} {k : IntKind} (ht : P.underlying t = some (.int k)) :
    Reads enc P w base spare held n t (fun a : Int => [.int k a]) (fun a d => (Lit.int k a).wf = true ∧ d = .lit (.int k a)) := fun fuel cs d ps _ h => by
  obtain ⟨m, rfl, he, hw⟩ := DataW.trod_int ht h
  cases he
  exact ⟨m, ⟨hw, rfl⟩, .one rfl (.int k m)⟩
theorem reads_bool (n : Nat) {t : TypeId} (ht : P.underlying t = some .bool) :
    Reads enc P w base spare held n t (fun a : Bool => [.bool a]) (fun a d => d = .lit (.bool a)) := fun fuel cs d ps _ h => by
  obtain ⟨m, rfl, he⟩ := DataW.trod_bool ht h
  cases he
  exact ⟨m, rfl, .one rfl (.bool m)⟩
theorem reads_string (n : Nat) {t : TypeId} (ht : P.underlying t = some .string) :
    Reads enc P w base spare held n t (fun a : List UInt8 => [.str a]) (fun a d => a.length ≤ maxLen ∧ d = .lit (.string a)) := fun fuel cs d ps _ h => by
  obtain ⟨m, rfl, he, hl⟩ := DataW.trod_string ht h
  cases he
  refine ⟨m.data.toList, ⟨by rw [Array.length_toList]; exact hl, rfl⟩, .one rfl ?_⟩
  have := RelI.str (H := HV.full w) m.data.toList
  simpa using this

/-- A slice's reading. -/
def SliceI {α : Type} (I : α → DataW H → Prop) (l : List α) (d : DataW H) : Prop :=
  l.length ≤ maxLen ∧ ((l = [] ∧ d = .nil) ∨ ∃ elems spare, d = .slice elems spare ∧ elems.length = l.length ∧ ∀ (i : Nat) (a : α) (e : DataW H), l[i]? = some a → elems[i]? = some e → I a e)

theorem choose_list {α β : Type} (R : Nat → α → β → Prop) : ∀ (l : List β) (k : Nat), (∀ i b, l[i]? = some b → ∃ a, R (k + i) a b) → ∃ as : List α, as.length = l.length ∧ ∀ i a b, as[i]? = some a → l[i]? = some b → R (k + i) a b
  | [], k, _ => ⟨[], rfl, fun i a b h => by simp at h⟩
  | b :: l, k, h => by
    obtain ⟨a, ha⟩ := h 0 b rfl
    obtain ⟨as, hl, has⟩ := choose_list R l (k + 1) (fun i b' hb => by
      have := h (i + 1) b' hb
      rw [show k + 1 + i = k + (i + 1) by omega]; exact this)
    refine ⟨a :: as, by simp [hl], fun i x y hx hy => ?_⟩
    cases i with
    | zero => simp at hx hy; subst hx; subst hy; exact ha
    | succ i =>
      have := has i x y hx hy
      rw [show k + 1 + i = k + (i + 1) by omega] at this; exact this

theorem reads_slice {n : Nat} {t e : TypeId} {sz : Nat} {α : Type} {E : α → List AV} {I : α → DataW H → Prop} (F : α → AV) (ht : P.underlying t = some (.slice e)) (hc : P.cellsOf e = sz) (hpos : 0 < sz) (hF : ∀ a, (F a).cells = E a) (he : Reads enc P w base spare held n e E I) :
    Reads enc P w base spare held (n + 1) t (fun l : List α => [.sl sz (l.map F)]) (SliceI I) := fun fuel cs d ps hfu h => by
  rcases DataW.trod_slice ht h with ⟨rfl, hx⟩ | ⟨a, len, cap, elems, rest, m, rfl, rfl, hx, hb, hl, hm, hlen, hel, _, _⟩
  · cases hx
    exact ⟨[], ⟨Nat.zero_le _, .inl ⟨rfl, rfl⟩⟩, .one rfl (.sl0 _ _ _ (Nat.zero_le _))⟩
  · cases hx
    subst hc
    have hel' : ∀ i b, elems[i]? = some b → ∃ x : α, I x b.1 ∧ ∃ cs', w.cells? base (a.add ((0 + i) * P.cellsOf e)) (P.cellsOf e) = some cs' ∧ RelL (HV.full w) (E x) cs' := fun i b hb => by
      have hi : i < len := by rw [← hlen]; exact (List.getElem?_eq_some_iff.1 hb).1
      have := hel i hi
      rw [hb] at this
      obtain ⟨cs', h1, h2⟩ := Option.bind_eq_some_iff.1 this
      obtain ⟨x, hx, hr⟩ := he m cs' b.1 b.2 (by omega) h2
      exact ⟨x, hx, cs', by rw [Nat.zero_add]; exact h1, hr⟩
    obtain ⟨as, hal, has⟩ := choose_list (fun i (x : α) (b : DataW H × List MemPlace) => I x b.1 ∧ ∃ cs', w.cells? base (a.add (i * P.cellsOf e)) (P.cellsOf e) = some cs' ∧ RelL (HV.full w) (E x) cs') elems 0 hel'
    have hget : ∀ i x, as[i]? = some x → ∃ b, elems[i]? = some b := fun i x hx => by
      have : i < as.length := (List.getElem?_eq_some_iff.1 hx).1
      exact ⟨_, List.getElem?_eq_getElem (by omega)⟩
    refine ⟨as, ⟨by omega, .inr ⟨_, _, rfl, by simp [hal], fun i x e' hx he' => ?_⟩⟩, .one rfl ?_⟩
    · rw [List.getElem?_map, Option.map_eq_some_iff] at he'
      obtain ⟨b, hb', rfl⟩ := he'
      exact (has i x b hx hb').1
    · by_cases h0 : as = []
      · subst h0
        have : len = 0 := by rw [← hlen, ← hal]; rfl
        subst this
        exact .sl0 _ _ _ hm
      · have hlen' : (as.map F).length = len := by simp [hal, hlen]
        -- the place
        have h00 : 0 < as.length := List.length_pos_iff.2 h0
        obtain ⟨b0, hb0⟩ := hget 0 as[0] (List.getElem?_eq_getElem h00)
        obtain ⟨_, cs0, hc0, _⟩ := has 0 _ _ (List.getElem?_eq_getElem h00) hb0
        obtain ⟨_, hcl, hcell⟩ := World.cells?_some hc0
        have hspot : a.spot = none := by
          have := hcell 0 hpos
          rw [List.getElem?_eq_getElem (by omega)] at this
          have := World.cell?_spot this
          simpa [Addr.add] using this
        obtain ⟨ab, ao, asp⟩ := a
        simp only at hspot
        subst hspot
        rw [← hlen']
        refine .sl (P.cellsOf e) (as.map F) ab ao cap (fun i j => (w.cell? ⟨ab, ao + i * P.cellsOf e + j, none⟩).getD Go.undef) hpos (by omega) hm (fun i x hx => ?_) (fun i x j c hx hj => ?_) (fun i x j c hx hj => ?_)
        all_goals
          rw [List.getElem?_map, Option.map_eq_some_iff] at hx
          obtain ⟨y, hy, rfl⟩ := hx
          obtain ⟨b, hb'⟩ := hget i y hy
          obtain ⟨_, cs', hc', hr⟩ := has i y b hy hb'
          obtain ⟨_, hcl', hcell'⟩ := World.cells?_some hc'
        · rw [hF, hr.1, hcl']
        all_goals
          rw [hF] at hj
          have hjl : j < P.cellsOf e := by
            have := (List.getElem?_eq_some_iff.1 hj).1
            rw [hr.1, hcl'] at this; exact this
          have hcj : cs'[j]? = some (cs'[j]'(by omega)) := List.getElem?_eq_getElem (by omega)
          have hw := hcell' j hjl
          rw [hcj] at hw
          have hadd : ((⟨ab, ao, none⟩ : Addr).add ((0 + i) * P.cellsOf e)).add j = ⟨ab, ao + i * P.cellsOf e + j, none⟩ := by
            rw [Nat.zero_add]
            unfold Addr.add
            split <;> split <;> simp_all
          rw [hadd] at hw
          obtain ⟨h1, h2⟩ := hr.2 j c _ hj hcj
        · simp only [HV.full, hw, Option.getD_some, true_and]
          exact h2.oneCell h1
        · simp only [hw, Option.getD_some]
          exact h2

/-- A struct's fields lie one behind the other. -/
def fieldsB (P : Program) : Nat → List Field → Nat → Bool
  | o, [], o' => o == o'
  | o, f :: fs, o' => f.offset == o && fieldsB P (o + P.cellsOf f.type) fs o'

def FReads (enc : TypeId × Value → H) (P : Program) (w : World) (base : Nat) (spare : Nat → Bool) (held : Bool) (n : Nat) (fs : List Field) {α : Type} (E : α → List AV) (I : α → List (DataW H) → Prop) : Prop :=
  ∀ (fuel o o' : Nat) (cs : List Value) (xs : List (DataW H × List MemPlace)), fuel ≤ n → xs.length = fs.length → fieldsB P o fs o' = true → cs.length = o' →
    (∀ (i : Nat) (f : Field), fs[i]? = some f → DataW.trod enc P w base spare held fuel f.type ((cs.drop f.offset).take (P.cellsOf f.type)) = xs[i]?) → ∃ a, I a (xs.map (·.1)) ∧ RelL (HV.full w) (E a) (cs.drop o)

theorem freads_nil (n : Nat) : FReads enc P w base spare held n [] (fun _ : Unit => []) (fun _ ds => ds = []) := fun fuel o o' cs xs _ hl hf hc _ => by
  simp only [fieldsB, beq_iff_eq] at hf
  have : xs = [] := List.length_eq_zero_iff.1 hl
  subst this
  refine ⟨(), rfl, ?_⟩
  rw [List.drop_of_length_le (by omega)]
  exact .nil

theorem freads_cons {n : Nat} {f : Field} {fs : List Field} {α β : Type} {E1 : α → List AV} {I1 : α → DataW H → Prop} {E2 : β → List AV} {I2 : β → List (DataW H) → Prop}
    (h1 : Reads enc P w base spare held n f.type E1 I1) (h2 : FReads enc P w base spare held n fs E2 I2) :
    FReads enc P w base spare held n (f :: fs) (fun x : α × β => E1 x.1 ++ E2 x.2) (fun x ds => ∃ d ds', ds = d :: ds' ∧ I1 x.1 d ∧ I2 x.2 ds') := fun fuel o o' cs xs hfu hl hf hc hx => by
  simp only [fieldsB, Bool.and_eq_true, beq_iff_eq] at hf
  obtain ⟨ho, hf⟩ := hf
  cases xs with
  | nil => simp at hl
  | cons x xs =>
    have h0 := hx 0 f rfl
    simp only [List.getElem?_cons_zero] at h0
    obtain ⟨a, ha, hra⟩ := h1 fuel _ x.1 x.2 hfu h0
    obtain ⟨b, hb, hrb⟩ := h2 fuel (o + P.cellsOf f.type) o' cs xs hfu (by simpa using hl) hf hc (fun i g hg => hx (i + 1) g hg)
    refine ⟨(a, b), ⟨x.1, xs.map (·.1), rfl, ha, hb⟩, ?_⟩
    have := hra.append hrb
    rw [ho, ← List.drop_drop, List.take_append_drop] at this
    exact this

theorem reads_struct {n : Nat} {t : TypeId} {fs : Array Field} {α : Type} {E : α → List AV} {I : α → List (DataW H) → Prop} (ht : P.underlying t = some (.struct fs)) (hf : fieldsB P 0 fs.toList (P.cellsOf t) = true)
    (h : FReads enc P w base spare held n fs.toList E I) : Reads enc P w base spare held (n + 1) t E (fun a d => ∃ ds, d = .agg ds ∧ I a ds) := fun fuel cs d ps hfu hh => by
  obtain ⟨xs, m, rfl, hx, hc, hl, hel⟩ := DataW.trod_struct ht hh
  cases hx
  obtain ⟨a, ha, hr⟩ := h m 0 _ cs xs (by omega) (by simpa using hl) hf hc (fun i f hfi => hel i f (by rw [← Array.getElem?_toList]; exact hfi))
  exact ⟨a, ⟨_, rfl, ha⟩, by simpa using hr⟩

theorem Reads.to {n : Nat} {t : TypeId} {α β : Type} {E : α → List AV} {I : α → DataW H → Prop} (h : Reads enc P w base spare held n t E I) (g : α → β) {E' : β → List AV} {I' : β → DataW H → Prop} (hE : ∀ a, E' (g a) = E a) (hI : ∀ a d, I a d → I' (g a) d) :
    Reads enc P w base spare held n t E' I' := fun fuel cs d ps hfu hh => by
  obtain ⟨a, ha, hr⟩ := h fuel cs d ps hfu hh
  exact ⟨g a, hI a d ha, by rw [hE]; exact hr⟩

theorem Reads.le {n m : Nat} {t : TypeId} {α : Type} {E : α → List AV} {I : α → DataW H → Prop} (h : Reads enc P w base spare held n t E I) (hm : m ≤ n) : Reads enc P w base spare held m t E I :=
  fun fuel cs d ps hfu hh => h fuel cs d ps (Nat.le_trans hfu hm) hh

/-- An argument whose type is of one cell, or a struct. -/
theorem Reads.arg {t : TypeId} {α : Type} {E : α → List AV} {I : α → DataW H → Prop} (h : ∀ n, Reads enc P w base spare held n t E I) {v : Value} {d : DataW H} {ps : List MemPlace} (hd : DataW.Trod enc P w base spare held t v d ps) :
    ∃ a, I a d ∧ RelL (HV.full w) (E a) v.cells.toList := by
  obtain ⟨fuel, hf⟩ := hd
  exact h fuel fuel _ _ _ (Nat.le_refl _) hf

theorem RelL.val1 {K : HV} {a : AV} {v : Value} (h : RelL K [a] v.cells.toList) (hv : ∀ cs, v ≠ .agg cs) : RelI K a v := by
  have hc : v.cells = #[v] := by cases v <;> first | rfl | exact absurd rfl (hv _)
  rw [hc] at h
  exact (h.2 0 a v rfl rfl).2
end
end HX
