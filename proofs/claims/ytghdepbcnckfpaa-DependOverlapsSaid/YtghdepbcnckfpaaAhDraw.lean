/- A region that draws its order: the lexical walk serves every order. -/
import Derived.Test.YtghdepbcnckfpaaAhLoc
import Derived.Orders
namespace AH
open Go Go.RowKit

def isAl (o : Oper) : Bool := match o.op with | .alloc _ => true | .box _ _ => true | _ => false

/-- What a new variable holds. -/
def newOf (P : Program) (st : St) (op : Op) : Option AV :=
  match op with
  | .alloc t => zeroI P t
  | .box _ x => some (st.ev x).dem0
  | _ => none

/-- A variable at a place that is kept for it. -/
def aallocR (P : Program) (op : Op) (r : Nat) (st : St) (K : AV → St → Prop) : Prop :=
  match newOf P st op with
  | some z => (z.okc = true ∧ st.hp[r]? = some (0, [])) ∧ K (.ptr r z.cells.length 0 0) { st with hp := st.hp.set r (z.cells.length, [z]) }
  | none => False

def aopsD (P : Program) (all : List Oper) (Q : Exit → St → Prop) : Nat → List Oper → St → Prop
  | _, [], st => Q .normal st
  | r, o :: l, st => dstOk o.dst st.n = true ∧
    if isAl o = true then o.guard = none ∧ aallocR P o.op r st (kput (aopsD P all Q (r + 1) l) o.dst)
    else match o.guard with
      | none => astepD P o (futB o.dst l) st (aopsD P all Q r l)
      | some (j, want) => match gslot all j with
        | some g => match st.get g with
          | .bool t => if t = want then astepD P o (futB o.dst l) (st.put g (.bool want)) (aopsD P all Q r l) else aopsD P all Q r l ((st.put g (.bool (!want))).putO o.dst .undef)
          | _ => False
        | none => False

structure StEq (a b : St) : Prop where
  n : a.n = b.n
  fl : a.fl = b.fl
  hp : a.hp = b.hp
  get : ∀ k, a.get k = b.get k

theorem StEq.refl (a : St) : StEq a a := ⟨rfl, rfl, rfl, fun _ => rfl⟩
theorem StEq.trans {a b c : St} (h : StEq a b) (k : StEq b c) : StEq a c := ⟨h.n.trans k.n, h.fl.trans k.fl, h.hp.trans k.hp, fun i => (h.get i).trans (k.get i)⟩
theorem StEq.symm {a b : St} (h : StEq a b) : StEq b a := ⟨h.n.symm, h.fl.symm, h.hp.symm, fun i => (h.get i).symm⟩
theorem StEq.rel {G : Gh} {B : Nat} {H0 : HV} {rest : List (AV × Value)} {a b : St} {tmps : Array Value} {w : World} (h : StEq a b) (hr : RelG G B H0 rest b tmps w) : RelG G B H0 rest a tmps w :=
  ⟨by rw [h.n]; exact hr.size, by rw [h.hp]; exact hr.wf, fun k => by rw [h.get]; exact hr.slot k, by rw [h.fl]; exact hr.rest, by rw [h.hp]; exact hr.heap⟩

theorem lk_append (l r : List (Nat × AV)) (k : Nat) : lk (l ++ r) k = if l.any (·.1 == k) then lk l k else lk r k := by
  induction l with
  | nil => simp
  | cons p l ih =>
    obtain ⟨j, v⟩ := p
    simp only [List.cons_append, lk, List.any_cons, ih]
    by_cases h : j = k
    · simp [h]
    · have h' : (j == k) = false := by simpa using h
      simp only [h', Bool.false_or, if_neg h]

theorem StEq.app {a b : St} (h : StEq a b) (e : Eff) : StEq (a.app e) (b.app e) := by
  refine ⟨h.n, h.fl, ?_, fun k => ?_⟩
  · simp only [St.app]; rw [h.hp]
  · show lk (e.puts ++ a.sl) k = lk (e.puts ++ b.sl) k
    rw [lk_append, lk_append]
    have := h.get k
    simp only [St.get] at this
    rw [this]

theorem StEq.ev {a b : St} (h : StEq a b) (x : Operand) : a.ev x = b.ev x := by
  cases x with
  | tmp t => exact h.get t
  | _ => rfl

theorem StEq.newOf {P : Program} {a b : St} (h : StEq a b) (op : Op) : newOf P a op = newOf P b op := by
  cases op <;> simp only [AH.newOf, h.ev]

theorem StEq.agr {a b : St} (h : StEq a b) (ad : Option Operand) (xs : List Operand) : Agr ad xs a b := ⟨h.n, fun x _ => h.ev x, fun _ _ _ _ _ _ _ => by rw [h.hp]⟩

/-- The guard lets the operation run, or not. -/
def Gd (all : List Oper) (o : Oper) (st : St) (b : Bool) : Prop :=
  match o.guard with
  | none => b = true
  | some (j, want) => ∃ g, gslot all j = some g ∧ st.get g = .bool (if b then want else !want)

/-- What one operation of the region leaves. -/
inductive Fact (P : Program) (all : List Oper) (r : Nat) (o : Oper) (fut : Bool) (st : St) (e : Eff) : Prop
  | al (z : AV) (ho : isAl o = true) (hg : o.guard = none) (hz : newOf P st o.op = some z) (h1 : z.okc = true) (hr : st.hp[r]? = some (0, [])) (he : e = ⟨o.dst.toList.map (·, .ptr r z.cells.length 0 0), some (r, (z.cells.length, [z]))⟩)
  | run (hno : isAl o = false) (hg : Gd all o st true) (h1 : ∀ p ∈ e.puts, p.1 ∈ wr fut o)
      (h2 : ∀ id b, e.box = some (id, b) → hk fut o = .wr ∧ ∃ x, adr o.op = some x ∧ ∃ sz i off, st.ev x = .ptr id sz i off ∧ ∃ c, st.hp[id]? = some c ∧ c.2 ≠ [] ∧ b.2 ≠ [])
      (h4 : ∀ x, adr o.op = some x → ∀ id sz i off, st.ev x = .ptr id sz i off → ∃ c, st.hp[id]? = some c ∧ c.2 ≠ [])
      (h3 : ∀ st2, Agr (adr o.op) o.op.operands.toList st st2 → astepD P o fut st2 fun s => s = st2.app e)
  | skip (hno : isAl o = false) (hg : Gd all o st false) (he : e = ⟨o.dst.toList.map (·, .undef), none⟩)

theorem Gd.steq {all : List Oper} {o : Oper} {a b : St} (h : StEq a b) {x : Bool} (hg : Gd all o b x) : Gd all o a x := by
  unfold Gd at hg ⊢
  split
  · rename_i hn; rw [hn] at hg; exact hg
  · rename_i j want hn
    rw [hn] at hg
    obtain ⟨g, h1, h2⟩ := hg
    exact ⟨g, h1, by rw [h.get]; exact h2⟩

theorem Agr.of_steq {ad : Option Operand} {xs : List Operand} {a b c : St} (h : StEq b a) (k : Agr ad xs b c) : Agr ad xs a c :=
  ⟨h.n.symm.trans k.n, fun x hx => (h.ev x).symm.trans (k.ev x hx), fun x hx id sz i off e => by rw [← h.hp]; exact k.hp x hx id sz i off (by rw [h.ev x]; exact e)⟩

theorem Fact.steq {P : Program} {all : List Oper} {r : Nat} {o : Oper} {fut : Bool} {a b : St} {e : Eff} (h : StEq a b) (f : Fact P all r o fut b e) : Fact P all r o fut a e := by
  cases f with
  | al z ho hg hz h1 hr he => exact .al z ho hg (by rw [h.newOf]; exact hz) h1 (by rw [h.hp]; exact hr) he
  | run hno hg h1 h2 h4 h3 =>
    refine .run hno (hg.steq h) h1 (fun id b hb => ?_) (fun x hx id sz i off e => by rw [h.hp]; exact h4 x hx id sz i off (by rw [← h.ev]; exact e)) fun st2 ha => h3 st2 (ha.of_steq h)
    obtain ⟨e1, x, hx, sz, i, off, e2, e3⟩ := h2 id b hb
    exact ⟨e1, x, hx, sz, i, off, by rw [h.ev]; exact e2, by rw [h.hp]; exact e3⟩
  | skip hno hg he => exact .skip hno (hg.steq h) he

/-- The facts along the lexical walk. -/
def Trace (P : Program) (all : List Oper) : Nat → List Oper → St → List Eff → Prop
  | _, [], _, [] => True
  | r, o :: l, st, e :: es => dstOk o.dst st.n = true ∧ Fact P all r o (futB o.dst l) st e ∧ Trace P all (if isAl o then r + 1 else r) l (st.app e) es
  | _, _, _, _ => False

def apps (st : St) (es : List Eff) : St := es.foldl St.app st

theorem Trace.steq {P : Program} {all : List Oper} : ∀ {l : List Oper} {r : Nat} {a b : St} {es : List Eff}, StEq a b → Trace P all r l b es → Trace P all r l a es
  | [], _, _, _, [], _, _ => trivial
  | o :: l, r, a, b, e :: es, h, ⟨h1, h2, h3⟩ => ⟨by rw [h.n]; exact h1, h2.steq h, h3.steq (h.app e)⟩

theorem apps_steq {a b : St} (h : StEq a b) : ∀ (es : List Eff), StEq (apps a es) (apps b es) := by
  intro es
  induction es generalizing a b with
  | nil => exact h
  | cons e es ih => exact ih (h.app e)

theorem trace_of {P : Program} {all : List Oper} {Q : Exit → St → Prop} : ∀ (l : List Oper) (r : Nat) (st : St), (∀ l1 o l2, l = l1 ++ o :: l2 → ∀ t x, o.op = .load t x → futB o.dst l2 = false) →
    aopsD P all Q r l st → ∃ es fin, Trace P all r l st es ∧ StEq (apps st es) fin ∧ Q .normal fin
  | [], r, st, _, h => ⟨[], st, trivial, StEq.refl _, h⟩
  | o :: l, r, st, hld, h => by
    obtain ⟨hd, h⟩ := h
    have hld' : ∀ l1 o' l2, l = l1 ++ o' :: l2 → ∀ t x, o'.op = .load t x → futB o'.dst l2 = false := fun l1 o' l2 e => hld (o :: l1) o' l2 (by rw [e]; rfl)
    -- one step done: the rest
    have go : ∀ (st1 : St) (e : Eff), StEq (st.app e) st1 → Fact P all r o (futB o.dst l) st e → aopsD P all Q (if isAl o then r + 1 else r) l st1 → ∃ es fin, Trace P all r (o :: l) st es ∧ StEq (apps st es) fin ∧ Q .normal fin := by
      intro st1 e heq hf hk
      obtain ⟨es, fin, h1, h2, h3⟩ := trace_of l _ st1 hld' hk
      exact ⟨e :: es, fin, ⟨hd, hf, h1.steq heq⟩, (apps_steq heq es).trans h2, h3⟩
    have run : ∀ (st0 : St), StEq st st0 → isAl o = false → Gd all o st true → astepD P o (futB o.dst l) st0 (aopsD P all Q r l) → ∃ es fin, Trace P all r (o :: l) st es ∧ StEq (apps st es) fin ∧ Q .normal fin := by
      intro st0 heq hno hgd hk
      obtain ⟨e, h1, h2, h3, h4, h5⟩ := astepD_loc (fun t x ho => hld [] o l rfl t x ho) hk
      refine go (st0.app e) e (heq.app e) (.run hno hgd h2 (fun id b hb => ?_) (fun x hx id sz i off e => by rw [heq.hp]; exact h4 x hx id sz i off (by rw [← heq.ev]; exact e)) fun st2 ha => h5 st2 (ha.of_steq heq)) (by rw [if_neg (by simp [hno])]; exact h1)
      obtain ⟨e1, x, hx, sz, i, off, e2, e3⟩ := h3 id b hb
      exact ⟨e1, x, hx, sz, i, off, by rw [heq.ev]; exact e2, by rw [heq.hp]; exact e3⟩
    split at h
    · rename_i hal
      obtain ⟨hg, h⟩ := h
      unfold aallocR at h
      split at h
      · rename_i z hz
        obtain ⟨⟨h1, hr⟩, h⟩ := h
        refine go _ ⟨o.dst.toList.map (·, .ptr r z.cells.length 0 0), some (r, (z.cells.length, [z]))⟩ ?_ (.al z hal hg hz h1 hr rfl) (by rw [if_pos hal]; exact h)
        cases o.dst <;> exact StEq.refl _
      · exact h.elim
    · rename_i hno
      have hal : isAl o = false := by simpa using hno
      split at h
      · rename_i hg
        exact run st (StEq.refl _) hal (by simp [Gd, hg]) h
      · rename_i j want hg
        split at h
        · rename_i g hgs
          split at h
          · rename_i t ht
            have heq : ∀ b, st.get g = .bool b → StEq st (st.put g (.bool b)) := fun b hb => ⟨rfl, rfl, rfl, fun k => by rw [St.get_put]; split <;> rename_i e <;> first | (rw [← e]; exact hb) | rfl⟩
            split at h
            · rename_i e
              subst e
              exact run (st.put g (.bool t)) (heq t ht) hal (by simp only [Gd, hg]; exact ⟨g, hgs, by simpa using ht⟩) h
            · rename_i e
              have ht' : t = !want := by revert e; cases t <;> cases want <;> simp
              subst ht'
              refine go _ ⟨o.dst.toList.map (·, .undef), none⟩ ?_ (.skip hal (by simp only [Gd, hg]; exact ⟨g, hgs, by simpa using ht⟩) rfl) (by rw [if_neg (by simp [hal])]; exact h)
              have h1 := (heq _ ht).app ⟨o.dst.toList.map (·, .undef), none⟩
              refine h1.trans ?_
              cases o.dst <;> exact StEq.refl _
          · exact h.elim
        · exact h.elim
end AH
