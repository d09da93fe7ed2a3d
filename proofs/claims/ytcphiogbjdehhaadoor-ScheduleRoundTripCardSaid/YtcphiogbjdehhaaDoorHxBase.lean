/- Abstract values, the abstract heap, and their relation to the world. -/
import Derived.WalkKit
namespace HX
open Go Go.RowKit

inductive AV where
  | undef
  | bool (b : Bool)
  | int (k : IntKind) (n : Int)
  | str (s : List UInt8)
  | nil
  | emp
  | sl (sz : Nat) (xs : List AV)
  | ip (sz : Nat) (xs : List AV) (i off : Nat)
  | ptr (id ver off : Nat)
  | bs (id ver sz off len : Nat)
  | nilp
  | fn (f : Nat) (caps : List AV)
  | nilfn
  | yld (id : Nat)
  | agg (cs : List AV)
  | tup (vs : List AV)
  deriving Inhabited

def AV.cells : AV → List AV
  | .agg cs => cs
  | v => [v]

/-- A kind of one cell. -/
def AV.one : AV → Bool
  | .undef | .agg _ | .tup _ => false
  | _ => true
def AV.okc : AV → Bool
  | .agg _ => true
  | x => x.one
def AV.isA : AV → Bool
  | .agg _ => true
  | _ => false

/-- What is known not to change any more: cell by cell. -/
abbrev HV := Nat → Nat → Option Value

def HV.sat (H : HV) (w : World) : Prop := ∀ b o v, H b o = some v → w.cell? ⟨b, o, none⟩ = some v
def HV.le (H H' : HV) : Prop := ∀ b o v, H b o = some v → H' b o = some v
theorem HV.le.refl (H : HV) : HV.le H H := fun _ _ _ h => h
theorem HV.le.trans {H H' H'' : HV} (h : HV.le H H') (h' : HV.le H' H'') : HV.le H H'' := fun _ _ _ x => h' _ _ _ (h _ _ _ x)

inductive RelI (H : HV) : AV → Value → Prop
  | undef (v : Value) : RelI H .undef v
  | bool (b : Bool) : RelI H (.bool b) (.bool b)
  | int (k : IntKind) (n : Int) : RelI H (.int k n) (.int k n)
  | str (s : List UInt8) : RelI H (.str s) (.string ⟨s.toArray⟩)
  | nil : RelI H .nil (.slice none 0 0)
  | emp (a : Option Addr) : RelI H .emp (.slice a 0 0)
  | sl0 (sz : Nat) (a : Option Addr) (cap : Nat) : cap ≤ maxLen → RelI H (.sl sz []) (.slice a 0 cap)
  | sl (sz : Nat) (xs : List AV) (b o cap : Nat) (val : Nat → Nat → Value) : 0 < sz → xs.length ≤ cap → cap ≤ maxLen →
      (∀ (i : Nat) (x : AV), xs[i]? = some x → x.cells.length = sz) →
      (∀ (i : Nat) (x : AV) (j : Nat) (c : AV), xs[i]? = some x → x.cells[j]? = some c → H b (o + i * sz + j) = some (val i j) ∧ (val i j).oneCell' = true) →
      (∀ (i : Nat) (x : AV) (j : Nat) (c : AV), xs[i]? = some x → x.cells[j]? = some c → RelI H c (val i j)) →
      RelI H (.sl sz xs) (.slice (some ⟨b, o, none⟩) xs.length cap)
  | ip (sz : Nat) (xs : List AV) (b o i off : Nat) (val : Nat → Nat → Value) : 0 < sz → i < xs.length →
      (∀ (i : Nat) (x : AV), xs[i]? = some x → x.cells.length = sz) →
      (∀ (i : Nat) (x : AV) (j : Nat) (c : AV), xs[i]? = some x → x.cells[j]? = some c → H b (o + i * sz + j) = some (val i j) ∧ (val i j).oneCell' = true) →
      (∀ (i : Nat) (x : AV) (j : Nat) (c : AV), xs[i]? = some x → x.cells[j]? = some c → RelI H c (val i j)) →
      RelI H (.ip sz xs i off) (.pointer (some ⟨b, o + i * sz + off, none⟩))
  | nilp : RelI H .nilp (.pointer none)
  | nilfn : RelI H .nilfn .nilFunc
  | fn (f : Nat) (cs : List AV) (vs : Array Value) (h : cs.length = vs.size) (hc : ∀ (j : Nat) (c : AV) (v : Value), cs[j]? = some c → vs[j]? = some v → RelI H c v) :
      RelI H (.fn f cs) (.func (.func f) #[] vs)
  | agg (cs : List AV) (vs : Array Value) (h : cs.length = vs.size) (h1 : ∀ v ∈ vs, v.oneCell' = true) (hc : ∀ (j : Nat) (c : AV) (v : Value), cs[j]? = some c → vs[j]? = some v → RelI H c v) : RelI H (.agg cs) (.agg vs)
  | tup (cs : List AV) (vs : Array Value) (h : cs.length = vs.size) (hc : ∀ (j : Nat) (c : AV) (v : Value), cs[j]? = some c → vs[j]? = some v → RelI H c v) : RelI H (.tup cs) (.tuple vs)

theorem RelI.mono {H H' : HV} (hle : HV.le H H') {av : AV} {v : Value} (h : RelI H av v) : RelI H' av v := by
  induction h with
  | undef v => exact .undef v
  | bool b => exact .bool b
  | int k n => exact .int k n
  | str s => exact .str s
  | nil => exact .nil
  | emp a => exact .emp a
  | sl0 sz a cap h => exact .sl0 sz a cap h
  | sl sz xs b o cap val h0 h1 h2 h3 h4 _ ih => exact .sl sz xs b o cap val h0 h1 h2 h3 (fun i x j c hx hc => ⟨hle _ _ _ (h4 i x j c hx hc).1, (h4 i x j c hx hc).2⟩) ih
  | ip sz xs b o i off val h0 hi h3 h4 _ ih => exact .ip sz xs b o i off val h0 hi h3 (fun i x j c hx hc => ⟨hle _ _ _ (h4 i x j c hx hc).1, (h4 i x j c hx hc).2⟩) ih
  | nilp => exact .nilp
  | nilfn => exact .nilfn
  | fn f cs vs h _ ih => exact .fn f cs vs h ih
  | agg cs vs h h1 _ ih => exact .agg cs vs h h1 ih
  | tup cs vs h _ ih => exact .tup cs vs h ih

/-- Where a box lies. -/
structure Lc where
  g : Nat
  base : Nat
  size : Nat
  deriving Inhabited

/-- What is known of the boxes: which names, with which versions, have been given; where the live ones lie; the blocks of the loops. -/
structure Env where
  al : Nat → Nat → Prop
  loc : Nat → Nat → Option Lc
  lp : Nat → Option Nat

structure Env.le (E E' : Env) : Prop where
  al : ∀ id ver, E.al id ver → E'.al id ver
  loc : ∀ id ver l, E.al id ver → E'.loc id ver = some l → E.loc id ver = some l
  lp : ∀ id l, E.lp id = some l → E'.lp id = some l

theorem Env.le.refl (E : Env) : Env.le E E := ⟨fun _ _ h => h, fun _ _ _ _ h => h, fun _ _ h => h⟩
theorem Env.le.trans {E E' E'' : Env} (h : Env.le E E') (h' : Env.le E' E'') : Env.le E E'' :=
  ⟨fun _ _ x => h'.al _ _ (h.al _ _ x), fun _ _ _ a x => h.loc _ _ _ a (h'.loc _ _ _ (h.al _ _ a) x), fun _ _ x => h'.lp _ _ (h.lp _ _ x)⟩

inductive RV (H : HV) (E : Env) : AV → Value → Prop
  | imm (av : AV) (v : Value) : RelI H av v → RV H E av v
  | ptr (id ver off : Nat) (a : Addr) : E.al id ver → (∀ l, E.loc id ver = some l → a = ⟨l.g, l.base + off, none⟩) → RV H E (.ptr id ver off) (.pointer (some a))
  | bs (id ver sz off len : Nat) (a : Addr) (cap : Nat) : E.al id ver → len ≤ cap → cap ≤ maxLen →
      (∀ l, E.loc id ver = some l → a = ⟨l.g, l.base + off, none⟩ ∧ l.base + off + cap * sz ≤ l.size) → RV H E (.bs id ver sz off len) (.slice (some a) len cap)
  | yld (id l : Nat) : E.lp id = some l → RV H E (.yld id) (.func (.yield l) #[] #[])
  | fn (f : Nat) (cs : List AV) (vs : Array Value) (h : cs.length = vs.size) (hc : ∀ (j : Nat) (c : AV) (v : Value), cs[j]? = some c → vs[j]? = some v → RV H E c v) :
      RV H E (.fn f cs) (.func (.func f) #[] vs)
  | agg (cs : List AV) (vs : Array Value) (h : cs.length = vs.size) (h1 : ∀ v ∈ vs, v.oneCell' = true) (hc : ∀ (j : Nat) (c : AV) (v : Value), cs[j]? = some c → vs[j]? = some v → RV H E c v) : RV H E (.agg cs) (.agg vs)
  | tup (cs : List AV) (vs : Array Value) (h : cs.length = vs.size) (hc : ∀ (j : Nat) (c : AV) (v : Value), cs[j]? = some c → vs[j]? = some v → RV H E c v) : RV H E (.tup cs) (.tuple vs)

theorem RV.mono {H H' : HV} {E E' : Env} (hle : HV.le H H') (he : Env.le E E') {av : AV} {v : Value} (h : RV H E av v) : RV H' E' av v := by
  induction h with
  | imm av v h => exact .imm _ _ (h.mono hle)
  | ptr id ver off a h1 h2 => exact .ptr id ver off a (he.al _ _ h1) fun l hl => h2 l (he.loc _ _ _ h1 hl)
  | bs id ver sz off len a cap h1 h2 h3 h4 => exact .bs id ver sz off len a cap (he.al _ _ h1) h2 h3 fun l hl => h4 l (he.loc _ _ _ h1 hl)
  | yld id l h => exact .yld id l (he.lp _ _ h)
  | fn f cs vs h _ ih => exact .fn f cs vs h ih
  | agg cs vs h h1 _ ih => exact .agg cs vs h h1 ih
  | tup cs vs h _ ih => exact .tup cs vs h ih

theorem RelI.oneCell {H : HV} {av : AV} {v : Value} (h : RelI H av v) (h1 : av.one = true) : v.oneCell' = true := by
  cases h <;> first | rfl | cases h1
theorem RV.oneCell {H : HV} {E : Env} {av : AV} {v : Value} (h : RV H E av v) (h1 : av.one = true) : v.oneCell' = true := by
  cases h with
  | imm _ _ h => exact h.oneCell h1
  | agg => cases h1
  | tup => cases h1
  | _ => rfl

/- values of one kind -/
theorem RV.bool_inv {H : HV} {E : Env} {b : Bool} {v : Value} (h : RV H E (.bool b) v) : v = .bool b := by
  cases h with | imm _ _ h => cases h; rfl
theorem RV.int_inv {H : HV} {E : Env} {k : IntKind} {n : Int} {v : Value} (h : RV H E (.int k n) v) : v = .int k n := by
  cases h with | imm _ _ h => cases h; rfl
theorem RV.str_inv {H : HV} {E : Env} {s : List UInt8} {v : Value} (h : RV H E (.str s) v) : v = .string ⟨s.toArray⟩ := by
  cases h with | imm _ _ h => cases h; rfl
theorem RV.nil_inv {H : HV} {E : Env} {v : Value} (h : RV H E .nil v) : v = .slice none 0 0 := by
  cases h with | imm _ _ h => cases h; rfl
theorem RV.emp_inv {H : HV} {E : Env} {v : Value} (h : RV H E .emp v) : ∃ a, v = .slice a 0 0 := by
  cases h with | imm _ _ h => cases h; exact ⟨_, rfl⟩
theorem RV.nilp_inv {H : HV} {E : Env} {v : Value} (h : RV H E .nilp v) : v = .pointer none := by
  cases h with | imm _ _ h => cases h; rfl
theorem RV.nilfn_inv {H : HV} {E : Env} {v : Value} (h : RV H E .nilfn v) : v = .nilFunc := by
  cases h with | imm _ _ h => cases h; rfl
theorem RV.sl_inv {H : HV} {E : Env} {sz : Nat} {xs : List AV} {v : Value} (h : RV H E (.sl sz xs) v) : RelI H (.sl sz xs) v := by
  cases h with | imm _ _ h => exact h
theorem RV.ip_inv {H : HV} {E : Env} {sz : Nat} {xs : List AV} {i off : Nat} {v : Value} (h : RV H E (.ip sz xs i off) v) : RelI H (.ip sz xs i off) v := by
  cases h with | imm _ _ h => exact h
theorem RV.ptr_inv {H : HV} {E : Env} {id ver off : Nat} {v : Value} (h : RV H E (.ptr id ver off) v) : ∃ a, v = .pointer (some a) ∧ E.al id ver ∧ ∀ l, E.loc id ver = some l → a = ⟨l.g, l.base + off, none⟩ := by
  cases h with
  | imm _ _ h => cases h
  | ptr _ _ _ a h1 h2 => exact ⟨a, rfl, h1, h2⟩
theorem RV.bs_inv {H : HV} {E : Env} {id ver sz off len : Nat} {v : Value} (h : RV H E (.bs id ver sz off len) v) :
    ∃ a cap, v = .slice (some a) len cap ∧ E.al id ver ∧ len ≤ cap ∧ cap ≤ maxLen ∧ ∀ l, E.loc id ver = some l → a = ⟨l.g, l.base + off, none⟩ ∧ l.base + off + cap * sz ≤ l.size := by
  cases h with
  | imm _ _ h => cases h
  | bs _ _ _ _ _ a cap h1 h2 h3 h4 => exact ⟨a, cap, rfl, h1, h2, h3, h4⟩
theorem RV.yld_inv {H : HV} {E : Env} {id : Nat} {v : Value} (h : RV H E (.yld id) v) : ∃ l, v = .func (.yield l) #[] #[] ∧ E.lp id = some l := by
  cases h with
  | imm _ _ h => cases h
  | yld _ l h => exact ⟨l, rfl, h⟩
theorem RV.fn_inv {H : HV} {E : Env} {f : Nat} {cs : List AV} {v : Value} (h : RV H E (.fn f cs) v) :
    ∃ vs : Array Value, v = .func (.func f) #[] vs ∧ cs.length = vs.size ∧ ∀ (j : Nat) (c : AV) (v : Value), cs[j]? = some c → vs[j]? = some v → RV H E c v := by
  cases h with
  | imm _ _ h => cases h with | fn _ _ vs hl hc => exact ⟨vs, rfl, hl, fun j c v h1 h2 => .imm _ _ (hc j c v h1 h2)⟩
  | fn _ _ vs hl hc => exact ⟨vs, rfl, hl, hc⟩
theorem RV.agg_inv {H : HV} {E : Env} {cs : List AV} {v : Value} (h : RV H E (.agg cs) v) :
    ∃ vs : Array Value, v = .agg vs ∧ cs.length = vs.size ∧ (∀ v ∈ vs, v.oneCell' = true) ∧ ∀ (j : Nat) (c : AV) (v : Value), cs[j]? = some c → vs[j]? = some v → RV H E c v := by
  cases h with
  | imm _ _ h => cases h with | agg _ vs hl h1 hc => exact ⟨vs, rfl, hl, h1, fun j c v h1 h2 => .imm _ _ (hc j c v h1 h2)⟩
  | agg _ vs hl h1 hc => exact ⟨vs, rfl, hl, h1, hc⟩
theorem RV.tup_inv {H : HV} {E : Env} {cs : List AV} {v : Value} (h : RV H E (.tup cs) v) :
    ∃ vs : Array Value, v = .tuple vs ∧ cs.length = vs.size ∧ ∀ (j : Nat) (c : AV) (v : Value), cs[j]? = some c → vs[j]? = some v → RV H E c v := by
  cases h with
  | imm _ _ h => cases h with | tup _ vs hl hc => exact ⟨vs, rfl, hl, fun j c v h1 h2 => .imm _ _ (hc j c v h1 h2)⟩
  | tup _ vs hl hc => exact ⟨vs, rfl, hl, hc⟩
theorem RelI.len_inv {H : HV} {sz : Nat} {xs : List AV} {v : Value} (h : RelI H (.sl sz xs) v) : ∃ a cap, v = .slice a xs.length cap ∧ xs.length ≤ cap ∧ cap ≤ maxLen := by
  cases h with
  | sl0 _ a cap hc => exact ⟨a, cap, rfl, Nat.zero_le _, hc⟩
  | sl _ _ b o cap _ _ h1 h2 => exact ⟨_, cap, rfl, h1, h2⟩

/-- The cells of a plain value, and those of its abstract one. -/
theorem RV.cells {H : HV} {E : Env} {av : AV} {v : Value} (h : RV H E av v) (h1 : av.okc = true) :
    av.cells.length = v.cells.size ∧ ∀ (j : Nat) (c : AV), av.cells[j]? = some c → ∃ u, v.cells[j]? = some u ∧ u.oneCell' = true ∧ RV H E c u := by
  cases av with
  | agg cs =>
    obtain ⟨vs, rfl, hl, h1, hc⟩ := h.agg_inv
    refine ⟨hl, fun j c hj => ?_⟩
    have hjl : j < vs.size := by rw [← hl]; exact (List.getElem?_eq_some_iff.1 hj).1
    exact ⟨vs[j], by simp [Value.cells, hjl], h1 _ (Array.getElem_mem hjl), hc j c _ hj (by simp [hjl])⟩
  | _ =>
    have ho := h.oneCell h1
    have hcs : v.cells = #[v] := by cases v <;> first | rfl | cases ho
    refine ⟨by rw [hcs]; rfl, fun j c hj => ?_⟩
    cases j with
    | zero => simp only [AV.cells, List.getElem?_cons_zero, Option.some.injEq] at hj; subst hj; exact ⟨v, by rw [hcs]; rfl, ho, h⟩
    | succ j => simp [AV.cells] at hj

/- constants -/
def ofV0 : Value → AV
  | .bool b => .bool b
  | .int k n => .int k n
  | .string s => .str s.data.toList
  | .slice none 0 0 => .nil
  | .pointer none => .nilp
  | .nilFunc => .nilfn
  | _ => .undef
def ofV : Value → AV
  | .agg cs => if cs.toList.all (·.oneCell') then .agg (cs.toList.map ofV0) else .undef
  | .tuple vs => .tup (vs.toList.map ofV0)
  | v => ofV0 v

theorem ofV0_rel (H : HV) (v : Value) : RelI H (ofV0 v) v := by
  unfold ofV0
  split
  · exact .bool _
  · exact .int _ _
  · rename_i s; have := RelI.str (H := H) s.data.toList; simpa using this
  · exact .nil
  · exact .nilp
  · exact .nilfn
  · exact .undef _

theorem ofV_rel (H : HV) (v : Value) : RelI H (ofV v) v := by
  unfold ofV
  split
  · rename_i cs
    split
    · rename_i h1
      refine .agg _ cs (by simp) (fun v hv => List.all_eq_true.1 h1 v (Array.mem_toList_iff.2 hv)) fun j c u hj hu => ?_
      simp only [List.getElem?_map, Array.getElem?_toList, hu, Option.map_some, Option.some.injEq] at hj
      subst hj; exact ofV0_rel H u
    · exact .undef _
  · rename_i vs
    refine .tup _ vs (by simp) fun j c u hj hu => ?_
    simp only [List.getElem?_map, Array.getElem?_toList, hu, Option.map_some, Option.some.injEq] at hj
    subst hj; exact ofV0_rel H u
  · exact ofV0_rel H v

/-- Binary tries, keyed by numbers. -/
inductive Tr (α : Type) where
  | nil
  | node (l : Tr α) (v : Option α) (r : Tr α)

def Tr.get {α : Type} : Tr α → List Bool → Option α
  | .nil, [] => none
  | .nil, _ :: _ => none
  | .node _ v _, [] => v
  | .node l _ r, b :: p => bif b then r.get p else l.get p
def Tr.set {α : Type} : Tr α → List Bool → α → Tr α
  | .nil, [], x => .node .nil (some x) .nil
  | .node l _ r, [], x => .node l (some x) r
  | .nil, b :: p, x => bif b then .node .nil none (Tr.set .nil p x) else .node (Tr.set .nil p x) none .nil
  | .node l v r, b :: p, x => bif b then .node l v (r.set p x) else .node (l.set p x) v r

theorem Tr.get_set {α : Type} (x : α) : ∀ (p q : List Bool) (t : Tr α), (t.set p x).get q = if p = q then some x else t.get q
  | [], [], t => by cases t <;> simp [Tr.set, Tr.get]
  | [], b :: q, t => by cases t <;> cases b <;> simp [Tr.set, Tr.get] <;> (cases q <;> rfl)
  | b :: p, [], t => by cases t <;> cases b <;> simp [Tr.set, Tr.get]
  | b :: p, c :: q, t => by
    cases t with
    | nil =>
      cases b <;> cases c <;> simp only [Tr.set, Tr.get, cond_true, cond_false, Tr.get_set x p q, List.cons.injEq, true_and, reduceCtorEq, false_and, if_false]
      all_goals first | rfl | (cases q <;> simp [Tr.get])
    | node l v r =>
      cases b <;> cases c <;> simp only [Tr.set, Tr.get, cond_true, cond_false, Tr.get_set x p q, List.cons.injEq, true_and, reduceCtorEq, false_and, if_false]

def bits : Nat → Nat → List Bool
  | 0, _ => []
  | f + 1, n => bif Nat.beq n 0 then [] else Nat.beq (n % 2) 1 :: bits f (n / 2)
def ofBits : List Bool → Nat
  | [] => 0
  | b :: p => (bif b then 1 else 0) + 2 * ofBits p
theorem ofBits_bits : ∀ (f n : Nat), n ≤ f → ofBits (bits f n) = n
  | 0, n, h => by have : n = 0 := by omega
                  subst this; rfl
  | f + 1, n, h => by
    unfold bits
    cases hb : Nat.beq n 0 with
    | true => have := Nat.eq_of_beq_eq_true hb; subst this; rfl
    | false =>
      have hn : n ≠ 0 := fun e => by subst e; cases hb
      simp only [cond_false, ofBits]
      rw [ofBits_bits f (n / 2) (by omega)]
      cases hc : Nat.beq (n % 2) 1 with
      | true => have := Nat.eq_of_beq_eq_true hc; simp; omega
      | false =>
        have : n % 2 ≠ 1 := fun e => by rw [e] at hc; cases hc
        simp; omega
def path (n : Nat) : List Bool := bits n n
theorem path_inj {k j : Nat} : path k = path j ↔ k = j :=
  ⟨fun h => by have := congrArg ofBits h; rwa [path, path, ofBits_bits _ _ (Nat.le_refl _), ofBits_bits _ _ (Nat.le_refl _)] at this, fun h => by rw [h]⟩

def lk {α : Type} (d : α) (t : Tr α) (k : Nat) : α := match t.get (path k) with | some v => v | none => d
def pt {α : Type} (t : Tr α) (k : Nat) (v : α) : Tr α := t.set (path k) v

/- the abstract heap -/
inductive Box where
  | cells (ver : Nat) (cs : List AV)
  | loop (s : LoopState) (pend : Option Code) (n : Nat) (sl : Tr AV) (ps : Array Tmp) (as bd : Code) (d : Nat)
  | defb (o : Bool)
  | dead

def updF {α : Type} (f : Nat → α) (k : Nat) (v : α) : Nat → α := fun j => if j = k then v else f j
theorem updF_same {α : Type} (f : Nat → α) (k : Nat) (v : α) : updF f k v k = v := by simp [updF]
theorem updF_ne {α : Type} (f : Nat → α) {k j : Nat} (v : α) (h : j ≠ k) : updF f k v j = f j := by simp [updF, h]

def envOf (hp : Nat → Option Box) (m : Nat → Lc) : Env where
  al id ver := ∃ b, hp id = some b ∧ match b with | .cells v _ => ver ≤ v | _ => True
  loc id ver := match hp id with | some (.cells v _) => if v = ver then some (m id) else none | _ => none
  lp id := match hp id with | some (.loop ..) => some (m id).g | some (.defb _) => some (m id).g | some .dead => some (m id).g | _ => none

def BoxOk (H : HV) (E : Env) (b : Box) (l : Lc) (w : World) : Prop :=
  match b with
  | .cells _ cs => ∃ C e, w.heap[l.g]? = some (.cells C e (0, 0)) ∧ C.size = l.size ∧ l.base + cs.length ≤ C.size ∧ ∀ j c, cs[j]? = some c → ∃ v, C[l.base + j]? = some v ∧ v.oneCell' = true ∧ RV H E c v
  | .loop s pend n sl ps as bd d => ∃ fn tmps dg, w.heap[l.g]? = some (.loop { state := s, pending := pend, fn := fn, tmps := tmps, params := ps, assign := as, body := bd, defers := dg }) ∧ tmps.size = n ∧
      (∀ k, RV H E (lk .undef sl k) (tmps.getD k Go.undef)) ∧ E.lp d = some dg
  | .defb o => w.heap[l.g]? = some (.deferred (if o then some [] else none))
  | .dead => True

/-- What a version tells of its row: from 4096 on it counts; below that it is 0 or one more than the type of the row's elements. -/
def TyOk (w : World) (l : Lc) (ver : Nat) : Prop := ver % 4096 = 0 ∨ (l.base = 0 ∧ ∃ C fr, w.heap[l.g]? = some (.cells C (ver % 4096 - 1) fr))
theorem TyOk.mono {w w' : World} {l : Lc} {ver : Nat} (h : TyOk w l ver) (hw : w'.heap[l.g]? = w.heap[l.g]?) : TyOk w' l ver := by
  rcases h with h | ⟨h1, C, fr, h2⟩
  · exact .inl h
  · exact .inr ⟨h1, C, fr, by rw [hw]; exact h2⟩

theorem BoxOk.mono {H H' : HV} {E E' : Env} {b : Box} {l : Lc} {w w' : World} (h : BoxOk H E b l w) (hle : HV.le H H') (he : Env.le E E') (hw : w'.heap[l.g]? = w.heap[l.g]?) : BoxOk H' E' b l w' := by
  cases b with
  | cells ver cs =>
    obtain ⟨C, e, h1, h2, h3, h4⟩ := h
    exact ⟨C, e, by rw [hw]; exact h1, h2, h3, fun j c hj => let ⟨v, a, b, c⟩ := h4 j c hj; ⟨v, a, b, c.mono hle he⟩⟩
  | loop s pend n sl ps as bd d =>
    obtain ⟨fn, tmps, dg, h1, h2, h3, h4⟩ := h
    exact ⟨fn, tmps, dg, by rw [hw]; exact h1, h2, fun k => (h3 k).mono hle he, he.lp _ _ h4⟩
  | defb o => exact (by rw [show BoxOk H' E' (.defb o) l w' = (w'.heap[l.g]? = some (.deferred (if o then some [] else none))) from rfl, hw]; exact h)
  | dead => trivial

/-- A laid table has its row for itself. -/
def GvOk (gl : Nat → AV) (B : Nat) (w : World) : Prop := ∀ g sz cs, gl g = .ip sz [.agg cs] 0 0 → g < B ∧ ∃ C e fr, w.heap[g]? = some (.cells C e fr) ∧ C.size = sz
theorem GvOk.mono {gl : Nat → AV} {B : Nat} {w w' : World} (h : GvOk gl B w) (hw : ∀ k, k < B → w'.heap[k]? = w.heap[k]?) : GvOk gl B w' := fun g sz cs hg => by
  obtain ⟨h1, C, e, fr, h2, h3⟩ := h g sz cs hg
  exact ⟨h1, C, e, fr, by rw [hw g h1]; exact h2, h3⟩

structure RelH (m : Nat → Lc) (H : HV) (B : Nat) (H0 : HV) (gl : Nat → AV) (hp : Nat → Option Box) (nx : Nat) (w : World) : Prop where
  sat : HV.sat H w
  old : ∀ b o, b < B → H b o = H0 b o
  low : B ≤ w.heap.size
  fresh : ∀ id, nx ≤ id → hp id = none
  box : ∀ id b, hp id = some b → BoxOk H (envOf hp m) b (m id) w
  sep : ∀ id b, hp id = some b → B ≤ (m id).g ∧ (m id).g < w.heap.size ∧ ∀ o, H (m id).g o = none
  inj : ∀ id id' b b', hp id = some b → hp id' = some b' → (m id).g = (m id').g → id = id'
  gv : GvOk gl B w
  gl : ∀ g, RelI H (gl g) (.pointer (some ⟨g, 0, none⟩))
  ty : ∀ id ver cs, hp id = some (.cells ver cs) → TyOk w (m id) ver

theorem sat_lt {H : HV} {w : World} (h : HV.sat H w) {b o : Nat} {v : Value} (hv : H b o = some v) : b < w.heap.size :=
  World.block_lt_of_cell? w ⟨b, o, none⟩ (h _ _ _ hv)

section
variable {m : Nat → Lc} {H : HV} {B : Nat} {H0 : HV} {gl : Nat → AV} {hp : Nat → Option Box} {nx : Nat} {w : World}

/-- The world has grown. -/
theorem RelH.ext {w' : World} (h : RelH m H B H0 gl hp nx w) (hb : Below w.heap.size w w') : RelH m H B H0 gl hp nx w' where
  sat b o v hv := by rw [← h.sat b o v hv]; exact hb.cell (p := ⟨b, o, none⟩) (sat_lt h.sat hv)
  old := h.old
  low := Nat.le_trans h.low hb.size
  fresh := h.fresh
  box id b hid := (h.box id b hid).mono (.refl _) (.refl _) (hb.block _ (h.sep id b hid).2.1)
  sep id b hid := let ⟨x, y, z⟩ := h.sep id b hid; ⟨x, Nat.lt_of_lt_of_le y hb.size, z⟩
  inj := h.inj
  gl := h.gl
  ty id ver cs hid := (h.ty id ver cs hid).mono (hb.block _ (h.sep id _ hid).2.1)
  gv := h.gv.mono fun k hk => hb.block k (Nat.lt_of_lt_of_le hk h.low)

/-- One box changes, or a new one comes. -/
theorem RelH.one (h : RelH m H B H0 gl hp nx w) {id nx' : Nat} {b : Box} {l : Lc} {w' : World} (hother : ∀ k, k < w.heap.size → k ≠ l.g → w'.heap[k]? = w.heap[k]?) (hsize : w.heap.size ≤ w'.heap.size)
    (hE : Env.le (envOf hp m) (envOf (updF hp id (some b)) (updF m id l))) (hg : B ≤ l.g ∧ l.g < w'.heap.size ∧ ∀ o, H l.g o = none)
    (hdis : ∀ id' b', id' ≠ id → hp id' = some b' → (m id').g ≠ l.g) (hid : id < nx') (hnx : nx ≤ nx') (hbox : BoxOk H (envOf (updF hp id (some b)) (updF m id l)) b l w') (hty : ∀ ver cs, b = .cells ver cs → TyOk w' l ver) :
    RelH (updF m id l) H B H0 gl (updF hp id (some b)) nx' w' where
  sat b' o v hv := by
    rw [← h.sat b' o v hv]
    refine World.cell?_of_block (w := w) (hother b' (sat_lt h.sat hv) fun e => ?_)
    subst e; rw [hg.2.2 o] at hv; cases hv
  old := h.old
  low := Nat.le_trans h.low hsize
  fresh id' hid' := by
    have : id' ≠ id := by omega
    rw [updF_ne _ _ this]; exact h.fresh id' (by omega)
  box id' b' hb' := by
    by_cases e : id' = id
    · subst e; rw [updF_same] at hb'; cases hb'; rw [updF_same]; exact hbox
    · rw [updF_ne _ _ e] at hb' ⊢
      exact (h.box id' b' hb').mono (.refl _) hE (hother _ (h.sep id' b' hb').2.1 (hdis id' b' e hb'))
  sep id' b' hb' := by
    by_cases e : id' = id
    · subst e; rw [updF_same]; exact hg
    · rw [updF_ne _ _ e] at hb' ⊢
      obtain ⟨x, y, z⟩ := h.sep id' b' hb'
      exact ⟨x, by omega, z⟩
  inj i j b1 b2 h1 h2 heq := by
    by_cases e1 : i = id <;> by_cases e2 : j = id
    · rw [e1, e2]
    · subst e1; rw [updF_same, updF_ne _ _ e2] at heq; rw [updF_ne _ _ e2] at h2
      exact absurd heq.symm (hdis j b2 e2 h2)
    · subst e2; rw [updF_same, updF_ne _ _ e1] at heq; rw [updF_ne _ _ e1] at h1
      exact absurd heq (hdis i b1 e1 h1)
    · rw [updF_ne _ _ e1] at heq h1; rw [updF_ne _ _ e2] at heq h2
      exact h.inj i j b1 b2 h1 h2 heq
  gl := h.gl
  ty id' ver cs hb' := by
    by_cases e : id' = id
    · subst e; rw [updF_same] at hb'; cases hb'; rw [updF_same]; exact hty _ _ rfl
    · rw [updF_ne _ _ e] at hb' ⊢
      exact (h.ty id' ver cs hb').mono (hother _ (h.sep id' _ hb').2.1 (hdis id' _ e hb'))
  gv := h.gv.mono fun k hk => hother k (Nat.lt_of_lt_of_le hk h.low) (fun e => by have := hg.1; omega)

theorem env_new {id : Nat} {b : Box} {l : Lc} (hn : hp id = none) : Env.le (envOf hp m) (envOf (updF hp id (some b)) (updF m id l)) := by
  have hne : ∀ id', hp id' ≠ none → id' ≠ id := fun id' hh e => hh (by rw [e]; exact hn)
  refine ⟨fun id' ver ⟨b', h1, h2⟩ => ⟨b', ?_, h2⟩, fun id' ver l' ⟨b', h1, h2⟩ hl => ?_, fun id' l' hl => ?_⟩
  · rw [updF_ne _ _ (hne id' (by simp [h1]))]; exact h1
  · have := hne id' (by simp [h1])
    simp only [envOf, updF_ne _ _ this] at hl ⊢
    exact hl
  · have : hp id' ≠ none := by intro e; simp [envOf, e] at hl
    simp only [envOf, updF_ne _ _ (hne id' this)] at hl ⊢
    exact hl

theorem env_same {id ver : Nat} {cs cs' : List AV} {l : Lc} (hn : hp id = some (.cells ver cs)) (hl : m id = l) : Env.le (envOf hp m) (envOf (updF hp id (some (.cells ver cs'))) (updF m id l)) := by
  refine ⟨fun id' v ⟨b', h1, h2⟩ => ?_, fun id' v l' ⟨b', h1, h2⟩ hl' => ?_, fun id' l' hl' => ?_⟩
  · by_cases e : id' = id
    · subst e; rw [hn] at h1; cases h1; exact ⟨_, updF_same _ _ _, h2⟩
    · exact ⟨b', by rw [updF_ne _ _ e]; exact h1, h2⟩
  · by_cases e : id' = id
    · subst e; simp only [envOf, updF_same, hn, hl] at hl' ⊢; exact hl'
    · simp only [envOf, updF_ne _ _ e] at hl' ⊢; exact hl'
  · by_cases e : id' = id
    · subst e; simp [envOf, hn] at hl'
    · simp only [envOf, updF_ne _ _ e] at hl' ⊢; exact hl'

theorem env_next {id ver ver' : Nat} {cs cs' : List AV} {l : Lc} (hlt : ver < ver') (hn : hp id = some (.cells ver cs)) : Env.le (envOf hp m) (envOf (updF hp id (some (.cells ver' cs'))) (updF m id l)) := by
  refine ⟨fun id' v ⟨b', h1, h2⟩ => ?_, fun id' v l' ⟨b', h1, h2⟩ hl' => ?_, fun id' l' hl' => ?_⟩
  · by_cases e : id' = id
    · subst e; rw [hn] at h1; cases h1; exact ⟨_, updF_same _ _ _, Nat.le_of_lt (Nat.lt_of_le_of_lt h2 hlt)⟩
    · exact ⟨b', by rw [updF_ne _ _ e]; exact h1, h2⟩
  · by_cases e : id' = id
    · subst e
      rw [hn] at h1; cases h1
      have h2 : v ≤ ver := h2
      simp only [envOf, updF_same] at hl'
      rw [if_neg (by omega)] at hl'; cases hl'
    · simp only [envOf, updF_ne _ _ e] at hl' ⊢; exact hl'
  · by_cases e : id' = id
    · subst e; simp [envOf, hn] at hl'
    · simp only [envOf, updF_ne _ _ e] at hl' ⊢; exact hl'

theorem env_obj {id : Nat} {b b' : Box} {l : Lc} (hn : hp id = some b) (h1 : ∀ v cs, b ≠ .cells v cs) (h2 : ∀ v cs, b' ≠ .cells v cs) (hl : m id = l) : Env.le (envOf hp m) (envOf (updF hp id (some b')) (updF m id l)) := by
  refine ⟨fun id' v ⟨b2, k1, k2⟩ => ?_, fun id' v l' ⟨b2, k1, k2⟩ hl' => ?_, fun id' l' hl' => ?_⟩
  · by_cases e : id' = id
    · subst e
      refine ⟨_, updF_same _ _ _, ?_⟩
      cases b' <;> first | trivial | exact absurd rfl (h2 _ _)
    · exact ⟨b2, by rw [updF_ne _ _ e]; exact k1, k2⟩
  · by_cases e : id' = id
    · subst e
      simp only [envOf, updF_same] at hl'
      cases b' <;> first | (cases hl'; done) | exact absurd rfl (h2 _ _)
    · simp only [envOf, updF_ne _ _ e] at hl' ⊢; exact hl'
  · by_cases e : id' = id
    · subst e
      simp only [envOf, updF_same, hn] at hl' ⊢
      cases b <;> cases b' <;> first | exact absurd rfl (h1 _ _) | exact absurd rfl (h2 _ _) | (rw [hl] at hl'; exact hl')
    · simp only [envOf, updF_ne _ _ e] at hl' ⊢; exact hl'

/-- A box dies: what refers to it is stale. -/
theorem env_dead {id ver : Nat} {cs : List AV} {l : Lc} (hn : hp id = some (.cells ver cs)) : Env.le (envOf hp m) (envOf (updF hp id (some .dead)) (updF m id l)) := by
  refine ⟨fun id' v ⟨b2, k1, k2⟩ => ?_, fun id' v l' ⟨b2, k1, k2⟩ hl' => ?_, fun id' l' hl' => ?_⟩
  · by_cases e : id' = id
    · subst e; exact ⟨_, updF_same _ _ _, trivial⟩
    · exact ⟨b2, by rw [updF_ne _ _ e]; exact k1, k2⟩
  · by_cases e : id' = id
    · subst e; simp only [envOf, updF_same] at hl'; cases hl'
    · simp only [envOf, updF_ne _ _ e] at hl' ⊢; exact hl'
  · by_cases e : id' = id
    · subst e; simp [envOf, hn] at hl'
    · simp only [envOf, updF_ne _ _ e] at hl' ⊢; exact hl'
end
end HX
