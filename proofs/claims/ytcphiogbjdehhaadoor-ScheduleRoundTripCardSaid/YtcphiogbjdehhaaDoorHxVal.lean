/- Operations on values: what they give, and that they give it. -/
import Derived.Test.YtcphiogbjdehhaaDoorHxState
namespace HX
open Go Go.RowKit

/- the program's tables -/
def aggD : TypeDesc → Bool
  | .struct _ | .array _ _ => true
  | _ => false
def tyI (P : Program) (t : TypeId) : Option (Nat × Bool) :=
  match P.info? t with
  | some i => (P.underlying t).map fun d => (i.size, aggD d)
  | none => none
def fldI (P : Program) (s : TypeId) (f : Nat) : Option (Nat × Nat × Bool) :=
  match P.underlying s with
  | some (.struct fs) => match fs[f]? with
    | some fl => (tyI P fl.type).map fun x => (fl.offset, x.1, x.2)
    | none => none
  | _ => none
/-- A slice type's element: its number of cells. -/
def elI (P : Program) (t : TypeId) : Option Nat :=
  match P.underlying t with
  | some (.slice e) => (P.info? e).map fun i => i.size
  | _ => none
/-- An array type: its length, its element's cells, whether that is an aggregate. -/
def arI (P : Program) (t : TypeId) : Option (Nat × Nat × Bool) :=
  match P.underlying t with
  | some (.array n e) => (tyI P e).map fun x => (n, x.1, x.2)
  | _ => none
def zeroI (P : Program) (t : TypeId) : Option AV :=
  match P.info? t with
  | some i => i.zero.map ofV
  | none => none
def isBoolT (P : Program) (t : TypeId) : Bool := match P.underlying t with | some .bool => true | _ => false
def isStrT (P : Program) (t : TypeId) : Bool := match P.underlying t with | some .string => true | _ => false
theorem isBoolT_ok {P : Program} {t : TypeId} (h : isBoolT P t = true) : P.underlying t = some .bool := by
  unfold isBoolT at h; split at h <;> first | assumption | cases h
theorem isStrT_ok {P : Program} {t : TypeId} (h : isStrT P t = true) : P.underlying t = some .string := by
  unfold isStrT at h; split at h <;> first | assumption | cases h

section
variable {P : Program} {w : World}
theorem tyI_inv {t : TypeId} {n : Nat} {g : Bool} (h : tyI P t = some (n, g)) : ∃ i d, P.info? t = some i ∧ P.underlying t = some d ∧ i.size = n ∧ aggD d = g := by
  unfold tyI at h
  split at h
  · rename_i i hi
    simp only [Option.map_eq_some_iff, Prod.mk.injEq] at h
    obtain ⟨d, hd, e1, e2⟩ := h
    exact ⟨i, d, hi, hd, e1, e2⟩
  · cases h
theorem run_isAgg' {t : TypeId} {n : Nat} {g : Bool} (h : tyI P t = some (n, g)) : (isAgg t).run P w = .ok g w := by
  obtain ⟨i, d, hi, hd, e1, e2⟩ := tyI_inv h
  subst e2
  unfold isAgg
  simp only [Sem.run_bind, run_underlying hd, Result.andThen_ok]
  cases d <;> simp [aggD]
theorem run_sizeOf' {t : TypeId} {n : Nat} {g : Bool} (h : tyI P t = some (n, g)) : (Go.sizeOf t).run P w = .ok n w := by
  obtain ⟨i, d, hi, hd, e1, e2⟩ := tyI_inv h
  simp [Go.sizeOf, typeInfo, hi, e1]
theorem fldI_inv {s : TypeId} {f o n : Nat} {g : Bool} (h : fldI P s f = some (o, n, g)) : ∃ fs fl, P.underlying s = some (.struct fs) ∧ fs[f]? = some fl ∧ fl.offset = o ∧ tyI P fl.type = some (n, g) := by
  unfold fldI at h
  split at h
  · rename_i fs hs
    split at h
    · rename_i fl hf
      simp only [Option.map_eq_some_iff, Prod.mk.injEq] at h
      obtain ⟨⟨a, b⟩, hd, e1, e2, e3⟩ := h
      exact ⟨fs, fl, hs, hf, e1, by rw [hd]; simp at e2 e3; rw [e2, e3]⟩
    · cases h
  · cases h
theorem elI_inv {t : TypeId} {n : Nat} (h : elI P t = some n) : ∃ e i, P.underlying t = some (.slice e) ∧ P.info? e = some i ∧ i.size = n := by
  unfold elI at h
  split at h
  · rename_i e he
    simp only [Option.map_eq_some_iff] at h
    obtain ⟨i, hi, e1⟩ := h
    exact ⟨e, i, he, hi, e1⟩
  · cases h
theorem arI_inv {t : TypeId} {n k : Nat} {g : Bool} (h : arI P t = some (n, k, g)) : ∃ e, P.underlying t = some (.array n e) ∧ tyI P e = some (k, g) := by
  unfold arI at h
  split at h
  · rename_i n' e he
    simp only [Option.map_eq_some_iff, Prod.mk.injEq] at h
    obtain ⟨⟨a, b⟩, hd, rfl, rfl, rfl⟩ := h
    exact ⟨e, he, hd⟩
  · cases h
theorem zeroI_inv {t : TypeId} {z : AV} (h : zeroI P t = some z) : ∃ i v, P.info? t = some i ∧ i.zero = some v ∧ z = ofV v := by
  unfold zeroI at h
  split at h
  · rename_i i hi
    simp only [Option.map_eq_some_iff] at h
    obtain ⟨v, hv, rfl⟩ := h
    exact ⟨i, v, hi, hv, rfl⟩
  · cases h

theorem add_none (b o n : Nat) : (⟨b, o, none⟩ : Addr).add n = ⟨b, o + n, none⟩ := by
  unfold Addr.add
  split
  · rename_i h; subst h; rfl
  · rfl
theorem add_zero' (a : Addr) : a.add 0 = a := rfl

theorem run_fieldPlace' {fl : Field} {n : Nat} {g : Bool} (h : tyI P fl.type = some (n, g)) (hn : n ≠ 0) (a : Addr) : (fieldPlace a fl).run P w = .ok (a.add fl.offset) w := by
  simp only [fieldPlace, Sem.run_bind, run_sizeOf' h, Result.andThen_ok, if_neg hn, Sem.run_pure]

theorem run_part' {t : TypeId} {n : Nat} {g : Bool} (h : tyI P t = some (n, g)) (cs : Array Value) (off : Nat) :
    (part t cs off).run P w = if g then .ok (.agg (cs.extract off (off + n))) w else match cs[off]? with | some v => .ok v w | none => .halt (.stuck "part: no such cell") w := by
  simp only [part, Sem.run_bind, run_isAgg' h, Result.andThen_ok]
  cases g
  · simp only [Bool.false_eq_true, if_false]
    cases cs[off]? <;> rfl
  · simp only [if_true, Sem.run_bind, run_sizeOf' h, Result.andThen_ok, Sem.run_pure]

/-- A load, off a row whose cells are known. -/
theorem run_loadAt' {t : TypeId} {n : Nat} {g : Bool} (h : tyI P t = some (n, g)) (b o : Nat) (val : Nat → Value) (hv : ∀ j, j < (if g then n else 1) → w.cell? ⟨b, o + j, none⟩ = some (val j)) :
    (Instr.loadAt t (.pointer (some ⟨b, o, none⟩))).run P w = .ok (if g then .agg ((List.range n).map val).toArray else val 0) w := by
  simp only [Instr.loadAt, Instr.sureAddr, loadVar, Sem.run_bind, Sem.run_pure, Result.andThen_ok, run_isAgg' h]
  cases g
  · have := hv 0 (by simp)
    simp only [Nat.add_zero] at this
    simp [this]
  · simp only [if_true, Sem.run_bind, run_sizeOf' h, Result.andThen_ok]
    rw [run_loadCells w ⟨b, o, none⟩ n val (fun j hj => by rw [add_none]; exact hv j (by simpa using hj))]
    rfl
end

/- integers and strings -/
def abits : BinOp → IntKind → Int → Int → Option Int
  | .and, k, x, y => some (k.wrap (BitVec.ofInt k.bits x &&& BitVec.ofInt k.bits y).toNat)
  | .or, k, x, y => some (k.wrap (BitVec.ofInt k.bits x ||| BitVec.ofInt k.bits y).toNat)
  | .xor, k, x, y => some (k.wrap (BitVec.ofInt k.bits x ^^^ BitVec.ofInt k.bits y).toNat)
  | .andNot, k, x, y => some (k.wrap (BitVec.ofInt k.bits x &&& ~~~BitVec.ofInt k.bits y).toNat)
  | _, _, _, _ => none
def xbinI (op : BinOp) (k : IntKind) (a b : Int) : Option AV :=
  match op with
  | .add => some (.int k (k.wrap (a + b)))
  | .sub => some (.int k (k.wrap (a - b)))
  | .mul => some (.int k (k.wrap (a * b)))
  | .quo => if b = 0 then none else some (.int k (k.wrap (a.tdiv b)))
  | .rem => if b = 0 then none else some (.int k (a.tmod b))
  | .eql => some (.bool (a == b))
  | .neq => some (.bool (a != b))
  | .lss => some (.bool (decide (a < b)))
  | .leq => some (.bool (decide (a ≤ b)))
  | .gtr => some (.bool (decide (b < a)))
  | .geq => some (.bool (decide (b ≤ a)))
  | op => match abits op k a b with | some c => some (.int k c) | none => none
def xbinS (op : BinOp) (a b : List UInt8) : Option AV :=
  match op with
  | .add => if a.length + b.length ≤ 9223372036854775807 then some (.str (a ++ b)) else none
  | .eql => some (.bool (a == b))
  | .neq => some (.bool (!(a == b)))
  | .lss => some (.bool (Op.bytesLess a b))
  | .leq => some (.bool (Op.bytesLess a b || a == b))
  | .gtr => some (.bool (!(Op.bytesLess a b || a == b)))
  | .geq => some (.bool (!(Op.bytesLess a b)))
  | _ => none

theorem toList_mk (s : List UInt8) : (ByteArray.mk s.toArray).toList = s := by
  rw [ByteArray.toList_eq]

section
variable {P : Program} {w : World}
theorem xbinI_ok {op : BinOp} {k : IntKind} {t : TypeId} {x y : Int} {av : AV} (h : xbinI op k x y = some av) : ∃ v, (binOp op t (.int k x) (.int k y)).run P w = .ok v w ∧ ∀ H, RelI H av v := by
  cases op <;> simp only [xbinI, Option.some.injEq, reduceCtorEq, abits] at h
  case quo =>
    split at h
    · cases h
    · cases h; exact ⟨_, by simp [binOp, Op.intDiv, *], fun H => .int _ _⟩
  case rem =>
    split at h
    · cases h
    · cases h; exact ⟨_, by simp [binOp, Op.intDiv, *], fun H => .int _ _⟩
  case add => subst h; exact ⟨_, by simp [binOp, Op.intArith], fun H => .int _ _⟩
  case sub => subst h; exact ⟨_, by simp [binOp, Op.intArith], fun H => .int _ _⟩
  case mul => subst h; exact ⟨_, by simp [binOp, Op.intArith], fun H => .int _ _⟩
  case and => subst h; exact ⟨_, by simp [binOp, Op.intBits], fun H => .int _ _⟩
  case or => subst h; exact ⟨_, by simp [binOp, Op.intBits], fun H => .int _ _⟩
  case xor => subst h; exact ⟨_, by simp [binOp, Op.intBits], fun H => .int _ _⟩
  case andNot => subst h; exact ⟨_, by simp [binOp, Op.intBits], fun H => .int _ _⟩
  all_goals (subst h; exact ⟨_, by simp [binOp, Op.intCmp], fun H => .bool _⟩)

theorem xbinS_ok {op : BinOp} {t : TypeId} {x y : List UInt8} {av : AV} (h : xbinS op x y = some av) : ∃ v, (binOp op t (.string ⟨x.toArray⟩) (.string ⟨y.toArray⟩)).run P w = .ok v w ∧ ∀ H, RelI H av v := by
  cases op <;> simp only [xbinS, Option.some.injEq, reduceCtorEq] at h
  case add =>
    split at h
    · rename_i hl
      cases h
      refine ⟨_, ?_, fun H => .str _⟩
      have hn : ¬ ((x.length + y.length : Int) > IntKind.i64.max) := by
        simp only [IntKind.max, IntKind.signed, IntKind.bits]
        simp
        omega
      have e : (ByteArray.mk x.toArray ++ ByteArray.mk y.toArray) = ByteArray.mk (x ++ y).toArray := by
        apply ByteArray.ext; simp
      simp only [binOp, Op.stringOp]
      rw [if_neg (by simpa [ByteArray.size] using hn), e]
      rfl
    · cases h
  all_goals (subst h; exact ⟨_, by simp [binOp, Op.stringOp], fun H => .bool _⟩)

theorem run_equalIn_bool (d : Nat) {t : TypeId} (ht : P.underlying t = some .bool) (x y : Bool) : (Op.equalIn (d + 1) t (.bool x) (.bool y)).run P w = .ok (x == y) w := by
  simp [Op.equalIn, run_underlying ht]
end

/-- Plain cells, by which two aggregates can be held against each other. -/
def xeqC : AV → AV → Option Bool
  | .int k a, .int k' b => if k = k' then some (a == b) else none
  | .str a, .str b => some (a == b)
  | .bool a, .bool b => some (a == b)
  | _, _ => none
def eqT (P : Program) (t : TypeId) (x : AV) : Bool :=
  match x, P.underlying t with
  | .int .., some (.int _) => true
  | .str _, some .string => true
  | .bool _, some .bool => true
  | _, _ => false
def xeqF (P : Program) (xs ys : List AV) : List Field → Nat → Option Bool
  | [], _ => some true
  | f :: fs, i => match xs[i]?, ys[i]? with
    | some x, some y => if (tyI P f.type == some (1, false)) && f.offset == i && (f.name != "_" && eqT P f.type x) then match xeqC x y with
      | some true => xeqF P xs ys fs (i + 1)
      | some false => some false
      | none => none else none
    | _, _ => none
def xeqS (P : Program) (t : TypeId) (xs ys : List AV) : Option Bool :=
  match P.underlying t with
  | some (.struct fs) => if !P.stoodInHeld t && !P.eqGuardType P.depth t then xeqF P xs ys fs.toList 0 else none
  | _ => none

/-- Held against nil: a slice, a pointer, a function. -/
def xnilS : AV → Option Bool
  | .nil => some true
  | .bs .. => some false
  | .sl _ (_ :: _) => some false
  | _ => none
def xnilP : AV → Option Bool
  | .nilp => some true
  | .ptr .. => some false
  | .ip .. => some false
  | _ => none
def xnilF : AV → Option Bool
  | .nilfn => some true
  | .fn .. => some false
  | _ => none
def isSlT (P : Program) (t : TypeId) : Bool := match P.underlying t with | some (.slice _) => true | _ => false
def isPtT (P : Program) (t : TypeId) : Bool := match P.underlying t with | some (.pointer _) => true | _ => false
def isFnT (P : Program) (t : TypeId) : Bool := match P.underlying t with | some (.func ..) => true | _ => false
def xeqOp (op : BinOp) (b : Bool) : Option AV :=
  match op with
  | .eql => some (.bool b)
  | .neq => some (.bool (!b))
  | _ => none

def xbin (P : Program) (op : BinOp) (t : TypeId) (x y : AV) : Option AV :=
  match x, y with
  | .int k a, .int k' b => match op with
      | .shl => if 0 ≤ b then some (.int k (k.wrap (a * 2 ^ (min b.toNat k.bits)))) else none
      | .shr => if 0 ≤ b then some (.int k (a.fdiv (2 ^ (min b.toNat k.bits)))) else none
      | op => if k = k' then xbinI op k a b else none
  | .str a, .str b => xbinS op a b
  | .bool a, .bool b => if isBoolT P t then xeqOp op (a == b) else none
  | .agg xs, .agg ys => (match xeqS P t xs ys with | some b => xeqOp op b | none => none)
  | x, .nil => if isSlT P t then (match xnilS x with | some b => xeqOp op b | none => none) else none
  | x, .nilp => if isPtT P t then (match xnilP x with | some b => xeqOp op b | none => none) else none
  | x, .nilfn => if isFnT P t then (match xnilF x with | some b => xeqOp op b | none => none) else none
  | _, _ => none

section
variable {P : Program} {w : World} {H : HV} {E : Env}

theorem xeqC_ok {t : TypeId} {x y : AV} {u v : Value} {b : Bool} (ht : eqT P t x = true) (hx : RV H E x u) (hy : RV H E y v) (h : xeqC x y = some b) (d : Nat) : (Op.equalIn (d + 1) t u v).run P w = .ok b w := by
  unfold xeqC at h
  split at h
  · rename_i k a k' c
    split at h
    · rename_i e
      subst e; cases h
      rw [hx.int_inv, hy.int_inv]
      unfold eqT at ht
      split at ht <;> first | cases ht | skip
      · rename_i k' _ hk'; exact run_equalIn_int w d t k _ a c (by assumption)
      all_goals (rename_i e _; cases e)
    · cases h
  · rename_i a c
    cases h
    rw [hx.str_inv, hy.str_inv]
    unfold eqT at ht
    split at ht <;> first | cases ht | skip
    · rename_i e _; cases e
    · rw [run_equalIn_string w d t _ _ (by assumption), toList_mk, toList_mk]
    · rename_i e _; cases e
  · rename_i a c
    cases h
    rw [hx.bool_inv, hy.bool_inv]
    unfold eqT at ht
    split at ht <;> first | cases ht | skip
    · rename_i e _; cases e
    · rename_i e _; cases e
    · exact run_equalIn_bool d (by assumption) a c
  · cases h

theorem xeqF_ok {xs ys : List AV} {us vs : Array Value} (hx : xs.length = us.size ∧ ∀ (j : Nat) (c : AV) (v : Value), xs[j]? = some c → us[j]? = some v → RV H E c v) (hy : ys.length = vs.size ∧ ∀ (j : Nat) (c : AV) (v : Value), ys[j]? = some c → vs[j]? = some v → RV H E c v) (d : Nat) :
    ∀ (fs : List Field) (i : Nat) (b : Bool), xeqF P xs ys fs i = some b → (Op.eqFields (d + 1) us vs fs).run P w = .ok b w
  | [], i, b, h => by simp only [xeqF, Option.some.injEq] at h; subst h; rfl
  | f :: fs, i, b, h => by
    simp only [xeqF] at h
    split at h
    · rename_i x y hxi hyi
      split at h
      · rename_i hc
        simp only [Bool.and_eq_true, beq_iff_eq, bne_iff_ne] at hc
        obtain ⟨⟨ht, ho⟩, hn, hq⟩ := hc
        have hu : us[i]? = some (us[i]'(by rw [← hx.1]; exact (List.getElem?_eq_some_iff.1 hxi).1)) := Array.getElem?_eq_getElem _
        have hv : vs[i]? = some (vs[i]'(by rw [← hy.1]; exact (List.getElem?_eq_some_iff.1 hyi).1)) := Array.getElem?_eq_getElem _
        have rx := hx.2 i _ _ hxi hu
        have ry := hy.2 i _ _ hyi hv
        have p1 := run_part' (w := w) ht us f.offset
        have p2 := run_part' (w := w) ht vs f.offset
        simp only [Bool.false_eq_true, if_false, ho, hu] at p1
        simp only [Bool.false_eq_true, if_false, ho, hv] at p2
        simp only [Op.eqFields, if_pos hn, Sem.run_bind, ho, p1, p2, Result.andThen_ok]
        split at h
        · rename_i he
          rw [xeqC_ok hq rx ry he d]
          simp only [Result.andThen_ok, Bool.not_true, Bool.false_eq_true, if_false]
          exact xeqF_ok hx hy d fs (i + 1) b h
        · rename_i he
          cases h
          rw [xeqC_ok hq rx ry he d]
          simp [Result.andThen_ok]
        · cases h
      · cases h
    · cases h

theorem xeqOp_ok {op : BinOp} {t : TypeId} {u v : Value} {b : Bool} {av : AV} (h : xeqOp op b = some av) (h1 : (Op.equal t u v).run P w = .ok b w) (hop : op = .eql → binOp op t u v = (do pure (.bool (← Op.equal t u v)))) (hop' : op = .neq → binOp op t u v = (do pure (.bool (!(← Op.equal t u v))))) :
    ∃ x, (binOp op t u v).run P w = .ok x w ∧ ∀ H, RelI H av x := by
  unfold xeqOp at h
  split at h
  · cases h; exact ⟨.bool b, by rw [hop rfl, Sem.run_bind, h1]; rfl, fun _ => .bool _⟩
  · cases h; exact ⟨.bool (!b), by rw [hop' rfl, Sem.run_bind, h1]; rfl, fun _ => .bool _⟩
  · cases h

theorem xnilS_ok (d : Nat) {t : TypeId} {x : AV} {u : Value} {b : Bool} (hx : RV H E x u) (ht : isSlT P t = true) (h : xnilS x = some b) : (∃ a n c, u = .slice a n c) ∧ (Op.equalIn (d + 1) t u (.slice none 0 0)).run P w = .ok b w := by
  unfold isSlT at ht
  split at ht <;> first | cases ht | skip
  rename_i e he
  unfold xnilS at h
  split at h <;> first | cases h | skip
  · rw [hx.nil_inv]; exact ⟨⟨_, _, _, rfl⟩, by simp [Op.equalIn, run_underlying he]⟩
  · obtain ⟨a, cap, rfl, _⟩ := hx.bs_inv; exact ⟨⟨_, _, _, rfl⟩, by simp [Op.equalIn, run_underlying he]⟩
  · cases hx.sl_inv with
    | sl => exact ⟨⟨_, _, _, rfl⟩, by simp [Op.equalIn, run_underlying he]⟩
theorem xnilP_ok (d : Nat) {t : TypeId} {x : AV} {u : Value} {b : Bool} (hx : RV H E x u) (ht : isPtT P t = true) (h : xnilP x = some b) : (∃ a, u = .pointer a) ∧ (Op.equalIn (d + 1) t u (.pointer none)).run P w = .ok b w := by
  unfold isPtT at ht
  split at ht <;> first | cases ht | skip
  rename_i e he
  unfold xnilP at h
  split at h <;> first | cases h | skip
  · rw [hx.nilp_inv]; exact ⟨⟨_, rfl⟩, by simp [Op.equalIn, run_underlying he]⟩
  · obtain ⟨a, rfl, _⟩ := hx.ptr_inv; exact ⟨⟨_, rfl⟩, by simp [Op.equalIn, run_underlying he]⟩
  · cases hx.ip_inv with
    | ip => exact ⟨⟨_, rfl⟩, by simp [Op.equalIn, run_underlying he]⟩
theorem xnilF_ok (d : Nat) {t : TypeId} {x : AV} {u : Value} {b : Bool} (hx : RV H E x u) (ht : isFnT P t = true) (h : xnilF x = some b) : (u = .nilFunc ∨ ∃ f a c, u = .func f a c) ∧ (Op.equalIn (d + 1) t u .nilFunc).run P w = .ok b w := by
  unfold isFnT at ht
  split at ht <;> first | cases ht | skip
  rename_i he
  unfold xnilF at h
  split at h <;> first | cases h | skip
  · rw [hx.nilfn_inv]; exact ⟨.inl rfl, by simp [Op.equalIn, run_underlying he]⟩
  · obtain ⟨vs, rfl, _⟩ := hx.fn_inv; exact ⟨.inr ⟨_, _, _, rfl⟩, by simp [Op.equalIn, run_underlying he]⟩

theorem xbin_ok {op : BinOp} {t : TypeId} {x y : AV} {u v : Value} {av : AV} {ox oy : Operand} (hx : RV H E x u) (hy : RV H E y v) (h : xbin P op t x y = some av) :
    ∃ r, (binOp op t u v).run P w = .ok r w ∧ (eqGuard op t ox oy u v).run P w = .ok () w ∧ ∀ H, RelI H av r := by
  unfold xbin at h
  split at h
  · rename_i k a k' b
    rw [hx.int_inv, hy.int_inv]
    have hg : (eqGuard op t ox oy (.int k a) (.int k' b)).run P w = .ok () w := by cases op <;> rfl
    cases op <;> simp only at h <;> first
      | (split at h
         · rename_i e; subst e; obtain ⟨r, h1, h2⟩ := xbinI_ok (P := P) (w := w) (t := t) h; exact ⟨r, h1, hg, h2⟩
         · cases h)
      | (split at h
         · cases h; exact ⟨_, by simp [binOp, Op.shift, show ¬ b < 0 by omega], hg, fun H => .int _ _⟩
         · cases h)
  · rename_i a b
    rw [hx.str_inv, hy.str_inv]
    obtain ⟨r, h1, h2⟩ := xbinS_ok (P := P) (w := w) (t := t) h
    exact ⟨r, h1, by cases op <;> rfl, h2⟩
  · rename_i a b
    rw [hx.bool_inv, hy.bool_inv]
    split at h
    · rename_i hb
      obtain ⟨r, h1, h2⟩ := xeqOp_ok (P := P) (w := w) (t := t) (u := .bool a) (v := .bool b) h (run_equalIn_bool 9999 (isBoolT_ok hb) a b) (fun e => by subst e; rfl) (fun e => by subst e; rfl)
      exact ⟨r, h1, by cases op <;> rfl, h2⟩
    · cases h
  · rename_i xs ys
    obtain ⟨us, rfl, h1, _, h2⟩ := hx.agg_inv
    obtain ⟨vs, rfl, h3, _, h4⟩ := hy.agg_inv
    split at h
    · rename_i b hb
      unfold xeqS at hb
      split at hb
      · rename_i fs ht
        split at hb
        · rename_i hc
          simp only [Bool.and_eq_true, Bool.not_eq_true'] at hc
          have hfs : P.fieldsOf t = fs := by simp [Program.fieldsOf, ht]
          have he := run_equalIn_struct w 9999 t us vs (by rw [hfs]; exact ht) hc.1
          rw [hfs, xeqF_ok ⟨h1, h2⟩ ⟨h3, h4⟩ 9998 fs.toList 0 b hb] at he
          obtain ⟨r, h5, h6⟩ := xeqOp_ok (P := P) (w := w) (t := t) (u := .agg us) (v := .agg vs) h he (fun e => by subst e; rfl) (fun e => by subst e; rfl)
          exact ⟨r, h5, run_eqGuard_agg w op t ox oy us vs hc.2, h6⟩
        · cases hb
      · cases hb
    · cases h
  · rw [hy.nil_inv]
    split at h
    · rename_i ht
      split at h
      · rename_i b hb
        obtain ⟨⟨a, n, c, rfl⟩, he⟩ := xnilS_ok (w := w) 9999 hx ht hb
        obtain ⟨r, h5, h6⟩ := xeqOp_ok (P := P) (w := w) (t := t) h he (fun e => by subst e; rfl) (fun e => by subst e; rfl)
        exact ⟨r, h5, by cases op <;> rfl, h6⟩
      · cases h
    · cases h
  · rw [hy.nilp_inv]
    split at h
    · rename_i ht
      split at h
      · rename_i b hb
        obtain ⟨⟨a, rfl⟩, he⟩ := xnilP_ok (w := w) 9999 hx ht hb
        obtain ⟨r, h5, h6⟩ := xeqOp_ok (P := P) (w := w) (t := t) h he (fun e => by subst e; rfl) (fun e => by subst e; rfl)
        exact ⟨r, h5, by cases op <;> rfl, h6⟩
      · cases h
    · cases h
  · rw [hy.nilfn_inv]
    split at h
    · rename_i ht
      split at h
      · rename_i b hb
        obtain ⟨hf, he⟩ := xnilF_ok (w := w) 9999 hx ht hb
        rcases hf with rfl | ⟨_, _, _, rfl⟩
        · obtain ⟨r, h5, h6⟩ := xeqOp_ok (P := P) (w := w) (t := t) h he (fun e => by subst e; rfl) (fun e => by subst e; rfl)
          exact ⟨r, h5, by cases op <;> rfl, h6⟩
        · obtain ⟨r, h5, h6⟩ := xeqOp_ok (P := P) (w := w) (t := t) h he (fun e => by subst e; rfl) (fun e => by subst e; rfl)
          exact ⟨r, h5, by cases op <;> rfl, h6⟩
      · cases h
    · cases h
  · cases h
end
end HX
