/- The operations on abstract states, and that they are sound: those that change no memory. -/
import Derived.Test.YtghdepbcnckfpaaAhState
namespace AH
open Go Go.RowKit

def ofV0 : Value → AV
  | .bool b => .bool b
  | .int k n => .int k n
  | .string s => .str s.data.toList
  | .slice none 0 0 => .nil
  | .pointer none => .nilp
  | .nilFunc => .nilfn
  | _ => .undef
def ofV : Value → AV
  | .agg cs => if cs.toList.all (·.oneCell') then .agg (cs.toList.map ofV0) else .undef
  | v => ofV0 v

theorem ofV0_rel (H : HV) (v : Value) : RelI H (ofV0 v) v := by
  unfold ofV0
  split
  · exact .bool _
  · exact .int _ _
  · rename_i s; have := RelI.str (H := H) s.data.toList; simpa using this
  · exact .nil
  · exact .nilp
  · exact .nilfn
  · exact .undef _

theorem ofV_rel (H : HV) (v : Value) : RelI H (ofV v) v := by
  unfold ofV
  split
  · rename_i cs
    split
    · rename_i h1
      refine .agg _ cs (by simp) (fun v hv => List.all_eq_true.1 h1 v (Array.mem_toList_iff.2 hv)) fun j c u hj hu => ?_
      simp only [List.getElem?_map, Array.getElem?_toList, hu, Option.map_some, Option.some.injEq] at hj
      subst hj; exact ofV0_rel H u
    · exact .undef _
  · exact ofV0_rel H v

def St.ev (st : St) : Operand → AV
  | .tmp t => st.get t
  | .const v => ofV v
  | .func f => .fn f []
  | .global _ => .undef

def isAggB (P : Program) (t : TypeId) : Bool :=
  match P.underlying t with
  | some (.struct _) | some (.array _ _) => true
  | _ => false

def fieldOff (P : Program) (s : TypeId) (f : Nat) : Option (Nat × Nat × Bool) :=
  match P.underlying s with
  | some (.struct fs) => (fs[f]?).map fun fl => (fl.offset, P.cellsOf fl.type, isAggB P fl.type)
  | _ => none

def elemOf (P : Program) (t : TypeId) : Option TypeId :=
  match P.underlying t with
  | some (.slice e) => some e
  | _ => none

def partD (agg : Bool) (size off : Nat) (x : AV) : AV :=
  if agg then .agg ((x.cells.drop off).take size) else (x.cells[off]?).getD .undef

def St.putO (st : St) (dst : Option Nat) (v : AV) : St :=
  match dst with
  | some d => st.put d v
  | none => st

/-- What one operation does: either a value, or nothing; the world may have grown. -/
def OpOk (P : Program) (B : Nat) (H0 : HV) (rest : List (AV × Value)) (n : Nat) (a : Act) (w : World) (dst : Option Nat) (K : AV → St → Prop) (s : Sem Next) : Prop :=
  ∃ nx v w' G' av st', s.run P w = .ok nx w' ∧ (nx = .value v ∨ nx = .skip ∧ v = Go.undef) ∧ Below B w w' ∧ K av st' ∧ st'.n = n ∧
    RelG G' B H0 rest (st'.putO dst av) (a.put dst v).tmps w'

def dstOk (dst : Option Nat) (n : Nat) : Bool :=
  match dst with
  | some d => decide (d < n)
  | none => true

section
variable {P : Program} {G : Gh} {B : Nat} {H0 : HV} {rest : List (AV × Value)} {st : St} {a : Act} {w : World} {K : AV → St → Prop}

theorem RelG.ev (h : RelG G B H0 rest st a.tmps w) (x : Operand) : Rel0 G.H G.io (st.ev x).dem (a.eval x) := by
  cases x with
  | tmp t => exact (h.slot t).dem
  | const v =>
    have hd : (ofV v).dem = ofV v := by
      unfold ofV
      split
      · split <;> rfl
      · unfold ofV0; split <;> rfl
    show Rel0 G.H G.io (ofV v).dem v
    rw [hd]; exact .imm _ _ (ofV_rel _ _)
  | func f => exact .imm _ _ (.fn f [] #[] rfl (fun j c v h => by simp at h))
  | global g => exact .imm _ _ (.undef _)

theorem RelG.putO (h : RelG G B H0 rest st a.tmps w) {dst : Option Nat} (hd : dstOk dst st.n = true) {av : AV} {v : Value} (hv : ∀ d, dst = some d → RelV G B w [0, d] av v) :
    RelG G B H0 rest (st.putO dst av) (a.put dst v).tmps w := by
  cases dst with
  | none => exact h
  | some d => exact h.put (by simpa [dstOk] using hd) (hv d rfl)

theorem OpOk.val (h : RelG G B H0 rest st a.tmps w) {dst : Option Nat} (hd : dstOk dst st.n = true) {s : Sem Next} {v : Value} {av : AV} (hs : s.run P w = .ok (.value v) w) (hv : Rel0 G.H G.io av v) (hk : K av st) :
    OpOk P B H0 rest st.n a w dst K s :=
  ⟨_, v, w, G, av, st, hs, .inl rfl, Below.refl _ _, hk, rfl, h.putO hd fun _ _ => RelV.of0 hv⟩

/- values of one kind -/
theorem Rel0.bool_inv {H : HV} {io : Nat → Option Nat} {b : Bool} {v : Value} (h : Rel0 H io (.bool b) v) : v = .bool b := by
  cases h with | imm _ _ h => cases h; rfl
theorem Rel0.int_inv {H : HV} {io : Nat → Option Nat} {k : IntKind} {n : Int} {v : Value} (h : Rel0 H io (.int k n) v) : v = .int k n := by
  cases h with | imm _ _ h => cases h; rfl
theorem Rel0.str_inv {H : HV} {io : Nat → Option Nat} {s : List UInt8} {v : Value} (h : Rel0 H io (.str s) v) : v = .string ⟨s.toArray⟩ := by
  cases h with | imm _ _ h => cases h; rfl
theorem Rel0.nil_inv {H : HV} {io : Nat → Option Nat} {v : Value} (h : Rel0 H io .nil v) : v = .slice none 0 0 := by
  cases h with | imm _ _ h => cases h; rfl
theorem Rel0.sl_inv {H : HV} {io : Nat → Option Nat} {sz : Nat} {xs : List AV} {v : Value} (h : Rel0 H io (.sl sz xs) v) : RelI H (.sl sz xs) v := by
  cases h with | imm _ _ h => exact h
theorem Rel0.agg_inv {H : HV} {io : Nat → Option Nat} {cs : List AV} {v : Value} (h : Rel0 H io (.agg cs) v) :
    ∃ vs : Array Value, v = .agg vs ∧ cs.length = vs.size ∧ (∀ v ∈ vs, v.oneCell' = true) ∧ ∀ (j : Nat) (c : AV) (v : Value), cs[j]? = some c → vs[j]? = some v → Rel0 H io c v := by
  cases h with
  | imm _ _ h => cases h with | agg _ vs hl h1 hc => exact ⟨vs, rfl, hl, h1, fun j c v h1 h2 => .imm _ _ (hc j c v h1 h2)⟩
  | agg _ vs hl h1 hc => exact ⟨vs, rfl, hl, h1, hc⟩
theorem RelI.len_inv {H : HV} {sz : Nat} {xs : List AV} {v : Value} (h : RelI H (.sl sz xs) v) : ∃ a cap, v = .slice a xs.length cap ∧ xs.length ≤ cap ∧ cap ≤ maxLen := by
  cases h with
  | sl0 _ a cap hc => exact ⟨a, cap, rfl, Nat.zero_le _, hc⟩
  | sl _ _ b o cap _ _ h1 h2 => exact ⟨_, cap, rfl, h1, h2⟩

theorem dem_bool {x : AV} {b : Bool} (h : x = .bool b) : x.dem = .bool b := by subst h; rfl

/- the operand's kinds -/
theorem RelG.evBool (h : RelG G B H0 rest st a.tmps w) {x : Operand} {b : Bool} (hx : st.ev x = .bool b) : a.eval x = .bool b := by
  have := h.ev x; rw [hx] at this; exact this.bool_inv
theorem RelG.evInt (h : RelG G B H0 rest st a.tmps w) {x : Operand} {k : IntKind} {n : Int} (hx : st.ev x = .int k n) : a.eval x = .int k n := by
  have := h.ev x; rw [hx] at this; exact this.int_inv
theorem RelG.evStr (h : RelG G B H0 rest st a.tmps w) {x : Operand} {s : List UInt8} (hx : st.ev x = .str s) : a.eval x = .string ⟨s.toArray⟩ := by
  have := h.ev x; rw [hx] at this; exact this.str_inv
end

/- integers and strings -/
def cmpI : BinOp → Int → Int → Option Bool
  | .eql, a, b => some (a == b)
  | .neq, a, b => some (a != b)
  | .lss, a, b => some (decide (a < b))
  | .leq, a, b => some (decide (a ≤ b))
  | .gtr, a, b => some (decide (a > b))
  | .geq, a, b => some (decide (a ≥ b))
  | _, _, _ => none
def cmpS : BinOp → List UInt8 → List UInt8 → Option Bool
  | .eql, a, b => some (a == b)
  | .neq, a, b => some (!(a == b))
  | .lss, a, b => some (Op.bytesLess a b)
  | .leq, a, b => some (Op.bytesLess a b || a == b)
  | .gtr, a, b => some (!(Op.bytesLess a b || a == b))
  | .geq, a, b => some (!(Op.bytesLess a b))
  | _, _, _ => none
def abits : BinOp → IntKind → Int → Int → Option Int
  | .and, k, x, y => some (k.wrap (BitVec.ofInt k.bits x &&& BitVec.ofInt k.bits y).toNat)
  | .or, k, x, y => some (k.wrap (BitVec.ofInt k.bits x ||| BitVec.ofInt k.bits y).toNat)
  | .xor, k, x, y => some (k.wrap (BitVec.ofInt k.bits x ^^^ BitVec.ofInt k.bits y).toNat)
  | .andNot, k, x, y => some (k.wrap (BitVec.ofInt k.bits x &&& ~~~BitVec.ofInt k.bits y).toNat)
  | _, _, _, _ => none

/-- Operators on two integers of one kind. -/
def abinI (op : BinOp) (k : IntKind) (a b : Int) (K : AV → Prop) : Prop :=
  match op with
  | .add => K (.int k (k.wrap (a + b)))
  | .sub => K (.int k (k.wrap (a - b)))
  | .mul => K (.int k (k.wrap (a * b)))
  | .quo => b ≠ 0 ∧ K (.int k (k.wrap (a.tdiv b)))
  | .rem => b ≠ 0 ∧ K (.int k (a.tmod b))
  | .eql => K (.bool (a == b))
  | .neq => K (.bool (a != b))
  | .lss => K (.bool (decide (a < b)))
  | .leq => K (.bool (decide (a ≤ b)))
  | .gtr => K (.bool (decide (b < a)))
  | .geq => K (.bool (decide (b ≤ a)))
  | .and | .or | .xor | .andNot => match abits op k a b with | some c => K (.int k c) | none => False
  | _ => False
def abinS (op : BinOp) (a b : List UInt8) (K : AV → Prop) : Prop :=
  match op with
  | .add => (a.length + b.length : Int) ≤ 9223372036854775807 ∧ K (.str (a ++ b))
  | .eql => K (.bool (a == b))
  | .neq => K (.bool (!(a == b)))
  | .lss => K (.bool (Op.bytesLess a b))
  | .leq => K (.bool (Op.bytesLess a b || a == b))
  | .gtr => K (.bool (!(Op.bytesLess a b || a == b)))
  | .geq => K (.bool (!(Op.bytesLess a b)))
  | _ => False

theorem toList_mk (s : List UInt8) : (ByteArray.mk s.toArray).toList = s := by
  rw [ByteArray.toList_eq]

section
variable {P : Program} {G : Gh} {B : Nat} {H0 : HV} {rest : List (AV × Value)} {st : St} {a : Act} {w : World} {K : AV → St → Prop}

/-- A pure operation: its run leaves the world. -/
theorem binI_sound {op : BinOp} {k : IntKind} {t : TypeId} {x y : Int} {L : AV → Prop} (h : abinI op k x y L) :
    ∃ v av, (binOp op t (.int k x) (.int k y)).run P w = .ok v w ∧ L av ∧ ∀ H, RelI H av v := by
  cases op <;> simp only [abinI] at h
  case add => exact ⟨_, _, by simp [binOp, Op.intArith], h, fun H => .int _ _⟩
  case sub => exact ⟨_, _, by simp [binOp, Op.intArith], h, fun H => .int _ _⟩
  case mul => exact ⟨_, _, by simp [binOp, Op.intArith], h, fun H => .int _ _⟩
  case quo => exact ⟨_, _, by simp [binOp, Op.intDiv, h.1], h.2, fun H => .int _ _⟩
  case rem => exact ⟨_, _, by simp [binOp, Op.intDiv, h.1], h.2, fun H => .int _ _⟩
  case eql => exact ⟨_, _, by simp [binOp, Op.intCmp], h, fun H => .bool _⟩
  case neq => exact ⟨_, _, by simp [binOp, Op.intCmp], h, fun H => .bool _⟩
  case lss => exact ⟨_, _, by simp [binOp, Op.intCmp], h, fun H => .bool _⟩
  case leq => exact ⟨_, _, by simp [binOp, Op.intCmp], h, fun H => .bool _⟩
  case gtr => exact ⟨_, _, by simp [binOp, Op.intCmp], h, fun H => .bool _⟩
  case geq => exact ⟨_, _, by simp [binOp, Op.intCmp], h, fun H => .bool _⟩
  case and => exact ⟨_, _, by simp [binOp, Op.intBits], h, fun H => .int _ _⟩
  case or => exact ⟨_, _, by simp [binOp, Op.intBits], h, fun H => .int _ _⟩
  case xor => exact ⟨_, _, by simp [binOp, Op.intBits], h, fun H => .int _ _⟩
  case andNot => exact ⟨_, _, by simp [binOp, Op.intBits], h, fun H => .int _ _⟩

theorem binS_sound {op : BinOp} {t : TypeId} {x y : List UInt8} {L : AV → Prop} (h : abinS op x y L) :
    ∃ v av, (binOp op t (.string ⟨x.toArray⟩) (.string ⟨y.toArray⟩)).run P w = .ok v w ∧ L av ∧ ∀ H, RelI H av v := by
  cases op <;> simp only [abinS] at h
  case add =>
    refine ⟨_, _, ?_, h.2, fun H => .str _⟩
    have hn : ¬ ((x.length + y.length : Int) > IntKind.i64.max) := by
      have := h.1
      simp only [IntKind.max, IntKind.signed, IntKind.bits]
      simp
      omega
    have e : (ByteArray.mk x.toArray ++ ByteArray.mk y.toArray) = ByteArray.mk (x ++ y).toArray := by
      apply ByteArray.ext; simp
    simp only [binOp, Op.stringOp]
    rw [if_neg (by simpa [ByteArray.size] using hn), e]
    rfl
  case eql => exact ⟨_, _, by simp [binOp, Op.stringOp], h, fun H => .bool _⟩
  case neq => exact ⟨_, _, by simp [binOp, Op.stringOp], h, fun H => .bool _⟩
  case lss => exact ⟨_, _, by simp [binOp, Op.stringOp], h, fun H => .bool _⟩
  case leq => exact ⟨_, _, by simp [binOp, Op.stringOp], h, fun H => .bool _⟩
  case gtr => exact ⟨_, _, by simp [binOp, Op.stringOp], h, fun H => .bool _⟩
  case geq => exact ⟨_, _, by simp [binOp, Op.stringOp], h, fun H => .bool _⟩

/-- The sum of two integers, strings, or the comparison of two of a kind. -/
def abin (P : Program) (op : BinOp) (t : TypeId) (x y : AV) (L : AV → Prop) : Prop :=
  match x with
  | .int k a => match y with
    | .int k' b => match op with
      | .shl => 0 ≤ b ∧ L (.int k (k.wrap (a * 2 ^ (min b.toNat k.bits))))
      | .shr => 0 ≤ b ∧ L (.int k (a.fdiv (2 ^ (min b.toNat k.bits))))
      | op => k = k' ∧ abinI op k a b L
    | _ => False
  | .str a => match y with
    | .str b => abinS op a b L
    | _ => False
  | .bool a => match y with
    | .bool b => P.underlying t = some .bool ∧ match op with
      | .eql => L (.bool (a == b))
      | .neq => L (.bool (!(a == b)))
      | _ => False
    | _ => False
  | _ => False

def aun (op : UnOp) (x : AV) (L : AV → Prop) : Prop :=
  match op with
  | .not => match x with | .bool b => L (.bool (!b)) | _ => False
  | .neg => match x with | .int k n => L (.int k (k.wrap (0 - n))) | _ => False
  | .plus => False
  | .xor => match x with | .int k n => L (.int k (k.wrap (BitVec.ofInt k.bits (if k.signed then -1 else k.max) ^^^ BitVec.ofInt k.bits n).toNat)) | _ => False

theorem run_equalIn_bool (d : Nat) {t : TypeId} (ht : P.underlying t = some .bool) (x y : Bool) : (Op.equalIn (d + 1) t (.bool x) (.bool y)).run P w = .ok (x == y) w := by
  simp [Op.equalIn, run_underlying ht]
theorem run_equal_bool {t : TypeId} (ht : P.underlying t = some .bool) (x y : Bool) : (Op.equal t (.bool x) (.bool y)).run P w = .ok (x == y) w := by
  unfold Op.equal; exact run_equalIn_bool 9999 ht x y

theorem bin_sound {op : BinOp} {t : TypeId} {x y : AV} {vx vy : Value} {L : AV → Prop} {H : HV} {io : Nat → Option Nat} (hx : Rel0 H io x vx) (hy : Rel0 H io y vy) (h : abin P op t x y L) :
    ∃ v av, (binOp op t vx vy).run P w = .ok v w ∧ L av ∧ ∀ H, RelI H av v := by
  cases x <;> simp only [abin] at h
  case int k a =>
    cases y <;> simp only at h
    rename_i k' b
    rw [hx.int_inv, hy.int_inv]
    cases op <;> simp only at h <;> first
      | (obtain ⟨rfl, h⟩ := h; exact binI_sound h)
      | exact ⟨_, _, by simp [binOp, Op.shift, show ¬ b < 0 by omega], h.2, fun H => .int _ _⟩
  case str s =>
    cases y <;> simp only at h
    rename_i s'
    rw [hx.str_inv, hy.str_inv]
    exact binS_sound h
  case bool b =>
    cases y <;> simp only at h
    rename_i b'
    rw [hx.bool_inv, hy.bool_inv]
    obtain ⟨ht, h⟩ := h
    cases op <;> simp only at h
    · exact ⟨_, _, by simp only [binOp, Sem.run_bind, run_equal_bool ht, Result.andThen_ok, Sem.run_pure], h, fun H => .bool _⟩
    · exact ⟨_, _, by simp only [binOp, Sem.run_bind, run_equal_bool ht, Result.andThen_ok, Sem.run_pure], h, fun H => .bool _⟩

theorem un_sound {op : UnOp} {x : AV} {vx : Value} {L : AV → Prop} {H : HV} {io : Nat → Option Nat} (hx : Rel0 H io x vx) (h : aun op x L) :
    ∃ v av, (Op.unary op vx).run P w = .ok v w ∧ L av ∧ ∀ H, RelI H av v := by
  cases op <;> simp only [aun] at h <;> cases x <;> simp only at h
  case neg.int k n => rw [hx.int_inv]; exact ⟨_, _, by simp [Op.unary, Op.intArith], h, fun H => .int _ _⟩
  case not.bool b => rw [hx.bool_inv]; exact ⟨_, _, by simp [Op.unary], h, fun H => .bool _⟩
  case xor.int k n => rw [hx.int_inv]; exact ⟨_, _, by simp [Op.unary, Op.intBits], h, fun H => .int _ _⟩

theorem eqGuard_ok {op : BinOp} {t : TypeId} {ox oy : Operand} {x y : AV} {vx vy : Value} {L : AV → Prop} {H : HV} {io : Nat → Option Nat} (hx : Rel0 H io x vx) (h : abin P op t x y L) :
    (eqGuard op t ox oy vx vy).run P w = .ok () w := by
  cases x <;> simp only [abin] at h
  case int k a => rw [hx.int_inv]; simp only [eqGuard]; split <;> simp
  case str s => rw [hx.str_inv]; simp only [eqGuard]; split <;> simp
  case bool b => rw [hx.bool_inv]; simp only [eqGuard]; split <;> simp
end

end AH
