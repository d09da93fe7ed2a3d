/- What an operation does hangs on its operands, and on the boxes that they point to, alone. -/
import Derived.Test.YtghdepbcnckfpaaAhWp0
namespace AH
open Go Go.RowKit

def Det1 (F : (AV → Prop) → Prop) : Prop := ∀ L, F L → ∃ av, L av ∧ ∀ L', L' av → F L'

theorem abinI_det (op : BinOp) (k : IntKind) (a b : Int) : Det1 (abinI op k a b) := by
  intro L h
  cases op <;> simp only [abinI] at h ⊢ <;> first | exact h.elim | exact ⟨_, h.2, fun _ h' => ⟨h.1, h'⟩⟩ | exact ⟨_, h, fun _ h' => h'⟩ | (simp only [abits] at h ⊢; exact ⟨_, h, fun _ h' => h'⟩)
theorem abinS_det (op : BinOp) (a b : List UInt8) : Det1 (abinS op a b) := by
  intro L h
  cases op <;> simp only [abinS] at h ⊢ <;> first | exact h.elim | exact ⟨_, h.2, fun _ h' => ⟨h.1, h'⟩⟩ | exact ⟨_, h, fun _ h' => h'⟩
theorem abin_det (P : Program) (op : BinOp) (t : TypeId) (x y : AV) : Det1 (abin P op t x y) := by
  intro L h
  cases x <;> simp only [abin] at h ⊢
  case int k a =>
    cases y <;> simp only at h ⊢
    case int k' b =>
      cases op <;> simp only at h ⊢ <;> first
        | exact ⟨_, h.2, fun _ h' => ⟨h.1, h'⟩⟩
        | (obtain ⟨av, h1, h2⟩ := abinI_det _ k a b L h.2; exact ⟨av, h1, fun L' h' => ⟨h.1, h2 L' h'⟩⟩)
  case str a =>
    cases y <;> simp only at h ⊢
    exact abinS_det _ _ _ L h
  case bool a =>
    cases y <;> simp only at h ⊢
    cases op <;> simp only [and_false] at h ⊢ <;> exact ⟨_, h.2, fun _ h' => ⟨h.1, h'⟩⟩
theorem aun_det (op : UnOp) (x : AV) : Det1 (aun op x) := by
  intro L h
  cases op <;> simp only [aun] at h ⊢ <;> cases x <;> simp only at h ⊢ <;> exact ⟨_, h, fun _ h' => h'⟩
theorem aconv_det (P : Program) (src to : TypeId) (x : AV) : Det1 (aconv P src to x) := by
  intro L h
  cases x <;> simp only [aconv] at h ⊢
  case int k n =>
    split at h
    · exact ⟨_, h.2, fun _ h' => ⟨h.1, h'⟩⟩
    · exact h.elim
  case str s => exact ⟨_, h.2.2, fun _ h' => ⟨h.1, h.2.1, h'⟩⟩
theorem afieldAddr_det (P : Program) (s : TypeId) (x : AV) (f : Nat) : Det1 (afieldAddr P s x f) := by
  intro L h
  unfold afieldAddr at h ⊢
  split at h
  · cases x <;> simp only [and_false] at h ⊢ <;> exact ⟨_, h.2, fun _ h' => ⟨h.1, h'⟩⟩
  · exact h.elim
theorem afield_det (P : Program) (s : TypeId) (x : AV) (f : Nat) : Det1 (afield P s x f) := by
  intro L h
  unfold afield at h ⊢
  split at h
  · cases x <;> simp only at h ⊢ <;> exact ⟨_, h.2, fun _ h' => ⟨h.1, h'⟩⟩
  · exact h.elim
theorem aindexAddr_det (P : Program) (t : TypeId) (x i : AV) : Det1 (aindexAddr P t x i) := by
  intro L h
  unfold aindexAddr at h ⊢
  split at h
  · cases x <;> simp only at h ⊢
    cases i <;> simp only at h ⊢
    exact ⟨_, h.2, fun _ h' => ⟨h.1, h'⟩⟩
  · exact h.elim
theorem aindex_det (t : Option TypeDesc) (x i : AV) : Det1 (aindex t x i) := by
  intro L h
  unfold aindex at h ⊢
  split at h
  · cases x <;> simp only at h ⊢
    cases i <;> simp only at h ⊢
    exact ⟨_, h.2, fun _ h' => ⟨h.1, h'⟩⟩
  · exact h.elim
theorem aslice_det (P : Program) (t : TypeId) (x : AV) (lo hi mx : Option AV) : Det1 (aslice P t x lo hi mx) := by
  intro L h
  cases x <;> simp only [aslice] at h ⊢
  case str s =>
    split at h
    · split at h
      · exact ⟨_, h.2, fun _ h' => ⟨h.1, h'⟩⟩
      · exact h.elim
    · exact h.elim
  case sl sz xs =>
    split at h
    · split at h
      · split at h
        · exact ⟨_, h.2, fun _ h' => ⟨h.1, h'⟩⟩
        · exact ⟨_, h.2, fun _ h' => ⟨h.1, h'⟩⟩
        · exact h.elim
      · exact h.elim
    · exact h.elim
  case nil =>
    split at h
    · split at h
      · split at h
        · exact ⟨_, h.2, fun _ h' => ⟨h.1, h'⟩⟩
        · exact ⟨_, h.2, fun _ h' => ⟨h.1, h'⟩⟩
        · exact h.elim
      · exact h.elim
    · exact h.elim
theorem amaxL_det (big : Bool) (k : IntKind) : ∀ (l : List AV) (a : Int), Det1 (amaxL big k a l)
  | [], a => fun L h => ⟨_, h, fun _ h' => h'⟩
  | x :: l, a => fun L h => by
    cases x <;> simp only [amaxL] at h ⊢
    obtain ⟨av, h1, h2⟩ := amaxL_det big k l _ L h.2
    exact ⟨av, h1, fun L' h' => ⟨h.1, h2 L' h'⟩⟩
theorem amax_det (big : Bool) (l : List AV) : Det1 (amax big l) := by
  intro L h
  cases l with
  | nil => exact h.elim
  | cons x l =>
    cases x with
    | int k a => exact amaxL_det big _ l _ L h
    | _ => exact h.elim
theorem alen_det (P : Program) (t : TypeId) (x : AV) : Det1 (alen P t x) := by
  intro L h
  cases x <;> simp only [alen] at h <;> exact ⟨_, h.2, fun _ h' => ⟨h.1, h'⟩⟩
theorem abuild_det (P : Program) (t : TypeId) (ps : List (Nat × AV)) : Det1 (abuild P t ps) := by
  intro L h
  unfold abuild at h ⊢
  split at h
  · split at h
    · obtain ⟨h0, h⟩ := h
      split at h
      · exact ⟨_, h, fun _ h' => ⟨h0, h'⟩⟩
      · exact h.elim
    · exact h.elim
  · exact h.elim
theorem abuildSlice_det (P : Program) (t : TypeId) (n : Nat) (ps : List (Nat × AV)) : Det1 (abuildSlice P t n ps) := by
  intro L h
  unfold abuildSlice at h ⊢
  split at h
  · exact ⟨_, h.2, fun _ h' => ⟨h.1, h'⟩⟩
  · exact h.elim

/-- What an operation leaves: slots that are written, and at most one box. -/
structure Eff where
  puts : List (Nat × AV)
  box : Option (Nat × (Nat × List AV))

def St.app (st : St) (e : Eff) : St :=
  { st with sl := e.puts ++ st.sl, hp := match e.box with | some b => st.hp.set b.1 b.2 | none => st.hp }

structure Agr (ad : Option Operand) (xs : List Operand) (st st2 : St) : Prop where
  n : st.n = st2.n
  ev : ∀ x ∈ xs, st.ev x = st2.ev x
  hp : ∀ x, ad = some x → ∀ id sz i off, st.ev x = .ptr id sz i off → st.hp[id]? = st2.hp[id]?

/-- The operand by which an operation reaches a box. -/
def adr (op : Op) : Option Operand :=
  match op with
  | .load _ x => some x
  | .store _ x _ => some x
  | _ => none

/-- The slots that an operation may write besides. -/
def wrB (fut : Bool) (o : Oper) : List Nat :=
  match o.op with
  | .move (.tmp x) => if fut then [x] else []
  | .assign (.tmp x) => [x]
  | .store _ _ (.tmp x) => [x]
  | .call c => match c.callee with
    | .builtin .append => match c.args.toList with
      | .tmp x :: _ => [x]
      | _ => []
    | _ => []
  | _ => []

def wr (fut : Bool) (o : Oper) : List Nat := o.dst.toList ++ wrB fut o

/-- Does it touch the boxes: not at all, by reading, by writing? -/
inductive Hk where
  | no | rd | wr
def hk (fut : Bool) (o : Oper) : Hk :=
  match o.op with
  | .load .. => if fut then .wr else .rd
  | .store .. => .wr
  | _ => .no

def aextractD (x : Operand) (j : Nat) (st : St) (K : AV → St → Prop) : Prop :=
  match st.ev x with
  | .tup vs => match vs[j]? with
    | some v => (∀ us, v ≠ .tup us) ∧ K v.dem0 st
    | none => False
  | _ => False

/-- An operation in a region that draws its order: a part of a tuple is handed on for reading alone; no new variable here. -/
def astepD (P : Program) (o : Oper) (fut : Bool) (st : St) (K : St → Prop) : Prop :=
  match o.op with
  | .extract x j => aextractD x j st (kput K o.dst)
  | .alloc _ => False
  | .box _ _ => False
  | _ => astep P o fut st K

/-- The form of what an operation does. -/
def Loc (P : Program) (o : Oper) (fut : Bool) (st : St) (K : St → Prop) (F : Program → Oper → Bool → St → (St → Prop) → Prop) : Prop :=
  ∃ e : Eff, K (st.app e) ∧ (∀ p ∈ e.puts, p.1 ∈ wr fut o) ∧ (∀ id b, e.box = some (id, b) → hk fut o = .wr ∧ ∃ x, adr o.op = some x ∧ ∃ sz i off, st.ev x = .ptr id sz i off ∧ ∃ c, st.hp[id]? = some c ∧ c.2 ≠ [] ∧ b.2 ≠ []) ∧
    (∀ x, adr o.op = some x → ∀ id sz i off, st.ev x = .ptr id sz i off → ∃ c, st.hp[id]? = some c ∧ c.2 ≠ []) ∧
    ∀ st2, Agr (adr o.op) o.op.operands.toList st st2 → F P o fut st2 fun s => s = st2.app e

section
variable {P : Program} {o : Oper} {fut : Bool} {st : St} {K : St → Prop}

theorem app_put (st : St) (d : Option Nat) (v : AV) : st.app ⟨d.toList.map (·, v), none⟩ = st.putO d v := by
  cases d <;> rfl

/-- An operation that writes its own slot alone. -/
theorem loc_plain (hno : adr o.op = none) {F : Program → Oper → Bool → St → (St → Prop) → Prop} (f : St → (AV → Prop) → Prop) (hf : ∀ st2, Agr (adr o.op) o.op.operands.toList st st2 → f st2 = f st) (hF : ∀ st K, F P o fut st K ↔ f st (fun av => K (st.putO o.dst av)))
    (hdet : Det1 (f st)) (h : F P o fut st K) : Loc P o fut st K F := by
  obtain ⟨av, h1, h2⟩ := hdet _ ((hF st K).1 h)
  refine ⟨⟨o.dst.toList.map (·, av), none⟩, by rw [app_put]; exact h1, fun p hp => ?_, (fun id b hb => by cases hb), fun x e => (by rw [hno] at e; cases e), fun st2 ha => ?_⟩
  · simp only [List.mem_map] at hp
    obtain ⟨d, hd, rfl⟩ := hp
    exact List.mem_append_left _ hd
  · refine (hF st2 _).2 ?_
    rw [hf st2 ha]
    exact h2 _ (app_put _ _ _).symm

/-- The same, where the form is asked of the states at hand alone. -/
theorem loc_plain' {F : Program → Oper → Bool → St → (St → Prop) → Prop} (f : (AV → Prop) → Prop) (h1 : f fun av => K (st.putO o.dst av)) (hdet : Det1 f)
    (hhk : ∀ x, adr o.op = some x → ∀ id sz i off, st.ev x = .ptr id sz i off → ∃ c, st.hp[id]? = some c ∧ c.2 ≠ [])
    (h2 : ∀ st2 K', Agr (adr o.op) o.op.operands.toList st st2 → f (fun av => K' (st2.putO o.dst av)) → F P o fut st2 K') : Loc P o fut st K F := by
  obtain ⟨av, ha, hb⟩ := hdet _ h1
  refine ⟨⟨o.dst.toList.map (·, av), none⟩, by rw [app_put]; exact ha, fun p hp => ?_, (fun id b hb => by cases hb), hhk, fun st2 hg => h2 st2 _ hg (hb _ (app_put _ _ _).symm)⟩
  simp only [List.mem_map] at hp
  obtain ⟨d, hd, rfl⟩ := hp
  exact List.mem_append_left _ hd

theorem det_const (v : AV) : Det1 fun L => L v := fun _ h => ⟨v, h, fun _ h' => h'⟩

/-- A move, or an assignment. -/
theorem amove_loc {x : Operand} {F : Program → Oper → Bool → St → (St → Prop) → Prop} (fut' : Bool) (hno : adr o.op = none) (hop : x ∈ o.op.operands.toList) (hw : ∀ t, x = .tmp t → fut' = true → t ∈ wrB fut o)
    (hF : ∀ st K, F P o fut st K ↔ amove fut' x st (kput K o.dst)) (h : F P o fut st K) : Loc P o fut st K F := by
  have h := (hF st K).1 h
  cases x with
  | tmp t =>
    have hev : ∀ st2, Agr (adr o.op) o.op.operands.toList st st2 → st2.get t = st.get t := fun st2 ha => (ha.ev (.tmp t) hop).symm
    cases hg : st.get t with
    | own sz xs =>
      cases fut' with
      | true =>
        have h' : K ((st.put t (.sl sz xs)).putO o.dst (.own sz xs)) := by
          simp only [amove, hg, if_true] at h; exact h
        refine ⟨⟨o.dst.toList.map (·, .own sz xs) ++ [(t, .sl sz xs)], none⟩, ?_, fun p hp => ?_, (fun id b hb => by cases hb), fun x e => (by rw [hno] at e; cases e), fun st2 ha => ?_⟩
        · have : st.app ⟨o.dst.toList.map (·, .own sz xs) ++ [(t, .sl sz xs)], none⟩ = (st.put t (.sl sz xs)).putO o.dst (.own sz xs) := by cases o.dst <;> rfl
          rw [this]; exact h'
        · simp only [List.mem_append, List.mem_map, List.mem_singleton] at hp
          rcases hp with ⟨d, hd, rfl⟩ | rfl
          · exact List.mem_append_left _ hd
          · exact List.mem_append_right _ (hw t rfl rfl)
        · refine (hF st2 _).2 ?_
          simp only [amove, hev st2 ha, hg, if_true]
          show (st2.put t (.sl sz xs)).putO o.dst (.own sz xs) = _
          cases o.dst <;> rfl
      | false =>
        refine loc_plain' (fun L => L (.sl sz xs)) ?_ (det_const _) (fun x e => by rw [hno] at e; cases e) (fun st2 K' ha hk => (hF st2 _).2 ?_)
        · simp only [amove, hg] at h; exact h
        · simp only [amove, hev st2 ha, hg]; exact hk
    | tup vs =>
      refine loc_plain' (fun L => L (.tup (vs.map AV.dem0))) ?_ (det_const _) (fun x e => by rw [hno] at e; cases e) (fun st2 K' ha hk => (hF st2 _).2 ?_)
      · simp only [amove, hg] at h; exact h
      · simp only [amove, hev st2 ha, hg]; exact hk
    | _ =>
      refine loc_plain' (fun L => L (st.get t)) ?_ (det_const _) (fun x e => by rw [hno] at e; cases e) (fun st2 K' ha hk => (hF st2 _).2 ?_)
      · simp only [amove, hg] at h; rw [hg]; exact h
      · simp only [amove, hev st2 ha, hg]; rw [hg] at hk; exact hk
  | const v => exact loc_plain' (fun L => L (ofV v)) h (det_const _) (fun x e => by rw [hno] at e; cases e) (fun st2 K' _ hk => (hF st2 _).2 hk)
  | func f => exact loc_plain' (fun L => L (.fn f [])) h (det_const _) (fun x e => by rw [hno] at e; cases e) (fun st2 K' _ hk => (hF st2 _).2 hk)
  | global g => exact loc_plain' (fun L => L .undef) h (det_const _) (fun x e => by rw [hno] at e; cases e) (fun st2 K' _ hk => (hF st2 _).2 hk)

theorem Agr.evD {ad : Option Operand} {xs : List Operand} {st st2 : St} (h : Agr ad xs st st2) {x : Operand} (hx : x ∈ xs) : st2.evD x = st.evD x := by unfold St.evD; rw [h.ev x hx]

theorem Agr.map_ev {ad : Option Operand} {xs : List Operand} {st st2 : St} (h : Agr ad xs st st2) {l : List Operand} (hl : ∀ x ∈ l, x ∈ xs) : l.map st2.ev = l.map st.ev := List.map_congr_left fun x hx => (h.ev x (hl x hx)).symm
theorem Agr.map_evD {ad : Option Operand} {xs : List Operand} {st st2 : St} (h : Agr ad xs st st2) {l : List Operand} (hl : ∀ x ∈ l, x ∈ xs) : l.map st2.evD = l.map st.evD := List.map_congr_left fun x hx => h.evD (hl x hx)

theorem Agr.opt {ad : Option Operand} {xs : List Operand} {st st2 : St} (h : Agr ad xs st st2) {l : Option Operand} (hl : ∀ x ∈ l.toList, x ∈ xs) : l.map st2.evD = l.map st.evD := by
  cases l with
  | none => rfl
  | some x => simp only [Option.map_some]; rw [h.evD (hl x (by simp))]

/-- In a region that draws its order: no append of what was read for it out of a box. -/
theorem astepD_loc (hb : ∀ t x, o.op = .load t x → fut = false) (h : astepD P o fut st K) : Loc P o fut st K (fun P o fut st K => astepD P o fut st K) := by
  obtain ⟨dst, op, type, pos, after, guard⟩ := o
  have fin : ∀ (f : St → (AV → Prop) → Prop), adr op = none → (∀ st2, Agr (adr op) op.operands.toList st st2 → f st2 = f st) →
      (∀ st K, astepD P ⟨dst, op, type, pos, after, guard⟩ fut st K ↔ f st (fun av => K (st.putO dst av))) → Det1 (f st) → Loc P ⟨dst, op, type, pos, after, guard⟩ fut st K (fun P o fut st K => astepD P o fut st K) :=
    fun f h1 h2 h3 h4 => loc_plain h1 f h2 h3 h4 h
  cases op with
  | binOp op t x y ty =>
    exact fin (fun st => abin P op t (st.ev x) (st.ev y)) rfl (fun st2 ha => by rw [ha.ev x (by simp [Op.operands]), ha.ev y (by simp [Op.operands])]) (fun _ _ => Iff.rfl) (abin_det _ _ _ _ _)
  | unOp op t x => exact fin (fun st => aun op (st.ev x)) rfl (fun st2 ha => by rw [ha.ev x (by simp [Op.operands])]) (fun _ _ => Iff.rfl) (aun_det _ _)
  | convert s t x => exact fin (fun st => aconv P s t (st.ev x)) rfl (fun st2 ha => by rw [ha.ev x (by simp [Op.operands])]) (fun _ _ => Iff.rfl) (aconv_det _ _ _ _)
  | fieldAddr s x f => exact fin (fun st => afieldAddr P s (st.ev x) f) rfl (fun st2 ha => by rw [ha.ev x (by simp [Op.operands])]) (fun _ _ => Iff.rfl) (afieldAddr_det _ _ _ _)
  | field s x f => exact fin (fun st => afield P s (st.ev x) f) rfl (fun st2 ha => by rw [ha.ev x (by simp [Op.operands])]) (fun _ _ => Iff.rfl) (afield_det _ _ _ _)
  | indexAddr t x i => exact fin (fun st => aindexAddr P t (st.ev x).dem0 (st.ev i)) rfl (fun st2 ha => by rw [ha.ev x (by simp [Op.operands]), ha.ev i (by simp [Op.operands])]) (fun _ _ => Iff.rfl) (aindexAddr_det _ _ _ _)
  | index t x i => exact fin (fun st => aindex (P.underlying t) (st.ev x) (st.ev i)) rfl (fun st2 ha => by rw [ha.ev x (by simp [Op.operands]), ha.ev i (by simp [Op.operands])]) (fun _ _ => Iff.rfl) (aindex_det _ _ _)
  | slice t x lo hi mx =>
    exact fin (fun st => aslice P t (st.evD x) (lo.map st.evD) (hi.map st.evD) (mx.map st.evD)) rfl (fun st2 ha => by
      rw [ha.evD (x := x) (by simp [Op.operands]), ha.opt (l := lo) (fun y hy => by simp [Op.operands] at hy ⊢; simp [hy]), ha.opt (l := hi) (fun y hy => by simp [Op.operands] at hy ⊢; simp [hy]), ha.opt (l := mx) (fun y hy => by simp [Op.operands] at hy ⊢; simp [hy])])
      (fun _ _ => Iff.rfl) (aslice_det _ _ _ _ _ _)
  | build t ps =>
    refine fin (fun st => abuild P t (ps.toList.map fun p => (p.1, st.evD p.2))) rfl (fun st2 ha => ?_) (fun _ _ => Iff.rfl) (abuild_det _ _ _)
    have : (ps.toList.map fun p => (p.1, st2.evD p.2)) = ps.toList.map fun p => (p.1, st.evD p.2) := List.map_congr_left fun p hp => by
      rw [ha.evD (x := p.2) (by simp only [Op.operands, List.mem_map]; exact ⟨p, hp, rfl⟩)]
    show abuild P t _ = abuild P t _
    rw [this]
  | buildSlice t n ps =>
    refine fin (fun st => abuildSlice P t n (ps.toList.map fun p => (p.1, st.evD p.2))) rfl (fun st2 ha => ?_) (fun _ _ => Iff.rfl) (abuildSlice_det _ _ _ _)
    have : (ps.toList.map fun p => (p.1, st2.evD p.2)) = ps.toList.map fun p => (p.1, st.evD p.2) := List.map_congr_left fun p hp => by
      rw [ha.evD (x := p.2) (by simp only [Op.operands, List.mem_map]; exact ⟨p, hp, rfl⟩)]
    show abuildSlice P t n _ = abuildSlice P t n _
    rw [this]
  | pick c x y =>
    refine fin (fun st L => match st.ev c with | .bool b => if b = true then L (st.evD x) else L (st.evD y) | _ => False) rfl (fun st2 ha => by
      rw [ha.ev c (by simp [Op.operands]), ha.evD (x := x) (by simp [Op.operands]), ha.evD (x := y) (by simp [Op.operands])]) (fun st K => Iff.rfl) (fun L h => ?_)
    · split at h
      · rename_i b hb
        split at h
        · rename_i hb'; exact ⟨_, h, fun L' h' => by show (if b = true then L' (st.evD x) else L' (st.evD y)); rw [if_pos hb']; exact h'⟩
        · rename_i hb'; exact ⟨_, h, fun L' h' => by show (if b = true then L' (st.evD x) else L' (st.evD y)); rw [if_neg hb']; exact h'⟩
      · exact h.elim
  | makeFunc fn first caps =>
    cases fn with
    | func f =>
      refine fin (fun st L => first.size = 0 ∧ L (.fn f (caps.toList.map st.evD))) rfl (fun st2 ha => by
        rw [ha.map_evD (l := caps.toList) (fun y hy => by simp [Op.operands] at hy ⊢; simp [hy])]) (fun _ _ => Iff.rfl) (fun L h => ⟨_, h.2, fun _ h' => ⟨h.1, h'⟩⟩)
    | _ => exact h.elim
  | nilCheck x =>
    refine fin (fun st L => match st.ev x with
      | .ptr id sz i off => L (.ptr id sz i off)
      | .ip sz xs i off => L (.ip sz xs i off)
      | .fn f cs => L (.fn f cs)
      | _ => False) rfl (fun st2 ha => by rw [ha.ev x (by simp [Op.operands])]) (fun st K => Iff.rfl) (fun L h => ?_)
    cases hx : st.ev x <;> simp only [hx] at h ⊢ <;> exact ⟨_, h, fun _ h' => h'⟩
  | extract x j =>
    refine fin (fun st L => match st.ev x with
      | .tup vs => match vs[j]? with
        | some v => (∀ us, v ≠ .tup us) ∧ L v.dem0
        | none => False
      | _ => False) rfl (fun st2 ha => by rw [ha.ev x (by simp [Op.operands])]) (fun st K => Iff.rfl) (fun L h => ?_)
    cases hx : st.ev x <;> simp only [hx] at h ⊢
    split at h
    · exact ⟨_, h.2, fun _ h' => ⟨h.1, h'⟩⟩
    · exact h.elim
  | move x =>
    exact amove_loc (x := x) fut rfl (by simp [Op.operands]) (fun t e hf => by subst e; subst hf; simp [wrB]) (fun _ _ => Iff.rfl) h
  | assign x =>
    exact amove_loc (x := x) true rfl (by simp [Op.operands]) (fun t e hf => by subst e; simp [wrB]) (fun _ _ => Iff.rfl) h
  | load t x =>
    have hf : fut = false := hb t x rfl
    subst hf
    have h : aload P false t (st.ev x) st (kput K dst) := h
    unfold aload at h
    split at h
    · rename_i n g ht
      split at h
      · rename_i sz xs i off he
        refine loc_plain' (fun L => off + (if g then n else 1) ≤ sz ∧ L (partD g n off ((xs[i]?).getD .undef))) h (fun L h => ⟨_, h.2, fun _ h' => ⟨h.1, h'⟩⟩) (fun x' ex id sz i off e => by cases ex; rw [he] at e; cases e) (fun st2 K' ha hk => ?_)
        show aload P false t (st2.ev x) st2 _
        rw [← ha.ev x (by simp [Op.operands]), he]
        simp only [aload, ht]
        exact hk
      · rename_i id sz i off he
        split at h
        · rename_i sz' xs hid
          obtain ⟨hc, h⟩ := h
          refine loc_plain' (fun L => (sz' = sz ∧ i < xs.length ∧ off + (if g then n else 1) ≤ sz) ∧ L (partD g n off ((xs[i]?).getD .undef).demc)) ⟨hc, by simpa [kput] using h⟩ (fun L h => ⟨_, h.2, fun _ h' => ⟨h.1, h'⟩⟩)
            (fun x' ex id2 sz2 i2 off2 e => by cases ex; rw [he] at e; cases e; exact ⟨_, hid, fun e => by simp only at e; rw [e] at hc; simp at hc⟩) (fun st2 K' ha hk => ?_)
          show aload P false t (st2.ev x) st2 _
          have hid2 := ha.hp x rfl id sz i off he
          rw [← ha.ev x (by simp [Op.operands]), he]
          simp only [aload, ht, ← hid2, hid]
          exact ⟨hk.1, by simpa [kput] using hk.2⟩
        · exact h.elim
      · exact h.elim
    · exact h.elim
  | call c =>
    obtain ⟨callee, args, argTypes⟩ := c
    cases callee with
    | value f =>
      cases f with
      | func f =>
        have h : acallF P f args.toList dst st K := h
        obtain ⟨him, r, hp, hk⟩ := h
        have hargs : ∀ y ∈ args.toList, y ∈ (Op.call ⟨.value (.func f), args, argTypes⟩).operands.toList := fun y hy => by
          simp only [Op.operands, Call.operands, Array.toList_append, List.mem_append]
          exact .inr hy
        refine loc_plain' (fun L => L r) hk (det_const _) (fun x e => by cases e) (fun st2 K' ha hk => ?_)
        show acallF P f args.toList dst st2 K'
        unfold acallF
        rw [ha.map_evD hargs]
        exact ⟨him, r, hp, hk⟩
      | _ => exact h.elim
    | invoke r m => exact h.elim
    | builtin b =>
      have hargs : ∀ y ∈ args.toList, y ∈ (Op.call ⟨.builtin b, args, argTypes⟩).operands.toList := fun y hy => by
        simp only [Op.operands, Call.operands, Array.toList_append, List.mem_append]
        exact .inr hy
      have h : abuiltin P b argTypes.toList args.toList st dst (kput K dst) := h
      cases b with
      | len =>
        simp only [abuiltin] at h
        split at h
        · rename_i t x ht hx
          refine fin (fun st => alen P t (st.ev x)) rfl (fun st2 ha => by rw [ha.ev x (hargs x (by rw [hx]; simp))]) (fun st K => ?_) (alen_det _ _ _)
          show abuiltin P .len argTypes.toList args.toList st dst (kput K dst) ↔ _
          simp only [abuiltin, ht, hx]
          exact Iff.rfl
        · exact h.elim
      | max => exact fin (fun st => amax true (args.toList.map st.ev)) rfl (fun st2 ha => by rw [ha.map_ev hargs]) (fun _ _ => Iff.rfl) (amax_det _ _)
      | min => exact fin (fun st => amax false (args.toList.map st.ev)) rfl (fun st2 ha => by rw [ha.map_ev hargs]) (fun _ _ => Iff.rfl) (amax_det _ _)
      | append =>
        simp only [abuiltin] at h
        split at h
        · rename_i t t' s x ht hx
          have hs : s ∈ (Op.call ⟨.builtin .append, args, argTypes⟩).operands.toList := hargs s (by rw [hx]; simp)
          have hx' : x ∈ (Op.call ⟨.builtin .append, args, argTypes⟩).operands.toList := hargs x (by rw [hx]; simp)
          have hshow : ∀ st2 K', aappend P t t' s (st2.evD x) st2 dst (kput K' dst) → astepD P ⟨dst, .call ⟨.builtin .append, args, argTypes⟩, type, pos, after, guard⟩ fut st2 K' := fun st2 K' h' => by
            show abuiltin P .append argTypes.toList args.toList st2 dst (kput K' dst)
            simp only [abuiltin, ht, hx]
            exact h'
          unfold aappend at h
          split at h
          · rename_i sz by_ hg
            obtain ⟨h0, h⟩ := h
            split at h
            · rename_i z ys hm
              obtain ⟨hz, h⟩ := h
              split at h
              · rename_i he
                obtain ⟨hb1, h⟩ := h
                refine loc_plain' (fun L => if ys.isEmpty then L .nil else L (.own sz ys)) (by split at h <;> rename_i hy <;> simp [hy] <;> exact h) (fun L h => ?_) (fun x e => by cases e) (fun st2 K' ha hk => hshow st2 K' ?_)
                · split at h
                  · rename_i hy; exact ⟨_, h, fun L' h' => by simp only [hy, if_true]; exact h'⟩
                  · rename_i hy; exact ⟨_, h, fun L' h' => by simp [hy]; exact h'⟩
                · unfold aappend
                  simp only [hg, ha.evD hx', hm, ← ha.ev s hs, he]
                  refine ⟨h0, hz, hb1, ?_⟩
                  split <;> rename_i hy <;> simp [hy] at hk <;> exact hk
              · rename_i z' xs he
                obtain ⟨hb1, h⟩ := h
                split at h
                · rename_i k
                  refine ⟨⟨dst.toList.map (·, .own sz (xs ++ ys)) ++ [(k, .undef)], none⟩, ?_, fun p hp => ?_, (fun id b hb => by cases hb), fun x e => (by cases e), fun st2 ha => hshow st2 _ ?_⟩
                  · cases dst <;> exact h
                  · simp only [List.mem_append, List.mem_map, List.mem_singleton] at hp
                    rcases hp with ⟨d, hd, rfl⟩ | rfl
                    · exact List.mem_append_left _ hd
                    · exact List.mem_append_right _ (by simp [wrB, hx])
                  · unfold aappend
                    simp only [hg, ha.evD hx', hm, ← ha.ev _ hs, he]
                    refine ⟨h0, hz, hb1, ?_⟩
                    cases dst <;> rfl
                · exact h.elim
              · exact h.elim
            · exact h.elim
          · exact h.elim
        · exact h.elim
      | _ => exact h.elim
  | store t x y =>
    obtain ⟨hd, h⟩ : dst = none ∧ astore P t (st.ev x) y st (kput K dst) := h
    subst hd
    have hx : x ∈ (Op.store t x y).operands.toList := by simp [Op.operands]
    have hy : y ∈ (Op.store t x y).operands.toList := by simp [Op.operands]
    have hshow : ∀ st2 K', astore P t (st2.ev x) y st2 (kput K' none) → astepD P ⟨none, .store t x y, type, pos, after, guard⟩ fut st2 K' := fun st2 K' h' => ⟨rfl, h'⟩
    unfold astore at h
    split at h
    · rename_i n g ht
      split at h
      · rename_i id sz i off he
        split at h
        · rename_i sz' xs hid
          obtain ⟨hc, h⟩ := h
          have hne : xs ≠ [] := fun e => by rw [e] at hc; simp at hc
          have hbox : ∀ (v : List AV) (id2 : Nat) (b : Nat × List AV), some (id, (sz', xs.set i (((xs[i]?).getD .undef).upd off v))) = some (id2, b) →
              hk fut ⟨none, .store t x y, type, pos, after, guard⟩ = .wr ∧ ∃ x', adr (Op.store t x y) = some x' ∧ ∃ sz i off, st.ev x' = .ptr id2 sz i off ∧ ∃ c, st.hp[id2]? = some c ∧ c.2 ≠ [] ∧ b.2 ≠ [] := fun v id2 b e => by
            cases e
            exact ⟨rfl, x, rfl, sz, i, off, he, _, hid, hne, by simpa using hne⟩
          have hhk : ∀ x', adr (Op.store t x y) = some x' → ∀ id sz i off, st.ev x' = .ptr id sz i off → ∃ c, st.hp[id]? = some c ∧ c.2 ≠ [] :=
            fun x' ex id2 sz2 i2 off2 e => by cases ex; rw [he] at e; cases e; exact ⟨_, hid, hne⟩
          have plain : ∀ v : AV, (v.okc = true ∧ v.cells.length = n ∧ (((xs[i]?).getD .undef).isA || v.one) = true) → K { st with hp := st.hp.set id (sz', xs.set i (((xs[i]?).getD .undef).upd off v.cells)) } →
              (∀ st2, Agr (adr (Op.store t x y)) (Op.store t x y).operands.toList st st2 → ∀ K' : St → Prop, K' { st2 with hp := st2.hp.set id (sz', xs.set i (((xs[i]?).getD .undef).upd off v.cells)) } → astore P t (st2.ev x) y st2 (kput K' none)) →
              Loc P ⟨none, .store t x y, type, pos, after, guard⟩ fut st K (fun P o fut st K => astepD P o fut st K) := fun v hv hk' h2 => by
            refine ⟨⟨[], some (id, (sz', xs.set i (((xs[i]?).getD .undef).upd off v.cells)))⟩, hk', (fun p hp => by cases hp), fun id2 b e => hbox _ id2 b e, hhk, fun st2 ha => hshow st2 _ (h2 st2 ha _ rfl)⟩
          split at h
          · rename_i s
            have hev : ∀ st2, Agr (adr (Op.store t x (.tmp s))) (Op.store t x (.tmp s)).operands.toList st st2 → st2.get s = st.get s := fun st2 ha => (ha.ev (.tmp s) hy).symm
            split at h
            · rename_i z ys hown
              obtain ⟨hn, h⟩ := h
              refine ⟨⟨[(s, .sl z ys)], some (id, (sz', xs.set i (((xs[i]?).getD .undef).upd off [.own z ys])))⟩, h, fun p hp => ?_, fun id2 b e => hbox _ id2 b e, hhk, fun st2 ha => hshow st2 _ ?_⟩
              · simp only [List.mem_singleton] at hp
                subst hp
                exact List.mem_append_right _ (by simp [wrB])
              · rw [← ha.ev x hx, he]
                unfold astore
                simp only [ht, ← ha.hp x rfl id sz i off he, hid, hev st2 ha, hown]
                exact ⟨hc, hn, rfl⟩
            · rename_i hno
              refine plain (st.get s) h.1 h.2 (fun st2 ha K' hk' => ?_)
              rw [← ha.ev x hx, he]
              unfold astore
              simp only [ht, ← ha.hp x rfl id sz i off he, hid, hev st2 ha]
              exact ⟨hc, h.1, hk'⟩
          · rename_i hno
            refine plain (st.ev y) h.1 h.2 (fun st2 ha K' hk' => ?_)
            rw [← ha.ev x hx, he]
            unfold astore
            simp only [ht, ← ha.hp x rfl id sz i off he, hid]
            refine ⟨hc, ?_⟩
            rw [← ha.ev y hy]; exact ⟨h.1, hk'⟩
        · exact h.elim
      · exact h.elim
    · exact h.elim
  | _ => exact h.elim
end
end AH
