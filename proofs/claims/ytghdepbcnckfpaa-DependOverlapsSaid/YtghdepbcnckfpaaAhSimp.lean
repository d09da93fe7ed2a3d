/- What the walk on abstract states rewrites by. -/
import Derived.Test.YtghdepbcnckfpaaAhFn
namespace AH
open Go Go.RowKit

theorem aops_cons (P : Program) (all : List Oper) (Q : Exit → St → Prop) (o : Oper) (r : List Oper) (st : St) : aops P all Q (o :: r) st = (dstOk o.dst st.n = true ∧ match o.guard with
    | none => astep P o (futB o.dst r) st (aops P all Q r)
    | some (j, want) => match gslot all j with
      | some g => match st.get g with
        | .bool t => if t = want then astep P o (futB o.dst r) (st.put g (.bool want)) (aops P all Q r) else aops P all Q r ((st.put g (.bool (!want))).putO o.dst .undef)
        | _ => False
      | none => False) := rfl
theorem aopsD_cons (P : Program) (all : List Oper) (Q : Exit → St → Prop) (r : Nat) (o : Oper) (l : List Oper) (st : St) : aopsD P all Q r (o :: l) st = (dstOk o.dst st.n = true ∧
    if isAl o = true then o.guard = none ∧ aallocR P o.op r st (kput (aopsD P all Q (r + 1) l) o.dst)
    else match o.guard with
      | none => astepD P o (futB o.dst l) st (aopsD P all Q r l)
      | some (j, want) => match gslot all j with
        | some g => match st.get g with
          | .bool t => if t = want then astepD P o (futB o.dst l) (st.put g (.bool want)) (aopsD P all Q r l) else aopsD P all Q r l ((st.put g (.bool (!want))).putO o.dst .undef)
          | _ => False
        | none => False) := rfl
theorem kput_app (K : St → Prop) (dst : Option Nat) (av : AV) (st : St) : kput K dst av st = K (st.putO dst av) := rfl
theorem kst_app (K : AV → St → Prop) (st : St) (av : AV) : kst K st av = K av st := rfl

/-- A struct type whose fields have their places. -/
def stI (P : Program) (t : TypeId) : Bool :=
  match P.underlying t with
  | some (.struct _) => fldsOk P t
  | _ => false
theorem abuild_eq (P : Program) (t : TypeId) (parts : List (Nat × AV)) (K : AV → Prop) : abuild P t parts K = (stI P t = true ∧ match zeroI P t with
    | some (.agg zs) => match afill (fun i => (fldI P t i).map fun x => (x.1, x.2.1)) zs parts with
      | some cs => K (.agg cs)
      | none => False
    | _ => False) := by
  unfold abuild stI
  cases P.underlying t with
  | none => simp
  | some d =>
    cases d <;> simp only [Bool.false_eq_true, false_and]
    cases zeroI P t with
    | none => simp
    | some z => cases z <;> first | rfl | simp only [and_false]

/-- The elements of a slice's literal. -/
def ixOk (n sz : Nat) : Nat → List (Nat × AV) → Prop
  | i, [] => i = n
  | i, p :: r => (p.1 = i ∧ p.2.okc = true ∧ p.2.imm = true ∧ p.2.cells.length = sz) ∧ ixOk n sz (i + 1) r
theorem ixOk_iff (n sz : Nat) : ∀ (l : List (Nat × AV)) (i : Nat), ixOk n sz i l ↔ (l.map (·.1) = List.range' i (n - i) ∧ i ≤ n ∧ ∀ p ∈ l, p.2.okc = true ∧ p.2.imm = true ∧ p.2.cells.length = sz)
  | [], i => by
    simp only [ixOk, List.map_nil, List.not_mem_nil, false_implies, implies_true, and_true]
    constructor
    · rintro rfl; simp
    · rintro ⟨h, hi⟩
      have := congrArg List.length h
      simp at this; omega
  | p :: r, i => by
    simp only [ixOk, ixOk_iff n sz r (i + 1), List.map_cons, List.forall_mem_cons]
    constructor
    · rintro ⟨⟨h1, h2⟩, h3, h4, h5⟩
      refine ⟨?_, by omega, h2, h5⟩
      rw [show n - i = (n - (i + 1)) + 1 by omega, List.range'_succ, h1, h3]
    · rintro ⟨h1, h2, h3, h4⟩
      have hn : n - i = (n - (i + 1)) + 1 := by
        have := congrArg List.length h1
        simp at this; omega
      rw [hn, List.range'_succ] at h1
      injection h1 with h1 h1'
      exact ⟨⟨h1, h3⟩, h1', by omega, h4⟩
theorem abuildSlice_eq (P : Program) (t : TypeId) (len : Nat) (parts : List (Nat × AV)) (K : AV → Prop) : abuildSlice P t len parts K = match elG P t with
    | some (sz, _) => (ixOk len sz 0 parts ∧ len * sz ≤ 16777216) ∧ K (.own sz (parts.map (·.2)))
    | none => False := by
  unfold abuildSlice
  cases elG P t with
  | none => rfl
  | some x =>
    obtain ⟨sz, _⟩ := x
    apply propext
    simp only
    rw [ixOk_iff, List.range_eq_range']
    simp [and_assoc]

attribute [go_sem ↓] awp_seq awp_block awp_skip awp_label awp_exit awp_ret awp_loop awp_region awp_region_draw awp_cond cont_nil cont_seq cont_seq_exit cont_seq_ret cont_block cont_block_ret cont_block_exit aops_nil aopsD_nil
attribute [go_sem ↓] aopsD_cons astepD aextractD aallocR aops_cons astep aval amove aload aindex afieldAddr afield aindexAddr aconv astore aextract abuild_eq abuildSlice_eq aslice amax amaxL alen aappend abuiltin acallF abin abinI abinS aun kst_app kput_app
theorem ev_tmp (st : St) (t : Nat) : st.ev (.tmp t) = st.get t := rfl
theorem ev_const (st : St) (v : Value) : st.ev (.const v) = ofV v := rfl
theorem ev_func (st : St) (f : Nat) : st.ev (.func f) = .fn f [] := rfl
theorem ofV_bool (b : Bool) : ofV (.bool b) = .bool b := rfl
theorem ofV_int (k : IntKind) (n : Int) : ofV (.int k n) = .int k n := rfl
theorem ofV_string (s : ByteArray) : ofV (.string s) = .str s.data.toList := rfl
theorem ofV_slice : ofV (.slice none 0 0) = .nil := rfl
theorem ofV_pointer : ofV (.pointer none) = .nilp := rfl
theorem ofV_nilFunc : ofV .nilFunc = .nilfn := rfl
theorem ofV_agg (cs : Array Value) : ofV (.agg cs) = if cs.toList.all (·.oneCell') then .agg (cs.toList.map ofV0) else .undef := rfl
theorem putO_some (st : St) (d : Nat) (v : AV) : st.putO (some d) v = st.put d v := rfl
theorem putO_none (st : St) (v : AV) : st.putO none v = st := rfl
def pevs (st : St) : List (Nat × Operand) → List (Nat × AV)
  | [] => []
  | (i, x) :: l => (i, st.evD x) :: pevs st l
theorem pevs_eq (st : St) : ∀ (l : List (Nat × Operand)), (l.map fun p => (p.1, st.evD p.2)) = pevs st l
  | [] => rfl
  | (i, x) :: l => by simp only [List.map_cons, pevs, pevs_eq st l]
attribute [go_sem ↓] pevs_eq
attribute [go_sem] ixOk pevs isAl newOf resv abits bnd St.get St.put putO_some putO_none ev_tmp ev_const ev_func ofV_bool ofV_int ofV_string ofV_slice ofV_pointer ofV_nilFunc ofV_agg St.evD lk dstOk futB gslot argSl AV.upd partD afill resOf resAVs resAV
theorem zdem0_undef  : AV.dem0 AV.undef = .undef := rfl
theorem zdem0_bool (b : Bool) : AV.dem0 (AV.bool b) = (.bool b) := rfl
theorem zdem0_int (k : IntKind) (n : Int) : AV.dem0 (AV.int k n) = (.int k n) := rfl
theorem zdem0_str (s : List UInt8) : AV.dem0 (AV.str s) = (.str s) := rfl
theorem zdem0_nil  : AV.dem0 AV.nil = .nil := rfl
theorem zdem0_sl (sz : Nat) (xs : List AV) : AV.dem0 (AV.sl sz xs) = (.sl sz xs) := rfl
theorem zdem0_own (sz : Nat) (xs : List AV) : AV.dem0 (AV.own sz xs) = .sl sz xs := rfl
theorem zdem0_ip (sz : Nat) (xs : List AV) (i off : Nat) : AV.dem0 (AV.ip sz xs i off) = (.ip sz xs i off) := rfl
theorem zdem0_ptr (id sz i off : Nat) : AV.dem0 (AV.ptr id sz i off) = (.ptr id sz i off) := rfl
theorem zdem0_nilp  : AV.dem0 AV.nilp = .nilp := rfl
theorem zdem0_fn (f : Nat) (cs : List AV) : AV.dem0 (AV.fn f cs) = (.fn f cs) := rfl
theorem zdem0_nilfn  : AV.dem0 AV.nilfn = .nilfn := rfl
theorem zdem0_agg (cs : List AV) : AV.dem0 (AV.agg cs) = (.agg cs) := rfl
theorem zdem0_tup (vs : List AV) : AV.dem0 (AV.tup vs) = (.tup vs) := rfl
theorem zdem_undef  : AV.dem AV.undef = .undef := rfl
theorem zdem_bool (b : Bool) : AV.dem (AV.bool b) = (.bool b) := rfl
theorem zdem_int (k : IntKind) (n : Int) : AV.dem (AV.int k n) = (.int k n) := rfl
theorem zdem_str (s : List UInt8) : AV.dem (AV.str s) = (.str s) := rfl
theorem zdem_nil  : AV.dem AV.nil = .nil := rfl
theorem zdem_sl (sz : Nat) (xs : List AV) : AV.dem (AV.sl sz xs) = (.sl sz xs) := rfl
theorem zdem_own (sz : Nat) (xs : List AV) : AV.dem (AV.own sz xs) = .sl sz xs := rfl
theorem zdem_ip (sz : Nat) (xs : List AV) (i off : Nat) : AV.dem (AV.ip sz xs i off) = (.ip sz xs i off) := rfl
theorem zdem_ptr (id sz i off : Nat) : AV.dem (AV.ptr id sz i off) = (.ptr id sz i off) := rfl
theorem zdem_nilp  : AV.dem AV.nilp = .nilp := rfl
theorem zdem_fn (f : Nat) (cs : List AV) : AV.dem (AV.fn f cs) = (.fn f cs) := rfl
theorem zdem_nilfn  : AV.dem AV.nilfn = .nilfn := rfl
theorem zdem_agg (cs : List AV) : AV.dem (AV.agg cs) = (.agg cs) := rfl
theorem zdem_tup (vs : List AV) : AV.dem (AV.tup vs) = (.tup (vs.map AV.dem0)) := rfl
theorem zdemc_undef  : AV.demc AV.undef = .undef := rfl
theorem zdemc_bool (b : Bool) : AV.demc (AV.bool b) = (.bool b) := rfl
theorem zdemc_int (k : IntKind) (n : Int) : AV.demc (AV.int k n) = (.int k n) := rfl
theorem zdemc_str (s : List UInt8) : AV.demc (AV.str s) = (.str s) := rfl
theorem zdemc_nil  : AV.demc AV.nil = .nil := rfl
theorem zdemc_sl (sz : Nat) (xs : List AV) : AV.demc (AV.sl sz xs) = (.sl sz xs) := rfl
theorem zdemc_own (sz : Nat) (xs : List AV) : AV.demc (AV.own sz xs) = .sl sz xs := rfl
theorem zdemc_ip (sz : Nat) (xs : List AV) (i off : Nat) : AV.demc (AV.ip sz xs i off) = (.ip sz xs i off) := rfl
theorem zdemc_ptr (id sz i off : Nat) : AV.demc (AV.ptr id sz i off) = (.ptr id sz i off) := rfl
theorem zdemc_nilp  : AV.demc AV.nilp = .nilp := rfl
theorem zdemc_fn (f : Nat) (cs : List AV) : AV.demc (AV.fn f cs) = (.fn f cs) := rfl
theorem zdemc_nilfn  : AV.demc AV.nilfn = .nilfn := rfl
theorem zdemc_agg (cs : List AV) : AV.demc (AV.agg cs) = (.agg (cs.map AV.dem0)) := rfl
theorem zdemc_tup (vs : List AV) : AV.demc (AV.tup vs) = (.tup vs) := rfl
theorem zcells_undef  : AV.cells AV.undef = [.undef] := rfl
theorem zcells_bool (b : Bool) : AV.cells (AV.bool b) = [(.bool b)] := rfl
theorem zcells_int (k : IntKind) (n : Int) : AV.cells (AV.int k n) = [(.int k n)] := rfl
theorem zcells_str (s : List UInt8) : AV.cells (AV.str s) = [(.str s)] := rfl
theorem zcells_nil  : AV.cells AV.nil = [.nil] := rfl
theorem zcells_sl (sz : Nat) (xs : List AV) : AV.cells (AV.sl sz xs) = [(.sl sz xs)] := rfl
theorem zcells_own (sz : Nat) (xs : List AV) : AV.cells (AV.own sz xs) = [(.own sz xs)] := rfl
theorem zcells_ip (sz : Nat) (xs : List AV) (i off : Nat) : AV.cells (AV.ip sz xs i off) = [(.ip sz xs i off)] := rfl
theorem zcells_ptr (id sz i off : Nat) : AV.cells (AV.ptr id sz i off) = [(.ptr id sz i off)] := rfl
theorem zcells_nilp  : AV.cells AV.nilp = [.nilp] := rfl
theorem zcells_fn (f : Nat) (cs : List AV) : AV.cells (AV.fn f cs) = [(.fn f cs)] := rfl
theorem zcells_nilfn  : AV.cells AV.nilfn = [.nilfn] := rfl
theorem zcells_agg (cs : List AV) : AV.cells (AV.agg cs) = cs := rfl
theorem zcells_tup (vs : List AV) : AV.cells (AV.tup vs) = [(.tup vs)] := rfl
theorem zone_undef  : AV.one AV.undef = false := rfl
theorem zone_bool (b : Bool) : AV.one (AV.bool b) = true := rfl
theorem zone_int (k : IntKind) (n : Int) : AV.one (AV.int k n) = true := rfl
theorem zone_str (s : List UInt8) : AV.one (AV.str s) = true := rfl
theorem zone_nil  : AV.one AV.nil = true := rfl
theorem zone_sl (sz : Nat) (xs : List AV) : AV.one (AV.sl sz xs) = true := rfl
theorem zone_own (sz : Nat) (xs : List AV) : AV.one (AV.own sz xs) = true := rfl
theorem zone_ip (sz : Nat) (xs : List AV) (i off : Nat) : AV.one (AV.ip sz xs i off) = true := rfl
theorem zone_ptr (id sz i off : Nat) : AV.one (AV.ptr id sz i off) = true := rfl
theorem zone_nilp  : AV.one AV.nilp = true := rfl
theorem zone_fn (f : Nat) (cs : List AV) : AV.one (AV.fn f cs) = true := rfl
theorem zone_nilfn  : AV.one AV.nilfn = true := rfl
theorem zone_agg (cs : List AV) : AV.one (AV.agg cs) = false := rfl
theorem zone_tup (vs : List AV) : AV.one (AV.tup vs) = false := rfl
theorem zokc_undef  : AV.okc AV.undef = false := rfl
theorem zokc_bool (b : Bool) : AV.okc (AV.bool b) = true := rfl
theorem zokc_int (k : IntKind) (n : Int) : AV.okc (AV.int k n) = true := rfl
theorem zokc_str (s : List UInt8) : AV.okc (AV.str s) = true := rfl
theorem zokc_nil  : AV.okc AV.nil = true := rfl
theorem zokc_sl (sz : Nat) (xs : List AV) : AV.okc (AV.sl sz xs) = true := rfl
theorem zokc_own (sz : Nat) (xs : List AV) : AV.okc (AV.own sz xs) = true := rfl
theorem zokc_ip (sz : Nat) (xs : List AV) (i off : Nat) : AV.okc (AV.ip sz xs i off) = true := rfl
theorem zokc_ptr (id sz i off : Nat) : AV.okc (AV.ptr id sz i off) = true := rfl
theorem zokc_nilp  : AV.okc AV.nilp = true := rfl
theorem zokc_fn (f : Nat) (cs : List AV) : AV.okc (AV.fn f cs) = true := rfl
theorem zokc_nilfn  : AV.okc AV.nilfn = true := rfl
theorem zokc_agg (cs : List AV) : AV.okc (AV.agg cs) = true := rfl
theorem zokc_tup (vs : List AV) : AV.okc (AV.tup vs) = false := rfl
theorem zimm0_undef  : AV.imm0 AV.undef = true := rfl
theorem zimm0_bool (b : Bool) : AV.imm0 (AV.bool b) = true := rfl
theorem zimm0_int (k : IntKind) (n : Int) : AV.imm0 (AV.int k n) = true := rfl
theorem zimm0_str (s : List UInt8) : AV.imm0 (AV.str s) = true := rfl
theorem zimm0_nil  : AV.imm0 AV.nil = true := rfl
theorem zimm0_sl (sz : Nat) (xs : List AV) : AV.imm0 (AV.sl sz xs) = true := rfl
theorem zimm0_own (sz : Nat) (xs : List AV) : AV.imm0 (AV.own sz xs) = false := rfl
theorem zimm0_ip (sz : Nat) (xs : List AV) (i off : Nat) : AV.imm0 (AV.ip sz xs i off) = true := rfl
theorem zimm0_ptr (id sz i off : Nat) : AV.imm0 (AV.ptr id sz i off) = false := rfl
theorem zimm0_nilp  : AV.imm0 AV.nilp = true := rfl
theorem zimm0_fn (f : Nat) (cs : List AV) : AV.imm0 (AV.fn f cs) = cs.isEmpty := rfl
theorem zimm0_nilfn  : AV.imm0 AV.nilfn = true := rfl
theorem zimm0_agg (cs : List AV) : AV.imm0 (AV.agg cs) = false := rfl
theorem zimm0_tup (vs : List AV) : AV.imm0 (AV.tup vs) = false := rfl
theorem zimm_undef  : AV.imm AV.undef = true := rfl
theorem zimm_bool (b : Bool) : AV.imm (AV.bool b) = true := rfl
theorem zimm_int (k : IntKind) (n : Int) : AV.imm (AV.int k n) = true := rfl
theorem zimm_str (s : List UInt8) : AV.imm (AV.str s) = true := rfl
theorem zimm_nil  : AV.imm AV.nil = true := rfl
theorem zimm_sl (sz : Nat) (xs : List AV) : AV.imm (AV.sl sz xs) = true := rfl
theorem zimm_own (sz : Nat) (xs : List AV) : AV.imm (AV.own sz xs) = false := rfl
theorem zimm_ip (sz : Nat) (xs : List AV) (i off : Nat) : AV.imm (AV.ip sz xs i off) = true := rfl
theorem zimm_ptr (id sz i off : Nat) : AV.imm (AV.ptr id sz i off) = false := rfl
theorem zimm_nilp  : AV.imm AV.nilp = true := rfl
theorem zimm_fn (f : Nat) (cs : List AV) : AV.imm (AV.fn f cs) = cs.isEmpty := rfl
theorem zimm_nilfn  : AV.imm AV.nilfn = true := rfl
theorem zimm_agg (cs : List AV) : AV.imm (AV.agg cs) = (cs.all AV.imm0) := rfl
theorem zimm_tup (vs : List AV) : AV.imm (AV.tup vs) = false := rfl
theorem zisA_undef  : AV.isA AV.undef = false := rfl
theorem zisA_bool (b : Bool) : AV.isA (AV.bool b) = false := rfl
theorem zisA_int (k : IntKind) (n : Int) : AV.isA (AV.int k n) = false := rfl
theorem zisA_str (s : List UInt8) : AV.isA (AV.str s) = false := rfl
theorem zisA_nil  : AV.isA AV.nil = false := rfl
theorem zisA_sl (sz : Nat) (xs : List AV) : AV.isA (AV.sl sz xs) = false := rfl
theorem zisA_own (sz : Nat) (xs : List AV) : AV.isA (AV.own sz xs) = false := rfl
theorem zisA_ip (sz : Nat) (xs : List AV) (i off : Nat) : AV.isA (AV.ip sz xs i off) = false := rfl
theorem zisA_ptr (id sz i off : Nat) : AV.isA (AV.ptr id sz i off) = false := rfl
theorem zisA_nilp  : AV.isA AV.nilp = false := rfl
theorem zisA_fn (f : Nat) (cs : List AV) : AV.isA (AV.fn f cs) = false := rfl
theorem zisA_nilfn  : AV.isA AV.nilfn = false := rfl
theorem zisA_agg (cs : List AV) : AV.isA (AV.agg cs) = true := rfl
theorem zisA_tup (vs : List AV) : AV.isA (AV.tup vs) = false := rfl
attribute [go_sem] zdem0_undef zdem0_bool zdem0_int zdem0_str zdem0_nil zdem0_sl zdem0_own zdem0_ip zdem0_ptr zdem0_nilp zdem0_fn zdem0_nilfn zdem0_agg zdem0_tup zdem_undef zdem_bool zdem_int zdem_str zdem_nil zdem_sl zdem_own zdem_ip zdem_ptr zdem_nilp zdem_fn zdem_nilfn zdem_agg zdem_tup zdemc_undef zdemc_bool zdemc_int zdemc_str zdemc_nil zdemc_sl zdemc_own zdemc_ip zdemc_ptr zdemc_nilp zdemc_fn zdemc_nilfn zdemc_agg zdemc_tup zcells_undef zcells_bool zcells_int zcells_str zcells_nil zcells_sl zcells_own zcells_ip zcells_ptr zcells_nilp zcells_fn zcells_nilfn zcells_agg zcells_tup zone_undef zone_bool zone_int zone_str zone_nil zone_sl zone_own zone_ip zone_ptr zone_nilp zone_fn zone_nilfn zone_agg zone_tup zokc_undef zokc_bool zokc_int zokc_str zokc_nil zokc_sl zokc_own zokc_ip zokc_ptr zokc_nilp zokc_fn zokc_nilfn zokc_agg zokc_tup zimm0_undef zimm0_bool zimm0_int zimm0_str zimm0_nil zimm0_sl zimm0_own zimm0_ip zimm0_ptr zimm0_nilp zimm0_fn zimm0_nilfn zimm0_agg zimm0_tup zimm_undef zimm_bool zimm_int zimm_str zimm_nil zimm_sl zimm_own zimm_ip zimm_ptr zimm_nilp zimm_fn zimm_nilfn zimm_agg zimm_tup zisA_undef zisA_bool zisA_int zisA_str zisA_nil zisA_sl zisA_own zisA_ip zisA_ptr zisA_nilp zisA_fn zisA_nilfn zisA_agg zisA_tup

/- simp looks at the operations and the state, not at what stands behind. -/
theorem awp_congr {P : Program} {c : Code} {st st' : St} {Q : Exit → St → Prop} (h : st = st') : awp P c st Q = awp P c st' Q := by rw [h]
theorem aops_congr {P : Program} {all l l' : List Oper} {st st' : St} {Q : Exit → St → Prop} (hl : l = l') (h : st = st') : aops P all Q l st = aops P all Q l' st' := by rw [hl, h]
theorem aopsD_congr {P : Program} {all l l' : List Oper} {st st' : St} {r r' : Nat} {Q : Exit → St → Prop} (hl : l = l') (hr : r = r') (h : st = st') : aopsD P all Q r l st = aopsD P all Q r' l' st' := by rw [hl, hr, h]
theorem amaxL_congr {big : Bool} {k : IntKind} {a : Int} {l l' : List AV} {K : AV → Prop} (hl : l = l') : amaxL big k a l K = amaxL big k a l' K := by rw [hl]
theorem amax_congr {big : Bool} {l l' : List AV} {K : AV → Prop} (hl : l = l') : amax big l K = amax big l' K := by rw [hl]
theorem abuiltin_congr {P : Program} {b : Builtin} {ts ts' : List TypeId} {xs xs' : List Operand} {st st' : St} {d : Option Nat} {K : AV → St → Prop} (h1 : ts = ts') (h2 : xs = xs') (h3 : st = st') :
    abuiltin P b ts xs st d K = abuiltin P b ts' xs' st' d K := by rw [h1, h2, h3]

/-- A call: what it gives is put to use. -/
theorem callK_of {P : Program} {f : FuncId} {args : List AV} {K : St → Prop} {dst : Option Nat} {st : St} {r : AV} (h : PureOk P f args r) (hk : K (st.putO dst r)) : CallK P f args (kcall K dst st) := ⟨r, h, hk⟩

theorem avle_refl (x : AV) : AV.le x x = True := eq_true (.inr (.inl rfl))
theorem avle_undef (x : AV) : AV.le .undef x = True := eq_true (.inl rfl)
theorem avle_own_nil (sz : Nat) : AV.le (.own sz []) .nil = True := eq_true (.inr (.inr (.inl ⟨sz, rfl, rfl⟩)))
theorem avle_sl_nil (sz : Nat) : AV.le (.sl sz []) .nil = True := eq_true (.inr (.inr (.inr (.inl ⟨sz, rfl, rfl⟩))))
theorem avle_sl_own (sz : Nat) (xs : List AV) : AV.le (.sl sz xs) (.own sz xs) = True := eq_true (.inr (.inr (.inr (.inr ⟨sz, xs, rfl, rfl⟩))))

theorem avle_int (k : IntKind) (n : Int) (y : AV) : AV.le (.int k n) y = (.int k n = y) := by
  apply propext; constructor
  · rintro (h | h | ⟨_, h, _⟩ | ⟨_, h, _⟩ | ⟨_, _, h, _⟩) <;> first | exact h | cases h
  · rintro rfl; exact .inr (.inl rfl)
theorem avle_bool (b : Bool) (y : AV) : AV.le (.bool b) y = (.bool b = y) := by
  apply propext; constructor
  · rintro (h | h | ⟨_, h, _⟩ | ⟨_, h, _⟩ | ⟨_, _, h, _⟩) <;> first | exact h | cases h
  · rintro rfl; exact .inr (.inl rfl)
theorem avle_str (b : List UInt8) (y : AV) : AV.le (.str b) y = (.str b = y) := by
  apply propext; constructor
  · rintro (h | h | ⟨_, h, _⟩ | ⟨_, h, _⟩ | ⟨_, _, h, _⟩) <;> first | exact h | cases h
  · rintro rfl; exact .inr (.inl rfl)
theorem avle_agg (b : List AV) (y : AV) : AV.le (.agg b) y = (.agg b = y) := by
  apply propext; constructor
  · rintro (h | h | ⟨_, h, _⟩ | ⟨_, h, _⟩ | ⟨_, _, h, _⟩) <;> first | exact h | cases h
  · rintro rfl; exact .inr (.inl rfl)
theorem avle_sl_sl (sz sz' : Nat) (xs ys : List AV) : AV.le (.sl sz xs) (.sl sz' ys) = (sz = sz' ∧ xs = ys) := by
  apply propext; constructor
  · rintro (h | h | ⟨_, h, h'⟩ | ⟨_, h, h'⟩ | ⟨_, _, h, h'⟩) <;> first | (cases h'; done) | (cases h; exact ⟨rfl, rfl⟩) | cases h
  · rintro ⟨rfl, rfl⟩; exact .inr (.inl rfl)
theorem avle_own_own (sz sz' : Nat) (xs ys : List AV) : AV.le (.own sz xs) (.own sz' ys) = (sz = sz' ∧ xs = ys) := by
  apply propext; constructor
  · rintro (h | h | ⟨_, h, h'⟩ | ⟨_, h, _⟩ | ⟨_, _, h, h'⟩) <;> first | (cases h'; done) | (cases h; exact ⟨rfl, rfl⟩) | cases h
  · rintro ⟨rfl, rfl⟩; exact .inr (.inl rfl)

theorem wrap_i64 {n : Int} (h1 : -9223372036854775808 ≤ n) (h2 : n ≤ 9223372036854775807) : IntKind.i64.wrap n = n := by
  simp only [IntKind.wrap, IntKind.bits, IntKind.signed, Bool.true_and]
  split <;> rename_i h <;> simp at h <;> omega

def slotsLe : List (Nat × AV) → List (Nat × AV) → Prop
  | [], _ => True
  | (k, v) :: r, sl => AV.le v (lk sl k) ∧ slotsLe r sl

theorem slotsLe_spec : ∀ (l sl : List (Nat × AV)), slotsLe l sl → ∀ p ∈ l, AV.le p.2 (lk sl p.1)
  | [], _, _, p, hp => by cases hp
  | (_, _) :: r, sl, h, p, hp => by
    cases hp with
    | head => exact h.1
    | tail _ hp => exact slotsLe_spec r sl h.2 p hp
theorem slotsLe_mk : ∀ (l sl : List (Nat × AV)), (∀ p ∈ l, AV.le p.2 (lk sl p.1)) → slotsLe l sl
  | [], _, _ => trivial
  | (_, _) :: r, sl, h => ⟨h _ (List.mem_cons_self ..), slotsLe_mk r sl fun p hp => h p (List.mem_cons_of_mem _ hp)⟩

def slotsBel (n : Nat) : List (Nat × AV) → Prop
  | [] => True
  | (_, v) :: r => v.bel n = true ∧ slotsBel n r
def cellsBel (n : Nat) : List AV → Prop
  | [] => True
  | c :: r => c.bel0 n = true ∧ cellsBel n r
def elemsBel (n : Nat) : List AV → Prop
  | [] => True
  | x :: r => cellsBel n x.cells ∧ elemsBel n r
def boxesBel (n : Nat) : List (Nat × List AV) → Prop
  | [] => True
  | (_, xs) :: r => elemsBel n xs ∧ boxesBel n r

theorem slotsBel_spec {n : Nat} : ∀ {l : List (Nat × AV)}, slotsBel n l → ∀ p ∈ l, p.2.bel n = true
  | (_, _) :: _, h, p, hp => by
    cases hp with
    | head => exact h.1
    | tail _ hp => exact slotsBel_spec h.2 p hp
theorem cellsBel_spec {n : Nat} : ∀ {l : List AV}, cellsBel n l → ∀ c ∈ l, c.bel0 n = true
  | _ :: _, h, p, hp => by
    cases hp with
    | head => exact h.1
    | tail _ hp => exact cellsBel_spec h.2 p hp
theorem elemsBel_spec {n : Nat} : ∀ {l : List AV}, elemsBel n l → ∀ x ∈ l, ∀ c ∈ x.cells, c.bel0 n = true
  | _ :: _, h, p, hp => by
    cases hp with
    | head => exact cellsBel_spec h.1
    | tail _ hp => exact elemsBel_spec h.2 p hp
theorem boxesBel_spec {n : Nat} : ∀ {l : List (Nat × List AV)}, boxesBel n l → ∀ b ∈ l, ∀ x ∈ b.2, ∀ c ∈ x.cells, c.bel0 n = true
  | (_, _) :: _, h, p, hp => by
    cases hp with
    | head => exact elemsBel_spec h.1
    | tail _ hp => exact boxesBel_spec h.2 p hp

/-- The same boxes. -/
theorem stLe_same {n fl : Nat} {sl sl' : List (Nat × AV)} {hp hp' : List (Nat × List AV)} (h : hp = hp') (hs : slotsLe sl sl') : StLe ⟨n, fl, sl, hp⟩ ⟨n, fl, sl', hp'⟩ :=
  ⟨rfl, rfl, .inl h, slotsLe_spec _ _ hs⟩
/-- The first boxes alone. -/
theorem stLe_cut {n fl : Nat} {sl sl' : List (Nat × AV)} {hp hp' : List (Nat × List AV)} (h1 : fl ≤ hp.length) (h2 : hp'.take hp.length = hp) (h3 : slotsBel hp.length sl) (h4 : boxesBel hp.length hp) (hs : slotsLe sl sl') :
    StLe ⟨n, fl, sl, hp⟩ ⟨n, fl, sl', hp'⟩ :=
  ⟨rfl, rfl, .inr ⟨h1, by have := congrArg List.length h2; rw [List.length_take] at this; show hp.length ≤ hp'.length; omega, h2.symm, slotsBel_spec h3, boxesBel_spec h4⟩, slotsLe_spec _ _ hs⟩

attribute [go_sem] avle_int avle_bool avle_str avle_agg avle_sl_sl avle_own_own wrap_i64 List.length_map AV.int.injEq AV.bool.injEq AV.str.injEq AV.agg.injEq AV.sl.injEq AV.own.injEq List.cons.injEq avle_refl avle_undef avle_own_nil avle_sl_nil avle_sl_own slotsLe slotsBel cellsBel elemsBel boxesBel AV.bel AV.bel1 AV.bel0 Int.natCast_nonneg
attribute [go_sem] List.map_cons List.map_nil List.all_cons List.all_nil List.any_cons List.any_nil List.length_cons List.length_nil List.append_assoc List.nil_append List.cons_append List.append_nil
  List.getElem?_cons_zero List.getElem?_cons_succ List.set_cons_zero List.set_cons_succ List.drop_zero List.drop_succ_cons List.take_succ_cons List.take_zero List.drop_nil List.take_nil List.isEmpty_cons List.isEmpty_nil
  Option.getD_some Option.getD_none Option.isSome_some Option.isSome_none Option.map_some Option.map_none Option.some.injEq Prod.mk.injEq Option.isNone_some Option.isNone_none
  true_and and_true and_self eq_self false_and and_false true_implies implies_true forall_const decide_true decide_false Bool.false_eq_true Bool.true_eq_false Bool.not_true Bool.not_false Bool.and_true Bool.true_and Bool.and_false Bool.false_and Bool.or_self Bool.or_false Bool.false_or
  if_true if_false ite_true ite_false not_true_eq_false not_false_eq_true decide_eq_true_eq decide_eq_false_iff_not Int.not_lt Int.not_le false_implies Bool.not_eq_true' Bool.not_eq_false' true_or or_true false_or or_false ne_eq reduceCtorEq
end AH
