/- One operation on an abstract state, and its soundness. -/
import Derived.Test.YtghdepbcnckfpaaAhRow
namespace AH
open Go Go.RowKit

def zeroI (P : Program) (t : TypeId) : Option AV :=
  match P.info? t with
  | some i => i.zero.map ofV
  | none => none

def amove (fut : Bool) (x : Operand) (st : St) (K : AV → St → Prop) : Prop :=
  match x with
  | .tmp s => match st.get s with
    | .own sz xs => if fut then K (.own sz xs) (st.put s (.sl sz xs)) else K (.sl sz xs) st
    | .tup vs => K (.tup (vs.map AV.dem0)) st
    | v => K v st
  | x => K (st.ev x) st

def aload (P : Program) (fut : Bool) (t : TypeId) (x : AV) (st : St) (K : AV → St → Prop) : Prop :=
  match tyI P t with
  | some (n, g) => match x with
    | .ip sz xs i off => off + (if g then n else 1) ≤ sz ∧ K (partD g n off ((xs[i]?).getD .undef)) st
    | .ptr id sz i off => match st.hp[id]? with
      | some (sz', xs) => (sz' = sz ∧ i < xs.length ∧ off + (if g then n else 1) ≤ sz) ∧
        if fut && !g then match ((xs[i]?).getD .undef).cells[off]? with
          | some (.own s ys) => K (.own s ys) { st with hp := st.hp.set id (sz', xs.set i (((xs[i]?).getD .undef).upd off [.sl s ys])) }
          | _ => K (partD g n off ((xs[i]?).getD .undef).demc) st
        else K (partD g n off ((xs[i]?).getD .undef).demc) st
      | none => False
    | _ => False
  | none => False

def aindex (t : Option TypeDesc) (x i : AV) (K : AV → Prop) : Prop :=
  match t with
  | some .string => match x with
    | .str s => match i with
      | .int _ k => (0 ≤ k ∧ k < s.length) ∧ K (.int .u8 ((s[k.toNat]?).getD 0).toNat)
      | _ => False
    | _ => False
  | _ => False

def afieldAddr (P : Program) (s : TypeId) (x : AV) (f : Nat) (K : AV → Prop) : Prop :=
  match fldI P s f with
  | some (o, n, _) => n ≠ 0 ∧ match x with
    | .ip sz xs i off => K (.ip sz xs i (off + o))
    | .ptr id sz i off => K (.ptr id sz i (off + o))
    | _ => False
  | none => False

def afield (P : Program) (s : TypeId) (x : AV) (f : Nat) (K : AV → Prop) : Prop :=
  match fldI P s f with
  | some (o, n, g) => match x with
    | .agg cs => o + (if g then n else 1) ≤ cs.length ∧ K (partD g n o (.agg cs))
    | _ => False
  | none => False

def aindexAddr (P : Program) (t : TypeId) (x i : AV) (K : AV → Prop) : Prop :=
  match elI P t with
  | some (n, _) => match x with
    | .sl sz xs => match i with
      | .int _ k => (sz = n ∧ 0 ≤ k ∧ k < xs.length) ∧ K (.ip sz xs k.toNat 0)
      | _ => False
    | _ => False
  | none => False

def aconv (P : Program) (src dst : TypeId) (x : AV) (K : AV → Prop) : Prop :=
  match x with
  | .int _ n => match P.underlying dst with
    | some (.int k) => (P.underlying src).isSome = true ∧ K (.int k (k.wrap n))
    | _ => False
  | .str s => P.underlying dst = some .string ∧ (P.underlying src).isSome = true ∧ K (.str s)
  | _ => False

section
variable {P : Program} {G : Gh} {B : Nat} {H0 : HV} {rest : List (AV × Value)} {st : St} {a : Act} {w : World} {dst : Option Nat} {K : AV → St → Prop}

theorem ev_dem0 (h : RelG G B H0 rest st a.tmps w) (x : Operand) (hx : ∀ vs, st.ev x ≠ .tup vs) : Rel0 G.H G.io (st.ev x).dem0 (a.eval x) := by
  have := h.ev x
  cases he : st.ev x with
  | tup vs => exact absurd he (hx vs)
  | _ => rw [he] at this; exact this

theorem amove_sound (h : RelG G B H0 rest st a.tmps w) (hd : dstOk dst st.n = true) {fut : Bool} {x : Operand} (hk : amove fut x st K) {s : Sem Next} (hs : s.run P w = .ok (.value (a.eval x)) w) :
    OpOk P B H0 rest st.n a w dst K s := by
  cases x with
  | tmp t =>
    simp only [amove] at hk
    have hv := h.slot t
    have hdem := hv.dem
    cases hg : st.get t with
    | own sz xs =>
      simp only [hg] at hk hdem
      cases fut with
      | false => exact OpOk.val h hd hs hdem hk
      | true =>
        cases dst with
        | none => exact ⟨_, _, w, G, .own sz xs, st.put t (.sl sz xs), hs, .inl rfl, Below.refl _ _, hk, rfl, h.weaken (RelV.of0 hdem)⟩
        | some d =>
          obtain ⟨G', h1, ho, _, _⟩ := h.take hg [0, d]
          exact ⟨_, _, w, G', .own sz xs, st.put t (.sl sz xs), hs, .inl rfl, Below.refl _ _, hk, rfl, h1.put (by simpa [dstOk, St.put] using hd) ho⟩
    | tup vs => simp only [hg] at hk hdem; exact OpOk.val h hd hs hdem hk
    | _ => simp only [hg] at hk hdem; exact OpOk.val h hd hs hdem hk
  | const v =>
    have := h.ev (.const v)
    exact OpOk.val h hd hs (.imm _ _ (ofV_rel G.H v)) hk
  | func f => exact OpOk.val h hd hs (.imm _ _ (.fn f [] #[] rfl (fun j c v h => by simp at h))) hk
  | global g => exact OpOk.val h hd hs (.imm _ _ (.undef _)) hk

theorem aload_sound (h : RelG G B H0 rest st a.tmps w) (hd : dstOk dst st.n = true) {fut : Bool} {t : TypeId} {x : Operand} (hk : aload P fut t (st.ev x) st K) :
    OpOk P B H0 rest st.n a w dst K (do pure (.value (← Instr.loadAt t (a.eval x)))) := by
  have hx := h.ev x
  unfold aload at hk
  split at hk
  · rename_i n g ht
    split at hk
    · rename_i sz xs i off he
      rw [he] at hx
      obtain ⟨u, hu, hr⟩ := load_ip (io := G.io) ht h.wf.sat (Rel0.ip_inv hx) hk.1
      exact OpOk.val h hd (by simp [hu]) hr hk.2
    · rename_i id sz i off he
      rw [he] at hx
      split at hk
      · rename_i sz' xs hid
        obtain ⟨⟨rfl, hi, hl⟩, hk⟩ := hk
        obtain ⟨u, hu, hr⟩ := load_ptr h ht hid hi hl hx
        have hplain : K (partD g n off ((xs[i]?).getD .undef).demc) st → OpOk P B H0 rest st.n a w dst K (do pure (.value (← Instr.loadAt t (a.eval x)))) := fun hk => OpOk.val h hd (by simp [hu]) hr hk
        split at hk
        · rename_i hf
          split at hk
          · rename_i s ys hown
            have hxi : xs[i]? = some xs[i] := List.getElem?_eq_getElem hi
            rw [hxi, Option.getD_some] at hown hk hr
            simp only [Bool.and_eq_true, Bool.not_eq_true'] at hf
            obtain ⟨_, rfl⟩ := hf
            cases dst with
            | none =>
              obtain ⟨G', h1, ho, _⟩ := h.takeCell hid hxi hown []
              exact ⟨_, u, w, G', .own s ys, _, by simp [hu], .inl rfl, Below.refl _ _, hk, rfl, h1⟩
            | some d =>
              obtain ⟨G', h1, ho, v, hv, hcell⟩ := h.takeCell hid hxi hown [0, d]
              have huv : u = v := by
                obtain ⟨gb, hgb, hp⟩ := hx.ptr_inv
                have hc := hcell gb hgb
                have hrun := run_loadAt' (w := w) ht gb (i * sz' + off) (fun _ => v) (fun j hj => by
                  simp only [Bool.false_eq_true, if_false, Nat.lt_one_iff] at hj
                  subst hj; simpa using hc)
                rw [hp, hrun] at hu
                simp only [Bool.false_eq_true, if_false] at hu
                cases hu; rfl
              subst huv
              exact ⟨_, u, w, G', .own s ys, _, by simp [hu], .inl rfl, Below.refl _ _, hk, rfl, h1.put (by simpa [dstOk] using hd) hv⟩
          · exact hplain hk
        · exact hplain hk
      · exact hk.elim
    · exact hk.elim
  · exact hk.elim

theorem afieldAddr_sound (h : RelG G B H0 rest st a.tmps w) (hd : dstOk dst st.n = true) {s : TypeId} {f : Nat} {x : Operand} (hk : afieldAddr P s (st.ev x) f fun av => K av st) :
    OpOk P B H0 rest st.n a w dst K (do pure (.value (← Instr.fieldAt s (a.eval x) f))) := by
  have hx := h.ev x
  unfold afieldAddr at hk
  split at hk
  · rename_i o n g hf
    obtain ⟨hn, hk⟩ := hk
    split at hk
    · rename_i sz xs i off he
      rw [he] at hx
      obtain ⟨u, hu, hr⟩ := fieldAt_ip (w := w) hf hn (Rel0.ip_inv hx)
      exact OpOk.val h hd (by simp [hu]) (.imm _ _ hr) hk
    · rename_i id sz i off he
      rw [he] at hx
      obtain ⟨u, hu, hr⟩ := fieldAt_ptr (w := w) hf hn hx
      exact OpOk.val h hd (by simp [hu]) hr hk
    · exact hk.elim
  · exact hk.elim

theorem afield_sound (h : RelG G B H0 rest st a.tmps w) (hd : dstOk dst st.n = true) {s : TypeId} {f : Nat} {x : Operand} (hk : afield P s (st.ev x) f fun av => K av st) :
    OpOk P B H0 rest st.n a w dst K (do pure (.value (← Instr.field s (a.eval x) f))) := by
  have hx := h.ev x
  unfold afield at hk
  split at hk
  · rename_i o n g hf
    split at hk
    · rename_i cs he
      rw [he] at hx
      obtain ⟨u, hu, hr⟩ := field_agg (w := w) hf hx hk.1
      exact OpOk.val h hd (by simp [hu]) hr hk.2
    · exact hk.elim
  · exact hk.elim

theorem aindexAddr_sound (h : RelG G B H0 rest st a.tmps w) (hd : dstOk dst st.n = true) {t : TypeId} {x i : Operand} (hk : aindexAddr P t (st.ev x).dem0 (st.ev i) fun av => K av st) :
    OpOk P B H0 rest st.n a w dst K (do pure (.value (← Instr.indexAt t (a.eval x) (a.eval i)))) := by
  have hx := h.ev x
  have hi := h.ev i
  unfold aindexAddr at hk
  split at hk
  · rename_i n by_ ht
    split at hk
    · rename_i sz xs he
      have hx' : Rel0 G.H G.io (.sl sz xs) (a.eval x) := by
        have := ev_dem0 h x (fun vs e => by rw [e] at he; cases he)
        rwa [he] at this
      split at hk
      · rename_i k n' hei
        rw [hei] at hi
        rw [hi.int_inv]
        obtain ⟨⟨rfl, h0, h1⟩, hk⟩ := hk
        obtain ⟨u, hu, hr⟩ := indexAt_sl (w := w) (k := k) ht hx'.sl_inv h0 h1
        exact OpOk.val h hd (by simp [hu]) (.imm _ _ hr) hk
      · exact hk.elim
    · exact hk.elim
  · exact hk.elim

theorem aindex_sound (h : RelG G B H0 rest st a.tmps w) (hd : dstOk dst st.n = true) {t : TypeId} {x i : Operand} (hk : aindex (P.underlying t) (st.ev x) (st.ev i) fun av => K av st) :
    OpOk P B H0 rest st.n a w dst K (do pure (.value (← Instr.index t (a.eval x) (a.eval i)))) := by
  have hx := h.ev x
  have hi := h.ev i
  unfold aindex at hk
  split at hk
  · rename_i ht
    split at hk
    · rename_i s he
      rw [he] at hx
      split at hk
      · rename_i k n hei
        rw [hei] at hi
        rw [hi.int_inv, hx.str_inv]
        obtain ⟨⟨h0, h1⟩, hk⟩ := hk
        have hlt : n.toNat < s.length := by omega
        refine OpOk.val h hd (v := .int .u8 ((s[n.toNat]?).getD 0).toNat) ?_ (.imm _ _ (.int _ _)) hk
        have hb : (ByteArray.mk s.toArray)[n.toNat]? = some s[n.toNat] := by
          rw [getElem?_pos _ _ (by simpa [ByteArray.size] using hlt)]
          rfl
        simp [Instr.index, asIntOf, run_underlying ht, h0, hb, hlt]
      · exact hk.elim
    · exact hk.elim
  · exact hk.elim

theorem abin_sound (h : RelG G B H0 rest st a.tmps w) (hd : dstOk dst st.n = true) {op : BinOp} {t : TypeId} {x y : Operand} (hk : abin P op t (st.ev x) (st.ev y) fun av => K av st) :
    OpOk P B H0 rest st.n a w dst K ((eqGuard op t x y (a.eval x) (a.eval y) >>= fun _ => binOp op t (a.eval x) (a.eval y)) >>= fun v => pure (.value v)) := by
  have hx := h.ev x
  have hy := h.ev y
  have hxn : (st.ev x).dem = st.ev x := by cases he : st.ev x <;> first | rfl | (rw [he] at hk; exact hk.elim)
  have hyn : (st.ev y).dem = st.ev y := by
    cases he : st.ev y <;> first | rfl | (rw [he] at hk; cases hex : st.ev x <;> rw [hex] at hk <;> exact hk.elim)
  rw [hxn] at hx
  rw [hyn] at hy
  have hg := eqGuard_ok (P := P) (w := w) (ox := x) (oy := y) (vy := a.eval y) hx hk
  obtain ⟨v, av, hr, hl, hrel⟩ := bin_sound (w := w) hx hy hk
  exact OpOk.val h hd (v := v) (by simp [hg, hr]) (.imm _ _ (hrel _)) hl

theorem aun_sound (h : RelG G B H0 rest st a.tmps w) (hd : dstOk dst st.n = true) {op : UnOp} {x : Operand} (hk : aun op (st.ev x) fun av => K av st) :
    OpOk P B H0 rest st.n a w dst K (do pure (.value (← Op.unary op (a.eval x)))) := by
  have hx := h.ev x
  have hxn : (st.ev x).dem = st.ev x := by cases he : st.ev x <;> first | rfl | (rw [he] at hk; cases op <;> exact hk.elim)
  rw [hxn] at hx
  obtain ⟨v, av, hr, hl, hrel⟩ := un_sound (P := P) (w := w) hx hk
  exact OpOk.val h hd (v := v) (by simp [hr]) (.imm _ _ (hrel _)) hl

theorem aconv_sound (h : RelG G B H0 rest st a.tmps w) (hd : dstOk dst st.n = true) {src to : TypeId} {x : Operand} (hk : aconv P src to (st.ev x) fun av => K av st) :
    OpOk P B H0 rest st.n a w dst K (do pure (.value (← convert src to (a.eval x)))) := by
  have hx := h.ev x
  unfold aconv at hk
  split at hk
  · rename_i k n he
    rw [he] at hx
    rw [hx.int_inv]
    split at hk
    · rename_i k' ht
      obtain ⟨hs, hk⟩ := hk
      obtain ⟨d, hd'⟩ := Option.isSome_iff_exists.1 hs
      exact OpOk.val h hd (v := .int k' (k'.wrap n)) (by simp [convert, run_underlying ht, run_underlying hd', Conv.intToInt]) (.imm _ _ (.int _ _)) hk
    · exact hk.elim
  · rename_i s he
    rw [he] at hx
    rw [hx.str_inv]
    obtain ⟨ht, hs, hk⟩ := hk
    obtain ⟨d, hd'⟩ := Option.isSome_iff_exists.1 hs
    exact OpOk.val h hd (v := .string ⟨s.toArray⟩) (by simp [convert, run_underlying ht, run_underlying hd']) (.imm _ _ (.str _)) hk
  · exact hk.elim
end
end AH
