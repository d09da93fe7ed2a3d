/- More operations on values: conversions, fields, addresses, parts, literals. -/
import Derived.Test.YtcphiogbjdehhaaDoorHxVal
namespace HX
open Go Go.RowKit

def xun (op : UnOp) (x : AV) : Option AV :=
  match op with
  | .not => match x with | .bool b => some (.bool (!b)) | _ => none
  | .neg => match x with | .int k n => some (.int k (k.wrap (0 - n))) | _ => none
  | .plus => none
  | .xor => match x with | .int k n => some (.int k (k.wrap (BitVec.ofInt k.bits (if k.signed then -1 else k.max) ^^^ BitVec.ofInt k.bits n).toNat)) | _ => none

def xconv (P : Program) (src dst : TypeId) (x : AV) : Option AV :=
  match x with
  | .int _ n => match P.underlying dst with
    | some (.int k) => if (P.underlying src).isSome then some (.int k (k.wrap n)) else none
    | _ => none
  | .str s => if isStrT P dst && (P.underlying src).isSome then some (.str s) else none
  | _ => none

def wd (g : Bool) (n : Nat) : Nat := bif g then n else 1
def partD (g : Bool) (n off : Nat) (cs : List AV) : AV :=
  if g then .agg ((cs.drop off).take n) else (cs[off]?).getD .undef

def xindex (P : Program) (t : TypeId) (x i : AV) : Option AV :=
  match x, i with
  | .str s, .int _ k => if isStrT P t && (decide (0 ≤ k) && decide (k < s.length)) then some (.int .u8 ((s[k.toNat]?).getD 0).toNat) else none
  | .agg cs, .int _ k => match arI P t with
    | some (n, z, g) => if decide (0 ≤ k) && decide (k < n) && Nat.ble (k.toNat * z + wd g z) cs.length then some (partD g z (k.toNat * z) cs) else none
    | none => none
  | _, _ => none

def xfieldAddr (P : Program) (s : TypeId) (x : AV) (f : Nat) : Option AV :=
  match fldI P s f with
  | some (o, n, _) => if n = 0 then none else match x with
    | .ip sz xs i off => some (.ip sz xs i (off + o))
    | .ptr id ver off => some (.ptr id ver (off + o))
    | _ => none
  | none => none
def xfield (P : Program) (s : TypeId) (x : AV) (f : Nat) : Option AV :=
  match fldI P s f with
  | some (o, n, g) => match x with
    | .agg cs => if o + wd g n ≤ cs.length then some (partD g n o cs) else none
    | _ => none
  | none => none
def xindexAddr (P : Program) (t : TypeId) (x i : AV) : Option AV :=
  match i with
  | .int _ k => match x with
    | .sl sz xs => if elI P t = some sz ∧ 0 ≤ k ∧ k < xs.length then some (.ip sz [(xs[k.toNat]?).getD .undef] 0 0) else none
    | .bs id ver sz off len => if elI P t = some sz ∧ 0 ≤ k ∧ k < len then some (.ptr id ver (off + k.toNat * sz)) else none
    | .ptr id ver off => match arI P t with
      | some (n, z, _) => if 0 ≤ k ∧ k < n then some (.ptr id ver (off + k.toNat * z)) else none
      | none => none
    | .ip sz xs j off => match arI P t with
      | some (n, z, _) => if 0 ≤ k ∧ k < n then some (.ip sz xs j (off + k.toNat * z)) else none
      | none => none
    | _ => none
  | _ => none
def bndN (d : Nat) : Option AV → Option Nat
  | none => some d
  | some (.int _ n) => if 0 ≤ n then some n.toNat else none
  | some _ => none
def xslice (P : Program) (t : TypeId) (x : AV) (lo hi mx : Option AV) : Option AV :=
  match bndN 0 lo with
  | some l => match x with
    | .str s => match bndN s.length hi with
      | some h => if isStrT P t = true ∧ mx.isNone = true ∧ l ≤ h ∧ h ≤ s.length then some (.str ((s.take h).drop l)) else none
      | none => none
    | .sl sz xs => match bndN xs.length hi with
      | some h => match mx with
        | none => if elI P t = some sz ∧ l ≤ h ∧ h ≤ xs.length then some (.sl sz ((xs.take h).drop l)) else none
        | some m => if hi.isSome = true ∧ elI P t = some sz ∧ bndN 0 (some m) = some 0 ∧ l ≤ h ∧ h ≤ 0 then some .emp else none
      | none => none
    | .bs id ver sz off len => match bndN len hi with
      | some h => match mx with
        | none => if elI P t = some sz ∧ l ≤ h ∧ h ≤ len then (if h = l then (if l = 0 then some (.bs id ver sz off 0) else some (.sl sz [])) else some (.bs id ver sz (off + l * sz) (h - l))) else none
        | some m => match bndN 0 (some m) with
          | some m => if hi.isSome = true ∧ elI P t = some sz ∧ m ≤ len ∧ l ≤ h ∧ h ≤ m then (if m = l then some .emp else some (.bs id ver sz (off + l * sz) (h - l))) else none
          | none => none
      | none => none
    | .nil => match bndN 0 hi with
      | some h => if (elI P t).isSome = true ∧ l = 0 ∧ h = 0 ∧ mx.isNone = true then some .nil else none
      | none => none
    | .emp => match bndN 0 hi with
      | some h => if (elI P t).isSome = true ∧ l = 0 ∧ h = 0 ∧ mx.isNone = true then some .emp else none
      | none => none
    | _ => none
  | none => none
def xmaxL (big : Bool) (k : IntKind) (a : Int) : List AV → Option AV
  | [] => some (.int k a)
  | .int k' b :: r => if k = k' then xmaxL big k (if big then max a b else min a b) r else none
  | _ :: _ => none
def xmax (big : Bool) (l : List AV) : Option AV :=
  match l with
  | .int k a :: r => xmaxL big k a r
  | _ => none
def xlen (P : Program) (t : TypeId) (x : AV) : Option AV :=
  match x with
  | .str s => if isStrT P t then some (.int .i64 s.length) else none
  | .sl _ xs => if (elI P t).isSome then some (.int .i64 xs.length) else none
  | .bs _ _ _ _ len => if (elI P t).isSome then some (.int .i64 len) else none
  | .nil => if (elI P t).isSome then some (.int .i64 0) else none
  | .emp => if (elI P t).isSome then some (.int .i64 0) else none
  | _ => none
def xextract (x : AV) (j : Nat) : Option AV :=
  match x with
  | .tup vs => vs[j]?
  | _ => none
def afill (place : Nat → Option (Nat × Nat)) (cs : List AV) : List (Nat × AV) → Option (List AV)
  | [] => some cs
  | (i, v) :: r => match place i with
    | some (o, n) => if v.okc = true ∧ v.cells.length = n ∧ o + n ≤ cs.length then afill place (cs.take o ++ (v.cells ++ cs.drop (o + n))) r else none
    | none => none
def fldsOk (P : Program) (fs : List Field) : Bool := fs.all fun f => (tyI P f.type).isSome
def xbuild (P : Program) (t : TypeId) (parts : List (Nat × AV)) : Option AV :=
  match zeroI P t with
  | some (.agg zs) => match P.underlying t with
    | some (.struct fs) => if fldsOk P fs.toList then (match afill (fun i => (fldI P t i).map fun x => (x.1, x.2.1)) zs parts with
      | some cs => some (.agg cs)
      | none => none) else none
    | some (.array _ e) => match tyI P e with
      | some (z, _) => (match afill (fun i => some (i * z, z)) zs parts with
        | some cs => some (.agg cs)
        | none => none)
      | none => none
    | _ => none
  | _ => none

section
variable {P : Program} {w : World} {H : HV} {E : Env}

theorem xun_ok {op : UnOp} {x : AV} {u : Value} {av : AV} (hx : RV H E x u) (h : xun op x = some av) : ∃ v, (Op.unary op u).run P w = .ok v w ∧ ∀ H, RelI H av v := by
  cases op <;> simp only [xun, reduceCtorEq] at h <;> split at h <;> first | cases h | skip
  all_goals first
    | (refine ⟨_, ?_, fun H => .int _ _⟩; rw [hx.int_inv]; simp [Op.unary, Op.intArith]; done)
    | (refine ⟨_, ?_, fun H => .bool _⟩; rw [hx.bool_inv]; simp [Op.unary]; done)
    | (refine ⟨_, ?_, fun H => .int _ _⟩; rw [hx.int_inv]; simp [Op.unary, Op.intBits]; done)

theorem xconv_ok {src to : TypeId} {x : AV} {u : Value} {av : AV} (hx : RV H E x u) (h : xconv P src to x = some av) : ∃ v, (convert src to u).run P w = .ok v w ∧ ∀ H, RelI H av v := by
  unfold xconv at h
  split at h
  · rename_i k n
    rw [hx.int_inv]
    split at h
    · rename_i k' ht
      split at h
      · rename_i hs
        cases h
        obtain ⟨d, hd'⟩ := Option.isSome_iff_exists.1 hs
        exact ⟨_, by simp [convert, run_underlying ht, run_underlying hd', Conv.intToInt], fun _ => .int _ _⟩
      · cases h
    · cases h
  · rename_i s
    rw [hx.str_inv]
    split at h
    · rename_i hs
      cases h
      simp only [Bool.and_eq_true] at hs
      obtain ⟨d, hd'⟩ := Option.isSome_iff_exists.1 hs.2
      exact ⟨_, by simp [convert, run_underlying (isStrT_ok hs.1), run_underlying hd'], fun _ => .str _⟩
    · cases h
  · cases h

/-- What a part of known cells is. -/
theorem partD_rel {cs : List AV} {n off : Nat} {g : Bool} {val : Nat → Value} (hl : off + wd g n ≤ cs.length)
    (hc : ∀ (j : Nat) (c : AV), cs[j]? = some c → RV H E c (val j)) (h1 : ∀ (j : Nat) (c : AV), cs[j]? = some c → (val j).oneCell' = true) :
    RV H E (partD g n off cs) (if g then .agg ((List.range n).map fun j => val (off + j)).toArray else val off) := by
  cases g
  · simp only [wd, cond_false] at hl
    have hx : cs[off]? = some (cs[off]'(by omega)) := List.getElem?_eq_getElem (by omega)
    simp only [partD, Bool.false_eq_true, if_false, hx, Option.getD_some]
    exact hc off _ hx
  · simp only [wd, cond_true] at hl
    simp only [partD, if_true]
    refine .agg _ _ (by simp; omega) (fun v hv => ?_) fun j c v hj hv => ?_
    · simp only [List.mem_toArray, List.mem_map, List.mem_range] at hv
      obtain ⟨j, hj, rfl⟩ := hv
      exact h1 _ _ (List.getElem?_eq_getElem (by omega : off + j < cs.length))
    rw [List.getElem?_take] at hj
    split at hj
    · rename_i hjn
      rw [List.getElem?_drop] at hj
      simp [hjn] at hv
      subst hv
      exact hc _ _ hj
    · cases hj

theorem part_agg {t : TypeId} {n : Nat} {g : Bool} (ht : tyI P t = some (n, g)) {cs : List AV} {vs : Array Value} {o : Nat} (hv : RV H E (.agg cs) (.agg vs)) (hl : o + wd g n ≤ cs.length) :
    ∃ u, (part t vs o).run P w = .ok u w ∧ RV H E (partD g n o cs) u := by
  obtain ⟨vs', e, hvs, h1, hc⟩ := hv.agg_inv
  cases e
  have hr := partD_rel (cs := cs) (n := n) (off := o) (g := g) (val := fun j => vs.getD j Go.undef) (H := H) (E := E) hl (fun j c hj => by
    have hjl : j < vs.size := by rw [← hvs]; exact (List.getElem?_eq_some_iff.1 hj).1
    exact hc j c _ hj (by simp [Array.getD_eq_getD_getElem?, hjl])) (fun j c hj => by
    have hjl : j < vs.size := by rw [← hvs]; exact (List.getElem?_eq_some_iff.1 hj).1
    simp only [Array.getD_eq_getD_getElem?, hjl, Array.getElem?_eq_getElem, Option.getD_some]
    exact h1 _ (Array.getElem_mem hjl))
  refine ⟨_, ?_, hr⟩
  rw [run_part' ht]
  cases g
  · simp only [wd, cond_false] at hl
    simp only [Bool.false_eq_true, if_false]
    have : o < vs.size := by omega
    simp [Array.getD_eq_getD_getElem?, this]
  · simp only [wd, cond_true] at hl
    simp only [if_true]
    congr 2
    apply Array.ext
    · simp; omega
    · intro i h1 h2
      simp at h1 h2
      simp [Array.getD_eq_getD_getElem?, show o + i < vs.size by omega]

theorem xfield_ok {s : TypeId} {x : AV} {f : Nat} {u : Value} {av : AV} (hx : RV H E x u) (h : xfield P s x f = some av) : ∃ v, (Instr.field s u f).run P w = .ok v w ∧ RV H E av v := by
  unfold xfield at h
  split at h
  · rename_i o n g hf
    split at h
    · rename_i cs
      split at h
      · rename_i hl
        cases h
        obtain ⟨vs, rfl, hvs, h1, hc⟩ := hx.agg_inv
        obtain ⟨fs, fl, hs, hf', ho, ht⟩ := fldI_inv hf
        obtain ⟨r, h3, h4⟩ := part_agg (w := w) ht hx hl
        exact ⟨r, by simp only [Instr.field, Sem.run_bind, run_underlying hs, Result.andThen_ok, hf', asAgg, Sem.run_pure, ho, h3], h4⟩
      · cases h
    · cases h
  · cases h

theorem xindex_ok {t : TypeId} {x i : AV} {u z : Value} {av : AV} (hx : RV H E x u) (hi : RV H E i z) (h : xindex P t x i = some av) : ∃ v, (Instr.index t u z).run P w = .ok v w ∧ RV H E av v := by
  unfold xindex at h
  split at h
  · rename_i s k n
    split at h
    · rename_i hc
      cases h
      simp only [Bool.and_eq_true, decide_eq_true_eq] at hc
      obtain ⟨ht, h0, h1⟩ := hc
      rw [hx.str_inv, hi.int_inv]
      have hlt : n.toNat < s.length := by omega
      refine ⟨.int .u8 ((s[n.toNat]?).getD 0).toNat, ?_, .imm _ _ (.int _ _)⟩
      have hb : (ByteArray.mk s.toArray)[n.toNat]? = some s[n.toNat] := by
        rw [getElem?_pos _ _ (by simpa [ByteArray.size] using hlt)]
        rfl
      simp [Instr.index, asIntOf, run_underlying (isStrT_ok ht), h0, hb, hlt]
    · cases h
  · rename_i cs k n
    split at h
    · rename_i len z' g ha
      split at h
      · rename_i hc
        cases h
        simp only [Bool.and_eq_true, decide_eq_true_eq] at hc
        obtain ⟨⟨h0, h1⟩, h2⟩ := hc
        have h2 := Nat.le_of_ble_eq_true h2
        obtain ⟨vs, rfl, hvs, _, hc⟩ := hx.agg_inv
        obtain ⟨e, he, ht⟩ := arI_inv ha
        obtain ⟨r, h3, h4⟩ := part_agg (w := w) ht hx h2
        rw [hi.int_inv]
        refine ⟨r, ?_, h4⟩
        have : 0 ≤ n ∧ n < (len : Int) := ⟨h0, h1⟩
        simp only [Instr.index, asIntOf, Sem.run_bind, Sem.run_pure, Result.andThen_ok, run_underlying he, if_pos this, run_sizeOf' ht, h3]
      · cases h
    · cases h
  · cases h

theorem xfieldAddr_ok {s : TypeId} {x : AV} {f : Nat} {u : Value} {av : AV} (hx : RV H E x u) (h : xfieldAddr P s x f = some av) : ∃ v, (Instr.fieldAt s u f).run P w = .ok v w ∧ RV H E av v := by
  unfold xfieldAddr at h
  split at h
  · rename_i o n g hf
    obtain ⟨fs, fl, hs, hf', ho, ht⟩ := fldI_inv hf
    split at h
    · cases h
    · rename_i hn
      split at h
      · rename_i sz xs i off
        cases h
        cases hx.ip_inv with
        | ip _ _ b ob _ _ val h0 h1 h2 h3 h4 =>
          refine ⟨.pointer (some ⟨b, ob + i * sz + (off + o), none⟩), ?_, .imm _ _ (.ip sz xs b ob i (off + o) val h0 h1 h2 h3 h4)⟩
          simp only [Instr.fieldAt, Sem.run_bind, run_underlying hs, Result.andThen_ok, hf', Instr.sureAddr, Sem.run_pure, run_fieldPlace' ht hn, ho, add_none, Nat.add_assoc]
      · rename_i id ver off
        cases h
        obtain ⟨a, rfl, h1, h2⟩ := hx.ptr_inv
        refine ⟨.pointer (some (a.add o)), ?_, .ptr id ver (off + o) _ h1 fun l hl => by rw [h2 l hl, add_none, Nat.add_assoc]⟩
        simp only [Instr.fieldAt, Sem.run_bind, run_underlying hs, Result.andThen_ok, hf', Instr.sureAddr, Sem.run_pure, run_fieldPlace' ht hn, ho]
      · cases h
  · cases h

theorem xindexAddr_ok {t : TypeId} {x i : AV} {u z : Value} {av : AV} (hx : RV H E x u) (hi : RV H E i z) (h : xindexAddr P t x i = some av) : ∃ v, (Instr.indexAt t u z).run P w = .ok v w ∧ RV H E av v := by
  unfold xindexAddr at h
  split at h
  · rename_i k n
    rw [hi.int_inv]
    split at h
    · rename_i sz xs
      split at h
      · rename_i hc
        cases h
        obtain ⟨he, h0, h1⟩ := hc
        obtain ⟨e, inf, ht, hin, hsz⟩ := elI_inv he
        have hi' : n.toNat < xs.length := by omega
        cases hx.sl_inv with
        | sl0 => simp at h1; omega
        | sl _ _ b o cap val hs hc hm h2 h3 h4 =>
          have hx0 : ∀ (i : Nat) (x : AV), [(xs[n.toNat]?).getD .undef][i]? = some x → i = 0 ∧ xs[n.toNat]? = some x := fun i x hx => by
            cases i with
            | zero => simp only [List.getElem?_cons_zero, Option.some.injEq] at hx; rw [List.getElem?_eq_getElem hi', Option.getD_some] at hx; exact ⟨rfl, by rw [List.getElem?_eq_getElem hi', hx]⟩
            | succ i => simp at hx
          refine ⟨.pointer (some ⟨b, (o + n.toNat * sz) + 0 * sz + 0, none⟩), ?_, .imm _ _ (.ip sz [(xs[n.toNat]?).getD .undef] b (o + n.toNat * sz) 0 0 (fun _ j => val n.toNat j) hs (by simp) (fun i x hx => h2 _ x (hx0 i x hx).2)
            (fun i x j c hx hc => by obtain ⟨rfl, hx'⟩ := hx0 i x hx; have := h3 _ x j c hx' hc; rw [Nat.zero_mul, Nat.add_zero]; exact this) (fun i x j c hx hc => by obtain ⟨rfl, hx'⟩ := hx0 i x hx; exact h4 _ x j c hx' hc))⟩
          have hlt : 0 ≤ n ∧ n < (xs.length : Int) := ⟨h0, h1⟩
          simp only [Instr.indexAt, asIntOf, Sem.run_bind, Sem.run_pure, Result.andThen_ok, run_underlying ht]
          simp only [hlt, and_self, if_true, Sem.run_bind, Go.sizeOf, typeInfo, run_program, Result.andThen_ok, hin, Sem.run_pure, hsz, add_none, Nat.add_zero, Nat.zero_mul]
      · cases h
    · rename_i id ver sz off len
      split at h
      · rename_i hc
        cases h
        obtain ⟨he, h0, h1⟩ := hc
        obtain ⟨e, inf, ht, hin, hsz⟩ := elI_inv he
        obtain ⟨a, cap, rfl, ha, hlc, hm, hl⟩ := hx.bs_inv
        refine ⟨.pointer (some (a.add (n.toNat * sz))), ?_, .ptr id ver _ _ ha fun l hl' => by rw [(hl l hl').1, add_none, Nat.add_assoc]⟩
        have hlt : 0 ≤ n ∧ n < (len : Int) := ⟨h0, h1⟩
        simp only [Instr.indexAt, asIntOf, Sem.run_bind, Sem.run_pure, Result.andThen_ok, run_underlying ht]
        simp only [hlt, and_self, if_true, Sem.run_bind, Go.sizeOf, typeInfo, run_program, Result.andThen_ok, hin, Sem.run_pure, hsz]
      · cases h
    · rename_i id ver off
      split at h
      · rename_i len z' g ha
        split at h
        · rename_i hc
          cases h
          obtain ⟨e, he, ht⟩ := arI_inv ha
          obtain ⟨a, rfl, h1, h2⟩ := hx.ptr_inv
          refine ⟨.pointer (some (a.add (n.toNat * z'))), ?_, .ptr id ver _ _ h1 fun l hl => by rw [h2 l hl, add_none, Nat.add_assoc]⟩
          simp only [Instr.indexAt, asIntOf, Sem.run_bind, Sem.run_pure, Result.andThen_ok, run_underlying he, Instr.sureAddr]
          simp only [hc, and_self, if_true, Sem.run_bind, run_sizeOf' ht, Result.andThen_ok, Sem.run_pure]
        · cases h
      · cases h
    · rename_i sz xs j off
      split at h
      · rename_i len z' g ha
        split at h
        · rename_i hc
          cases h
          obtain ⟨e, he, ht⟩ := arI_inv ha
          cases hx.ip_inv with
          | ip _ _ b ob _ _ val h0 h1 h2 h3 h4 =>
            refine ⟨.pointer (some ⟨b, ob + j * sz + (off + n.toNat * z'), none⟩), ?_, .imm _ _ (.ip sz xs b ob j _ val h0 h1 h2 h3 h4)⟩
            simp only [Instr.indexAt, asIntOf, Sem.run_bind, Sem.run_pure, Result.andThen_ok, run_underlying he, Instr.sureAddr]
            simp only [hc, and_self, if_true, Sem.run_bind, run_sizeOf' ht, Result.andThen_ok, Sem.run_pure, add_none, Nat.add_assoc]
        · cases h
      · cases h
    · cases h
  · cases h

theorem xextract_ok {x : AV} {j : Nat} {u : Value} {av : AV} (hx : RV H E x u) (h : xextract x j = some av) : ∃ v, (Instr.extract u j).run P w = .ok v w ∧ RV H E av v := by
  unfold xextract at h
  split at h
  · rename_i vs
    obtain ⟨us, rfl, hl, hc⟩ := hx.tup_inv
    have hjl : j < us.size := by rw [← hl]; exact (List.getElem?_eq_some_iff.1 h).1
    have hj : us[j]? = some us[j] := Array.getElem?_eq_getElem hjl
    exact ⟨us[j], by simp [Instr.extract, hj], hc j _ _ h hj⟩
  · cases h
end
end HX
