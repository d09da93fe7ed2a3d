/- A walk whose conditions the kernel works out: hints, operations, regions. -/
import Derived.Test.YtcphiogbjdehhaaDoorHxPure
namespace HX
open Go Go.RowKit

/-- A function's answer on trees is a tree. -/
structure Pu (P : Program) (gl : Nat → AV) (f : Nat) (args : List AV) (r : AV) : Prop where
  ok : CallOk0 P gl f args r .nil 0
/-- A function's answer is a slice of its own. -/
structure Fresh (P : Program) (gl : Nat → AV) (strict : Bool) (f : Nat) (args : List AV) (sz len : Nat) (ds : List AV) : Prop where
  ok : CallOk0 P gl f args (.bs 0 0 sz 0 len) (pt .nil 0 (.cells 0 ds)) 1
  size : ds.length = len * sz
  pos : 0 < sz
  trees : ∀ hp, optL (tree hp strict 12) ds = some ds

/-- The box that a slot refers to, or a cell of that box, and so on; its contents hold no reference (opq). -/
structure KB where
  slot : Nat
  path : List Nat
  opq : Bool

/-- A box, with what is known of its row's type. -/
abbrev Bx := Nat × List AV

structure Alt where
  φ : Prop
  ex : Exit
  vs : List AV
  bs : List Bx

inductive Hint where
  | v (x : AV)
  | vb (x : AV) (id : Nat) (bx : Box)
  | b (t : Bool)
  | split
  | e (x : AV)
  | u (x : UInt8)
  | s
  | a (len : Nat) (cs : List AV)
  | us (s : List UInt8)
  | c (r : AV)
  | ct (ts : List AV) (r : AV)
  | cts (ts : List AV) (u : Bool)
  | cs (u : Bool)
  | cb (sz len : Nat) (ds : List AV)
  | i (sub : List (Nat × Hint))
  | l (ks : List Nat) (kb : List KB) (kx : List Nat) (kbx : List KB) (alts : List Alt)

abbrev Hints := List (Nat × Hint)
def lkH : Hints → Nat → Option Hint
  | [], _ => none
  | (k, h) :: r, n => match Nat.beq k n with
    | true => some h
    | false => lkH r n
def keyOf (dst : Option Nat) (op : Op) : Nat :=
  match dst with
  | some d => d
  | none => match op with
    | .store _ (.tmp k) _ => 1000000 + k
    | _ => 1000000

abbrev Res := AV × Option (Nat × Box)

/-- What is owed for a value given ahead. -/
def oblV (P : Program) (bid : Nat) (dst : Option Nat) (op : Op) (ev : Operand → AV) (hp : Hp) (r : AV) : Prop :=
  match op with
  | .indexAddr t x i => xindexAddr P t (ev x) (ev i) = some r
  | .index t x i => xindex P t (ev x) (ev i) = some r
  | .slice t x lo hi mx => xslice P t (ev x) (lo.map ev) (hi.map ev) (mx.map ev) = some r
  | .load t x => xload P t (ev x) hp = some r
  | .binOp o t x y _ => xbin P o t (ev x) (ev y) = some r
  | .convert src to x => xconv P src to (ev x) = some r
  | op => xop P bid dst op ev hp = some (r, none)
theorem oblV_ok {P : Program} {bid : Nat} {dst : Option Nat} {op : Op} {ev : Operand → AV} {hp : Hp} {r : AV} (h : oblV P bid dst op ev hp r) : xop P bid dst op ev hp = some (r, none) := by
  unfold oblV at h
  split at h
  · refine xop_of0 ?_; show xv _ = _; rw [h]; rfl
  · refine xop_of0 ?_; show xv _ = _; rw [h]; rfl
  · refine xop_of0 ?_; show xv _ = _; rw [h]; rfl
  · refine xop_of0 ?_; show xv _ = _; rw [h]; rfl
  · refine xop_of0 ?_; show xv _ = _; rw [h]; rfl
  · refine xop_of0 ?_; show xv _ = _; rw [h]; rfl
  · exact h

/- operations whose conditions are not known by the kernel -/
def bI (d : Int) : Option AV → Option Int
  | none => some d
  | some (.int _ n) => some n
  | some _ => none
def ieq (P : Program) (t : TypeId) (sz : Nat) : Bool := match elI P t with
  | some k => Nat.beq k sz
  | none => false
theorem ieq_ok {P : Program} {t : TypeId} {sz : Nat} (h : ieq P t sz = true) : elI P t = some sz := by
  unfold ieq at h
  split at h
  · rename_i k hk; rw [hk, Nat.eq_of_beq_eq_true h]
  · cases h
def keq (a b : IntKind) : Bool := if a = b then true else false
theorem keq_ok {a b : IntKind} (h : keq a b = true) : a = b := by
  unfold keq at h
  split at h
  · assumption
  · cases h

/-- By symbols: the answer, and what must hold for it. -/
def wopS (P : Program) (op : Op) (ev : Operand → AV) (K : Res → Prop) : Prop :=
  match op with
  | .binOp o _ x y _ => match ev x, ev y with
    | .str a, .str b => match o with
      | .add => a.length + b.length ≤ 9223372036854775807 ∧ K (.str (a ++ b), none)
      | _ => False
    | .int k a, .int k' b => match keq k k' with
      | true => match o with
        | .quo => b ≠ 0 ∧ K (.int k (k.wrap (a.tdiv b)), none)
        | .rem => b ≠ 0 ∧ K (.int k (a.tmod b), none)
        | _ => False
      | false => False
    | _, _ => False
  | .indexAddr t x i => match ev i with
    | .int _ k => match ev x with
      | .bs id ver sz off len => match ieq P t sz with
        | true => (0 ≤ k ∧ k < len) ∧ K (.ptr id ver (off + k.toNat * sz), none)
        | false => False
      | .ptr id ver off => match arI P t with
        | some (n, z, _) => (0 ≤ k ∧ k < n) ∧ K (.ptr id ver (off + k.toNat * z), none)
        | none => False
      | .ip sz xs j off => match arI P t with
        | some (n, z, _) => (0 ≤ k ∧ k < n) ∧ K (.ip sz xs j (off + k.toNat * z), none)
        | none => False
      | _ => False
    | _ => False
  | .slice t x lo hi mx => match mx with
    | some _ => False
    | none => match bI 0 (lo.map ev) with
      | some l => match ev x with
        | .str s => match bI s.length (hi.map ev) with
          | some h => match isStrT P t with
            | true => (0 ≤ l ∧ l ≤ h ∧ h ≤ s.length) ∧ K (.str ((s.take h.toNat).drop l.toNat), none)
            | false => False
          | none => False
        | .sl sz xs => match bI xs.length (hi.map ev) with
          | some h => match ieq P t sz with
            | true => (0 ≤ l ∧ l ≤ h ∧ h ≤ xs.length) ∧ K (.sl sz ((xs.take h.toNat).drop l.toNat), none)
            | false => False
          | none => False
        | .bs id ver sz off len => match bI len (hi.map ev) with
          | some h => match ieq P t sz with
            | true => (0 ≤ l ∧ l < h ∧ h ≤ len) ∧ K (.bs id ver sz (off + l.toNat * sz) (h.toNat - l.toNat), none)
            | false => False
          | none => False
        | _ => False
      | none => False
  | _ => False

theorem bI_ok {d : Nat} {o : Option AV} {n : Int} (h : bI d o = some n) (h0 : 0 ≤ n) : bndN d o = some n.toNat := by
  unfold bI at h
  split at h
  · cases h; rfl
  · cases h; simp only [bndN]; rw [if_pos h0]
  · cases h

theorem wopS_ok {P : Program} {bid : Nat} {dst : Option Nat} {op : Op} {ev : Operand → AV} {hp : Hp} {K : Res → Prop} (h : wopS P op ev K) : ∃ r, xop P bid dst op ev hp = some r ∧ K r := by
  unfold wopS at h
  split at h
  · rename_i o t x y p
    split at h
    · rename_i a b hx hy
      split at h
      · refine ⟨_, xop_of0 ?_, h.2⟩
        show xv (xbin P .add t (ev x) (ev y)) = _
        rw [hx, hy]
        show xv (xbinS .add a b) = _
        simp only [xbinS, if_pos h.1]; rfl
      · cases h
    · rename_i k a k' b hx hy
      split at h
      · rename_i hk
        obtain rfl := keq_ok hk
        split at h
        · refine ⟨_, xop_of0 ?_, h.2⟩
          show xv (xbin P .quo t (ev x) (ev y)) = _
          rw [hx, hy]
          simp only [xbin, if_true, xbinI, if_neg h.1]; rfl
        · refine ⟨_, xop_of0 ?_, h.2⟩
          show xv (xbin P .rem t (ev x) (ev y)) = _
          rw [hx, hy]
          simp only [xbin, if_true, xbinI, if_neg h.1]; rfl
        · cases h
      · cases h
    · cases h
  · rename_i t x i
    split at h
    · rename_i k0 k hi
      split at h
      · rename_i id ver sz off len hx
        split at h
        · rename_i ht
          refine ⟨_, xop_of0 ?_, h.2⟩
          show xv (xindexAddr P t (ev x) (ev i)) = _
          rw [hx, hi]
          simp only [xindexAddr]
          rw [if_pos ⟨ieq_ok ht, h.1.1, h.1.2⟩]; rfl
        · cases h
      · rename_i id ver off hx
        split at h
        · rename_i n z g ht
          refine ⟨_, xop_of0 ?_, h.2⟩
          show xv (xindexAddr P t (ev x) (ev i)) = _
          rw [hx, hi]
          simp only [xindexAddr, ht]
          rw [if_pos h.1]; rfl
        · cases h
      · rename_i sz xs j off hx
        split at h
        · rename_i n z g ht
          refine ⟨_, xop_of0 ?_, h.2⟩
          show xv (xindexAddr P t (ev x) (ev i)) = _
          rw [hx, hi]
          simp only [xindexAddr, ht]
          rw [if_pos h.1]; rfl
        · cases h
      · cases h
    · cases h
  · rename_i t x lo hi mx
    split at h
    · cases h
    · split at h
      · rename_i l hl
        have hl0 : ∀ d : Int, 0 ≤ l → bndN 0 (lo.map ev) = some l.toNat := fun _ h0 => bI_ok hl h0
        split at h
        · rename_i s hx
          split at h
          · rename_i hh hhi
            split at h
            · rename_i ht
              obtain ⟨⟨h0, h1, h2⟩, hK⟩ := h
              refine ⟨_, xop_of0 ?_, hK⟩
              show xv (xslice P t (ev x) (lo.map ev) (hi.map ev) none) = _
              rw [hx]
              simp only [xslice, hl0 0 h0, bI_ok hhi (by omega)]
              rw [if_pos ⟨ht, rfl, by omega, by omega⟩]; rfl
            · cases h
          · cases h
        · rename_i sz xs hx
          split at h
          · rename_i hh hhi
            split at h
            · rename_i ht
              obtain ⟨⟨h0, h1, h2⟩, hK⟩ := h
              refine ⟨_, xop_of0 ?_, hK⟩
              show xv (xslice P t (ev x) (lo.map ev) (hi.map ev) none) = _
              rw [hx]
              simp only [xslice, hl0 0 h0, bI_ok hhi (by omega)]
              rw [if_pos ⟨ieq_ok ht, by omega, by omega⟩]; rfl
            · cases h
          · cases h
        · rename_i id ver sz off len hx
          split at h
          · rename_i hh hhi
            split at h
            · rename_i ht
              obtain ⟨⟨h0, h1, h2⟩, hK⟩ := h
              refine ⟨_, xop_of0 ?_, hK⟩
              show xv (xslice P t (ev x) (lo.map ev) (hi.map ev) none) = _
              rw [hx]
              simp only [xslice, hl0 0 h0, bI_ok hhi (by omega)]
              rw [if_pos ⟨ieq_ok ht, by omega, by omega⟩, if_neg (by omega)]; rfl
            · cases h
          · cases h
        · cases h
      · cases h
  · cases h

/-- What is appended, and its cells: another slice of one's own type, or a string to bytes. -/
def wsrc (P : Program) (t t' : TypeId) (sz : Nat) (x : AV) (hp : Hp) : Option (Nat × List AV) :=
  match x with
  | .str b => match isStrT P t' && Nat.beq sz 1 with
    | true => some (b.length, b.map byteAV)
    | false => none
  | x => match Nat.beq t' t with
    | true => xsrc sz x hp
    | false => none
/-- append, its new contents given ahead. -/
def wappT (bid e tg sz by_ n : Nat) (ds : List AV) (s : AV) (hp : Hp) (len' : Nat) (cs' : List AV) (K : Res → Prop) : Prop :=
  match s with
  | .nil => (n ≠ 0 ∧ n * by_ ≤ 140737488355328 ∧ n ≤ 9223372036854775807 ∧ n = len' ∧ ds = cs') ∧ K (.bs bid tg sz 0 len', some (bid, .cells tg cs'))
  | .emp => (n ≠ 0 ∧ n * by_ ≤ 140737488355328 ∧ n ≤ 9223372036854775807 ∧ n = len' ∧ ds = cs') ∧ K (.bs bid tg sz 0 len', some (bid, .cells tg cs'))
  | .bs id ver z off len => match hp id with
    | some (.cells v cs) => match Nat.beq z sz && Nat.beq v ver with
      | true => (n ≠ 0 ∧ off + len * sz ≤ cs.length ∧ (len + n) * by_ ≤ 140737488355328 ∧ len + n ≤ 9223372036854775807 ∧ len + n = len' ∧ (cs.drop off).take (len * sz) ++ ds = cs') ∧ K (.bs id (nextV e off ver) sz 0 len', some (id, .cells (nextV e off ver) cs'))
      | false => False
    | _ => False
  | _ => False
theorem wappT_ok {bid e tg sz by_ n : Nat} {ds : List AV} {s : AV} {hp : Hp} {len' : Nat} {cs' : List AV} {K : Res → Prop} (h : wappT bid e tg sz by_ n ds s hp len' cs' K) : n ≠ 0 ∧ ∃ r, xappT bid e tg sz by_ n ds s hp = some r ∧ K r := by
  unfold wappT at h
  unfold xappT
  split at h
  · obtain ⟨⟨h0, h1, h2, rfl, rfl⟩, hK⟩ := h
    exact ⟨h0, _, by simp only [if_pos (And.intro h1 h2)], hK⟩
  · obtain ⟨⟨h0, h1, h2, rfl, rfl⟩, hK⟩ := h
    exact ⟨h0, _, by simp only [if_pos (And.intro h1 h2)], hK⟩
  · split at h
    · rename_i v cs hid
      split at h
      · rename_i hc
        rw [Bool.and_eq_true] at hc
        obtain rfl := Nat.eq_of_beq_eq_true hc.1
        obtain rfl := Nat.eq_of_beq_eq_true hc.2
        obtain ⟨⟨h0, h1, h2, h3, rfl, rfl⟩, hK⟩ := h
        exact ⟨h0, _, by simp only [hid]; rw [if_pos ⟨trivial, trivial, h1, h2, h3⟩], hK⟩
      · cases h
    · cases h
  · cases h
def wapp (P : Program) (bid : Nat) (op : Op) (ev : Operand → AV) (hp : Hp) (len' : Nat) (cs' : List AV) (K : Res → Prop) : Prop :=
  match op with
  | .call c => match c.callee with
    | .builtin .append => match c.argTypes.toList, c.args.toList.map ev with
      | [t, t'], [s, x] => match elG P t with
        | some (sz, by_, _) => match wsrc P t t' sz x hp with
          | some (n, ds) => wappT bid (elT P t) (tagE P (elT P t)) sz by_ n ds s hp len' cs' K
          | none => False
        | none => False
      | _, _ => False
    | _ => False
  | _ => False

theorem wapp_ok {P : Program} {bid : Nat} {dst : Option Nat} {op : Op} {ev : Operand → AV} {hp : Hp} {len' : Nat} {cs' : List AV} {K : Res → Prop} (h : wapp P bid op ev hp len' cs' K) : ∃ r, xop P bid dst op ev hp = some r ∧ K r := by
  unfold wapp at h
  split at h
  · rename_i c
    split at h
    · rename_i hc
      split at h
      · rename_i t t' s x ht hx
        split at h
        · rename_i sz by_ zs hel
          split at h
          · rename_i n ds hsrc
            obtain ⟨h0, r, hr, hK⟩ := wappT_ok h
            refine ⟨r, ?_, hK⟩
            unfold wsrc at hsrc
            split at hsrc
            · rename_i b
              split at hsrc
              · rename_i hcc
                cases hsrc
                unfold xop
                have e0 : xop0 P bid dst (.call c) ev hp = none := by
                  simp only [xop0, hc, xbuiltin, ht, hx, xappend, hel, xsrc]
                  split <;> rfl
                rw [e0]
                simp only [xopX, hc, ht, hx, xappS, hel]
                rw [hcc]
                cases b with
                | nil => exact absurd rfl h0
                | cons c0 b0 => exact hr
              · cases hsrc
            · split at hsrc
              · rename_i hcc
                obtain rfl := Nat.eq_of_beq_eq_true hcc
                refine xop_of0 ?_
                simp only [xop0, hc, xbuiltin, ht, hx, xappend, hel, if_true, hsrc]
                rw [if_neg h0]; exact hr
              · cases hsrc
          · cases h
        · cases h
      · cases h
    · cases h
  · cases h

theorem bytesL_map : ∀ (s : List UInt8), bytesL (s.map byteAV) = some s
  | [] => rfl
  | c :: s => by
    have hc := c.toNat_lt
    have h : (decide ((0 : Int) ≤ (c.toNat : Int)) && decide ((c.toNat : Int) < 256)) = true := by simp; omega
    simp only [List.map_cons, byteAV, bytesL, h]
    rw [bytesL_map s]
    simp
/-- Bytes as a string that is given ahead. -/
def wus (P : Program) (op : Op) (ev : Operand → AV) (hp : Hp) (s : List UInt8) (K : Res → Prop) : Prop :=
  match op with
  | .convert src to x => match ev x with
    | .bs id ver sz off len => match hp id with
      | some (.cells v cs) => match Nat.beq v ver && (Nat.beq sz 1 && (isBytesT P src && isStrT P to)) with
        | true => (off + len ≤ cs.length ∧ (cs.drop off).take len = s.map byteAV) ∧ K (.str s, none)
        | false => False
      | _ => False
    | _ => False
  | .call c => match c.callee with
    | .builtin b => match b with
      | .unsafeSliceData => match c.args.toList.map ev with
        | [x] => match x with
          | .bs id ver _ off len => 0 < len ∧ K (.ptr id ver off, none)
          | .nil => K (.nilp, none)
          | _ => False
        | _ => False
      | .unsafeString => match c.argTypes.toList, c.args.toList.map ev with
        | [pt, _], [p, n] => match p with
          | .ptr id ver off => match n with
            | .int .i64 n => match hp id with
              | some (.cells v cs) => match ptTo P pt with
                | some e => match Nat.beq v ver && (Nat.beq off 0 && (Nat.beq (ver % 4096) (e + 1) && Nat.beq (P.cellsOf e) 1)) with
                  | true => (0 < n ∧ n ≤ 9223372036854775807 ∧ n.toNat ≤ cs.length ∧ cs.take n.toNat = s.map byteAV) ∧ K (.str s, some (id, .dead))
                  | false => False
                | none => False
              | _ => False
            | _ => False
          | .nilp => match n with
            | .int .i64 0 => K (.str [], none)
            | _ => False
          | _ => False
        | _, _ => False
      | _ => False
    | _ => False
  | _ => False
theorem wus_ok {P : Program} {bid : Nat} {dst : Option Nat} {op : Op} {ev : Operand → AV} {hp : Hp} {s : List UInt8} {K : Res → Prop} (h : wus P op ev hp s K) : ∃ r, xop P bid dst op ev hp = some r ∧ K r := by
  unfold wus at h
  split at h
  · rename_i src to x
    split at h
    · rename_i id ver sz off len hx
      split at h
      · rename_i v cs hid
        split at h
        · rename_i hc
          simp only [Bool.and_eq_true] at hc
          obtain ⟨h1, h2, h3, h4⟩ := hc
          obtain ⟨⟨hle, hs⟩, hK⟩ := h
          refine ⟨_, ?_, hK⟩
          unfold xop
          have e0 : xop0 P bid dst (.convert src to x) ev hp = none := by simp only [xop0, hx, xconv]; rfl
          rw [e0]
          simp only [xopX, hx, xconvP, hid, hs, bytesL_map]
          rw [h1, h2, h3, h4, Nat.ble_eq_true_of_le hle]
          rfl
        · cases h
      · cases h
    · cases h
  · rename_i c
    split at h
    · rename_i b hc
      split at h
      · split at h
        · rename_i x hx
          split at h
          · rename_i id ver z off len
            refine ⟨_, ?_, h.2⟩
            unfold xop
            have e0 : xop0 P bid dst (.call c) ev hp = none := by simp only [xop0, hc, xbuiltin]
            rw [e0]
            simp only [xopX, hc, hx, xsdata]
            rw [Nat.ble_eq_true_of_le (show 0 + 1 ≤ len from h.1) |> (fun e => (show Nat.blt 0 len = true from e))]
            rfl
          · refine ⟨_, ?_, h⟩
            unfold xop
            have e0 : xop0 P bid dst (.call c) ev hp = none := by simp only [xop0, hc, xbuiltin]
            rw [e0]
            simp only [xopX, hc, hx, xsdata]
            rfl
          · cases h
        · cases h
      · split at h
        · rename_i pt it p n ht hx
          split at h
          · rename_i id ver off
            split at h
            · rename_i n
              split at h
              · rename_i v cs hid
                split at h
                · rename_i e he
                  split at h
                  · rename_i hcc
                    simp only [Bool.and_eq_true] at hcc
                    obtain ⟨h1, h2, h3, h4⟩ := hcc
                    obtain ⟨⟨a1, a2, a3, a4⟩, hK⟩ := h
                    refine ⟨_, ?_, hK⟩
                    unfold xop
                    have e0 : xop0 P bid dst (.call c) ev hp = none := by simp only [xop0, hc, xbuiltin]
                    rw [e0]
                    simp only [xopX, hc, ht, hx, xustr, hid, he, a4, bytesL_map]
                    rw [h1, h2, h3, h4, Nat.ble_eq_true_of_le a3]
                    simp [a1, a2]
                  · cases h
                · cases h
              · cases h
            · cases h
          · split at h
            · refine ⟨_, ?_, h⟩
              unfold xop
              have e0 : xop0 P bid dst (.call c) ev hp = none := by simp only [xop0, hc, xbuiltin]
              rw [e0]
              simp only [xopX, hc, ht, hx, xustr]
            · cases h
          · cases h
        · cases h
      · cases h
    · cases h
  · cases h

/-- One operation that is no call. -/
def wask (P : Program) (bid : Nat) (dst : Option Nat) (op : Op) (ev : Operand → AV) (hp : Hp) (h : Option Hint) (K : Res → Prop) : Prop :=
  match h with
  | none => match xop P bid dst op ev hp with
    | some r => K r
    | none => False
  | some h => match h with
    | .v x => oblV P bid dst op ev hp x ∧ K (x, none)
    | .vb x id bx => xop P bid dst op ev hp = some (x, some (id, bx)) ∧ K (x, some (id, bx))
    | .b t => match xop P bid dst op ev hp with
      | some (.bool u, none) => u = t ∧ K (.bool t, none)
      | _ => False
    | .split => match xop P bid dst op ev hp with
      | some (.bool u, none) => (u = true → K (.bool true, none)) ∧ (u = false → K (.bool false, none))
      | _ => False
    | .e x => match op with
      | .indexAddr t a i => match ev a with
        | .sl sz xs => match ev i with
          | .int _ k => match ieq P t sz with
            | true => (0 ≤ k ∧ xs[k.toNat]? = some x) ∧ K (.ip sz [x] 0 0, none)
            | false => False
          | _ => False
        | _ => False
      | .load t a => match tyI P t with
        | some (n, g) => match ev a with
          | .ptr id ver off => match hp id with
            | some (.cells v cs) => match Nat.beq v ver with
              | true => (off + wd g n ≤ cs.length ∧ partD g n off cs = x) ∧ K (x, none)
              | false => False
            | _ => False
          | _ => False
        | none => False
      | _ => False
    | .u x => match op with
      | .index t a i => match ev a with
        | .str s => match ev i with
          | .int _ k => match isStrT P t with
            | true => (0 ≤ k ∧ s[k.toNat]? = some x) ∧ K (.int .u8 x.toNat, none)
            | false => False
          | _ => False
        | _ => False
      | _ => False
    | .s => wopS P op ev K
    | .a len cs => wapp P bid op ev hp len cs K
    | .us s => wus P op ev hp s K
    | _ => False

theorem wask_ok {P : Program} {bid : Nat} {dst : Option Nat} {op : Op} {ev : Operand → AV} {hp : Hp} {h : Option Hint} {K : Res → Prop} (hw : wask P bid dst op ev hp h K) : ∃ r, xop P bid dst op ev hp = some r ∧ K r := by
  unfold wask at hw
  split at hw
  · split at hw
    · rename_i r hr; exact ⟨r, hr, hw⟩
    · cases hw
  · rename_i h
    split at hw
    · exact ⟨_, oblV_ok hw.1, hw.2⟩
    · exact ⟨_, hw.1, hw.2⟩
    · split at hw
      · rename_i t u hx
        obtain ⟨rfl, hK⟩ := hw
        exact ⟨_, hx, hK⟩
      · cases hw
    · split at hw
      · rename_i u hx
        refine ⟨_, hx, ?_⟩
        cases u with
        | true => exact hw.1 rfl
        | false => exact hw.2 rfl
      · cases hw
    · split at hw
      · rename_i x t a i
        split at hw
        · rename_i sz xs hx
          split at hw
          · rename_i k0 k hi
            split at hw
            · rename_i ht
              obtain ⟨⟨h0, h1⟩, hK⟩ := hw
              refine ⟨_, xop_of0 ?_, hK⟩
              show xv (xindexAddr P t (ev a) (ev i)) = _
              rw [hx, hi]
              have hlt : k < xs.length := by
                have := (List.getElem?_eq_some_iff.1 h1).1
                omega
              simp only [xindexAddr]
              rw [if_pos ⟨ieq_ok ht, h0, hlt⟩, h1]; rfl
            · cases hw
          · cases hw
        · cases hw
      · rename_i x t a
        split at hw
        · rename_i n g ht
          split at hw
          · rename_i id ver off hx
            split at hw
            · rename_i v cs hid
              split at hw
              · rename_i hv
                obtain ⟨⟨hl, rfl⟩, hK⟩ := hw
                refine ⟨_, xop_of0 ?_, hK⟩
                show xv (xload P t (ev a) hp) = _
                rw [hx]
                simp only [xload, ht, hid]
                rw [if_pos (by rw [hv, Bool.true_and]; exact Nat.ble_eq_true_of_le hl)]; rfl
              · cases hw
            · cases hw
          · cases hw
        · cases hw
      · cases hw
    · split at hw
      · rename_i x t a i
        split at hw
        · rename_i s hx
          split at hw
          · rename_i k0 k hi
            split at hw
            · rename_i ht
              obtain ⟨⟨h0, h1⟩, hK⟩ := hw
              refine ⟨_, xop_of0 ?_, hK⟩
              show xv (xindex P t (ev a) (ev i)) = _
              rw [hx, hi]
              have hlt : k < s.length := by
                have := (List.getElem?_eq_some_iff.1 h1).1
                omega
              simp only [xindex]
              rw [if_pos (by simp [ht, h0, hlt]), h1]; rfl
            · cases hw
          · cases hw
        · cases hw
      · cases hw
    · exact wopS_ok hw
    · exact wapp_ok hw
    · exact wus_ok hw
    · cases hw
end HX
