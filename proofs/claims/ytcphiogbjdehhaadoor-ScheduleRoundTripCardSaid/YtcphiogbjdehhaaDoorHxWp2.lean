/- A walk whose conditions the kernel works out: calls and regions. -/
import Derived.Test.YtcphiogbjdehhaaDoorHxWp
namespace HX
open Go Go.RowKit

def guardK (o : Oper) (gv : Option AV) : Option Bool :=
  match o.guard with
  | none => some true
  | some (_, want) => match gv with
    | some x => gwant x want
    | none => none
theorem xcore_guard {P : Program} {ch : CallB} {bid : Nat} {o : Oper} {gv : Option AV} {ev : Operand → AV} {hp : Hp} : xcore P ch bid o gv ev hp = match guardK o gv with | some true => xo P ch bid o.dst o.op ev hp | some false => some (.tup [], none) | none => none := by
  unfold xcore guardK
  cases o.guard with
  | none => rfl
  | some x =>
    cases gv with
    | none => rfl
    | some y => simp only; cases gwant y x.2 with
      | none => rfl
      | some b => cases b <;> rfl

/- calls -/
def wans (hp : Hp) (args : List AV) (K : Bool → List AV → Prop) : Prop :=
  match optL (tree (fun _ => none) false 12) args with
  | some ts => K false ts
  | none => match optL (tree hp false 12) args with
    | some ts => K true ts
    | none => False
def wcall1 (P : Program) (gl : Nat → AV) (bid f : Nat) (h : Hint) (K : Res → Prop) (strict : Bool) (ts : List AV) : Prop :=
  match h with
  | .c r => match xpureR strict bid (some (r, .nil, 0)) with
    | some x => Pu P gl f ts r ∧ K x
    | none => False
  | .cs u => Pu P gl f ts (.bool u) ∧ (u = true → K (.bool true, none)) ∧ (u = false → K (.bool false, none))
  | .cb sz len ds => Fresh P gl strict f ts sz len ds ∧ K (.bs bid 0 sz 0 len, some (bid, .cells 0 ds))
  | _ => False
/-- A row of elements, cell by cell: none refers to a box. -/
structure Rows (sz : Nat) (xs ds : List AV) : Prop where
  flat : ds = xs.flatMap AV.cells
  size : ∀ x ∈ xs, x.cells.length = sz
  imm : ∀ c ∈ ds, ∀ H E v, RV H E c v → RelI H c v
/-- t is x, read as a tree. -/
def asTree (hp : Hp) (x t : AV) : Prop :=
  match x with
  | .bs id ver sz off len => match t with
    | .sl sz' xs => match hp id with
      | some (.cells v cs) => match Nat.beq v ver && Nat.beq sz sz' with
        | true => (off + len * sz ≤ cs.length ∧ xs.length = len ∧ 0 < sz) ∧ Rows sz xs ((cs.drop off).take (len * sz))
        | false => False
      | _ => False
    | _ => False
  | x => tree hp false 12 x = some t
def asTrees (hp : Hp) : List AV → List AV → Prop → Prop
  | [], [], K => K
  | x :: xs, t :: ts, K => asTree hp x t ∧ asTrees hp xs ts K
  | _, _, _ => False
/-- A call with its arguments' trees given ahead. -/
def wcallT (P : Program) (gl : Nat → AV) (hp : Hp) (bid f : Nat) (args ts : List AV) (h : Hint) (K : Res → Prop) : Prop :=
  asTrees hp args ts (wcall1 P gl bid f h K true ts)
def wcall (P : Program) (gl : Nat → AV) (ch0 : CallH) (hp : Hp) (bid f : Nat) (args : List AV) (h : Option Hint) (K : Res → Prop) : Prop :=
  match h with
  | none => match xpure ch0 hp bid f args with
    | some r => K r
    | none => False
  | some h => wans hp args (wcall1 P gl bid f h K)

open Classical in
noncomputable def once (f : Nat) (ts : List AV) (x : AV × Tr Box × Nat) : CallH := fun f' a' h' n' => if f' = f ∧ a' = ts ∧ h' = .nil ∧ n' = 0 then some x else none

def Ch0Ok (P : Program) (gl : Nat → AV) (ch : CallH) : Prop := ∀ f ts r hp' nx', ch f ts .nil 0 = some (r, hp', nx') → CallOk0 P gl f ts r hp' nx'

section
variable {P : Program} {gl : Nat → AV}

theorem once_ok {f : Nat} {ts : List AV} {r : AV} {hp' : Tr Box} {nx' : Nat} (h : CallOk0 P gl f ts r hp' nx') : Ch0Ok P gl (once f ts (r, hp', nx')) := by
  intro f' a' r' h2 n2 hk
  unfold once at hk
  split at hk
  · rename_i hc
    obtain ⟨rfl, rfl, _, _⟩ := hc
    cases hk; exact h
  · cases hk
theorem once_at {f : Nat} {ts : List AV} {x : AV × Tr Box × Nat} : once f ts x f ts .nil 0 = some x := by
  unfold once; rw [if_pos ⟨rfl, rfl, rfl, rfl⟩]

theorem freshR {strict : Bool} {bid sz len : Nat} {ds : List AV} (hs : ds.length = len * sz) (hp : 0 < sz) (ht : ∀ hp, optL (tree hp strict 12) ds = some ds) :
    xpureR strict bid (some (.bs 0 0 sz 0 len, pt .nil 0 (.cells 0 ds), 1)) = some (.bs bid 0 sz 0 len, some (bid, .cells 0 ds)) := by
  simp only [xpureR]
  have e : lkb (pt .nil 0 (.cells 0 ds)) 0 = some (.cells 0 ds) := by rw [lkb_pt, updF_same]
  rw [e]
  simp only
  rw [if_pos ⟨trivial, by omega, hp⟩]
  have : (ds.drop 0).take (len * sz) = ds := by rw [List.drop_zero, ← hs, List.take_length]
  rw [this, ht]

theorem flat_get : ∀ {xs : List AV} {sz : Nat}, (∀ x ∈ xs, x.cells.length = sz) → ∀ (i : Nat) (x : AV) (j : Nat) (c : AV), xs[i]? = some x → x.cells[j]? = some c → (xs.flatMap AV.cells)[i * sz + j]? = some c
  | [], sz, _, i, x, j, c, hx, _ => by simp at hx
  | y :: ys, sz, hs, i, x, j, c, hx, hj => by
    have hy := hs y List.mem_cons_self
    simp only [List.flatMap_cons]
    cases i with
    | zero =>
      simp only [List.getElem?_cons_zero, Option.some.injEq] at hx
      subst hx
      have := (List.getElem?_eq_some_iff.1 hj).1
      rw [List.getElem?_append_left (by omega)]
      simpa using hj
    | succ i =>
      rw [List.getElem?_cons_succ] at hx
      have e : (i + 1) * sz + j = sz + (i * sz + j) := by rw [Nat.add_mul]; omega
      rw [e, List.getElem?_append_right (by omega), hy, Nat.add_sub_cancel_left]
      exact flat_get (fun x hx => hs x (List.mem_cons_of_mem _ hx)) i x j c hx hj

theorem asTree_ok {H : HV} {hp : Hp} {m : Nat → Lc} {w : World} (hbox : ∀ id ver cs, hp id = some (.cells ver cs) → BoxOk H (envOf hp m) (.cells ver cs) (m id) w) (hd : ∀ id ver cs, hp id = some (.cells ver cs) → ∀ o, H (m id).g o = none)
    {x t : AV} {v : Value} (hx : RV H (envOf hp m) x v) (h : asTree hp x t) : RelI (snap H hp m w) t v := by
  unfold asTree at h
  split at h
  · rename_i id ver sz off len
    split at h
    · rename_i sz' xs
      split at h
      · rename_i v' cs hid
        split at h
        · rename_i hc
          rw [Bool.and_eq_true] at hc
          obtain rfl := Nat.eq_of_beq_eq_true hc.1
          obtain rfl := Nat.eq_of_beq_eq_true hc.2
          obtain ⟨⟨hle, rfl, hpos⟩, hR⟩ := h
          obtain ⟨a, cap, rfl, _, hlc, hcm, hloc⟩ := hx.bs_inv
          obtain ⟨rfl, hfit⟩ := hloc _ (live_loc hid)
          obtain ⟨C, e, hC, hsC, hle2, hcs⟩ := hbox _ _ _ hid
          have hcell : ∀ (i : Nat) (x : AV) (j : Nat) (c : AV), xs[i]? = some x → x.cells[j]? = some c → ∃ u, C[(m id).base + off + (i * sz + j)]? = some u ∧ u.oneCell' = true ∧ RelI (snap H hp m w) c u := fun i x j c hx hj => by
            have hf := flat_get hR.size i x j c hx hj
            rw [← hR.flat] at hf
            have hmem := List.mem_of_getElem? hf
            have hlt := (List.getElem?_eq_some_iff.1 hf).1
            have hlt' : i * sz + j < xs.length * sz := by simp at hlt; omega
            rw [List.getElem?_take, if_pos hlt', List.getElem?_drop] at hf
            obtain ⟨u, a1, a2, a3⟩ := hcs _ _ hf
            exact ⟨u, by rw [Nat.add_assoc]; exact a1, a2, (hR.imm c hmem _ _ _ a3).mono (snap_le hd)⟩
          refine RelI.sl (H := snap H hp m w) sz xs (m id).g ((m id).base + off) cap (fun i j => (C[(m id).base + off + (i * sz + j)]?).getD Go.undef) hpos hlc hcm (fun i x hx => hR.size x (List.mem_of_getElem? hx)) (fun i x j c hx hj => ?_) (fun i x j c hx hj => ?_)
          · obtain ⟨u, a1, a2, a3⟩ := hcell i x j c hx hj
            rw [a1]
            refine ⟨?_, a2⟩
            have hex : ∃ id' ver cs, hp id' = some (.cells ver cs) ∧ (m id').g = (m id).g := ⟨id, _, _, hid, rfl⟩
            unfold snap
            rw [if_pos hex, cell_of_row _ _ _ _ _ _ hC, Nat.add_assoc, a1]
            rfl
          · obtain ⟨u, a1, a2, a3⟩ := hcell i x j c hx hj
            rw [a1]; exact a3
        · cases h
      · cases h
    · cases h
  · exact tree_ok (H1 := H) false (fun id ver cs hh => live_loc hh) hbox hd (fun _ => rfl) 12 _ t v hx h

theorem asTrees_ok {hp : Hp} : ∀ {args ts : List AV} {K : Prop}, asTrees hp args ts K → K ∧ ts.length = args.length ∧ ∀ (j : Nat) (x t : AV), args[j]? = some x → ts[j]? = some t → asTree hp x t
  | [], [], K, h => ⟨h, rfl, fun j x t hx => by simp at hx⟩
  | x :: xs, t :: ts, K, h => by
    obtain ⟨h1, h2, h3⟩ := asTrees_ok h.2
    refine ⟨h1, by simp [h2], fun j x' t' hx ht => ?_⟩
    cases j with
    | zero => simp at hx ht; subst hx; subst ht; exact h.1
    | succ j => exact h3 j x' t' (by simpa using hx) (by simpa using ht)
  | [], _ :: _, K, h => h.elim
  | _ :: _, [], K, h => h.elim

theorem wcall1_ok {bid f : Nat} {h : Hint} {K : Res → Prop} {strict : Bool} {ts : List AV} (hw : wcall1 P gl bid f h K strict ts) : ∃ ch x, Ch0Ok P gl ch ∧ xpureR strict bid (ch f ts .nil 0) = some x ∧ K x := by
  unfold wcall1 at hw
  split at hw
  · rename_i r
    split at hw
    · rename_i x hx
      exact ⟨once f ts (r, .nil, 0), x, once_ok hw.1.ok, by rw [once_at]; exact hx, hw.2⟩
    · cases hw
  · rename_i u
    refine ⟨once f ts (.bool u, .nil, 0), (.bool u, none), once_ok hw.1.ok, by rw [once_at]; rfl, ?_⟩
    cases u with
    | true => exact hw.2.1 rfl
    | false => exact hw.2.2 rfl
  · rename_i sz len ds
    exact ⟨once f ts (.bs 0 0 sz 0 len, pt .nil 0 (.cells 0 ds), 1), _, once_ok hw.1.ok, by rw [once_at]; exact freshR hw.1.size hw.1.pos hw.1.trees, hw.2⟩
  · cases hw

theorem wcall_ok {ch0 : CallH} (h0 : ch0.Ok P gl) {hp : Hp} {bid f : Nat} {args : List AV} {h : Option Hint} {K : Res → Prop} (hw : wcall P gl ch0 hp bid f args h K) : ∃ ch x, Ch0Ok P gl ch ∧ xpure ch hp bid f args = some x ∧ K x := by
  unfold wcall at hw
  split at hw
  · split at hw
    · rename_i r hr
      exact ⟨ch0, r, fun _ _ _ _ _ hk => (h0 _ _ _ _ _ _ _ hk).zero, hr, hw⟩
    · cases hw
  · rename_i h
    have main : ∀ strict ts, (∀ ch : CallH, xpure ch hp bid f args = xpureR strict bid (ch f ts .nil 0)) → wcall1 P gl bid f h K strict ts → ∃ ch x, Ch0Ok P gl ch ∧ xpure ch hp bid f args = some x ∧ K x := by
      clear hw
      intro strict ts he hw
      unfold wcall1 at hw
      split at hw
      · rename_i r
        split at hw
        · rename_i x hx
          exact ⟨once f ts (r, .nil, 0), x, once_ok hw.1.ok, by rw [he, once_at]; exact hx, hw.2⟩
        · cases hw
      · rename_i u
        refine ⟨once f ts (.bool u, .nil, 0), (.bool u, none), once_ok hw.1.ok, by rw [he, once_at]; rfl, ?_⟩
        cases u with
        | true => exact hw.2.1 rfl
        | false => exact hw.2.2 rfl
      · rename_i sz len ds
        exact ⟨once f ts (.bs 0 0 sz 0 len, pt .nil 0 (.cells 0 ds), 1), _, once_ok hw.1.ok, by rw [he, once_at]; exact freshR hw.1.size hw.1.pos hw.1.trees, hw.2⟩
      · cases hw
    unfold wans at hw
    split at hw
    · rename_i ts hts
      exact main false ts (fun ch => by unfold xpure; rw [hts]) hw
    · rename_i hno
      split at hw
      · rename_i ts hts
        exact main true ts (fun ch => by unfold xpure; rw [hno]; simp only [hts]) hw
      · cases hw
end

/- regions that draw -/
def wo (P : Program) (gl : Nat → AV) (ch0 : CallH) (hs : Hints) (bid : Nat) (dst : Option Nat) (op : Op) (ev : Operand → AV) (hp : Hp) (K : Res → Prop) : Prop :=
  match isCall op with
  | true => match callee? ev op with
    | some (f, args) => wcall P gl ch0 hp bid f args (lkH hs (keyOf dst op)) K
    | none => False
  | false => wask P bid dst op ev hp (lkH hs (keyOf dst op)) K
def wstepD (P : Program) (gl : Nat → AV) (ch0 : CallH) (hs : Hints) (all : List Oper) (bid : Nat) (o : Oper) (st : St) (K : St → Prop) : Prop :=
  match dstOk o.dst st.n && (lkb st.hp bid).isNone && Nat.blt bid st.nx with
  | true => match guardK o (gval all o st) with
    | some true => wo P gl ch0 hs bid o.dst o.op (st.ev gl) (lkb st.hp) (fun r => K (st.eff o.dst r))
    | some false => K (st.eff o.dst (.tup [], none))
    | none => False
  | false => False
def wrunD (P : Program) (gl : Nat → AV) (ch0 : CallH) (hs : Hints) (all : List Oper) (base : Nat) : List Nat → St → (St → Prop) → Prop
  | [], st, K => K st
  | i :: l, st, K => match all[i]? with
    | some o => wstepD P gl ch0 hs all (base + i) o st (fun s => wrunD P gl ch0 hs all base l s K)
    | none => False

section
variable {P : Program} {gl : Nat → AV} {ch0 : CallH} {hs : Hints}

theorem wo_ok (h0 : ch0.Ok P gl) {bid : Nat} {dst : Option Nat} {op : Op} {ev : Operand → AV} {hp : Hp} {K : Res → Prop} (hw : wo P gl ch0 hs bid dst op ev hp K) :
    ∃ ch x, Ch0Ok P gl ch ∧ K x ∧ ∀ cb : CallB, cb bid = ch → xo P cb bid dst op ev hp = some x := by
  unfold wo at hw
  split at hw
  · rename_i hc
    split at hw
    · rename_i f args hf
      obtain ⟨ch, x, h1, h2, h3⟩ := wcall_ok h0 hw
      refine ⟨ch, x, h1, h3, fun cb he => ?_⟩
      unfold xo
      rw [if_pos hc, hf]
      simp only [he, h2]
    · cases hw
  · rename_i hc
    obtain ⟨x, h1, h2⟩ := wask_ok hw
    refine ⟨ch0, x, fun _ _ _ _ _ hk => (h0 _ _ _ _ _ _ _ hk).zero, h2, fun cb he => ?_⟩
    unfold xo
    rw [if_neg (by rw [hc]; simp)]
    exact h1

theorem wstepD_ok (h0 : ch0.Ok P gl) {all : List Oper} {bid : Nat} {o : Oper} {st : St} {K : St → Prop} (hw : wstepD P gl ch0 hs all bid o st K) :
    ∃ ch s, Ch0Ok P gl ch ∧ K s ∧ ∀ cb : CallB, cb bid = ch → xstepO P gl cb all bid o st = some s := by
  unfold wstepD at hw
  split at hw
  · rename_i hc
    split at hw
    · rename_i hg
      obtain ⟨ch, x, h1, h2, h3⟩ := wo_ok h0 hw
      refine ⟨ch, _, h1, h2, fun cb he => ?_⟩
      rw [xstepO_eq, xcore_guard, if_pos hc, hg, ]
      simp only [h3 cb he]
    · rename_i hg
      refine ⟨ch0, _, fun _ _ _ _ _ hk => (h0 _ _ _ _ _ _ _ hk).zero, hw, fun cb he => ?_⟩
      rw [xstepO_eq, xcore_guard, if_pos hc, hg]
    · cases hw
  · cases hw

theorem wrunD_ok (h0 : ch0.Ok P gl) {all : List Oper} {base : Nat} {K : St → Prop} : ∀ (l : List Nat) (st : St), l.Nodup → wrunD P gl ch0 hs all base l st K →
    ∃ (cb : CallB) (s : St), cb.Ok P gl ∧ K s ∧ ∀ cb' : CallB, (∀ i ∈ l, cb' (base + i) = cb (base + i)) → runI P gl cb' all base l st = some s
  | [], st, _, hw => ⟨fun _ => ch0, st, constB_ok h0, hw, fun _ _ => rfl⟩
  | i :: l, st, hn, hw => by
    simp only [wrunD] at hw
    split at hw
    · rename_i o ho
      obtain ⟨ch, s1, h1, h2, h3⟩ := wstepD_ok h0 hw
      obtain ⟨cb, s, h4, h5, h6⟩ := wrunD_ok h0 l s1 (List.nodup_cons.1 hn).2 h2
      refine ⟨fun b => if b = base + i then ch else cb b, s, fun b f ts r hp' nx' hk => ?_, h5, fun cb' he => ?_⟩
      · dsimp only at hk
        split at hk
        · exact h1 _ _ _ _ _ hk
        · exact h4 _ _ _ _ _ _ hk
      · simp only [runI, ho]
        rw [h3 cb' (by rw [he i List.mem_cons_self]; simp)]
        refine h6 cb' fun j hj => ?_
        rw [he j (List.mem_cons_of_mem _ hj)]
        have : j ≠ i := fun e => (List.nodup_cons.1 hn).1 (e ▸ hj)
        show (if base + j = base + i then ch else cb (base + j)) = _
        rw [if_neg (by omega)]
    · cases hw
end

/- one behind the other -/
abbrev WF := Nat → Hints → List AV → Tr Box → Nat → (AV → Tr Box → Nat → Prop) → Prop

/-- A call comes back with something that K allows. -/
def CallW (P : Program) (gl : Nat → AV) (f : FuncId) (args : List AV) (hp : Tr Box) (nx : Nat) (K : AV → Tr Box → Nat → Prop) : Prop :=
  ∀ (m : Nat → Lc) (H : HV) (B : Nat) (H0 : HV) (rest : List (AV × Value)) (w : World) (vs : Array Value), RelH m H B H0 gl (lkb hp) nx w → args.length = vs.size →
    (∀ (j : Nat) (x : AV) (v : Value), args[j]? = some x → vs[j]? = some v → RV H (envOf (lkb hp) m) x v) → (∀ p ∈ rest, RV H (envOf (lkb hp) m) p.1 p.2) →
    Ans P f vs w fun e w' => ∃ v m' H' r hp' nx', K r hp' nx' ∧ e = .returned v ∧ Below B w w' ∧ RelH m' H' B H0 gl (lkb hp') nx' w' ∧ RV H' (envOf (lkb hp') m') r v ∧ ∀ p ∈ rest, RV H' (envOf (lkb hp') m') p.1 p.2
def WF.Ok (P : Program) (gl : Nat → AV) (wf : WF) : Prop := ∀ f hs args hp nx K, wf f hs args hp nx K → CallW P gl f args hp nx K

def wseqC (P : Program) (gl : Nat → AV) (ch0 : CallH) (wf : WF) (o : Oper) (st : St) (K : St → Prop) (f : Nat) (args : List AV) (h : Option Hint) : Prop :=
  match h with
  | none => match ch0 f args st.hp st.nx with
    | some (r, hp', nx') => K ((st.setHp hp' nx').putO o.dst r)
    | none => False
  | some (.i sub) => wf f sub args st.hp st.nx (fun r hp' nx' => K ((st.setHp hp' nx').putO o.dst r))
  | some (.ct ts r) => wcallT P gl (lkb st.hp) st.nx f args ts (.c r) (fun r => K ((st.bump 1).eff o.dst r))
  | some (.cts ts u) => wcallT P gl (lkb st.hp) st.nx f args ts (.cs u) (fun r => K ((st.bump 1).eff o.dst r))
  | some h => wans (lkb st.hp) args (wcall1 P gl st.nx f h (fun r => K ((st.bump 1).eff o.dst r)))
def wseqO (P : Program) (gl : Nat → AV) (ch0 : CallH) (wf : WF) (hs : Hints) (o : Oper) (st : St) (K : St → Prop) : Prop :=
  match isCall o.op with
  | true => match callee? (st.ev gl) o.op with
    | some (f, args) => wseqC P gl ch0 wf o st K f args (lkH hs (keyOf o.dst o.op))
    | none => False
  | false => wask P st.nx o.dst o.op (st.ev gl) (lkb st.hp) (lkH hs (keyOf o.dst o.op)) (fun r => match r with
    | (v, some b) => K ((st.bump 1).eff o.dst (v, some b))
    | (v, none) => K (st.putO o.dst v))
def wseq (P : Program) (gl : Nat → AV) (ch0 : CallH) (wf : WF) (hs : Hints) (all : List Oper) : List Oper → St → (St → Prop) → Prop
  | [], st, K => K st
  | o :: l, st, K => match dstOk o.dst st.n with
    | true => match guardK o (gval all o st) with
      | some true => wseqO P gl ch0 wf hs o st (fun s => wseq P gl ch0 wf hs all l s K)
      | some false => wseq P gl ch0 wf hs all l (st.putO o.dst (.tup [])) K
      | none => False
    | false => False

def StepW (P : Program) (r : Option Nat) (n : Nat) (B : Nat) (H0 : HV) (gl : Nat → AV) (rest : List (AV × Value)) (a : Act) (w : World) (o : Oper) (K : St → Prop) : Prop :=
  ∀ (next : Act → World → Prop) (Q : Exit → Act → World → Prop),
    (∀ a' w' m' H' st', K st' → a'.defers = a.defers → Below B w w' → RelS m' H' B H0 gl rest st' a'.tmps w' → next a' w') → o.wpIn (FW r) n P a w next Q

section
variable {P : Program} {gl : Nat → AV} {ch0 : CallH} {hs : Hints} {wf : WF} {m : Nat → Lc} {H : HV} {B : Nat} {H0 : HV} {rest : List (AV × Value)} {st : St} {a : Act} {w : World}

theorem StepOk.toW {ro : Option Nat} {n : Nat} {o : Oper} {st' : St} {K : St → Prop} (h : StepOk P ro n B H0 gl rest a w o st') (hk : K st') : StepW P ro n B H0 gl rest a w o K :=
  fun next Q hn => h next Q fun a' w' m' H' hd hb hr => hn a' w' m' H' st' hk hd hb hr

theorem step_of_callsW (h : RelS m H B H0 gl rest st a.tmps w) {o : Oper} {f : Nat} {args : List AV} (hc : callee? (st.ev gl) o.op = some (f, args)) {K : St → Prop} (ro : Option Nat) (n : Nat)
    (hcalls : ∀ vs : Array Value, args.length = vs.size → (∀ (j : Nat) (x : AV) (v : Value), args[j]? = some x → vs[j]? = some v → RV H (st.env m) x v) →
      Ans P f vs w fun e w' => ∃ st' v m' H', K st' ∧ e = .returned v ∧ Below B w w' ∧ RelS m' H' B H0 gl rest st' (a.put o.dst v).tmps w') : StepW P ro n B H0 gl rest a w o K := by
  intro next Q hn
  obtain ⟨vs, hrun, hl, hr⟩ := call_run h hc
  obtain ⟨c, x, caps, ho, _⟩ := callee_inv hc
  refine ⟨fun _ _ => trivial, ?_⟩
  rw [Oper.semAt_eq _ _ _ (fun c e => by rw [ho] at e; cases e), hrun]
  rcases hcalls vs hl hr with ⟨hent, hcs⟩ | ⟨v, w', hv, hq⟩
  · rw [hent vs w]
    refine ⟨(fun hh => by simp [FW] at hh), callsIn_FW (hcs.mono fun e w' hp => ?_)⟩
    obtain ⟨st', v, m', H', hk, rfl, hb, hrel⟩ := hp
    exact hn _ _ _ _ _ hk (put_defers' _ _ _) hb hrel
  · rw [hv]
    obtain ⟨st', v', m', H', hk, he, hb, hrel⟩ := hq
    cases he
    exact hn _ _ _ _ _ hk (put_defers' _ _ _) hb hrel

theorem wcallT_ok (h : RelS m H B H0 gl rest st a.tmps w) {o : Oper} (hd : dstOk o.dst st.n = true) {K : St → Prop} {f : Nat} {args ts : List AV} (hf : callee? (st.ev gl) o.op = some (f, args)) {hh : Hint}
    (hw : wcallT P gl (lkb st.hp) st.nx f args ts hh (fun r => K ((st.bump 1).eff o.dst r))) (ro : Option Nat) (n : Nat) : StepW P ro n B H0 gl rest a w o K := by
  obtain ⟨hw1, hlen, htr⟩ := asTrees_ok hw
  obtain ⟨ch, x, h1, h2, h3⟩ := wcall1_ok hw1
  refine step_of_callsW h hf ro n fun vs hl hv => ?_
  refine (xpure_main (st := st.bump 1) h1 (h.bump 1) hd (h.heap.fresh _ (Nat.le_refl _)) (Nat.lt_succ_self _) true (lkb st.hp) ts (fun _ _ _ hh => hh) (fun e => by cases e) (by rw [hlen]; exact hl) (fun j t v ht hv' => ?_) h2).mono fun e w' hpost => ?_
  · have hj : j < args.length := by rw [← hlen]; exact (List.getElem?_eq_some_iff.1 ht).1
    have hx := List.getElem?_eq_getElem hj
    exact asTree_ok (fun id ver cs hid => h.heap.box id _ hid) (fun id ver cs hid => (h.heap.sep id _ hid).2.2) (hv j _ v hx hv') (htr j _ t hx ht)
  · obtain ⟨v, m', H', rfl, hb, hr⟩ := hpost
    exact ⟨_, v, m', H', h3, rfl, hb, hr⟩

theorem wseqO_ok (h0 : ch0.Ok P gl) (hwf : WF.Ok P gl wf) (h : RelS m H B H0 gl rest st a.tmps w) {o : Oper} (hd : dstOk o.dst st.n = true) {K : St → Prop} (hw : wseqO P gl ch0 wf hs o st K) (ro : Option Nat) (n : Nat) : StepW P ro n B H0 gl rest a w o K := by
  unfold wseqO at hw
  split at hw
  · rename_i hc
    split at hw
    · rename_i f args hf
      unfold wseqC at hw
      split at hw
      · split at hw
        · rename_i r hp' nx' hr
          refine StepOk.toW (inl_ok (ch := ch0) (rd := noRound) h0 noRound_ok h hd (st' := (st.setHp hp' nx').putO o.dst r) ?_ ro n) hw
          unfold xinl
          rw [hf]; simp only [hr]
        · cases hw
      · rename_i sub
        refine step_of_callsW h hf ro n fun vs hl hv => ?_
        refine (hwf _ _ _ _ _ _ hw m H B H0 _ w vs h.heap hl hv h.hold).mono fun e w' hpost => ?_
        obtain ⟨v, m', H', r, hp', nx', hk, rfl, hb, hh, hrv, hrest⟩ := hpost
        exact ⟨_, v, m', H', hk, rfl, hb, h.taken hd hh hrv hrest⟩
      · rename_i ts r
        exact wcallT_ok h hd hf hw ro n
      · rename_i ts u
        exact wcallT_ok h hd hf hw ro n
      · rename_i hh _ _ _ _
        have hw' : wcall P gl ch0 (lkb st.hp) st.nx f args (some hh) (fun r => K ((st.bump 1).eff o.dst r)) := hw
        obtain ⟨ch, x, h1, h2, h3⟩ := wcall_ok h0 hw'
        refine step_of_callsW h hf ro n fun vs hl hv => ?_
        refine (xpure_ok0 (st := st.bump 1) h1 (h.bump 1) hd (h.heap.fresh _ (Nat.le_refl _)) (Nat.lt_succ_self _) hl hv h2).mono fun e w' hpost => ?_
        obtain ⟨v, m', H', rfl, hb, hr⟩ := hpost
        exact ⟨_, v, m', H', h3, rfl, hb, hr⟩
    · cases hw
  · rename_i hc
    obtain ⟨r, h1, h2⟩ := wask_ok hw
    obtain ⟨v, b⟩ := r
    have hch : CallH.Ok P gl (fun _ _ _ _ => none) := fun _ _ _ _ _ _ _ hk => by cases hk
    cases b with
    | some b =>
      refine StepOk.toW (xseqO_ok (ch := fun _ _ _ _ => none) (rd := noRound) hch noRound_ok h hd (st' := (st.bump 1).eff o.dst (v, some b)) ?_ ro n) h2
      unfold xseqO
      rw [if_neg (by rw [hc]; simp), h1]
    | none =>
      refine StepOk.toW (xseqO_ok (ch := fun _ _ _ _ => none) (rd := noRound) hch noRound_ok h hd (st' := st.putO o.dst v) ?_ ro n) h2
      unfold xseqO
      rw [if_neg (by rw [hc]; simp), h1]

theorem wanted_of_guardK {all : List Oper} {o : Oper} {b : Bool} (h : RelS m H B H0 gl rest st a.tmps w) (hg : guardK o (gval all o st) = some b) : Region.wanted o (yielded all.toArray a.tmps) = b := by
  unfold guardK gval at hg
  cases ho : o.guard with
  | none => rw [ho] at hg; cases hg; simp [Region.wanted, ho]
  | some x =>
    obtain ⟨j, want⟩ := x
    rw [ho] at hg
    simp only at hg
    cases hgs : gslot all j with
    | none => rw [hgs] at hg; cases hg
    | some g =>
      rw [hgs] at hg
      exact wanted_of ho hgs hg (h.slot g)

theorem wseq_ok (h0 : ch0.Ok P gl) (hwf : WF.Ok P gl wf) {all : List Oper} {ro : Option Nat} {n : Nat} {d0 : List Deferred} {w0 : World} {K : St → Prop} {Q : Exit → Act → World → Prop}
    (hQ : ∀ (sF : St) (a : Act) (w : World) (m : Nat → Lc) (H : HV), K sF → a.defers = d0 → Below B w0 w → RelS m H B H0 gl rest sF a.tmps w → Q .normal a w) :
    ∀ (pre l : List Oper) (st : St) (a : Act) (w : World) (m : Nat → Lc) (H : HV), all = pre ++ l → wseq P gl ch0 wf hs all l st K → a.defers = d0 → Below B w0 w → RelS m H B H0 gl rest st a.tmps w → wpOpsIn (FW ro) n P all.toArray Q (List.range' pre.length l.length) a w
  | pre, [], st, a, w, m, H, _, hk, hd, hb, hr => hQ st a w m H hk hd hb hr
  | pre, o :: l, st, a, w, m, H, he, hk, hd, hb, hr => by
    simp only [List.length_cons, List.range'_succ, wpOpsIn]
    have ho : all.toArray[pre.length]? = some o := by rw [List.getElem?_toArray, he, List.getElem?_append_right (Nat.le_refl _)]; simp
    simp only [ho]
    have ih := wseq_ok h0 hwf (all := all) (ro := ro) (n := n) hQ (pre ++ [o]) l
    simp only [List.length_append, List.length_cons, List.length_nil, Nat.zero_add, List.append_assoc, List.singleton_append] at ih
    simp only [wseq] at hk
    split at hk
    · rename_i hdst
      split at hk
      · rename_i hg
        rw [if_pos (wanted_of_guardK hr hg)]
        exact wseqO_ok h0 hwf hr hdst hk ro n _ _ fun a' w' m' H' s hs hd' hb' hr' => ih s a' w' m' H' he hs (hd'.trans hd) (hb.trans hb') hr'
      · rename_i hg
        rw [if_neg (by rw [wanted_of_guardK hr hg]; simp)]
        exact ⟨fun _ _ => trivial, ih _ _ w m H he hk ((put_defers' _ _ _).trans hd) hb (hr.putO hdst (.tup [] #[] rfl (fun j c v hj => by simp at hj)))⟩
      · cases hk
    · cases hk
end
end HX
