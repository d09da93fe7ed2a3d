/- Calls: contracts; values as trees; calls that change nothing old. -/
import Derived.Test.YtcphiogbjdehhaaDoorHxStep
import Derived.RangeFuncLeaves
import Derived.OrdersIn
namespace HX
open Go Go.RowKit

def FW (r : Option Nat) : Fence := { fn := fun _ => True, depth := none, alive := false, round := r }

theorem callsIn_FW {r : Option Nat} {n : Nat} {P : Program} {f : FuncId} {args : Array Value} {w : World} {R : Ending → World → Prop} (h : Calls P f args w R) : CallsIn (FW r) n P f args w R :=
  show CallsIn Fence.wide n P f args w R from callsIn_wide.2 h

def Enters (P : Program) (f : FuncId) : Prop := ∀ args w, (callFunc f args).run P w = .ok (.enter f args) w

theorem enters_of {P : Program} {f : FuncId} {fn : Func} (hf : P.funcs[f]? = some fn) (hn : (fn.name == "runtime.NumGoroutine") = false) (hb : fn.body.isSome = true) : Enters P f := by
  intro args w
  have hb' : fn.body.isNone = false := by rw [Option.isNone_eq_false_iff]; exact hb
  simp only [callFunc, Sem.run_bind, run_program, Result.andThen_ok, hf, hn, hb', Bool.false_eq_true, if_false, Sem.run_pure]

/-- A call comes to an end that Q allows: by the function's body, or at once (what the machine itself gives). -/
def Ans (P : Program) (f : FuncId) (vs : Array Value) (w : World) (Q : Ending → World → Prop) : Prop :=
  (Enters P f ∧ Calls P f vs w Q) ∨ ∃ v w', (callFunc f vs).run P w = .ok (.value v) w' ∧ Q (.returned v) w'
theorem Ans.mono {P : Program} {f : FuncId} {vs : Array Value} {w : World} {Q Q' : Ending → World → Prop} (h : Ans P f vs w Q) (hq : ∀ e w', Q e w' → Q' e w') : Ans P f vs w Q' := by
  rcases h with ⟨h1, h2⟩ | ⟨v, w', h1, h2⟩
  · exact .inl ⟨h1, h2.mono hq⟩
  · exact .inr ⟨v, w', h1, hq _ _ h2⟩
theorem Ans.calls {P : Program} {f : FuncId} {vs : Array Value} {w : World} {Q : Ending → World → Prop} (h : Ans P f vs w Q) (he : Enters P f) : Calls P f vs w Q := by
  rcases h with ⟨_, h2⟩ | ⟨v, w', h1, _⟩
  · exact h2
  · rw [he vs w] at h1; cases h1

/-- The contract of a call on the abstract heap. -/
def CallOk (P : Program) (gl : Nat → AV) (f : FuncId) (args : List AV) (hp : Tr Box) (nx : Nat) (r : AV) (hp' : Tr Box) (nx' : Nat) : Prop :=
  ∀ (m : Nat → Lc) (H : HV) (B : Nat) (H0 : HV) (rest : List (AV × Value)) (w : World) (vs : Array Value), RelH m H B H0 gl (lkb hp) nx w → args.length = vs.size →
    (∀ (j : Nat) (x : AV) (v : Value), args[j]? = some x → vs[j]? = some v → RV H (envOf (lkb hp) m) x v) → (∀ p ∈ rest, RV H (envOf (lkb hp) m) p.1 p.2) →
    Ans P f vs w fun e w' => ∃ v m' H', e = .returned v ∧ Below B w w' ∧ RelH m' H' B H0 gl (lkb hp') nx' w' ∧ RV H' (envOf (lkb hp') m') r v ∧ ∀ p ∈ rest, RV H' (envOf (lkb hp') m') p.1 p.2

/-- The same on an empty heap, with nothing else to keep. -/
def CallOk0 (P : Program) (gl : Nat → AV) (f : FuncId) (args : List AV) (r : AV) (hp' : Tr Box) (nx' : Nat) : Prop :=
  ∀ (m : Nat → Lc) (H : HV) (B : Nat) (H0 : HV) (w : World) (vs : Array Value), RelH m H B H0 gl (lkb .nil) 0 w → args.length = vs.size →
    (∀ (j : Nat) (x : AV) (v : Value), args[j]? = some x → vs[j]? = some v → RV H (envOf (lkb .nil) m) x v) →
    Ans P f vs w fun e w' => ∃ v m' H', e = .returned v ∧ Below B w w' ∧ RelH m' H' B H0 gl (lkb hp') nx' w' ∧ RV H' (envOf (lkb hp') m') r v

abbrev CallH := Nat → List AV → Tr Box → Nat → Option (AV × Tr Box × Nat)

def CallH.Ok (P : Program) (gl : Nat → AV) (ch : CallH) : Prop := ∀ f args hp nx r hp' nx', ch f args hp nx = some (r, hp', nx') → CallOk P gl f args hp nx r hp' nx'

/- trees -/
def optL (f : AV → Option AV) : List AV → Option (List AV)
  | [] => some []
  | x :: xs => match f x with
    | some y => match optL f xs with
      | some ys => some (y :: ys)
      | none => none
    | none => none
def chunk (sz len : Nat) (ds : List AV) : List AV := (List.range len).map fun i => .agg ((ds.drop (i * sz)).take sz)
def tree (hp : Hp) (strict : Bool) : Nat → AV → Option AV
  | 0, _ => none
  | k + 1, x => match x with
    | .bs id ver sz off len => match hp id with
      | some (.cells v cs) => if v = ver ∧ off + len * sz ≤ cs.length ∧ 0 < sz then (match optL (tree hp strict k) ((cs.drop off).take (len * sz)) with
        | some ds => some (.sl sz (chunk sz len ds))
        | none => none) else none
      | _ => none
    | .agg cs => match optL (tree hp strict k) cs with
      | some ds => some (.agg ds)
      | none => none
    | .tup cs => match optL (tree hp strict k) cs with
      | some ds => some (.tup ds)
      | none => none
    | .sl sz xs => if strict && !xs.isEmpty then none else some (.sl sz xs)
    | .ip sz xs i off => if strict then none else some (.ip sz xs i off)
    | .fn f cs => if cs.isEmpty then some (.fn f []) else none
    | .ptr .. => none
    | .yld _ => none
    | x => some x

theorem optL_spec {f : AV → Option AV} : ∀ {xs ys : List AV}, optL f xs = some ys → ys.length = xs.length ∧ ∀ (j : Nat) (y : AV), ys[j]? = some y → ∃ x, xs[j]? = some x ∧ f x = some y
  | [], ys, h => by simp only [optL, Option.some.injEq] at h; subst h; exact ⟨rfl, fun j y hj => by simp at hj⟩
  | x :: xs, ys, h => by
    simp only [optL] at h
    split at h
    · rename_i y hy
      split at h
      · rename_i zs hz
        cases h
        obtain ⟨h1, h2⟩ := optL_spec hz
        refine ⟨by simp [h1], fun j y' hj => ?_⟩
        cases j with
        | zero => simp only [List.getElem?_cons_zero, Option.some.injEq] at hj; subst hj; exact ⟨x, rfl, hy⟩
        | succ j => exact h2 j y' (by simpa using hj)
      · cases h
    · cases h

/-- All that the boxes hold, beside H. -/
noncomputable def snap (H : HV) (hp : Hp) (m : Nat → Lc) (w : World) : HV := fun b o =>
  open Classical in if ∃ id ver cs, hp id = some (.cells ver cs) ∧ (m id).g = b then w.cell? ⟨b, o, none⟩ else H b o

theorem snap_sat {H : HV} {hp : Hp} {m : Nat → Lc} {w : World} (h : HV.sat H w) : HV.sat (snap H hp m w) w := by
  intro b o v hv
  unfold snap at hv
  split at hv
  · exact hv
  · exact h b o v hv

theorem snap_le {H : HV} {hp : Hp} {m : Nat → Lc} {w : World} (hd : ∀ id ver cs, hp id = some (.cells ver cs) → ∀ o, H (m id).g o = none) : HV.le H (snap H hp m w) := fun b o u hu => by
  unfold snap
  split
  · rename_i hh
    obtain ⟨id, ver, cs, h1, rfl⟩ := hh
    rw [hd id ver cs h1 o] at hu; cases hu
  · exact hu

theorem tree_ok {H : HV} {hp : Hp} {m : Nat → Lc} {w : World} {E : Env} (strict : Bool) {H1 : HV} (hE : ∀ id ver cs, hp id = some (.cells ver cs) → E.loc id ver = some (m id)) (hbox : ∀ id ver cs, hp id = some (.cells ver cs) → BoxOk H E (.cells ver cs) (m id) w)
    (hd : ∀ id ver cs, hp id = some (.cells ver cs) → ∀ o, H (m id).g o = none) (hH1 : strict = false → H1 = H) : ∀ (k : Nat) (x t : AV) (v : Value), RV H E x v → tree hp strict k x = some t → RelI (snap H1 hp m w) t v
  | 0, x, t, v, _, h => by cases h
  | k + 1, x, t, v, hx, h => by
    have ih := tree_ok strict hE hbox hd hH1 k
    have hle : strict = false → HV.le H (snap H1 hp m w) := fun hs => by rw [hH1 hs]; exact snap_le hd
    unfold tree at h
    split at h
    · rename_i id ver sz off len
      split at h
      · rename_i v' cs hid
        split at h
        · rename_i hc
          obtain ⟨rfl, hle', hpos⟩ := hc
          split at h
          · rename_i ds hds
            cases h
            obtain ⟨hl, hget⟩ := optL_spec hds
            obtain ⟨a, cap, rfl, _, hlc, hcm, hloc⟩ := hx.bs_inv
            obtain ⟨rfl, hfit⟩ := hloc _ (hE _ _ _ hid)
            obtain ⟨C, e, hC, hsC, hle2, hcs⟩ := hbox _ _ _ hid
            have hdl : ds.length = len * sz := by rw [hl]; simp; omega
            have hcl : (chunk sz len ds).length = len := by simp [chunk]
            have hel : ∀ (i : Nat) (x : AV), (chunk sz len ds)[i]? = some x → i < len ∧ x = .agg ((ds.drop (i * sz)).take sz) := fun i x hx => by
              have hi : i < len := by rw [← hcl]; exact (List.getElem?_eq_some_iff.1 hx).1
              simp [chunk, hi] at hx
              exact ⟨hi, hx.symm⟩
            have hmul : ∀ i, i < len → i * sz + sz ≤ len * sz := fun i hi => by
              have : (i + 1) * sz ≤ len * sz := Nat.mul_le_mul_right _ hi
              rw [Nat.add_mul] at this; omega
            have hcell : ∀ (i : Nat) (x : AV) (j : Nat) (c : AV), (chunk sz len ds)[i]? = some x → x.cells[j]? = some c → i < len ∧ j < sz ∧ ds[i * sz + j]? = some c := fun i x j c hx hj => by
              obtain ⟨hi, rfl⟩ := hel i x hx
              simp only [AV.cells] at hj
              have hjl : j < sz := by have := (List.getElem?_eq_some_iff.1 hj).1; simp at this; omega
              rw [List.getElem?_take, if_pos hjl, List.getElem?_drop] at hj
              exact ⟨hi, hjl, hj⟩
            have hreal : ∀ (n : Nat) (c : AV), ds[n]? = some c → ∃ u, C[(m id).base + off + n]? = some u ∧ u.oneCell' = true ∧ RelI (snap H1 hp m w) c u := fun n c hn => by
              obtain ⟨x, h1, h2⟩ := hget n c hn
              have hnl : n < len * sz := by rw [← hdl]; exact (List.getElem?_eq_some_iff.1 hn).1
              rw [List.getElem?_take, if_pos hnl, List.getElem?_drop] at h1
              obtain ⟨u, a1, a2, a3⟩ := hcs _ _ h1
              exact ⟨u, by rw [Nat.add_assoc]; exact a1, a2, ih x c u a3 h2⟩
            have := RelI.sl (H := snap H1 hp m w) sz (chunk sz len ds) (m id).g ((m id).base + off) cap (fun i j => (C[(m id).base + off + (i * sz + j)]?).getD Go.undef) hpos (by rw [hcl]; exact hlc) hcm
              (fun i x hx => by
                obtain ⟨hi, rfl⟩ := hel i x hx
                have := hmul i hi
                simp [AV.cells]; omega)
              (fun i x j c hx hj => by
                obtain ⟨hi, hjl, hn⟩ := hcell i x j c hx hj
                obtain ⟨u, a1, a2, a3⟩ := hreal _ c hn
                rw [a1]
                refine ⟨?_, a2⟩
                have hex : ∃ id' ver cs, hp id' = some (.cells ver cs) ∧ (m id').g = (m id).g := ⟨id, _, _, hid, rfl⟩
                unfold snap
                rw [if_pos hex, cell_of_row _ _ _ _ _ _ hC, Nat.add_assoc, a1]
                rfl)
              (fun i x j c hx hj => by
                obtain ⟨hi, hjl, hn⟩ := hcell i x j c hx hj
                obtain ⟨u, a1, a2, a3⟩ := hreal _ c hn
                rw [a1]; exact a3)
            rw [hcl] at this
            exact this
          · cases h
        · cases h
      · cases h
    · rename_i cs
      split at h
      · rename_i ds hds
        cases h
        obtain ⟨hl, hget⟩ := optL_spec hds
        obtain ⟨vs, rfl, h1, h2, h3⟩ := hx.agg_inv
        refine .agg ds vs (by rw [hl]; exact h1) h2 fun j c u hj hu => ?_
        obtain ⟨x, a1, a2⟩ := hget j c hj
        exact ih x c u (h3 j x u a1 hu) a2
      · cases h
    · rename_i cs
      split at h
      · rename_i ds hds
        cases h
        obtain ⟨hl, hget⟩ := optL_spec hds
        obtain ⟨vs, rfl, h1, h3⟩ := hx.tup_inv
        refine .tup ds vs (by rw [hl]; exact h1) fun j c u hj hu => ?_
        obtain ⟨x, a1, a2⟩ := hget j c hj
        exact ih x c u (h3 j x u a1 hu) a2
      · cases h
    · rename_i sz xs
      split at h
      · cases h
      · rename_i hc
        cases h
        cases strict with
        | false => exact hx.sl_inv.mono (hle rfl)
        | true =>
          simp at hc
          subst hc
          obtain ⟨a, cap, rfl, h1, h2⟩ := hx.sl_inv.len_inv
          exact .sl0 _ _ _ h2
    · rename_i sz xs i off
      split at h
      · cases h
      · rename_i hc
        cases h
        exact hx.ip_inv.mono (hle (by simpa using hc))
    · rename_i f cs
      split at h
      · rename_i hc
        cases h
        simp at hc
        subst hc
        obtain ⟨vs, rfl, h1, h2⟩ := hx.fn_inv
        exact .fn f [] vs h1 (fun j c u hj => by simp at hj)
      · cases h
    · cases h
    · cases h
    · rename_i x n1 n2 n3 n4 n5 n6 n7 n8
      cases h
      cases hx with
      | imm _ _ hx =>
        cases hx with
        | undef => exact .undef _
        | bool => exact .bool _
        | int => exact .int _ _
        | str => exact .str _
        | nil => exact .nil
        | emp => exact .emp _
        | nilp => exact .nilp
        | nilfn => exact .nilfn
        | sl0 => exact absurd rfl (n4 _ _)
        | sl => exact absurd rfl (n4 _ _)
        | ip => exact absurd rfl (n5 _ _ _ _)
        | fn => exact absurd rfl (n6 _ _)
        | agg => exact absurd rfl (n2 _)
        | tup => exact absurd rfl (n3 _)
      | ptr => exact absurd rfl (n7 _ _ _)
      | bs => exact absurd rfl (n1 _ _ _ _ _)
      | yld => exact absurd rfl (n8 _)
      | fn => exact absurd rfl (n6 _ _)
      | agg => exact absurd rfl (n2 _)
      | tup => exact absurd rfl (n3 _)

def xpureR (strict : Bool) (bid : Nat) (o : Option (AV × Tr Box × Nat)) : Option (AV × Option (Nat × Box)) :=
  match o with
  | some (r, hp', _) => match r with
    | .bs id ver sz off len => match lkb hp' id with
      | some (.cells v cs) => if v = ver ∧ off + len * sz ≤ cs.length ∧ 0 < sz then (match optL (tree (updF (lkb hp') id none) strict 12) ((cs.drop off).take (len * sz)) with
          | some ds => some (.bs bid 0 sz 0 len, some (bid, .cells 0 ds))
          | none => none) else none
      | _ => none
    | r => xv (tree (lkb hp') strict 12 r)
  | none => none
def xpure (ch : CallH) (hp : Hp) (bid f : Nat) (args : List AV) : Option (AV × Option (Nat × Box)) :=
  match optL (tree (fun _ => none) false 12) args with
  | some ts => xpureR false bid (ch f ts .nil 0)
  | none => match optL (tree hp false 12) args with
    | some ts => xpureR true bid (ch f ts .nil 0)
    | none => none

section
variable {P : Program} {m : Nat → Lc} {H : HV} {B : Nat} {H0 : HV} {gl : Nat → AV} {rest : List (AV × Value)} {st : St} {a : Act} {w : World} {dst : Option Nat}

theorem live_all {hp : Hp} {m : Nat → Lc} (id ver : Nat) (cs : List AV) (h : hp id = some (.cells ver cs)) : (envOf hp m).loc id ver = some (m id) := live_loc h

/-- What the caller knows when a call that changed nothing old has returned: all as before, and what the callee's boxes hold. -/
theorem RelS.after (h : RelS m H B H0 gl rest st a.tmps w) {w' : World} (hb : Below w.heap.size w w') (K : HV) (hK : ∀ b o v, K b o = some v → w'.cell? ⟨b, o, none⟩ = some v) :
    RelS m (fun b o => if b < w.heap.size then H b o else K b o) B H0 gl rest st a.tmps w' ∧ HV.le H (fun b o => if b < w.heap.size then H b o else K b o) := by
  have hle : HV.le H (fun b o => if b < w.heap.size then H b o else K b o) := fun b o v hv => by
    have := sat_lt h.heap.sat hv
    simp only [if_pos this]; exact hv
  refine ⟨⟨?_, h.size, fun k => (h.slot k).mono hle (.refl _), fun p hp => (h.rest p hp).mono hle (.refl _)⟩, hle⟩
  exact { sat := fun b o v hv => by
            simp only at hv
            split at hv
            · rename_i hlt
              rw [← h.heap.sat b o v hv]; exact hb.cell (p := ⟨b, o, none⟩) hlt
            · exact hK b o v hv
          old := fun b o hlt => by
            have := h.heap.low
            simp only [if_pos (show b < w.heap.size by omega)]; exact h.heap.old b o hlt
          low := Nat.le_trans h.heap.low hb.size
          fresh := h.heap.fresh
          box := fun id b hid => (h.heap.box id b hid).mono hle (.refl _) (hb.block _ (h.heap.sep id b hid).2.1)
          sep := fun id b hid => by
            obtain ⟨x, y, z⟩ := h.heap.sep id b hid
            exact ⟨x, Nat.lt_of_lt_of_le y hb.size, fun o => by simp only [if_pos y]; exact z o⟩
          inj := h.heap.inj
          gl := fun g => (h.heap.gl g).mono hle
          ty := fun id ver cs hid => (h.heap.ty id ver cs hid).mono (hb.block _ (h.heap.sep id _ hid).2.1)
          gv := h.heap.gv.mono fun k hk => hb.block k (Nat.lt_of_lt_of_le hk h.heap.low) }

theorem optL_rel {f : AV → Option AV} {xs ts : List AV} {vs : Array Value} {R R' : AV → Value → Prop} (hl : xs.length = vs.size) (hr : ∀ (j : Nat) (x : AV) (v : Value), xs[j]? = some x → vs[j]? = some v → R x v) (h : optL f xs = some ts)
    (hf : ∀ x t v, R x v → f x = some t → R' t v) : ts.length = vs.size ∧ ∀ (j : Nat) (x : AV) (v : Value), ts[j]? = some x → vs[j]? = some v → R' x v := by
  obtain ⟨h1, h2⟩ := optL_spec h
  refine ⟨by rw [h1]; exact hl, fun j x v hx hv => ?_⟩
  obtain ⟨y, hy, hfy⟩ := h2 j x hx
  exact hf y x v (hr j y v hy hv) hfy

/-- A call whose arguments are read as trees. -/
theorem xpure_main {ch : CallH} (hch : ∀ f ts r0 hp' nx', ch f ts .nil 0 = some (r0, hp', nx') → CallOk0 P gl f ts r0 hp' nx') (h : RelS m H B H0 gl rest st a.tmps w) (hd : dstOk dst st.n = true) {bid : Nat} (hb : lkb st.hp bid = none) (hn : bid < st.nx) {f : Nat} {vs : Array Value} {r : AV × Option (Nat × Box)}
    (strict : Bool) (hpx : Hp) (ts : List AV) (hsub : ∀ id ver cs, hpx id = some (.cells ver cs) → lkb st.hp id = some (.cells ver cs)) (hstr : strict = false → hpx = fun _ => none) (hl' : ts.length = vs.size) (hr' : ∀ (j : Nat) (x : AV) (v : Value), ts[j]? = some x → vs[j]? = some v → RelI (snap H hpx m w) x v)
    (hk : xpureR strict bid (ch f ts .nil 0) = some r) : Ans P f vs w fun e w' => ∃ v m' H', e = .returned v ∧ Below B w w' ∧ RelS m' H' B H0 gl rest (st.eff dst r) (a.put dst v).tmps w' := by
  have hbox : ∀ id ver cs, hpx id = some (.cells ver cs) → BoxOk H (st.env m) (.cells ver cs) (m id) w := fun id ver cs hh => h.heap.box id _ (hsub _ _ _ hh)
  have hdis : ∀ id ver cs, hpx id = some (.cells ver cs) → ∀ o, H (m id).g o = none := fun id ver cs hh => (h.heap.sep id _ (hsub _ _ _ hh)).2.2
  unfold xpureR at hk
  split at hk
  · rename_i r0 hp' nx' hcall
    have hc := hch _ _ _ _ _ hcall
    have h0 : RelH m (snap H hpx m w) w.heap.size (snap H hpx m w) gl (lkb .nil) 0 w :=
      { sat := snap_sat h.heap.sat, old := fun _ _ _ => rfl, low := Nat.le_refl _, fresh := fun _ _ => lkb_nil _, box := (fun _ _ hh => by rw [lkb_nil] at hh; cases hh), sep := (fun _ _ hh => by rw [lkb_nil] at hh; cases hh), inj := (fun _ _ _ _ hh => by rw [lkb_nil] at hh; cases hh), gl := fun g => (h.heap.gl g).mono (snap_le hdis), ty := (fun _ _ _ hh => by rw [lkb_nil] at hh; cases hh), gv := fun g sz cs hg => let ⟨h1, h2⟩ := h.heap.gv g sz cs hg; ⟨Nat.lt_of_lt_of_le h1 h.heap.low, h2⟩ }
    refine (hc m (snap H hpx m w) w.heap.size (snap H hpx m w) w vs h0 hl' (fun j x v hx hv => .imm _ _ (hr' j x v hx hv))).mono fun e w' hpost => ?_
    obtain ⟨v, m', H', rfl, hbl, hH, hrv⟩ := hpost
    -- a tree of what came back, under what the caller knows
    have key : ∀ (hpy : Hp), (∀ id ver cs, hpy id = some (.cells ver cs) → lkb hp' id = some (.cells ver cs)) →
        HV.le (snap (if strict then fun _ _ => none else H') hpy m' w') (fun b o => if b < w.heap.size then H b o else snap H' hpy m' w' b o) := by
      intro hpy hsy b o u hu
      unfold snap at hu
      split at hu
      · rename_i hh
        obtain ⟨id, ver, cs, h1, h2⟩ := hh
        have hge := (hH.sep id _ (hsy _ _ _ h1)).1
        rw [h2] at hge
        simp only [if_neg (show ¬ b < w.heap.size by omega)]
        unfold snap
        rw [if_pos ⟨id, ver, cs, h1, h2⟩]; exact hu
      · rename_i hh
        cases strict with
        | true => simp at hu
        | false =>
          simp only [Bool.false_eq_true, if_false] at hu
          by_cases hlt : b < w.heap.size
          · simp only [if_pos hlt]
            rw [hH.old b o hlt] at hu
            unfold snap at hu
            rw [if_neg (by rw [hstr rfl]; rintro ⟨_, _, _, e, _⟩; cases e)] at hu
            exact hu
          · simp only [if_neg hlt]
            unfold snap
            rw [if_neg hh]; exact hu
    have hval : ∀ (hpy : Hp), (∀ id ver cs, hpy id = some (.cells ver cs) → lkb hp' id = some (.cells ver cs)) → ∀ (x t : AV) (u : Value), RV H' (envOf (lkb hp') m') x u → tree hpy strict 12 x = some t → RelI (fun b o => if b < w.heap.size then H b o else snap H' hpy m' w' b o) t u := by
      intro hpy hsy x t u hx ht
      refine (tree_ok (H1 := if strict then fun _ _ => none else H') strict (fun id ver cs hh => live_loc (hsy _ _ _ hh)) (fun id ver cs hh => hH.box id _ (hsy _ _ _ hh)) (fun id ver cs hh => (hH.sep id _ (hsy _ _ _ hh)).2.2) (fun e => by simp [e]) 12 x t u hx ht).mono (key hpy hsy)
    have hsat : ∀ (hpy : Hp), ∀ b o v, snap H' hpy m' w' b o = some v → w'.cell? ⟨b, o, none⟩ = some v := fun hpy => snap_sat hH.sat
    have hBl : Below B w w' := hbl.mono h.heap.low
    split at hk
    · rename_i id ver sz off len
      split at hk
      · rename_i v' cs hid
        split at hk
        · rename_i hcond
          obtain ⟨rfl, hle, hpos⟩ := hcond
          split at hk
          · rename_i ds hds
            cases hk
            have hsy : ∀ id2 ver cs, updF (lkb hp') id none id2 = some (.cells ver cs) → lkb hp' id2 = some (.cells ver cs) := fun id2 ver cs hh => by
              by_cases e : id2 = id
              · subst e; rw [updF_same] at hh; cases hh
              · rwa [updF_ne _ _ e] at hh
            obtain ⟨hA, hleA⟩ := h.after hbl (snap H' (updF (lkb hp') id none) m' w') (hsat _)
            obtain ⟨ad, cap, rfl, _, hlc, hcm, hloc⟩ := hrv.bs_inv
            obtain ⟨rfl, hfit⟩ := hloc _ (live_loc hid)
            obtain ⟨C, e, hC, hsC, hle2, hcs⟩ := hH.box id _ hid
            obtain ⟨s1, s2, s3⟩ := hH.sep id _ hid
            obtain ⟨hdl, hget⟩ := optL_spec hds
            have hE := env_new (m := m) (hp := lkb st.hp) (b := .cells 0 ds) (l := ⟨(m' id).g, (m' id).base + off, (m' id).size⟩) hb
            have hnone : ∀ o, snap H' (updF (lkb hp') id none) m' w' (m' id).g o = none := fun o => by
              unfold snap
              rw [if_neg ?_]
              · exact s3 o
              · rintro ⟨id2, ver, cs2, h1, h2⟩
                have h1' := hsy _ _ _ h1
                have := hH.inj id2 id _ _ h1' hid h2
                subst this
                rw [updF_same] at h1; cases h1
            have hh := hA.heap.one (id := bid) (b := .cells 0 ds) (l := ⟨(m' id).g, (m' id).base + off, (m' id).size⟩) (w' := w') (fun _ _ _ => rfl) (Nat.le_refl _) hE
              ⟨Nat.le_trans h.heap.low s1, s2, fun o => by simp only [if_neg (show ¬ (m' id).g < w.heap.size by omega)]; exact hnone o⟩
              (fun id2 b2 _ hid2 => by have := (h.heap.sep id2 b2 hid2).2.1; show (m id2).g ≠ (m' id).g; omega) hn (Nat.le_refl _) (by
                refine ⟨C, e, hC, hsC, ?_, fun j c hj => ?_⟩
                · rw [hdl]; show (m' id).base + off + _ ≤ _; simp; omega
                · obtain ⟨x, hx, ht⟩ := hget j c hj
                  have hjl : j < len * sz := by
                    have := (List.getElem?_eq_some_iff.1 hx).1
                    simp at this; omega
                  rw [List.getElem?_take, if_pos hjl, List.getElem?_drop] at hx
                  obtain ⟨u, a1, a2, a3⟩ := hcs _ _ hx
                  exact ⟨u, by show C[(m' id).base + off + j]? = some u; rw [Nat.add_assoc]; exact a1, a2, .imm _ _ (hval _ hsy x c u a3 ht)⟩) (fun ver cs e => by cases e; exact .inl rfl)
            have h1 := hA.heapTo (hp' := pt st.hp bid (.cells 0 ds)) (nx' := st.nx) (by rw [lkb_pt]; exact hh) (.refl _) (by rw [lkb_pt]; exact hE)
            have hv : RV (fun b o => if b < w.heap.size then H b o else snap H' (updF (lkb hp') id none) m' w' b o) (envOf (lkb (pt st.hp bid (.cells 0 ds))) (updF m bid ⟨(m' id).g, (m' id).base + off, (m' id).size⟩)) (.bs bid 0 sz 0 len) (.slice (some ⟨(m' id).g, (m' id).base + off, none⟩) len cap) := by
              rw [lkb_pt]
              refine .bs bid 0 sz 0 len _ cap (al_new _ _ _ _ _) hlc hcm fun l hl => ?_
              rw [loc_new] at hl
              cases hl
              exact ⟨rfl, by simpa using hfit⟩
            have h2 := h1.putO (dst := dst) hd hv
            have : ({ st with hp := pt st.hp bid (.cells 0 ds), nx := st.nx } : St).putO dst (.bs bid 0 sz 0 len) = st.eff dst (.bs bid 0 sz 0 len, some (bid, .cells 0 ds)) := by cases dst <;> rfl
            rw [this] at h2
            exact ⟨_, _, _, rfl, hBl, h2⟩
          · cases hk
        · cases hk
      · cases hk
    · obtain ⟨t, ht, rfl⟩ := xv_inv hk
      obtain ⟨hA, hleA⟩ := h.after hbl (snap H' (lkb hp') m' w') (hsat _)
      exact ⟨v, m, _, rfl, hBl, hA.putO hd (.imm _ _ (hval _ (fun _ _ _ hh => hh) r0 t v hrv ht))⟩
  · cases hk

theorem xpure_ok0 {ch : CallH} (hch : ∀ f ts r0 hp' nx', ch f ts .nil 0 = some (r0, hp', nx') → CallOk0 P gl f ts r0 hp' nx') (h : RelS m H B H0 gl rest st a.tmps w) (hd : dstOk dst st.n = true) {bid : Nat} (hb : lkb st.hp bid = none) (hn : bid < st.nx) {f : Nat} {args : List AV} {vs : Array Value} {r : AV × Option (Nat × Box)} (hl : args.length = vs.size)
    (hr : ∀ (j : Nat) (x : AV) (v : Value), args[j]? = some x → vs[j]? = some v → RV H (st.env m) x v) (hk : xpure ch (lkb st.hp) bid f args = some r) :
    Ans P f vs w fun e w' => ∃ v m' H', e = .returned v ∧ Below B w w' ∧ RelS m' H' B H0 gl rest (st.eff dst r) (a.put dst v).tmps w' := by
  have main : ∀ (strict : Bool) (hpx : Hp) (ts : List AV), (∀ id ver cs, hpx id = some (.cells ver cs) → lkb st.hp id = some (.cells ver cs)) → (strict = false → hpx = fun _ => none) → optL (tree hpx false 12) args = some ts → xpureR strict bid (ch f ts .nil 0) = some r →
      Ans P f vs w fun e w' => ∃ v m' H', e = .returned v ∧ Below B w w' ∧ RelS m' H' B H0 gl rest (st.eff dst r) (a.put dst v).tmps w' := by
    intro strict hpx ts hsub hstr hts hk
    have hbox : ∀ id ver cs, hpx id = some (.cells ver cs) → BoxOk H (st.env m) (.cells ver cs) (m id) w := fun id ver cs hh => h.heap.box id _ (hsub _ _ _ hh)
    have hdis : ∀ id ver cs, hpx id = some (.cells ver cs) → ∀ o, H (m id).g o = none := fun id ver cs hh => (h.heap.sep id _ (hsub _ _ _ hh)).2.2
    obtain ⟨hl', hr'⟩ := optL_rel (R' := RelI (snap H hpx m w)) hl hr hts fun x t v hx ht => tree_ok (H1 := H) false (fun id ver cs hh => live_loc (hsub _ _ _ hh)) hbox hdis (fun _ => rfl) 12 x t v hx ht
    exact xpure_main hch h hd hb hn strict hpx ts hsub hstr hl' hr' hk
  unfold xpure at hk
  split at hk
  · rename_i ts hts
    exact main false (fun _ => none) ts (fun _ _ _ hh => by cases hh) (fun _ => rfl) hts hk
  · split at hk
    · rename_i ts hts
      exact main true (lkb st.hp) ts (fun _ _ _ hh => hh) (fun e => by cases e) hts hk
    · cases hk

theorem CallOk.zero {f : Nat} {args : List AV} {r : AV} {hp' : Tr Box} {nx' : Nat} (h : CallOk P gl f args .nil 0 r hp' nx') : CallOk0 P gl f args r hp' nx' :=
  fun m H B H0 w vs hh hl hv => (h m H B H0 [] w vs hh hl hv (fun p hp => by simp at hp)).mono fun _ _ ⟨v, m', H', a, b, c, d, _⟩ => ⟨v, m', H', a, b, c, d⟩

theorem xpure_ok {ch : CallH} (hch : ch.Ok P gl) (h : RelS m H B H0 gl rest st a.tmps w) (hd : dstOk dst st.n = true) {bid : Nat} (hb : lkb st.hp bid = none) (hn : bid < st.nx) {f : Nat} {args : List AV} {vs : Array Value} {r : AV × Option (Nat × Box)} (hl : args.length = vs.size)
    (hr : ∀ (j : Nat) (x : AV) (v : Value), args[j]? = some x → vs[j]? = some v → RV H (st.env m) x v) (hk : xpure ch (lkb st.hp) bid f args = some r) :
    Ans P f vs w fun e w' => ∃ v m' H', e = .returned v ∧ Below B w w' ∧ RelS m' H' B H0 gl rest (st.eff dst r) (a.put dst v).tmps w' :=
  xpure_ok0 (fun _ _ _ _ _ hk => (hch _ _ _ _ _ _ _ hk).zero) h hd hb hn hl hr hk
end
end HX
