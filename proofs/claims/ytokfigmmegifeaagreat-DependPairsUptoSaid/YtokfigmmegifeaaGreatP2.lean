/- Proved in the last of these texts: for every input of bulk at most 1048576 the law returns true and its arguments read afterwards as they read before. This text: a part of the proof. -/
import Derived.Test.YtokfigmmegifeaaGreatP1
import Derived.OrdersIn
import Derived.RangeFuncLeaves
import Derived.RangeFuncRecord
section
namespace HY
open Go Go.RowKit
def FW (r : Option Nat) : Fence := { fn := fun _ => True, depth := none, alive := false, round := r }
theorem M2 {r : Option Nat} {n : Nat} {P : Program} {f : FuncId} {args : Array Value} {w : World} {R : Ending → World → Prop} (h : Calls P f args w R) : CallsIn (FW r) n P f args w R :=
 show CallsIn Fence.wide n P f args w R from callsIn_wide.2 h
def NA (P : Program) (f : FuncId) : Prop := ∀ args w, (callFunc f args).run P w = .ok (.enter f args) w
theorem NE {P : Program} {f : FuncId} {fn : Func} (hf : P.funcs[f]? = some fn) (hn : (fn.name == "runtime.NumGoroutine") = false) (hb : fn.body.isSome = true) : NA P f := by
 intro args w
 have hb' : fn.body.isNone = false := by rw [Option.isNone_eq_false_iff]; exact hb
 simp only [callFunc, Sem.run_bind, run_program, Result.andThen_ok, hf, hn, hb', Bool.false_eq_true, if_false, Sem.run_pure]
def Ans (P : Program) (f : FuncId) (vs : Array Value) (w : World) (Q : Ending → World → Prop) : Prop :=
 (NA P f ∧ Calls P f vs w Q) ∨ ∃ v w', (callFunc f vs).run P w = .ok (.value v) w' ∧ Q (.returned v) w'
theorem Ans.mono {P : Program} {f : FuncId} {vs : Array Value} {w : World} {Q Q' : Ending → World → Prop} (h : Ans P f vs w Q) (hq : ∀ e w', Q e w' → Q' e w') : Ans P f vs w Q' := by
 rcases h with ⟨h1, h2⟩ | ⟨v, w', h1, h2⟩
 ·exact .inl ⟨h1, h2.mono hq⟩
 ·exact .inr ⟨v, w', h1, hq _ _ h2⟩
theorem Ans.calls {P : Program} {f : FuncId} {vs : Array Value} {w : World} {Q : Ending → World → Prop} (h : Ans P f vs w Q) (he : NA P f) : Calls P f vs w Q := by
 rcases h with ⟨_, h2⟩ | ⟨v, w', h1, _⟩
 ·exact h2
 ·rw [he vs w] at h1; cases h1
def Fv (P : Program) (gl : Nat → AV) (f : FuncId) (args : List AV) (hp : Tr Box) (nx : Nat) (r : AV) (hp' : Tr Box) (nx' : Nat) : Prop :=
 ∀ (m : Nat → Lc) (H : HV) (B : Nat → Prop) (H0 : HV) (rest : List (AV × Value)) (w : World) (vs : Array Value), RelH m H B H0 gl (lkb hp) nx w → args.length = vs.size →
  (∀ (j : Nat) (x : AV) (v : Value), args[j]? = some x → vs[j]? = some v → RV H (Qq (lkb hp) m) x v) → (∀ p ∈ rest, RV H (Qq (lkb hp) m) p.1 p.2) →
  Ans P f vs w fun e w' => ∃ v m' H', e = .returned v ∧ Qv B w w' ∧ RelH m' H' B H0 gl (lkb hp') nx' w' ∧ RV H' (Qq (lkb hp') m') r v ∧ ∀ p ∈ rest, RV H' (Qq (lkb hp') m') p.1 p.2
def Wo (P : Program) (gl : Nat → AV) (f : FuncId) (args : List AV) (r : AV) (hp' : Tr Box) (nx' : Nat) : Prop :=
 ∀ (m : Nat → Lc) (H : HV) (B : Nat → Prop) (H0 : HV) (w : World) (vs : Array Value), RelH m H B H0 gl (lkb .nil) 0 w → args.length = vs.size →
  (∀ (j : Nat) (x : AV) (v : Value), args[j]? = some x → vs[j]? = some v → RV H (Qq (lkb .nil) m) x v) →
  Ans P f vs w fun e w' => ∃ v m' H', e = .returned v ∧ Qv B w w' ∧ RelH m' H' B H0 gl (lkb hp') nx' w' ∧ RV H' (Qq (lkb hp') m') r v
abbrev Z0 := Nat → List AV → Tr Box → Nat → Option (AV × Tr Box × Nat)
def Z0.Ok (P : Program) (gl : Nat → AV) (ch : Z0) : Prop := ∀ f args hp nx r hp' nx', ch f args hp nx = some (r, hp', nx') → Fv P gl f args hp nx r hp' nx'
def optL (f : AV → Option AV) : List AV → Option (List AV)
 | [] => some []
 | x :: xs => match f x with
  | some y => match optL f xs with
   | some ys => some (y :: ys)
   | none => none
  | none => none
def DH (sz len : Nat) (ds : List AV) : List AV := (List.range len).map fun i => .agg ((ds.drop (i * sz)).take sz)
def tree (hp : Hp) (strict : Bool) : Nat → AV → Option AV
 | 0, _ => none
 | k + 1, x => match x with
  | .bs id ver sz off len => match hp id with
   | some (.cells v cs) => if v = ver ∧ off + len * sz ≤ cs.length ∧ 0 < sz then (match optL (tree hp strict k) ((cs.drop off).take (len * sz)) with
    | some ds => some (.sl sz (DH sz len ds))
    | none => none) else none
   | _ => none
  | .agg cs => match optL (tree hp strict k) cs with
   | some ds => some (.agg ds)
   | none => none
  | .tup cs => match optL (tree hp strict k) cs with
   | some ds => some (.tup ds)
   | none => none
  | .sl sz xs => if strict && !xs.isEmpty then none else some (.sl sz xs)
  | .ip sz xs i off => if strict then none else some (.ip sz xs i off)
  | .fn f cs => match optL (tree hp strict k) cs with
   | some ds => some (.fn f ds)
   | none => none
  | .ptr .. => none
  | .ow .. => none
  | .oe .. => none
  | .yld _ => none
  | x => some x
theorem Cl {f : AV → Option AV} : ∀ {xs ys : List AV}, optL f xs = some ys → ys.length = xs.length ∧ ∀ (j : Nat) (y : AV), ys[j]? = some y → ∃ x, xs[j]? = some x ∧ f x = some y
 | [], ys, h => by simp only [optL, Option.some.injEq] at h; subst h; exact ⟨rfl, fun j y hj => by simp at hj⟩
 | x :: xs, ys, h => by
  simp only [optL] at h
  split at h
  ·rename_i y hy
   split at h
   ·rename_i zs hz
    cases h
    obtain ⟨h1, h2⟩ := Cl hz
    refine ⟨by simp [h1], fun j y' hj => ?_⟩
    cases j with
    | zero => simp only [List.getElem?_cons_zero, Option.some.injEq] at hj; subst hj; exact ⟨x, rfl, hy⟩
    | succ j => exact h2 j y' (by simpa using hj)
   ·cases h
  ·cases h
noncomputable def snap (H : HV) (hp : Hp) (m : Nat → Lc) (w : World) : HV := fun b o =>
 open Classical in if ∃ id bx ver, hp id = some bx ∧ bx.ver? = some ver ∧ Real bx (m id) ∧ (m id).g = b then w.cell? ⟨b, o, none⟩ else H b o
theorem RB {H : HV} {hp : Hp} {m : Nat → Lc} {w : World} (h : HV.sat H w) : HV.sat (snap H hp m w) w := by
 intro b o v hv
 unfold snap at hv
 split at hv
 ·exact hv
 ·exact h b o v hv
theorem Lv {H : HV} {hp : Hp} {m : Nat → Lc} {w : World} (hd : ∀ id bx, hp id = some bx → Real bx (m id) → ∀ o, H (m id).g o = none) : HV.le H (snap H hp m w) := fun b o u hu => by
 unfold snap
 split
 ·rename_i hh
  obtain ⟨id, bx, ver, h1, _, h3, rfl⟩ := hh
  rw [hd id bx h1 h3 o] at hu; cases hu
 ·exact hu
theorem Me {H : HV} {hp : Hp} {m : Nat → Lc} {w : World} {E : Env} (strict : Bool) {H1 : HV} (hE : ∀ id ver cs, hp id = some (.cells ver cs) → E.loc id ver = some (m id)) (hbox : ∀ id ver cs, hp id = some (.cells ver cs) → Vs H E (.cells ver cs) (m id) w)
  (hd : ∀ id bx, hp id = some bx → Real bx (m id) → ∀ o, H (m id).g o = none) (hH1 : strict = false → H1 = H) : ∀ (k : Nat) (x t : AV) (v : Value), RV H E x v → tree hp strict k x = some t → RelI (snap H1 hp m w) t v
 | 0, x, t, v, _, h => by cases h
 | k + 1, x, t, v, hx, h => by
  have ih := Me strict hE hbox hd hH1 k
  have hle : strict = false → HV.le H (snap H1 hp m w) := fun hs => by rw [hH1 hs]; exact Lv hd
  unfold tree at h
  split at h
  ·rename_i id ver sz off len
   split at h
   ·rename_i v' cs hid
    split at h
    ·rename_i hc
     obtain ⟨rfl, hle', hpos⟩ := hc
     split at h
     ·rename_i ds hds
      cases h
      obtain ⟨hl, hget⟩ := Cl hds
      obtain ⟨a, cap, rfl, _, hlc, hcm, hloc⟩ := hx.bs_inv
      obtain ⟨rfl, hfit⟩ := hloc _ (hE _ _ _ hid)
      obtain ⟨C, e, hC, hsC, hle2, hcs⟩ := hbox _ _ _ hid
      have hdl : ds.length = len * sz := by rw [hl]; simp; omega
      have hcl : (DH sz len ds).length = len := by simp [DH]
      have hel : ∀ (i : Nat) (x : AV), (DH sz len ds)[i]? = some x → i < len ∧ x = .agg ((ds.drop (i * sz)).take sz) := fun i x hx => by
       have hi : i < len := by rw [← hcl]; exact (List.getElem?_eq_some_iff.1 hx).1
       simp [DH, hi] at hx
       exact ⟨hi, hx.symm⟩
      have hmul : ∀ i, i < len → i * sz + sz ≤ len * sz := fun i hi => by
       have : (i + 1) * sz ≤ len * sz := Nat.mul_le_mul_right _ hi
       rw [Nat.add_mul] at this; omega
      have hcell : ∀ (i : Nat) (x : AV) (j : Nat) (c : AV), (DH sz len ds)[i]? = some x → x.cells[j]? = some c → i < len ∧ j < sz ∧ ds[i * sz + j]? = some c := fun i x j c hx hj => by
       obtain ⟨hi, rfl⟩ := hel i x hx
       simp only [AV.cells] at hj
       have hjl : j < sz := by have := (List.getElem?_eq_some_iff.1 hj).1; simp at this; omega
       rw [List.getElem?_take, if_pos hjl, List.getElem?_drop] at hj
       exact ⟨hi, hjl, hj⟩
      have hreal : ∀ (n : Nat) (c : AV), ds[n]? = some c → ∃ u, C[(m id).base + off + n]? = some u ∧ u.oneCell' = true ∧ RelI (snap H1 hp m w) c u := fun n c hn => by
       obtain ⟨x, h1, h2⟩ := hget n c hn
       have hnl : n < len * sz := by rw [← hdl]; exact (List.getElem?_eq_some_iff.1 hn).1
       rw [List.getElem?_take, if_pos hnl, List.getElem?_drop] at h1
       obtain ⟨u, a1, a2, a3⟩ := hcs _ _ h1
       exact ⟨u, by rw [Nat.add_assoc]; exact a1, a2, ih x c u a3 h2⟩
      have := RelI.sl (H := snap H1 hp m w) sz (DH sz len ds) (m id).g ((m id).base + off) cap (fun i j => (C[(m id).base + off + (i * sz + j)]?).getD Go.undef) hpos (by rw [hcl]; exact hlc) hcm
       (fun i x hx => by
        obtain ⟨hi, rfl⟩ := hel i x hx
        have := hmul i hi
        simp [AV.cells]; omega)
       (fun i x j c hx hj => by
        obtain ⟨hi, hjl, hn⟩ := hcell i x j c hx hj
        obtain ⟨u, a1, a2, a3⟩ := hreal _ c hn
        rw [a1]
        refine ⟨?_, a2⟩
        have hex : ∃ id' bx ver, hp id' = some bx ∧ bx.ver? = some ver ∧ Real bx (m id') ∧ (m id').g = (m id).g := ⟨id, _, _, hid, rfl, trivial, rfl⟩
        unfold snap
        rw [if_pos hex, Ye _ _ _ _ _ _ hC, Nat.add_assoc, a1]
        rfl)
       (fun i x j c hx hj => by
        obtain ⟨hi, hjl, hn⟩ := hcell i x j c hx hj
        obtain ⟨u, a1, a2, a3⟩ := hreal _ c hn
        rw [a1]; exact a3)
      rw [hcl] at this
      exact this
     ·cases h
    ·cases h
   ·cases h
  ·rename_i cs
   split at h
   ·rename_i ds hds
    cases h
    obtain ⟨hl, hget⟩ := Cl hds
    obtain ⟨vs, rfl, h1, h2, h3⟩ := hx.agg_inv
    refine .agg ds vs (by rw [hl]; exact h1) h2 fun j c u hj hu => ?_
    obtain ⟨x, a1, a2⟩ := hget j c hj
    exact ih x c u (h3 j x u a1 hu) a2
   ·cases h
  ·rename_i cs
   split at h
   ·rename_i ds hds
    cases h
    obtain ⟨hl, hget⟩ := Cl hds
    obtain ⟨vs, rfl, h1, h3⟩ := hx.tup_inv
    refine .tup ds vs (by rw [hl]; exact h1) fun j c u hj hu => ?_
    obtain ⟨x, a1, a2⟩ := hget j c hj
    exact ih x c u (h3 j x u a1 hu) a2
   ·cases h
  ·rename_i sz xs
   split at h
   ·cases h
   ·rename_i hc
    cases h
    cases strict with
    | false => exact hx.sl_inv.mono (hle rfl)
    | true =>
     simp at hc
     subst hc
     obtain ⟨a, cap, rfl, h1, h2⟩ := hx.sl_inv.len_inv
     exact .sl0 _ _ _ h2
  ·rename_i sz xs i off
   split at h
   ·cases h
   ·rename_i hc
    cases h
    exact hx.ip_inv.mono (hle (by simpa using hc))
  ·rename_i f cs
   split at h
   ·rename_i ds hds
    cases h
    obtain ⟨hl, hget⟩ := Cl hds
    obtain ⟨vs, rfl, h1, h3⟩ := hx.fn_inv
    refine .fn f ds vs (by rw [hl]; exact h1) fun j c u hj hu => ?_
    obtain ⟨x, a1, a2⟩ := hget j c hj
    exact ih x c u (h3 j x u a1 hu) a2
   ·cases h
  ·cases h
  ·cases h
  ·cases h
  ·cases h
  ·rename_i x n1 n2 n3 n4 n5 n6 n7 n9 n10 n8
   cases h
   cases hx with
   | imm _ _ hx =>
    cases hx with
    | undef => exact .undef _
    | bool => exact .bool _
    | int => exact .int _ _
    | str => exact .str _
    | nil => exact .nil
    | emp => exact .emp _
    | nilp => exact .nilp
    | nilfn => exact .nilfn
    | val => exact .val _
    | sl0 => exact absurd rfl (n4 _ _)
    | sl => exact absurd rfl (n4 _ _)
    | ip => exact absurd rfl (n5 _ _ _ _)
    | fn => exact absurd rfl (n6 _ _)
    | agg => exact absurd rfl (n2 _)
    | tup => exact absurd rfl (n3 _)
   | ptr => exact absurd rfl (n7 _ _ _)
   | bs => exact absurd rfl (n1 _ _ _ _ _)
   | ow => exact absurd rfl (n9 _ _ _ _)
   | oe => exact absurd rfl (n10 _ _ _ _ _)
   | yld => exact absurd rfl (n8 _)
   | fn => exact absurd rfl (n6 _ _)
   | agg => exact absurd rfl (n2 _)
   | tup => exact absurd rfl (n3 _)
def Cq (strict : Bool) (bid : Nat) (o : Option (AV × Tr Box × Nat)) : Option (AV × Option (Nat × Box)) :=
 match o with
 | some (r, hp', _) => match r with
  | .bs id ver sz off len => match lkb hp' id with
   | some (.cells v cs) => if v = ver ∧ off + len * sz ≤ cs.length ∧ 0 < sz then (match optL (tree (updF (lkb hp') id none) strict 12) ((cs.drop off).take (len * sz)) with
     | some ds => some (.bs bid 0 sz 0 len, some (bid, .cells 0 ds))
     | none => none) else none
   | _ => none
  | .ow id ver sz len => match lkb hp' id with
   | some (.own v z xs) => match Nat.beq v ver && (Nat.beq z sz && !strict) with
    | true => some (.ow bid 0 sz len, some (bid, .own 0 sz xs))
    | false => none
   | _ => none
  | r => xv (tree (lkb hp') strict 12 r)
 | none => none
def Nz (ch : Z0) (hp : Hp) (bid f : Nat) (args : List AV) : Option (AV × Option (Nat × Box)) :=
 match optL (tree (fun _ => none) false 12) args with
 | some ts => Cq false bid (ch f ts .nil 0)
 | none => match optL (tree hp false 12) args with
  | some ts => Cq true bid (ch f ts .nil 0)
  | none => none
section
variable {P : Program} {m : Nat → Lc} {H : HV} {B : Nat → Prop} {H0 : HV} {gl : Nat → AV} {rest : List (AV × Value)} {st : St} {a : Act} {w : World} {dst : Option Nat}
theorem RelS.after (h : RelS m H B H0 gl rest st a.tmps w) {w' : World} (hb : Below w.heap.size w w') (K : HV) (hK : ∀ b o v, K b o = some v → w'.cell? ⟨b, o, none⟩ = some v) :
    RelS m (fun b o => if b < w.heap.size then H b o else K b o) B H0 gl rest st a.tmps w' ∧ HV.le H (fun b o => if b < w.heap.size then H b o else K b o) := by
  have hle : HV.le H (fun b o => if b < w.heap.size then H b o else K b o) := fun b o v hv => by
    have := Gx h.heap.sat hv
    simp only [if_pos this]; exact hv
  refine ⟨⟨?_, h.size, fun k => (h.slot k).mono hle (.refl _), fun p hp => (h.rest p hp).mono hle (.refl _)⟩, hle⟩
  exact { sat := fun b o v hv => by
            simp only at hv
            split at hv
            · rename_i hlt
              rw [← h.heap.sat b o v hv]; exact hb.cell (p := ⟨b, o, none⟩) hlt
            · exact hK b o v hv
          old := fun b o hlt => by
            simp only [if_pos (h.heap.low b hlt)]; exact h.heap.old b o hlt
          low := fun b hB => Nat.lt_of_lt_of_le (h.heap.low b hB) hb.size
          fresh := h.heap.fresh
          box := fun id b hid => (h.heap.box id b hid).mono' hle (.refl _) fun hr => hb.block _ (h.heap.sepR id b hid hr).2.1
          sepR := fun id b hid hr => by
            obtain ⟨x, y, z⟩ := h.heap.sepR id b hid hr
            exact ⟨x, Nat.lt_of_lt_of_le y hb.size, fun o => by simp only [if_pos y]; exact z o⟩
          injR := h.heap.injR
          gl := fun g => (h.heap.gl g).mono hle
          ty := fun id ver cs hid => (h.heap.ty id ver cs hid).mono (hb.block _ (h.heap.sep id _ hid).2.1)
          gv := h.heap.gv.mono fun k hk => hb.block k (h.heap.low k hk) }
theorem LQ {f : AV → Option AV} {xs ts : List AV} {vs : Array Value} {R R' : AV → Value → Prop} (hl : xs.length = vs.size) (hr : ∀ (j : Nat) (x : AV) (v : Value), xs[j]? = some x → vs[j]? = some v → R x v) (h : optL f xs = some ts)
  (hf : ∀ x t v, R x v → f x = some t → R' t v) : ts.length = vs.size ∧ ∀ (j : Nat) (x : AV) (v : Value), ts[j]? = some x → vs[j]? = some v → R' x v := by
 obtain ⟨h1, h2⟩ := Cl h
 refine ⟨by rw [h1]; exact hl, fun j x v hx hv => ?_⟩
 obtain ⟨y, hy, hfy⟩ := h2 j x hx
 exact hf y x v (hr j y v hy hv) hfy
theorem TX {ch : Z0} (hch : ∀ f ts r0 hp' nx', ch f ts .nil 0 = some (r0, hp', nx') → Wo P gl f ts r0 hp' nx') (h : RelS m H B H0 gl rest st a.tmps w) (hd : Zh dst st.n = true) {bid : Nat} (hb : lkb st.hp bid = none) (hn : bid < st.nx) {f : Nat} {vs : Array Value} {r : AV × Option (Nat × Box)}
  (strict : Bool) (hpx : Hp) (ts : List AV) (hsub : ∀ id bx, hpx id = some bx → lkb st.hp id = some bx) (hstr : strict = false → hpx = fun _ => none) (hl' : ts.length = vs.size) (hr' : ∀ (j : Nat) (x : AV) (v : Value), ts[j]? = some x → vs[j]? = some v → RelI (snap H hpx m w) x v)
  (hk : Cq strict bid (ch f ts .nil 0) = some r) : Ans P f vs w fun e w' => ∃ v m' H', e = .returned v ∧ Qv B w w' ∧ RelS m' H' B H0 gl rest (st.eff dst r) (a.put dst v).tmps w' := by
 have hbox : ∀ id ver cs, hpx id = some (.cells ver cs) → Vs H (st.env m) (.cells ver cs) (m id) w := fun id ver cs hh => h.heap.box id _ (hsub _ _ hh)
 have hdis : ∀ id bx, hpx id = some bx → Real bx (m id) → ∀ o, H (m id).g o = none := fun id bx hh hr => (h.heap.sepR id _ (hsub _ _ hh) hr).2.2
 unfold Cq at hk
 split at hk
 ·rename_i r0 hp' nx' hcall
  have hc := hch _ _ _ _ _ hcall
  have h0 : RelH m (snap H hpx m w) (fun k => k < w.heap.size) (snap H hpx m w) gl (lkb .nil) 0 w :=
   { sat := RB h.heap.sat, old := fun _ _ _ => rfl, low := fun _ hk => hk, fresh := fun _ _ => Zi _, box := (fun _ _ hh => by rw [Zi] at hh; cases hh), sepR := (fun _ _ hh => by rw [Zi] at hh; cases hh), injR := (fun _ _ _ _ hh => by rw [Zi] at hh; cases hh), gl := fun g => (h.heap.gl g).mono (Lv hdis), ty := (fun _ _ _ hh => by rw [Zi] at hh; cases hh), gv := fun g sz cs hg => let ⟨h1, h2⟩ := h.heap.gv g sz cs hg; ⟨h.heap.low _ h1, h2⟩ }
  refine (hc m (snap H hpx m w) _ (snap H hpx m w) w vs h0 hl' (fun j x v hx hv => .imm _ _ (hr' j x v hx hv))).mono fun e w' hpost => ?_
  obtain ⟨v, m', H', rfl, hbl, hH, hrv⟩ := hpost
  have key : ∀ (hpy : Hp), (∀ id bx, hpy id = some bx → lkb hp' id = some bx) →
    HV.le (snap (if strict then fun _ _ => none else H') hpy m' w') (fun b o => if b < w.heap.size then H b o else snap H' hpy m' w' b o) := by
   intro hpy hsy b o u hu
   unfold snap at hu
   split at hu
   ·rename_i hh
    obtain ⟨id, bx, ver, h1, h1', h1'', h2⟩ := hh
    have hge := (hH.sepR id _ (hsy _ _ h1) h1'').1
    rw [h2] at hge
    simp only [if_neg (show ¬ b < w.heap.size from hge)]
    unfold snap
    rw [if_pos ⟨id, bx, ver, h1, h1', h1'', h2⟩]; exact hu
   ·rename_i hh
    cases strict with
    | true => simp at hu
    | false =>
     simp only [Bool.false_eq_true, if_false] at hu
     by_cases hlt : b < w.heap.size
     ·simp only [if_pos hlt]
      rw [hH.old b o hlt] at hu
      unfold snap at hu
      rw [if_neg (by rw [hstr rfl]; rintro ⟨_, _, _, e, _⟩; cases e)] at hu
      exact hu
     ·simp only [if_neg hlt]
      unfold snap
      rw [if_neg hh]; exact hu
  have hval : ∀ (hpy : Hp), (∀ id bx, hpy id = some bx → lkb hp' id = some bx) → ∀ (x t : AV) (u : Value), RV H' (Qq (lkb hp') m') x u → tree hpy strict 12 x = some t → RelI (fun b o => if b < w.heap.size then H b o else snap H' hpy m' w' b o) t u := by
   intro hpy hsy x t u hx ht
   refine (Me (H1 := if strict then fun _ _ => none else H') strict (fun id ver cs hh => U3 (hsy _ _ hh)) (fun id ver cs hh => hH.box id _ (hsy _ _ hh)) (fun id bx hh hr => (hH.sepR id _ (hsy _ _ hh) hr).2.2) (fun e => by simp [e]) 12 x t u hx ht).mono (key hpy hsy)
  have hsat : ∀ (hpy : Hp), ∀ b o v, snap H' hpy m' w' b o = some v → w'.cell? ⟨b, o, none⟩ = some v := fun hpy => RB hH.sat
  have hBl : Qv B w w' := hbl.mono h.heap.low
  have hbl := hbl.toB
  split at hk
  ·rename_i id ver sz off len
   split at hk
   ·rename_i v' cs hid
    split at hk
    ·rename_i hcond
     obtain ⟨rfl, hle, hpos⟩ := hcond
     split at hk
     ·rename_i ds hds
      cases hk
      have hsy : ∀ id2 bx, updF (lkb hp') id none id2 = some bx → lkb hp' id2 = some bx := fun id2 bx hh => by
       by_cases e : id2 = id
       ·subst e; rw [QE] at hh; cases hh
       ·rwa [QS _ _ e] at hh
      obtain ⟨hA, hleA⟩ := h.after hbl (snap H' (updF (lkb hp') id none) m' w') (hsat _)
      obtain ⟨ad, cap, rfl, _, hlc, hcm, hloc⟩ := hrv.bs_inv
      obtain ⟨rfl, hfit⟩ := hloc _ (U3 hid)
      obtain ⟨C, e, hC, hsC, hle2, hcs⟩ := hH.box id _ hid
      obtain ⟨s1, s2, s3⟩ := hH.sep id _ hid
      obtain ⟨hdl, hget⟩ := Cl hds
      have hE := Ln (m := m) (hp := lkb st.hp) (b := .cells 0 ds) (l := ⟨(m' id).g, (m' id).base + off, (m' id).size⟩) hb
      have hnone : ∀ o, snap H' (updF (lkb hp') id none) m' w' (m' id).g o = none := fun o => by
       unfold snap
       rw [if_neg ?_]
       ·exact s3 o
       ·rintro ⟨id2, bx, ver, h1, _, hr, h2⟩
        have h1' := hsy _ _ h1
        have := hH.injR id2 id _ _ h1' hid hr trivial h2
        subst this
        rw [QE] at h1; cases h1
      have hh := hA.heap.one (id := bid) (b := .cells 0 ds) (l := ⟨(m' id).g, (m' id).base + off, (m' id).size⟩) (w' := w') (fun _ _ _ => rfl) (Nat.le_refl _) hE
       ⟨fun hb => s1 (h.heap.low _ hb), s2, fun o => by simp only [if_neg (show ¬ (m' id).g < w.heap.size from s1)]; exact hnone o⟩
       (fun id2 b2 _ hid2 hr => by have := (h.heap.sepR id2 b2 hid2 hr).2.1; have s1' : ¬ (m' id).g < w.heap.size := s1; show (m id2).g ≠ (m' id).g; omega) hn (Nat.le_refl _) (by
        refine ⟨C, e, hC, hsC, ?_, fun j c hj => ?_⟩
        ·rw [hdl]; show (m' id).base + off + _ ≤ _; simp; omega
        ·obtain ⟨x, hx, ht⟩ := hget j c hj
         have hjl : j < len * sz := by
          have := (List.getElem?_eq_some_iff.1 hx).1
          simp at this; omega
         rw [List.getElem?_take, if_pos hjl, List.getElem?_drop] at hx
         obtain ⟨u, a1, a2, a3⟩ := hcs _ _ hx
         exact ⟨u, by show C[(m' id).base + off + j]? = some u; rw [Nat.add_assoc]; exact a1, a2, .imm _ _ (hval _ hsy x c u a3 ht)⟩) (fun ver cs e => by cases e; exact .inl rfl)
      have h1 := hA.heapTo (hp' := pt st.hp bid (.cells 0 ds)) (nx' := st.nx) (by rw [Zo]; exact hh) (.refl _) (by rw [Zo]; exact hE)
      have hv : RV (fun b o => if b < w.heap.size then H b o else snap H' (updF (lkb hp') id none) m' w' b o) (Qq (lkb (pt st.hp bid (.cells 0 ds))) (updF m bid ⟨(m' id).g, (m' id).base + off, (m' id).size⟩)) (.bs bid 0 sz 0 len) (.slice (some ⟨(m' id).g, (m' id).base + off, none⟩) len cap) := by
       rw [Zo]
       refine .bs bid 0 sz 0 len _ cap (Hb _ _ _ _ _) hlc hcm fun l hl => ?_
       rw [Lp] at hl
       cases hl
       exact ⟨rfl, by simpa using hfit⟩
      have h2 := h1.putO (dst := dst) hd hv
      have : ({ st with hp := pt st.hp bid (.cells 0 ds), nx := st.nx } : St).putO dst (.bs bid 0 sz 0 len) = st.eff dst (.bs bid 0 sz 0 len, some (bid, .cells 0 ds)) := by cases dst <;> rfl
      rw [this] at h2
      exact ⟨_, _, _, rfl, hBl, h2⟩
     ·cases hk
    ·cases hk
   ·cases hk
  ·rename_i id ver sz len
   split at hk
   ·rename_i v' z xs hid
    split at hk
    ·rename_i hcond
     simp only [Bool.and_eq_true, Bool.not_eq_true'] at hcond
     obtain ⟨hv1, hz1, hst⟩ := hcond
     obtain rfl := Nat.eq_of_beq_eq_true hv1
     obtain rfl := Nat.eq_of_beq_eq_true hz1
     cases hk
     have hsy : ∀ id2 bx, updF (lkb hp') id none id2 = some bx → lkb hp' id2 = some bx := fun id2 bx hh => by
      by_cases e : id2 = id
      ·subst e; rw [QE] at hh; cases hh
      ·rwa [QS _ _ e] at hh
     obtain ⟨hA, hleA⟩ := h.after hbl (snap H' (updF (lkb hp') id none) m' w') (hsat _)
     obtain ⟨ad, cap, rfl, _, hlc, hcm, hnl, hloc⟩ := hrv.ow_inv
     have hloc := hloc _ (Wm hid)
     have hle' : HV.le H' (fun b o => if b < w.heap.size then H b o else snap H' (updF (lkb hp') id none) m' w' b o) := fun b o u hu => by
      by_cases hlt : b < w.heap.size
      ·simp only [if_pos hlt]
       rw [hH.old b o hlt] at hu
       unfold snap at hu
       rw [if_neg (by rw [hstr hst]; rintro ⟨_, _, _, e, _⟩; cases e)] at hu
       exact hu
      ·simp only [if_neg hlt]
       exact Lv (fun id bx hh hr => (hH.sepR id _ (hsy _ _ hh) hr).2.2) b o u hu
     have hE := Ln (m := m) (hp := lkb st.hp) (b := .own 0 z xs) (l := m' id) hb
     have hnone : Real (.own v' z xs) (m' id) → ∀ o, snap H' (updF (lkb hp') id none) m' w' (m' id).g o = none := fun hre o => by
      unfold snap
      rw [if_neg ?_]
      ·exact (hH.sepR id _ hid hre).2.2 o
      ·rintro ⟨id2, bx, ver, h1, _, hr, h2⟩
       have h1' := hsy _ _ h1
       have := hH.injR id2 id _ _ h1' hid hr hre h2
       subst this
       rw [QE] at h1; cases h1
     have hh := hA.heap.oneR (id := bid) (b := .own 0 z xs) (l := m' id) (w' := w') (fun _ _ _ => rfl) (Nat.le_refl _) hE
      (fun hre => by
       have hre : Real (.own v' z xs) (m' id) := hre
       obtain ⟨s1, s2, s3⟩ := hH.sepR id _ hid hre
       exact ⟨fun hb => s1 (h.heap.low _ hb), s2, fun o => by simp only [if_neg (show ¬ (m' id).g < w.heap.size from s1)]; exact hnone hre o⟩)
      (fun id2 b2 _ hid2 hr hre => by
       have hre : Real (.own v' z xs) (m' id) := hre
       have := (h.heap.sepR id2 b2 hid2 hr).2.1
       have s1' : ¬ (m' id).g < w.heap.size := (hH.sepR id _ hid hre).1
       show (m id2).g ≠ (m' id).g; omega) hn (Nat.le_refl _) (by
       obtain ⟨q0, q1, q2⟩ := hH.box id _ hid
       refine ⟨q0, q1, ?_⟩
       rcases q2 with q2 | ⟨q2, q3⟩
       ·exact .inl q2
       ·exact .inr ⟨q2, q3.mono hle' rfl⟩) (fun ver cs e => by cases e)
     have h1 := hA.heapTo (hp' := pt st.hp bid (.own 0 z xs)) (nx' := st.nx) (by rw [Zo]; exact hh) (.refl _) (by rw [Zo]; exact hE)
     have hv : RV (fun b o => if b < w.heap.size then H b o else snap H' (updF (lkb hp') id none) m' w' b o) (Qq (lkb (pt st.hp bid (.own 0 z xs))) (updF m bid (m' id))) (.ow bid 0 z len) (.slice ad len cap) := by
      rw [Zo]
      refine .ow bid 0 z len ad cap ⟨_, QE _ _ _, fun v2 h => by cases h; exact Nat.le_refl _⟩ hlc hcm hnl fun l hl => ?_
      rw [Wm (QE _ _ _), QE] at hl
      cases hl
      exact hloc
     have h2 := h1.putO (dst := dst) hd hv
     have : ({ st with hp := pt st.hp bid (.own 0 z xs), nx := st.nx } : St).putO dst (.ow bid 0 z len) = st.eff dst (.ow bid 0 z len, some (bid, .own 0 z xs)) := by cases dst <;> rfl
     rw [this] at h2
     exact ⟨_, _, _, rfl, hBl, h2⟩
    ·cases hk
   ·cases hk
  ·obtain ⟨t, ht, rfl⟩ := Vw hk
   obtain ⟨hA, hleA⟩ := h.after hbl (snap H' (lkb hp') m' w') (hsat _)
   exact ⟨v, m, _, rfl, hBl, hA.putO hd (.imm _ _ (hval _ (fun _ _ hh => hh) r0 t v hrv ht))⟩
 ·cases hk
theorem Q16 {ch : Z0} (hch : ∀ f ts r0 hp' nx', ch f ts .nil 0 = some (r0, hp', nx') → Wo P gl f ts r0 hp' nx') (h : RelS m H B H0 gl rest st a.tmps w) (hd : Zh dst st.n = true) {bid : Nat} (hb : lkb st.hp bid = none) (hn : bid < st.nx) {f : Nat} {args : List AV} {vs : Array Value} {r : AV × Option (Nat × Box)} (hl : args.length = vs.size)
  (hr : ∀ (j : Nat) (x : AV) (v : Value), args[j]? = some x → vs[j]? = some v → RV H (st.env m) x v) (hk : Nz ch (lkb st.hp) bid f args = some r) :
  Ans P f vs w fun e w' => ∃ v m' H', e = .returned v ∧ Qv B w w' ∧ RelS m' H' B H0 gl rest (st.eff dst r) (a.put dst v).tmps w' := by
 have main : ∀ (strict : Bool) (hpx : Hp) (ts : List AV), (∀ id bx, hpx id = some bx → lkb st.hp id = some bx) → (strict = false → hpx = fun _ => none) → optL (tree hpx false 12) args = some ts → Cq strict bid (ch f ts .nil 0) = some r →
   Ans P f vs w fun e w' => ∃ v m' H', e = .returned v ∧ Qv B w w' ∧ RelS m' H' B H0 gl rest (st.eff dst r) (a.put dst v).tmps w' := by
  intro strict hpx ts hsub hstr hts hk
  have hbox : ∀ id ver cs, hpx id = some (.cells ver cs) → Vs H (st.env m) (.cells ver cs) (m id) w := fun id ver cs hh => h.heap.box id _ (hsub _ _ hh)
  have hdis : ∀ id bx, hpx id = some bx → Real bx (m id) → ∀ o, H (m id).g o = none := fun id bx hh hr => (h.heap.sepR id _ (hsub _ _ hh) hr).2.2
  obtain ⟨hl', hr'⟩ := LQ (R' := RelI (snap H hpx m w)) hl hr hts fun x t v hx ht => Me (H1 := H) false (fun id ver cs hh => U3 (hsub _ _ hh)) hbox hdis (fun _ => rfl) 12 x t v hx ht
  exact TX hch h hd hb hn strict hpx ts hsub hstr hl' hr' hk
 unfold Nz at hk
 split at hk
 ·rename_i ts hts
  exact main false (fun _ => none) ts (fun _ _ hh => by cases hh) (fun _ => rfl) hts hk
 ·split at hk
  ·rename_i ts hts
   exact main true (lkb st.hp) ts (fun _ _ hh => hh) (fun e => by cases e) hts hk
  ·cases hk
theorem Fv.zero {f : Nat} {args : List AV} {r : AV} {hp' : Tr Box} {nx' : Nat} (h : Fv P gl f args .nil 0 r hp' nx') : Wo P gl f args r hp' nx' :=
 fun m H B H0 w vs hh hl hv => (h m H B H0 [] w vs hh hl hv (fun p hp => by simp at hp)).mono fun _ _ ⟨v, m', H', a, b, c, d, _⟩ => ⟨v, m', H', a, b, c, d⟩
end
end HY
end
section
namespace HY
open Go Go.RowKit
def Conv (gl : Nat → AV) (st st' : St) : Prop := st'.n = st.n ∧ ∀ (m : Nat → Lc) (H : HV) (B : Nat → Prop) (H0 : HV) (rest : List (AV × Value)) (tmps : Array Value) (w : World), RelS m H B H0 gl rest st tmps w → ∃ m' H', RelS m' H' B H0 gl rest st' tmps w
theorem Conv.refl {gl : Nat → AV} {st : St} : Conv gl st st := ⟨rfl, fun m H _ _ _ _ _ h => ⟨m, H, h⟩⟩
theorem Conv.trans {gl : Nat → AV} {a b c : St} (h : Conv gl a b) (k : Conv gl b c) : Conv gl a c := ⟨k.1.trans h.1, fun m H B H0 rest tmps w hr => by
 obtain ⟨m', H', h'⟩ := h.2 m H B H0 rest tmps w hr
 exact k.2 m' H' B H0 rest tmps w h'⟩
theorem Dn {hp : Hp} {m : Nat → Lc} {id ver : Nat} {b : Box} (h : hp id = some b) (hv : b.ver? = some ver) : (Qq hp m).loc id ver = some (m id) := by simp [Qq, h, hv]
theorem Fg {hp : Hp} {m : Nat → Lc} {id ver : Nat} {b : Box} (h : hp id = some b) (hv : b.ver? = some ver) : (Qq hp m).al id ver := ⟨b, h, fun v e => by rw [hv] at e; cases e; exact Nat.le_refl _⟩
def WQ : List Nat → AV → Option AV
 | [], v => some v
 | i :: p, v => match v with
  | .agg cs => match cs[i]? with
   | some c => WQ p c
   | none => none
  | .tup cs => match cs[i]? with
   | some c => WQ p c
   | none => none
  | _ => none
def Ca : List Nat → AV → AV → AV
 | [], _, y => y
 | i :: p, v, y => match v with
  | .agg cs => match cs[i]? with
   | some c => .agg (cs.set i (Ca p c y))
   | none => v
  | .tup cs => match cs[i]? with
   | some c => .tup (cs.set i (Ca p c y))
   | none => v
  | v => v
theorem Rr {H H' : HV} {E E' : Env} (hle : HV.le H H') (hE : Env.le E E') {x y : AV} (hx : ∀ u, RV H E x u → RV H' E' y u) : ∀ (p : List Nat) (v : AV) (u : Value), RV H E v u → WQ p v = some x → RV H' E' (Ca p v y) u
 | [], v, u, h, hi => by cases hi; exact hx u h
 | i :: p, v, u, h, hi => by
  simp only [WQ] at hi
  split at hi
  ·rename_i cs
   split at hi
   ·rename_i c hc
    simp only [Ca, hc]
    obtain ⟨vs, rfl, hl, h1, hcs⟩ := h.agg_inv
    refine .agg _ vs (by simpa using hl) h1 fun j c' v' hj hv => ?_
    rw [List.getElem?_set] at hj
    split at hj
    ·rename_i hij
     subst hij
     split at hj
     ·cases hj; exact Rr hle hE hx p c v' (hcs _ c v' hc hv) hi
     ·cases hj
    ·exact (hcs j c' v' hj hv).mono hle hE
   ·cases hi
  ·rename_i cs
   split at hi
   ·rename_i c hc
    simp only [Ca, hc]
    obtain ⟨vs, rfl, hl, hcs⟩ := h.tup_inv
    refine .tup _ vs (by simpa using hl) fun j c' v' hj hv => ?_
    rw [List.getElem?_set] at hj
    split at hj
    ·rename_i hij
     subst hij
     split at hj
     ·cases hj; exact Rr hle hE hx p c v' (hcs _ c v' hc hv) hi
     ·cases hj
    ·exact (hcs j c' v' hj hv).mono hle hE
   ·cases hi
  ·cases hi
theorem RA {gl : Nat → AV} {m m' : Nat → Lc} {H H' : HV} {B : Nat → Prop} {H0 : HV} {rest : List (AV × Value)} {st : St} {tmps : Array Value} {w : World} {hp' : Tr Box} {nx' : Nat} (h : RelS m H B H0 gl rest st tmps w) (hh : RelH m' H' B H0 gl (lkb hp') nx' w) (hle : HV.le H H') (hE : Env.le (st.env m) (Qq (lkb hp') m')) (k : Nat) (p : List Nat) {x y : AV} (hi : WQ p (st.get k) = some x) (hx : ∀ u, RV H (st.env m) x u → RV H' (Qq (lkb hp') m') y u) :
  RelS m' H' B H0 gl rest ⟨st.n, pt st.sl k (Ca p (st.get k) y), hp', nx'⟩ tmps w := by
 refine ⟨hh, h.size, fun j => ?_, fun p hp => (h.rest p hp).mono hle hE⟩
 show RV H' _ (lk .undef (pt st.sl k _) j) _
 rw [GV]
 by_cases e : k = j
 ·subst e
  rw [if_pos rfl]
  exact Rr hle hE hx p _ _ (h.slot k) hi
 ·rw [if_neg e]; exact (h.slot j).mono hle hE
section
variable {m : Nat → Lc} {H : HV} {B : Nat → Prop} {H0 : HV} {gl : Nat → AV} {rest : List (AV × Value)} {st : St} {tmps : Array Value} {w : World}
theorem RelS.newOwn (h : RelS m H B H0 gl rest st tmps w) (sz : Nat) (hpos : 0 < sz) : RelS (updF m st.nx ⟨0, 0, 0⟩) H B H0 gl rest ⟨st.n, st.sl, pt st.hp st.nx (.own 0 sz []), st.nx + 1⟩ tmps w ∧ Env.le (st.env m) (Qq (lkb (pt st.hp st.nx (.own 0 sz []))) (updF m st.nx ⟨0, 0, 0⟩)) := by
 have hn := h.heap.fresh st.nx (Nat.le_refl _)
 have hE := Ln (m := m) (hp := lkb st.hp) (b := .own 0 sz []) (l := ⟨0, 0, 0⟩) hn
 have hh := h.heap.oneR (id := st.nx) (nx' := st.nx + 1) (b := .own 0 sz []) (l := ⟨0, 0, 0⟩) (w' := w) (fun _ _ _ => rfl) (Nat.le_refl _) hE (fun hr => absurd hr (Nat.lt_irrefl 0)) (fun _ _ _ _ _ hr => absurd hr (Nat.lt_irrefl 0)) (Nat.lt_succ_self _) (Nat.le_succ _) ⟨hpos, fun x hx => by simp at hx, .inl ⟨rfl, rfl⟩⟩ (fun _ _ e => by cases e)
 rw [← Zo] at hh hE
 exact ⟨⟨hh, h.size, fun k => (h.slot k).mono (.refl _) hE, fun p hp => (h.rest p hp).mono (.refl _) hE⟩, hE⟩
theorem Pl {hp : Tr Box} {id sz : Nat} {a : Option Addr} : RV H (Qq (lkb (pt hp id (.own 0 sz []))) (updF m id ⟨0, 0, 0⟩)) (.ow id 0 sz 0) (.slice a 0 0) := by
 rw [Zo]
 refine .ow id 0 sz 0 a 0 (Fg (QE _ _ _) rfl) (Nat.le_refl _) (Nat.zero_le _) (fun _ => rfl) fun l hl => ?_
 rw [Dn (QE _ _ _) rfl, QE] at hl
 cases hl
 exact .inl ⟨rfl, rfl⟩
def Fi : AV → Bool
 | .nil => true
 | .emp => true
 | _ => false
theorem Hl {E : Env} {x : AV} {v : Value} (hx : RV H E x v) (h : Fi x = true) : ∃ a, v = .slice a 0 0 := by
 cases x <;> first | (cases h; done) | skip
 ·exact ⟨_, hx.nil_inv⟩
 ·exact hx.emp_inv
theorem SO (k : Nat) (p : List Nat) (sz : Nat) (x : AV) (hpos : 0 < sz) (hi : WQ p (st.get k) = some x) (hk : Fi x = true) : Conv gl st ⟨st.n, pt st.sl k (Ca p (st.get k) (.ow st.nx 0 sz 0)), pt st.hp st.nx (.own 0 sz []), st.nx + 1⟩ := ⟨rfl, fun m H B H0 rest tmps w h => by
 obtain ⟨h1, hE⟩ := h.newOwn sz hpos
 exact ⟨_, H, RA h h1.heap (.refl _) hE k p hi fun u hu => by
  obtain ⟨a, rfl⟩ := Hl hu hk
  exact Pl⟩⟩
theorem Vd.set {E : Env} {cs : List AV} {l : Lc} (h : Vd H E cs l w) (i : Nat) (x : AV) (hx : ∀ c v, cs[i]? = some c → RV H E c v → v.oneCell' = true → RV H E x v) : Vd H E (cs.set i x) l w := by
 obtain ⟨C, e, h1, h2, h3, h4⟩ := h
 refine ⟨C, e, h1, h2, by simpa using h3, fun j c hj => ?_⟩
 rw [List.getElem?_set] at hj
 split at hj
 ·rename_i hij
  subst hij
  split at hj
  ·rename_i hlt
   cases hj
   obtain ⟨v, a1, a2, a3⟩ := h4 i _ (List.getElem?_eq_getElem hlt)
   exact ⟨v, a1, a2, hx _ v (List.getElem?_eq_getElem hlt) a3 a2⟩
  ·cases hj
 ·exact h4 j c hj
theorem RelS.reBox (h : RelS m H B H0 gl rest st tmps w) {id ver : Nat} {b b' : Box} (hid : lkb st.hp id = some b) (hv : b.ver? = some ver) (hv' : b'.ver? = some ver) (hr : Real b' (m id) → Real b (m id)) (hb : Vs H (Qq (lkb (pt st.hp id b')) m) b' (m id) w) (hty : ∀ v cs, b' = .cells v cs → TyOk w (m id) v) :
  RelS m H B H0 gl rest ⟨st.n, st.sl, pt st.hp id b', st.nx⟩ tmps w ∧ Env.le (st.env m) (Qq (lkb (pt st.hp id b')) m) := by
 have hE := Dt (m := m) (hp := lkb st.hp) (b' := b') (l := m id) hid hv hv' rfl
 rw [Jk] at hE
 have hidn : id < st.nx := by
  rcases Nat.lt_or_ge id st.nx with hlt | hge
  ·exact hlt
  ·have := h.heap.fresh id hge; rw [this] at hid; cases hid
 have hh := h.heap.oneR (id := id) (nx' := st.nx) (b := b') (l := m id) (w' := w) (fun _ _ _ => rfl) (Nat.le_refl _) (by rw [Jk]; exact hE) (fun r => h.heap.sepR id b hid (hr r)) (fun id' b2 hne hb2 r2 r e => hne (h.heap.injR id' id b2 b hb2 hid r2 (hr r) e)) hidn (Nat.le_refl _) (by rw [Jk, ← Zo]; exact hb) hty
 rw [Jk, ← Zo] at hh
 rw [← Zo] at hE
 exact ⟨⟨hh, h.size, fun k => (h.slot k).mono (.refl _) hE, fun p hp => (h.rest p hp).mono (.refl _) hE⟩, hE⟩
theorem SN (id i sz ver : Nat) (cs : List AV) (c : AV) (hpos : 0 < sz) (hid : lkb st.hp id = some (.cells ver cs)) (hc : cs[i]? = some c) (hk : Fi c = true) : Conv gl st ⟨st.n, st.sl, pt (pt st.hp st.nx (.own 0 sz [])) id (.cells ver (cs.set i (.ow st.nx 0 sz 0))), st.nx + 1⟩ := ⟨rfl, fun m H B H0 rest tmps w h => by
 have hne : id ≠ st.nx := fun e => by have := h.heap.fresh st.nx (Nat.le_refl _); rw [← e, hid] at this; cases this
 obtain ⟨h1, hE⟩ := h.newOwn sz hpos
 have hid1 : lkb (pt st.hp st.nx (.own 0 sz [])) id = some (.cells ver cs) := by rw [Zo, QS _ _ hne]; exact hid
 obtain ⟨h2, _⟩ := h1.reBox (b' := .cells ver (cs.set i (.ow st.nx 0 sz 0))) hid1 rfl rfl (fun _ => trivial) (by
  have hE2 := Dt (m := updF m st.nx ⟨0, 0, 0⟩) (hp := lkb (pt st.hp st.nx (.own 0 sz []))) (b' := .cells ver (cs.set i (.ow st.nx 0 sz 0))) (l := (updF m st.nx ⟨0, 0, 0⟩) id) hid1 rfl rfl rfl
  rw [Jk] at hE2
  have hb : Vd H _ cs _ w := h1.heap.box id _ hid1
  have := hb.set i (.ow st.nx 0 sz 0) fun c' v hc' hv h1c => by
   rw [hc] at hc'; cases hc'
   obtain ⟨a, ha⟩ := Hl hv hk
   rw [ha]; exact Pl
  show Vd H (Qq (lkb (pt (pt st.hp st.nx (.own 0 sz [])) id _)) _) _ _ w
  rw [Zo]
  exact this.mono (.refl _) hE2 rfl) (fun v cs2 e => by cases e; exact h1.heap.ty id _ _ hid1)
 exact ⟨_, H, h2⟩⟩
theorem Hq {E : Env} {ver sz len : Nat} {cs : List AV} {l : Lc} (h : Vd H E cs l w) (hpos : 0 < sz) (hle : len * sz ≤ cs.length) (himm : (cs.take (len * sz)).all immA = true) : Vs H E (.own ver sz (Kf sz len (cs.take (len * sz)))) l w := by
 have hl : (cs.take (len * sz)).length = len * sz := by simp; omega
 obtain ⟨C, e, h1, h2, h3, h4⟩ := h
 refine ⟨hpos, L6 _ _ hl, ?_⟩
 by_cases hs : l.size = 0
 ·have : len = 0 := by
   rcases Nat.eq_zero_or_pos len with h0 | h0
   ·exact h0
   ·have : 1 * sz ≤ len * sz := Nat.mul_le_mul_right _ h0
    omega
  subst this
  exact .inl ⟨hs, rfl⟩
 ·refine .inr ⟨by omega, C, e, h1, h2, by rw [Nr _ _ hl, hl]; omega, fun j c hj => ?_⟩
  rw [Nr _ _ hl] at hj
  have hi := List.all_eq_true.1 himm c (List.mem_of_getElem? hj)
  rw [List.getElem?_take] at hj
  split at hj
  ·obtain ⟨v, a1, a2, a3⟩ := h4 j c hj
   exact ⟨v, a1, a2, Sk a3 hi⟩
  ·cases hj
theorem Pm {E : Env} {id ver sz len : Nat} {v : Value} (hpos : 0 < sz) (h : RV H E (.bs id ver sz 0 len) v) : RV H E (.ow id ver sz len) v := by
 obtain ⟨a, cap, rfl, h1, h2, h3, h4⟩ := h.bs_inv
 refine .ow id ver sz len _ cap h1 h2 h3 (fun e => by cases e) fun l hl => ?_
 obtain ⟨rfl, h5⟩ := h4 l hl
 rw [Nat.add_zero] at h5 ⊢
 by_cases hs : l.size = 0
 ·by_cases hc : cap = 0
  ·exact .inl ⟨hs, hc⟩
  ·have : 1 * 1 ≤ cap * sz := Nat.mul_le_mul (by omega) (by omega)
   omega
 ·exact .inr ⟨by omega, rfl, h5⟩
theorem Hf (k : Nat) (p : List Nat) (id ver sz len : Nat) (cs : List AV) (hpos : 0 < sz) (hk : WQ p (st.get k) = some (.bs id ver sz 0 len)) (hid : lkb st.hp id = some (.cells ver cs)) (hle : len * sz ≤ cs.length) (himm : (cs.take (len * sz)).all immA = true) :
  Conv gl st ⟨st.n, pt st.sl k (Ca p (st.get k) (.ow id ver sz len)), pt st.hp id (.own ver sz (Kf sz len (cs.take (len * sz)))), st.nx⟩ := ⟨rfl, fun m H B H0 rest tmps w h => by
 have hE := Dt (m := m) (hp := lkb st.hp) (b' := .own ver sz (Kf sz len (cs.take (len * sz)))) (l := m id) hid rfl rfl rfl
 rw [Jk, ← Zo] at hE
 obtain ⟨h1, _⟩ := h.reBox (b' := .own ver sz (Kf sz len (cs.take (len * sz)))) hid rfl rfl (fun _ => trivial) (Hq (Vd.mono (h.heap.box id _ hid) (.refl _) hE rfl) hpos hle himm) (fun _ _ e => by cases e)
 exact ⟨m, H, RA h h1.heap (.refl _) hE k p hk fun u hu => Pm hpos (hu.mono (.refl _) hE)⟩⟩
theorem P3 (bx i id ver vb sz len : Nat) (cb cs : List AV) (hpos : 0 < sz) (hne : bx ≠ id) (hbx : lkb st.hp bx = some (.cells vb cb)) (hk : cb[i]? = some (.bs id ver sz 0 len)) (hid : lkb st.hp id = some (.cells ver cs)) (hle : len * sz ≤ cs.length) (himm : (cs.take (len * sz)).all immA = true) :
  Conv gl st ⟨st.n, st.sl, pt (pt st.hp id (.own ver sz (Kf sz len (cs.take (len * sz))))) bx (.cells vb (cb.set i (.ow id ver sz len))), st.nx⟩ := ⟨rfl, fun m H B H0 rest tmps w h => by
 have hE := Dt (m := m) (hp := lkb st.hp) (b' := .own ver sz (Kf sz len (cs.take (len * sz)))) (l := m id) hid rfl rfl rfl
 rw [Jk, ← Zo] at hE
 obtain ⟨h1, _⟩ := h.reBox (b' := .own ver sz (Kf sz len (cs.take (len * sz)))) hid rfl rfl (fun _ => trivial) (Hq (Vd.mono (h.heap.box id _ hid) (.refl _) hE rfl) hpos hle himm) (fun _ _ e => by cases e)
 have hbx1 : lkb (pt st.hp id (.own ver sz (Kf sz len (cs.take (len * sz))))) bx = some (.cells vb cb) := by rw [Zo, QS _ _ hne]; exact hbx
 have hE2 := Dt (m := m) (hp := lkb (pt st.hp id (.own ver sz (Kf sz len (cs.take (len * sz)))))) (b' := .cells vb (cb.set i (.ow id ver sz len))) (l := m bx) hbx1 rfl rfl rfl
 rw [Jk, ← Zo] at hE2
 have hc : Vd H _ cb (m bx) w := h1.heap.box bx _ hbx1
 obtain ⟨h2, _⟩ := h1.reBox (b' := .cells vb (cb.set i (.ow id ver sz len))) hbx1 rfl rfl (fun _ => trivial) (Vd.mono (hc.set i (.ow id ver sz len) fun c v hc' hv _ => by
  rw [hk] at hc'; cases hc'
  exact Pm hpos hv) (.refl _) hE2 rfl) (fun v cs2 e => by cases e; exact h1.heap.ty bx _ _ hbx1)
 exact ⟨m, H, h2⟩⟩
theorem Q1e (id ver sz n : Nat) (xs : List AV) (hid : lkb st.hp id = some (.own ver sz xs)) : Conv gl st ⟨st.n, st.sl, pt st.hp id (.own ver sz (xs.take n)), st.nx⟩ := ⟨rfl, fun m H B H0 rest tmps w h => by
 have hE := Dt (m := m) (hp := lkb st.hp) (b' := .own ver sz (xs.take n)) (l := m id) hid rfl rfl rfl
 rw [Jk, ← Zo] at hE
 obtain ⟨hpos, hel, hb⟩ := h.heap.box id _ hid
 obtain ⟨h1, _⟩ := h.reBox (b' := .own ver sz (xs.take n)) hid rfl rfl (fun r => r) (by
  refine ⟨hpos, fun y hy => hel y (List.mem_of_mem_take hy), ?_⟩
  rcases hb with ⟨h0, rfl⟩ | ⟨h0, C, e, c1, c2, c3, c4⟩
  ·exact .inl ⟨h0, by simp⟩
  ·refine .inr ⟨h0, C, e, c1, c2, by rw [NF n hel]; simp only [List.length_take]; omega, fun j c hj => ?_⟩
   rw [NF n hel, List.getElem?_take] at hj
   split at hj
   ·obtain ⟨v, a1, a2, a3⟩ := c4 j c hj
    exact ⟨v, a1, a2, a3⟩
   ·cases hj) (fun _ _ e => by cases e)
 exact ⟨m, H, h1⟩⟩
theorem Po {E : Env} {ver sz id len : Nat} {xs : List AV} {l : Lc} {v : Value} (hx : RV H E (.ow id ver sz len) v) (hl : E.loc id ver = some l) (hb : Vs H E (.own ver sz xs) l w) (hlen : len = xs.length) {K : HV} (hle : HV.le H K) (hK : 0 < l.size → ∀ o, K l.g o = w.cell? ⟨l.g, o, none⟩) : RelI K (.sl sz xs) v := by
 obtain ⟨a, cap, rfl, _, hlc, hcm, hno, hloc⟩ := hx.ow_inv
 subst hlen
 rcases hloc l hl with ⟨h0, h1⟩ | ⟨h0, rfl, hfit⟩
 ·have : xs = [] := List.eq_nil_of_length_eq_zero (by omega)
  subst this
  exact .sl0 _ _ _ hcm
 ·have hpos := hb.1
  have hel := hb.2.1
  obtain ⟨C, e, hC, hsC, hle2, hcs⟩ := Ho (w := w) hb h0
  have hcell : ∀ (i : Nat) (x : AV) (j : Nat) (c : AV), xs[i]? = some x → x.cells[j]? = some c → ∃ u, C[l.base + (i * sz + j)]? = some u ∧ u.oneCell' = true ∧ RelI K c u := fun i x j c hx hj => by
   obtain ⟨u, a1, a2, a3⟩ := hcs _ _ (Ms hel i x j c hx hj)
   exact ⟨u, a1, a2, a3.mono hle⟩
  refine RelI.sl (H := K) sz xs l.g l.base cap (fun i j => (C[l.base + (i * sz + j)]?).getD Go.undef) hpos hlc hcm (fun i x hx => hel x (List.mem_of_getElem? hx)) (fun i x j c hx hj => ?_) (fun i x j c hx hj => ?_)
  ·obtain ⟨u, a1, a2, a3⟩ := hcell i x j c hx hj
   rw [a1, hK h0, Ye _ _ _ _ _ _ hC, Nat.add_assoc]
   exact ⟨a1, a2⟩
  ·obtain ⟨u, a1, a2, a3⟩ := hcell i x j c hx hj
   rw [a1]; exact a3
theorem OL (k : Nat) (p : List Nat) (id ver sz len : Nat) (xs : List AV) (hk : WQ p (st.get k) = some (.ow id ver sz len)) (hid : lkb st.hp id = some (.own ver sz xs)) (hlen : len = xs.length) :
  Conv gl st ⟨st.n, pt st.sl k (Ca p (st.get k) (.sl sz xs)), pt st.hp id (.own (ver + 4096) sz []), st.nx⟩ := ⟨rfl, fun m H B H0 rest tmps w h => by
 classical
 have hE := MR (m := m) (hp := lkb st.hp) (b' := .own (ver + 4096) sz []) (l := ⟨0, 0, 0⟩) (show ver < ver + 4096 by omega) hid rfl rfl
 obtain ⟨hpos, hel, hb⟩ := h.heap.box id _ hid
 have hK : HV.le H (fun b o => if 0 < (m id).size ∧ b = (m id).g then w.cell? ⟨b, o, none⟩ else H b o) := fun b o v hv => by
  show (if _ then _ else _) = _
  split
  ·rename_i hc
   obtain ⟨h0, rfl⟩ := hc
   have := (h.heap.sepR id _ hid h0).2.2 o
   rw [this] at hv; cases hv
  ·exact hv
 have hKs : ∀ id' b', id' ≠ id → lkb st.hp id' = some b' → Real b' (m id') → ∀ o, (if 0 < (m id).size ∧ (m id').g = (m id).g then w.cell? ⟨(m id').g, o, none⟩ else H (m id').g o) = none := fun id' b' hne hb' hr o => by
  rw [if_neg]
  ·exact (h.heap.sepR id' b' hb' hr).2.2 o
  ·rintro ⟨h0, he⟩
   exact hne (h.heap.injR id' id b' _ hb' hid hr h0 he)
 have hidn : id < st.nx := by
  rcases Nat.lt_or_ge id st.nx with hlt | hge
  ·exact hlt
  ·have := h.heap.fresh id hge; rw [this] at hid; cases hid
 have hh : RelH (updF m id ⟨0, 0, 0⟩) (fun b o => if 0 < (m id).size ∧ b = (m id).g then w.cell? ⟨b, o, none⟩ else H b o) B H0 gl (updF (lkb st.hp) id (some (.own (ver + 4096) sz []))) st.nx w := by
  refine { sat := fun b o v hv => ?_, old := fun b o hB => ?_, low := h.heap.low, fresh := fun j hj => ?_, box := fun j b hj => ?_, sepR := fun j b hj hr => ?_, injR := fun i j b1 b2 h1 h2 r1 r2 heq => ?_, gv := h.heap.gv, gl := fun g => (h.heap.gl g).mono hK, ty := fun j v cs hj => ?_ }
  ·dsimp only at hv
   split at hv
   ·exact hv
   ·exact h.heap.sat b o v hv
  ·rw [if_neg]
   ·exact h.heap.old b o hB
   ·rintro ⟨h0, rfl⟩
    exact (h.heap.sepR id _ hid h0).1 hB
  ·rw [QS _ _ (by omega)]; exact h.heap.fresh j hj
  ·by_cases e : j = id
   ·subst e; rw [QE] at hj; cases hj
    rw [QE]
    exact ⟨hpos, fun x hx => by simp at hx, .inl ⟨rfl, rfl⟩⟩
   ·rw [QS _ _ e] at hj ⊢
    exact (h.heap.box j b hj).mono hK hE rfl
  ·by_cases e : j = id
   ·subst e; rw [QE] at hj hr; cases hj; exact absurd hr (Nat.lt_irrefl 0)
   ·rw [QS _ _ e] at hj hr ⊢
    obtain ⟨x, y, z⟩ := h.heap.sepR j b hj hr
    exact ⟨x, y, hKs j b e hj hr⟩
  ·by_cases e1 : i = id
   ·subst e1; rw [QE] at h1 r1; cases h1; exact absurd r1 (Nat.lt_irrefl 0)
   ·by_cases e2 : j = id
    ·subst e2; rw [QE] at h2 r2; cases h2; exact absurd r2 (Nat.lt_irrefl 0)
    ·rw [QS _ _ e1] at heq h1 r1; rw [QS _ _ e2] at heq h2 r2
     exact h.heap.injR i j b1 b2 h1 h2 r1 r2 heq
  ·by_cases e : j = id
   ·subst e; rw [QE] at hj; cases hj
   ·rw [QS _ _ e] at hj ⊢
    exact h.heap.ty j v cs hj
 rw [← Zo] at hh hE
 refine ⟨_, _, RA h hh hK hE k p hk fun u hs => ?_⟩
 refine .imm _ _ (Po (w := w) hs (Dn hid rfl) (h.heap.box id _ hid) hlen hK fun h0 o => ?_)
 rw [if_pos ⟨h0, rfl⟩]⟩
end
end HY
end
section
namespace HY
open Go Go.RowKit
def VN (ev : Operand → AV) (op : Op) : Option (Nat × List AV) :=
 match op with
 | .call c => match c.callee with
  | .value x => match ev x with
   | .fn f caps => some (f, c.args.toList.map ev ++ caps)
   | _ => none
  | _ => none
 | _ => none
def Ji (op : Op) : Bool :=
 match op with
 | .call c => match c.callee with
  | .builtin _ => false
  | _ => true
 | _ => false
abbrev Yz := Nat → Z0
def Yz.Ok (P : Program) (gl : Nat → AV) (cb : Yz) : Prop := ∀ b f ts r hp' nx', cb b f ts .nil 0 = some (r, hp', nx') → Wo P gl f ts r hp' nx'
theorem SM {P : Program} {gl : Nat → AV} {ch : Z0} (h : ch.Ok P gl) : Yz.Ok P gl (fun _ => ch) := fun _ _ _ _ _ _ hk => (h _ _ _ _ _ _ _ hk).zero
def xo (P : Program) (ch : Yz) (bid : Nat) (dst : Option Nat) (op : Op) (ev : Operand → AV) (hp : Hp) : Option (AV × Option (Nat × Box)) :=
 if Ji op then (match VN ev op with
  | some (f, args) => Nz (ch bid) hp bid f args
  | none => none) else xop P bid dst op ev hp
def appTo (x : Operand) (o : Oper) : Bool := match o.op with
 | .call c => match c.callee with
  | .builtin .append => match c.args.toList, x with
   | .tmp s :: _, .tmp t => Nat.beq s t
   | _, _ => false
  | _ => false
 | _ => false
def seed (all : List Oper) (o : Oper) : Bool := match o.op with
 | .buildSlice _ len _ => match o.dst with
  | some d => Nat.beq len 0 && all.any (appTo (.tmp d))
  | none => false
 | _ => false
def Ea (P : Program) (bid : Nat) (op : Op) : Option (AV × Option (Nat × Box)) := match op with
 | .buildSlice t len parts => match Nat.beq len 0 && parts.toList.isEmpty with
  | true => match elG P t with
   | some (sz, _, _) => some (.ow bid 0 sz 0, some (bid, .own 0 sz []))
   | none => none
  | false => none
 | _ => none
def idOf : AV → List Nat
 | .ptr id _ _ => [id]
 | .bs id _ _ _ _ => [id]
 | .ow id _ _ _ => [id]
 | .oe id _ _ _ _ => [id]
 | _ => []
def foot (op : Op) (ev : Operand → AV) : Option (List Nat) := match op with
 | .load _ x => some (idOf (ev x))
 | .store _ x _ => some (idOf (ev x))
 | .binOp _ _ x _ _ => some (idOf (ev x))
 | .convert _ _ x => some (idOf (ev x))
 | .call c => match c.callee with
  | .builtin .append => match c.args.toList with
   | [x, y] => some (idOf (ev x) ++ idOf (ev y))
   | _ => none
  | .builtin _ => none
  | _ => match VN ev op with
   | some (_, args) => match optL (tree (fun _ => none) false 12) args with
    | some _ => some []
    | none => none
   | none => none
 | _ => none
abbrev Zp := Nat → Option (List Nat)
def CO (md : Bool) (F : Zp) (bid : Nat) (o : Oper) (ev : Operand → AV) : Bool := match md with
 | false => true
 | true => match F bid with
  | none => true
  | some ids => match foot o.op ev with
   | some l => l.all (fun i => ids.any (Nat.beq i))
   | none => false
def xoF (P : Program) (ch : Yz) (md : Bool) (F : Zp) (all : List Oper) (bid : Nat) (o : Oper) (ev : Operand → AV) (hp : Hp) : Option (AV × Option (Nat × Box)) :=
 match CO md F bid o ev with
 | true => match md && seed all o with
  | true => Ea P bid o.op
  | false => xo P ch bid o.dst o.op ev hp
 | false => none
def Nt (all : List Oper) (j : Nat) : Option Nat :=
 match all[j]? with
 | some o => o.dst
 | none => none
def MU (x : AV) (want : Bool) : Option Bool :=
 match x with
 | .bool t => some (bif t then want else !want)
 | .tup [] => some false
 | _ => none
def Kg (P : Program) (gl : Nat → AV) (ch : Yz) (md : Bool) (F : Zp) (all : List Oper) (bid : Nat) (o : Oper) (st : St) : Option St :=
 if Zh o.dst st.n && (lkb st.hp bid).isNone && Nat.blt bid st.nx then match o.guard with
  | none => match xoF P ch md F all bid o (st.ev gl) (lkb st.hp) with
   | some r => some (st.eff o.dst r)
   | none => none
  | some (j, want) => match Nt all j with
   | some g => match MU (st.get g) want with
    | some true => match xoF P ch md F all bid o (st.ev gl) (lkb st.hp) with
     | some r => some (st.eff o.dst r)
     | none => none
    | some false => some (st.eff o.dst (.tup [], none))
    | none => none
   | none => none
 else none
def Dk (P : Program) (r : Option Nat) (n : Nat) (B : Nat → Prop) (H0 : HV) (gl : Nat → AV) (rest : List (AV × Value)) (a : Act) (w : World) (o : Oper) (st' : St) : Prop :=
 ∀ (next : Act → World → Prop) (Q : Exit → Act → World → Prop),
  (∀ a' w' m' H', a'.defers = a.defers → Qv B w w' → RelS m' H' B H0 gl rest st' a'.tmps w' → next a' w') → o.wpIn (FW r) n P a w next Q
theorem Yf (a : Act) (d : Option Tmp) (v : Value) : (a.put d v).defers = a.defers := by cases d <;> rfl
theorem Li {P : Program} {bid : Nat} {dst : Option Nat} {op : Op} {ev : Operand → AV} {hp : Hp} {r : AV × Option (Nat × Box)} (h : xop P bid dst op ev hp = some r) : ∀ c, op ≠ .defer c := by
 intro c e; subst e; simp [xop, xop0, xopX, xopO] at h
section
variable {P : Program} {m : Nat → Lc} {H : HV} {B : Nat → Prop} {H0 : HV} {gl : Nat → AV} {rest : List (AV × Value)} {st : St} {a : Act} {w : World}
theorem OpOk.step {ro : Option Nat} {n : Nat} {o : Oper} {st' : St} (h : OpOk P B H0 gl rest a w o.dst st' (execOp a.eval o)) (hnd : ∀ c, o.op ≠ .defer c) : Dk P ro n B H0 gl rest a w o st' := by
 intro next Q hn
 obtain ⟨nx, v, w', m', H', hr, hx, hb, hrel⟩ := h
 refine ⟨fun _ _ => trivial, ?_⟩
 rw [Oper.semAt_eq _ _ _ hnd, hr]
 rcases hx with rfl | ⟨rfl, rfl⟩
 ·exact hn _ _ _ _ (Yf _ _ _) hb hrel
 ·exact hn _ _ _ _ (Yf _ _ _) hb hrel
theorem WO {ev : Operand → AV} {op : Op} {f : Nat} {args : List AV} (h : VN ev op = some (f, args)) : ∃ c x caps, op = .call c ∧ c.callee = .value x ∧ ev x = .fn f caps ∧ args = c.args.toList.map ev ++ caps := by
 unfold VN at h
 split at h
 ·rename_i c
  split at h
  ·rename_i x hx
   split at h
   ·rename_i f' caps hf
    cases h
    exact ⟨c, x, caps, rfl, hx, hf, rfl⟩
   ·cases h
  ·cases h
 ·cases h
theorem Ro (h : RelS m H B H0 gl rest st a.tmps w) {o : Oper} {f : Nat} {args : List AV} (hc : VN (st.ev gl) o.op = some (f, args)) :
  ∃ vs : Array Value, (execOp a.eval o).run P w = (callFunc f vs).run P w ∧ args.length = vs.size ∧ ∀ (j : Nat) (x : AV) (v : Value), args[j]? = some x → vs[j]? = some v → RV H (st.env m) x v := by
 obtain ⟨c, x, caps, ho, hx, hf, rfl⟩ := WO hc
 have hfx := h.ev x
 rw [hf] at hfx
 obtain ⟨us, hu, hul, hur⟩ := hfx.fn_inv
 have hl := Mw h c.args.toList
 refine ⟨c.args.map a.eval ++ us, ?_, by simp [hul], fun j y v hy hv => ?_⟩
 ·unfold execOp
  simp only [ho, resolve, hx, Sem.run_bind, hu, Deferred.ofValue, Sem.run_pure, Result.andThen_ok, invoke, Array.empty_append]
 ·rw [List.getElem?_append] at hy
  rw [Array.getElem?_append] at hv
  simp only [List.length_map, Array.length_toList, Array.size_map] at hy hv
  split at hy
  ·rename_i hj
   rw [if_pos hj] at hv
   exact hl.2 j y v hy (by simpa using hv)
  ·rename_i hj
   rw [if_neg hj] at hv
   exact hur _ y v hy hv
theorem In (h : RelS m H B H0 gl rest st a.tmps w) {o : Oper} {f : Nat} {args : List AV} (hc : VN (st.ev gl) o.op = some (f, args)) {st' : St} (ro : Option Nat) (n : Nat)
  (hcalls : ∀ vs : Array Value, args.length = vs.size → (∀ (j : Nat) (x : AV) (v : Value), args[j]? = some x → vs[j]? = some v → RV H (st.env m) x v) →
   Ans P f vs w fun e w' => ∃ v m' H', e = .returned v ∧ Qv B w w' ∧ RelS m' H' B H0 gl rest st' (a.put o.dst v).tmps w') : Dk P ro n B H0 gl rest a w o st' := by
 intro next Q hn
 obtain ⟨vs, hrun, hl, hr⟩ := Ro h hc
 obtain ⟨c, x, caps, ho, _⟩ := WO hc
 refine ⟨fun _ _ => trivial, ?_⟩
 rw [Oper.semAt_eq _ _ _ (fun c e => by rw [ho] at e; cases e), hrun]
 rcases hcalls vs hl hr with ⟨hent, hcs⟩ | ⟨v, w', hv, hq⟩
 ·rw [hent vs w]
  refine ⟨(fun hh => by simp [FW] at hh), M2 (hcs.mono fun e w' hp => ?_)⟩
  obtain ⟨v, m', H', rfl, hb, hrel⟩ := hp
  exact hn _ _ _ _ (Yf _ _ _) hb hrel
 ·rw [hv]
  obtain ⟨v', m', H', he, hb, hrel⟩ := hq
  cases he
  exact hn _ _ _ _ (Yf _ _ _) hb hrel
theorem xo_ok {ch : Yz} (hch : ch.Ok P gl) (h : RelS m H B H0 gl rest st a.tmps w) {o : Oper} (hd : Zh o.dst st.n = true) {bid : Nat} (hb : lkb st.hp bid = none) (hn : bid < st.nx) {r : AV × Option (Nat × Box)} (hk : xo P ch bid o.dst o.op (st.ev gl) (lkb st.hp) = some r) (ro : Option Nat) (n : Nat) :
  Dk P ro n B H0 gl rest a w o (st.eff o.dst r) := by
 unfold xo at hk
 split at hk
 ·split at hk
  ·rename_i f args hc
   exact In h hc ro n fun vs hl hr => Q16 (fun _ _ _ _ _ hk => hch _ _ _ _ _ _ hk) h hd hb hn hl hr hk
  ·cases hk
 ·exact (Oq h hd hb hn hk).step (Li hk)
theorem Q0g {k bid sz : Nat} (hpos : 0 < sz) (hk : st.get k = .bs bid 0 sz 0 0) (hid : lkb st.hp bid = some (.cells 0 [])) :
  Conv gl st ⟨st.n, pt st.sl k (.ow bid 0 sz 0), pt st.hp bid (.own 0 sz []), st.nx⟩ := by
 have := Hf (gl := gl) (st := st) k [] bid 0 sz 0 [] hpos (by rw [hk]; rfl) hid (by simp) (by simp)
 simpa [Ca, Kf] using this
theorem Ss {d bid : Nat} {v v' : AV} {b b' : Box} : lkb (pt (st.eff (some d) (v, some (bid, b))).hp bid b') = lkb (st.eff (some d) (v', some (bid, b'))).hp := by
 show lkb (pt (pt st.hp bid b) bid b') = lkb (pt st.hp bid b')
 funext k
 rw [Zo, Zo, Zo]
 unfold updF
 split <;> rfl
theorem Q1u {d bid : Nat} {v v' : AV} {b b' : Box} {hp : Tr Box} {n nx k : Nat} : St.get ⟨n, pt (st.eff (some d) (v, some (bid, b))).sl d v', hp, nx⟩ k = (st.eff (some d) (v', some (bid, b'))).get k := by
 show lk .undef (pt (pt st.sl d v) d v') k = lk .undef (pt st.sl d v') k
 rw [GV, GV, GV]
 split <;> rfl
theorem Q2j {ch : Yz} (hch : ch.Ok P gl) (h : RelS m H B H0 gl rest st a.tmps w) {o : Oper} (hd : Zh o.dst st.n = true) {bid : Nat} (hb : lkb st.hp bid = none) (hn : bid < st.nx) {d : Nat} (hdst : o.dst = some d) {r : AV × Option (Nat × Box)} (hk : Ea P bid o.op = some r) (ro : Option Nat) (n : Nat) :
  Dk P ro n B H0 gl rest a w o (st.eff o.dst r) := by
 unfold Ea at hk
 split at hk
 ·rename_i t len parts ho
  split at hk
  ·rename_i hc
   rw [Bool.and_eq_true] at hc
   obtain rfl := Nat.eq_of_beq_eq_true hc.1
   have hp : parts.toList = [] := by simpa using hc.2
   split at hk
   ·rename_i sz by_ zs hel
    cases hk
    have hpos : 0 < sz := by obtain ⟨_, _, _, _, _, _, _, hpos, _⟩ := N7 hel; exact hpos
    have h0 : xo P ch bid o.dst o.op (st.ev gl) (lkb st.hp) = some (.bs bid 0 sz 0 0, some (bid, .cells 0 [])) := by
     unfold xo
     rw [if_neg (by rw [ho]; simp [Ji]), ho]
     refine ZF ?_
     simp [xop0, CT, hel, hp, N1, WN]
    have hop := xo_ok hch h hd hb hn h0 ro n
    intro next Q hnx
    refine hop next Q fun a' w' m' H' hd' hb' hr' => ?_
    rw [hdst] at hr'
    obtain ⟨m2, H2, hr2⟩ := (Q0g (gl := gl) (st := st.eff (some d) (.bs bid 0 sz 0 0, some (bid, .cells 0 []))) (k := d) (bid := bid) (sz := sz) hpos (by
     show lk .undef (pt st.sl d _) d = _
     rw [GV, if_pos rfl]) (by
     show lkb (pt st.hp bid _) bid = _
     rw [Zo, QE])).2 _ _ _ _ _ _ _ hr'
    refine hnx a' w' m2 H2 hd' hb' ?_
    rw [hdst]
    refine ⟨?_, hr2.size, fun k => ?_, fun p hp => ?_⟩
    ·have := hr2.heap
     rwa [Ss] at this
    ·have := hr2.slot k
     rw [Q1u] at this
     unfold St.env at this ⊢
     rwa [Ss] at this
    ·have := hr2.rest p hp
     unfold St.env at this ⊢
     rwa [Ss] at this
   ·cases hk
  ·cases hk
 ·cases hk
theorem xoF_ok {ch : Yz} (hch : ch.Ok P gl) (h : RelS m H B H0 gl rest st a.tmps w) {md : Bool} {F : Zp} {all : List Oper} {o : Oper} (hd : Zh o.dst st.n = true) {bid : Nat} (hb : lkb st.hp bid = none) (hn : bid < st.nx) {r : AV × Option (Nat × Box)} (hk : xoF P ch md F all bid o (st.ev gl) (lkb st.hp) = some r) (ro : Option Nat) (n : Nat) :
  Dk P ro n B H0 gl rest a w o (st.eff o.dst r) := by
 unfold xoF at hk
 split at hk
 ·split at hk
  ·rename_i hs
   rw [Bool.and_eq_true] at hs
   have : ∃ d, o.dst = some d := by
    have hs := hs.2
    unfold seed at hs
    split at hs
    ·split at hs
     ·exact ⟨_, by assumption⟩
     ·cases hs
    ·cases hs
   obtain ⟨d, hdst⟩ := this
   exact Q2j hch h hd hb hn hdst hk ro n
  ·exact xo_ok hch h hd hb hn hk ro n
 ·cases hk
theorem Ov {l : List Oper} {j g : Nat} {t : Bool} (hg : Nt l j = some g) (ht : a.tmps.getD g Go.undef = .bool t) : yielded l.toArray a.tmps j = some t := by
 have hlt : g < a.tmps.size := by
  rcases Nat.lt_or_ge g a.tmps.size with h | h
  ·exact h
  ·rw [Array.getD_eq_getD_getElem?, Array.getElem?_eq_none h] at ht; cases ht
 have hgo : ((l.toArray[j]?).bind (·.dst)) = some g := by
  unfold Nt at hg
  simp only [List.getElem?_toArray]
  split at hg
  ·rename_i o ho; rw [ho]; exact hg
  ·cases hg
 rw [Array.getD_eq_getD_getElem?, Array.getElem?_eq_getElem hlt, Option.getD_some] at ht
 simp only [yielded, hgo, Option.bind_some, Array.getElem?_eq_getElem hlt, ht]
theorem B9 {l : List Oper} {j g : Nat} (hg : Nt l j = some g) (ht : a.tmps.getD g Go.undef = .tuple #[]) : yielded l.toArray a.tmps j = none := by
 have hgo : ((l.toArray[j]?).bind (·.dst)) = some g := by
  unfold Nt at hg
  simp only [List.getElem?_toArray]
  split at hg
  ·rename_i o ho; rw [ho]; exact hg
  ·cases hg
 rcases Nat.lt_or_ge g a.tmps.size with hlt | hge
 ·rw [Array.getD_eq_getD_getElem?, Array.getElem?_eq_getElem hlt, Option.getD_some] at ht
  simp only [yielded, hgo, Option.bind_some, Array.getElem?_eq_getElem hlt, ht]
 ·simp only [yielded, hgo, Option.bind_some, Array.getElem?_eq_none hge]
theorem HH {H : HV} {E : Env} {l : List Oper} {o : Oper} {j g : Nat} {want b : Bool} {x : AV} (ho : o.guard = some (j, want)) (hg : Nt l j = some g) (hw : MU x want = some b) (hv : RV H E x (a.tmps.getD g Go.undef)) : Region.wanted o (yielded l.toArray a.tmps) = b := by
 unfold MU at hw
 split at hw
 ·rename_i t
  have hy := Ov hg hv.bool_inv
  cases hw
  simp only [Region.wanted, ho, hy]
  cases t <;> cases want <;> rfl
 ·cases hw
  obtain ⟨vs, h1, h2, _⟩ := hv.tup_inv
  have : vs = #[] := Array.eq_empty_of_size_eq_zero (by simpa using h2.symm)
  subst this
  simp only [Region.wanted, ho, B9 hg h1]
  rfl
 ·cases hw
theorem Ad {ch : Yz} (hch : ch.Ok P gl) (h : RelS m H B H0 gl rest st a.tmps w) {md : Bool} {F : Zp} {all : List Oper} {o : Oper} {bid : Nat} {st' : St} (hk : Kg P gl ch md F all bid o st = some st') (ro : Option Nat) (n : Nat)
  (next : Act → World → Prop) (Q : Exit → Act → World → Prop) (hn : ∀ a' w' m' H', a'.defers = a.defers → Qv B w w' → RelS m' H' B H0 gl rest st' a'.tmps w' → next a' w') :
  if Region.wanted o (yielded all.toArray a.tmps) then o.wpIn (FW ro) n P a w next Q else (∀ f, o.about P w a.eval = some f → (FW ro).fn f) ∧ next (a.put o.dst Go.undef) w := by
 unfold Kg at hk
 split at hk
 ·rename_i hc
  simp only [Bool.and_eq_true, Option.isNone_iff_eq_none] at hc
  obtain ⟨⟨hd, hb⟩, hbn⟩ := hc
  have hbn : bid < st.nx := Nat.le_of_ble_eq_true hbn
  have go : ∀ r, xoF P ch md F all bid o (st.ev gl) (lkb st.hp) = some r → some (st.eff o.dst r) = some st' → o.wpIn (FW ro) n P a w next Q := fun r hr he => by
   cases he
   exact xoF_ok hch h hd hb hbn hr ro n next Q hn
  split at hk
  ·rename_i hg
   rw [if_pos (by simp [Region.wanted, hg])]
   split at hk
   ·rename_i r hr; exact go r hr hk
   ·cases hk
  ·rename_i j want hg
   split at hk
   ·rename_i g hgs
    split at hk
    ·rename_i ht
     rw [if_pos (HH hg hgs ht (h.slot g))]
     split at hk
     ·rename_i r hr; exact go r hr hk
     ·cases hk
    ·rename_i ht
     rw [if_neg (by rw [HH hg hgs ht (h.slot g)]; simp)]
     cases hk
     exact ⟨fun _ _ => trivial, hn _ _ _ _ (Yf _ _ _) (Qv.refl _ _) (h.putO hd (.tup [] #[] rfl (fun j c v hj => by simp at hj)))⟩
    ·cases hk
   ·cases hk
 ·cases hk
end
end HY
end
section
namespace HY
open Go Go.RowKit
structure StEq (a b : St) : Prop where
 n : a.n = b.n
 nx : a.nx = b.nx
 get : ∀ k, a.get k = b.get k
 hp : lkb a.hp = lkb b.hp
theorem StEq.refl (a : St) : StEq a a := ⟨rfl, rfl, fun _ => rfl, rfl⟩
theorem StEq.symm {a b : St} (h : StEq a b) : StEq b a := ⟨h.n.symm, h.nx.symm, fun k => (h.get k).symm, h.hp.symm⟩
theorem StEq.trans {a b c : St} (h : StEq a b) (k : StEq b c) : StEq a c := ⟨h.n.trans k.n, h.nx.trans k.nx, fun i => (h.get i).trans (k.get i), h.hp.trans k.hp⟩
theorem StEq.ev {a b : St} (h : StEq a b) (gl : Nat → AV) : a.ev gl = b.ev gl := by
 funext x; cases x <;> first | rfl | exact h.get _
theorem StEq.rel {m : Nat → Lc} {H : HV} {B : Nat → Prop} {H0 : HV} {gl : Nat → AV} {rest : List (AV × Value)} {a b : St} {tmps : Array Value} {w : World} (h : StEq a b) (hr : RelS m H B H0 gl rest a tmps w) : RelS m H B H0 gl rest b tmps w := by
 refine ⟨by rw [← h.hp, ← h.nx]; exact hr.heap, by rw [← h.n]; exact hr.size, fun k => ?_, fun p hp => ?_⟩
 ·show RV H (Qq (lkb b.hp) m) _ _
  rw [← h.hp, ← h.get]; exact hr.slot k
 ·show RV H (Qq (lkb b.hp) m) _ _
  rw [← h.hp]; exact hr.rest p hp
theorem Lo (st : St) (d : Option Nat) (r : AV × Option (Nat × Box)) (k : Nat) : (st.eff d r).get k = if d = some k then r.1 else st.get k := by
 have : ∀ st : St, (st.putO d r.1).get k = if d = some k then r.1 else st.get k := fun st => by
  cases d with
  | none => simp [St.putO]
  | some d =>
   show lk .undef (pt st.sl d r.1) k = _
   rw [GV]
   simp only [Option.some.injEq]
   rfl
 obtain ⟨v, b⟩ := r
 cases b with
 | none => exact this st
 | some b =>
  have := this st
  cases d <;> exact this
theorem CP (st : St) (d : Option Nat) (r : AV × Option (Nat × Box)) : lkb (st.eff d r).hp = match r.2 with | some (id, b) => updF (lkb st.hp) id (some b) | none => lkb st.hp := by
 obtain ⟨v, b⟩ := r
 cases b with
 | none => show lkb (st.putO d v).hp = _; rw [Lt]
 | some b => cases d <;> exact Zo _ _ _
theorem StEq.eff {a b : St} (h : StEq a b) (d : Option Nat) (r : AV × Option (Nat × Box)) : StEq (a.eff d r) (b.eff d r) :=
 ⟨by rw [HQ, HQ]; exact h.n, by rw [Hh, Hh]; exact h.nx, fun k => by rw [Lo, Lo, h.get], by rw [CP, CP, h.hp]⟩
def CI (P : Program) (ch : Yz) (md : Bool) (F : Zp) (all : List Oper) (bid : Nat) (o : Oper) (gv : Option AV) (ev : Operand → AV) (hp : Hp) : Option (AV × Option (Nat × Box)) :=
 match o.guard with
 | none => xoF P ch md F all bid o ev hp
 | some (_, want) => match gv with
  | some x => match MU x want with
   | some true => xoF P ch md F all bid o ev hp
   | some false => some (.tup [], none)
   | none => none
  | none => none
def gval (all : List Oper) (o : Oper) (st : St) : Option AV :=
 match o.guard with
 | none => none
 | some (j, _) => match Nt all j with
  | some g => some (st.get g)
  | none => none
theorem GB {P : Program} {gl : Nat → AV} {ch : Yz} {md : Bool} {F : Zp} {all : List Oper} {bid : Nat} {o : Oper} {st : St} :
  Kg P gl ch md F all bid o st = if Zh o.dst st.n && (lkb st.hp bid).isNone && Nat.blt bid st.nx then (match CI P ch md F all bid o (gval all o st) (st.ev gl) (lkb st.hp) with | some r => some (st.eff o.dst r) | none => none) else none := by
 unfold Kg CI gval
 split
 ·cases hg : o.guard with
  | none => rfl
  | some x =>
   obtain ⟨j, want⟩ := x
   simp only
   cases hgs : Nt all j with
   | none => rfl
   | some g =>
    simp only
    cases hv : MU (st.get g) want with
    | none => rfl
    | some b => cases b <;> rfl
 ·rfl
theorem StEq.stepO {P : Program} {gl : Nat → AV} {ch : Yz} {md : Bool} {F : Zp} {all : List Oper} {bid : Nat} {o : Oper} {a b s : St} (h : StEq a b) (hk : Kg P gl ch md F all bid o a = some s) : ∃ s', Kg P gl ch md F all bid o b = some s' ∧ StEq s s' := by
 rw [GB] at hk ⊢
 have hg : gval all o a = gval all o b := by
  unfold gval
  split
  ·rfl
  ·split
   ·rw [h.get]
   ·rfl
 rw [h.n, h.nx, h.hp, hg, h.ev] at hk
 split at hk
 ·rename_i hc
  rw [if_pos hc]
  split at hk
  ·rename_i r hr
   cases hk
   exact ⟨_, rfl, h.eff _ _⟩
  ·cases hk
 ·cases hk
def tmp? : Operand → Option Nat
 | .tmp t => some t
 | _ => none
def rdO (all : List Oper) (o : Oper) : List Nat :=
 o.op.operands.toList.filterMap tmp? ++ match o.guard with
  | some (j, _) => (Nt all j).toList
  | none => []
def hk (op : Op) : Nat :=
 match op with
 | .load .. => 1
 | .store .. => 2
 | .binOp o .. => match o with
  | .eql | .neq => 1
  | _ => 0
 | .convert .. => 1
 | .call c => match c.callee with
  | .builtin .append => 2
  | .builtin .unsafeString => 2
  | .builtin _ => 0
  | _ => 1
 | _ => 0
def hkCl (a b : Nat) : Bool := (Nat.beq a 2 && !Nat.beq b 0) || (Nat.beq b 2 && !Nat.beq a 0)
def M4 (d : Option Nat) (l : List Nat) : Bool := match d with | some d => l.contains d | none => false
def LH (a b : Option (List Nat)) : Bool := match a, b with
 | some l, some k => l.all fun i => k.all fun j => !Nat.beq i j
 | _, _ => false
def Ti (all : List Oper) (o p : Oper) : Bool := M4 o.dst (rdO all p) || M4 o.dst p.dst.toList || M4 p.dst (rdO all o)
def Th (md : Bool) (all : List Oper) (o p : Oper) : Bool := Ti all o p || (!md && hkCl (hk o.op) (hk p.op))
section
variable {P : Program} {m : Nat → Lc} {H : HV} {B : Nat → Prop} {H0 : HV} {gl : Nat → AV} {rest : List (AV × Value)} {st : St} {a : Act} {w : World} {ch : Yz}
theorem Q0a {bid : Nat} {dst : Option Nat} {op : Op} {ev ev' : Operand → AV} {hp : Hp} (h : ∀ x ∈ op.operands, ev x = ev' x) : xop0 P bid dst op ev hp = xop0 P bid dst op ev' hp := by
 have hopt : ∀ (o : Option Operand), (∀ x ∈ o.toList, ev x = ev' x) → o.map ev = o.map ev' := fun o ho => by
  cases o with
  | none => rfl
  | some x => simp [ho x (by simp)]
 cases op <;> simp only [Op.operands, List.mem_toArray, List.mem_cons, List.not_mem_nil, or_false, forall_eq_or_imp, forall_eq, List.mem_map, Array.mem_toList_iff] at h <;> (try rfl) <;> simp only [xop0]
 case move => rw [h]
 case assign => rw [h]
 case pick => rw [h.1, h.2.1, h.2.2]
 case box => rw [h]
 case build t ps => congr 2; refine List.map_congr_left fun p hp => ?_; rw [h _ ⟨p, by simpa using hp, rfl⟩]
 case buildSlice t l ps => congr 1; refine List.map_congr_left fun p hp => ?_; rw [h _ ⟨p, by simpa using hp, rfl⟩]
 case load => rw [h]
 case store => rw [h.1, h.2]
 case nilCheck => rw [h]
 case binOp => rw [h.1, h.2]
 case unOp => rw [h]
 case convert => rw [h]
 case makeFunc fn first caps =>
  cases fn <;> try rfl
  simp only
  split
  ·congr 3
   refine List.map_congr_left fun x hx => h x ?_
   simp at hx ⊢
   exact .inr hx
  ·rfl
 case makeSlice => rw [h.1, h.2]
 case slice t x lo hi mx =>
  have h' : ∀ y, y = x ∨ y ∈ lo.toList ∨ y ∈ hi.toList ∨ y ∈ mx.toList → ev y = ev' y := fun y hy => h y (by
   simp only [Array.mem_append, List.mem_toArray, List.mem_singleton, Option.mem_toArray] at *
   rcases hy with h1 | h1 | h1 | h1
   ·exact .inl (.inl (.inl (by simp [h1])))
   ·exact .inl (.inl (.inr (by simpa using h1)))
   ·exact .inl (.inr (by simpa using h1))
   ·exact .inr (by simpa using h1))
  rw [h' x (.inl rfl), hopt lo (fun y hy => h' y (.inr (.inl hy))), hopt hi (fun y hy => h' y (.inr (.inr (.inl hy)))), hopt mx (fun y hy => h' y (.inr (.inr (.inr hy))))]
 case fieldAddr => rw [h]
 case field => rw [h]
 case indexAddr => rw [h.1, h.2]
 case index => rw [h.1, h.2]
 case extract => rw [h]
 case call c =>
  cases hc : c.callee <;> simp only
  rename_i b
  congr 1
  refine List.map_congr_left fun x hx => h x ?_
  simp [Call.operands, hc]
  simpa using hx
theorem Q0c {bid : Nat} {op : Op} {ev ev' : Operand → AV} {hp : Hp} (h : ∀ x ∈ op.operands, ev x = ev' x) : xopX P bid op ev hp = xopX P bid op ev' hp := by
 cases op <;> (try rfl)
 case binOp => simp only [Op.operands, List.mem_toArray, List.mem_cons, List.not_mem_nil, or_false, forall_eq_or_imp, forall_eq] at h; simp only [xopX]; rw [h.1, h.2]
 case convert => simp only [Op.operands, List.mem_toArray, List.mem_cons, List.not_mem_nil, or_false, forall_eq] at h; simp only [xopX]; rw [h]
 case call c =>
  simp only [xopX]
  cases hc : c.callee with
  | builtin b =>
   have hl : c.args.toList.map ev = c.args.toList.map ev' := List.map_congr_left fun x hx => h x (by simp [Op.operands, Call.operands, hc]; simpa using hx)
   simp only [hl]
  | value x => rfl
  | invoke x y => rfl
theorem Q0b {op : Op} {ev ev' : Operand → AV} {hp : Hp} (h : ∀ x ∈ op.operands, ev x = ev' x) : xopO P op ev hp = xopO P op ev' hp := by
 cases op <;> (try rfl)
 case call c =>
  simp only [xopO]
  cases hc : c.callee with
  | builtin b =>
   have hl : c.args.toList.map ev = c.args.toList.map ev' := List.map_congr_left fun x hx => h x (by simp [Op.operands, Call.operands, hc]; simpa using hx)
   simp only [hl]
  | value x => rfl
  | invoke x y => rfl
theorem Q14 {bid : Nat} {dst : Option Nat} {op : Op} {ev ev' : Operand → AV} {hp : Hp} (h : ∀ x ∈ op.operands, ev x = ev' x) : xop P bid dst op ev hp = xop P bid dst op ev' hp := by
 unfold xop; rw [Q0a h, Q0c h, Q0b h]
end
end HY
end
section
namespace HY
open Go Go.RowKit
section
variable {P : Program} {m : Nat → Lc} {H : HV} {B : Nat → Prop} {H0 : HV} {gl : Nat → AV} {rest : List (AV × Value)} {st : St} {a : Act} {w : World} {ch : Yz}
theorem He {op : Op} {ev ev' : Operand → AV} (h : ∀ x ∈ op.operands, ev x = ev' x) : VN ev op = VN ev' op := by
 unfold VN
 split
 ·rename_i c
  split
  ·rename_i x hx
   have hx' : ev x = ev' x := h x (by simp [Op.operands, Call.operands, hx])
   have hl : c.args.toList.map ev = c.args.toList.map ev' := List.map_congr_left fun y hy => h y (by simp [Op.operands, Call.operands, hx]; right; simpa using hy)
   rw [hx', hl]
  ·rfl
 ·rfl
theorem Q2d {bid : Nat} {dst : Option Nat} {op : Op} {ev ev' : Operand → AV} {hp : Hp} (h : ∀ x ∈ op.operands, ev x = ev' x) : xo P ch bid dst op ev hp = xo P ch bid dst op ev' hp := by
 unfold xo; rw [He h, Q14 h]
theorem xo_hk0 {bid : Nat} {dst : Option Nat} {op : Op} {ev : Operand → AV} {hp hp' : Hp} (h : hk op = 0) : xo P ch bid dst op ev hp = xo P ch bid dst op ev hp' := by
 unfold xo
 split
 ·rename_i hc
  unfold Ji at hc
  split at hc
  ·rename_i c
   split at hc
   ·cases hc
   ·rename_i hnb
    exfalso
    cases hcc : c.callee with
    | builtin b => exact hnb _ hcc
    | value x => simp [hk, hcc] at h
    | invoke x y => simp [hk, hcc] at h
  ·cases hc
 ·rename_i hnc
  clear hnc
  unfold xop
  have e0 : xop0 P bid dst op ev hp = xop0 P bid dst op ev hp' := by
   cases op <;> first | rfl | (cases h; done) | skip
   case makeFunc fn first caps => cases fn <;> rfl
   case call c =>
    simp only [xop0]
    cases hcc : c.callee with
    | builtin b =>
     simp only
     cases b <;> first | rfl | (simp [hk, hcc] at h; done)
    | value x => rfl
    | invoke x y => rfl
  have e1 : xopX P bid op ev hp = xopX P bid op ev hp' := by
   cases op <;> first | rfl | (cases h; done) | skip
   case binOp o t x y ty =>
    have hno : ∀ hp, N0 P o t (ev x) (ev y) hp = none := fun hp => by
     have ho : ∀ b, Ny o b = none := fun b => by cases o <;> first | rfl | (cases h; done)
     unfold N0
     split
     ·split
      ·split
       ·split
        ·exact ho _
        ·rfl
       ·rfl
      ·rfl
     ·rfl
    simp only [xopX, hno]
   case call c =>
    simp only [xopX]
    cases hcc : c.callee with
    | builtin b =>
     simp only
     cases b <;> first | rfl | (simp [hk, hcc] at h; done)
    | value x => rfl
    | invoke x y => rfl
  have e2 : xopO P op ev hp = xopO P op ev hp' := by
   cases op <;> first | rfl | skip
   case call c =>
    simp only [xopO]
    cases hcc : c.callee with
    | builtin b =>
     cases b <;> first | rfl | (simp [hk, hcc] at h; done)
    | value x => rfl
    | invoke x y => rfl
  rw [e0, e1, e2]
def Ext (hp hp' : Hp) : Prop := ∀ id b, hp id = some b → hp' id = some b
theorem Bc {hp : Hp} {id : Nat} {b : Box} (h : hp id = none) : Ext hp (updF hp id (some b)) := fun id' b' h' => by
 have : id' ≠ id := fun e => by rw [e, h] at h'; cases h'
 rw [QS _ _ this]; exact h'
theorem Hr {E : Env} {id ver off : Nat} {v : Value} (h : RV H E (.ptr id ver off) v) : E.al id ver := let ⟨_, _, h, _⟩ := h.ptr_inv; h
theorem HP {E : Env} {id ver sz off len : Nat} {v : Value} (h : RV H E (.bs id ver sz off len) v) : E.al id ver := let ⟨_, _, _, h, _⟩ := h.bs_inv; h
theorem ow_al {E : Env} {id ver sz len : Nat} {v : Value} (h : RV H E (.ow id ver sz len) v) : E.al id ver := let ⟨_, _, _, h, _⟩ := h.ow_inv; h
theorem oe_al {E : Env} {id ver sz i off : Nat} {v : Value} (h : RV H E (.oe id ver sz i off) v) : E.al id ver := let ⟨_, _, h, _⟩ := h.oe_inv; h
theorem VM {hp : Hp} {m : Nat → Lc} {id ver : Nat} (h : (Qq hp m).al id ver) : ∃ b, hp id = some b := let ⟨b, h, _⟩ := h; ⟨b, h⟩
theorem CD {f g : AV → Option AV} : ∀ {l : List AV}, (∀ x ∈ l, f x = g x) → optL f l = optL g l
 | [], _ => rfl
 | x :: l, h => by
  simp only [optL]
  rw [h x (by simp), CD (l := l) fun y hy => h y (by simp [hy])]
theorem RN {hp hp' : Hp} (hb : ∀ id b, hp id = some b → Vs H (Qq hp m) b (m id) w) (he : Ext hp hp') (s : Bool) : ∀ (k : Nat) (x : AV) (v : Value), RV H (Qq hp m) x v → tree hp' s k x = tree hp s k x
 | 0, _, _, _ => rfl
 | k + 1, x, v, hx => by
  have ih := RN hb he s k
  cases x with
  | bs id ver sz off len =>
   obtain ⟨b, hid⟩ := VM (HP hx)
   simp only [tree, he _ _ hid, hid]
   cases b with
   | cells v' cs =>
    obtain ⟨C, e, hC, _, _, hcs⟩ := hb _ _ hid
    have : optL (tree hp' s k) ((cs.drop off).take (len * sz)) = optL (tree hp s k) ((cs.drop off).take (len * sz)) := CD fun y hy => by
     obtain ⟨j, hj⟩ := List.getElem?_of_mem (List.mem_of_mem_drop (List.mem_of_mem_take hy))
     obtain ⟨u, _, _, hr⟩ := hcs j y hj
     exact ih y u hr
    simp only [this]
   | own => rfl
   | loop => rfl
   | defb => rfl
   | dead => rfl
  | agg cs =>
   obtain ⟨vs, rfl, hl, _, hc⟩ := hx.agg_inv
   simp only [tree]
   rw [CD fun y hy => ?_]
   obtain ⟨j, hj⟩ := List.getElem?_of_mem hy
   exact ih y _ (hc j y _ hj (Array.getElem?_eq_getElem (by rw [← hl]; exact (List.getElem?_eq_some_iff.1 hj).1)))
  | tup cs =>
   obtain ⟨vs, rfl, hl, hc⟩ := hx.tup_inv
   simp only [tree]
   rw [CD fun y hy => ?_]
   obtain ⟨j, hj⟩ := List.getElem?_of_mem hy
   exact ih y _ (hc j y _ hj (Array.getElem?_eq_getElem (by rw [← hl]; exact (List.getElem?_eq_some_iff.1 hj).1)))
  | fn f cs =>
   obtain ⟨vs, rfl, hl, hc⟩ := hx.fn_inv
   simp only [tree]
   rw [CD fun y hy => ?_]
   obtain ⟨j, hj⟩ := List.getElem?_of_mem hy
   exact ih y _ (hc j y _ hj (Array.getElem?_eq_getElem (by rw [← hl]; exact (List.getElem?_eq_some_iff.1 hj).1)))
  | _ => rfl
theorem Q2k {hp hp' : Hp} (he : Ext hp hp') {sz : Nat} {x : AV} {v : Value} (hx : RV H (Qq hp m) x v) : xsrc sz x hp' = xsrc sz x hp := by
 cases x with
 | bs id ver z off len =>
  obtain ⟨b, hid⟩ := VM (HP hx)
  simp only [xsrc, he _ _ hid, hid]
 | _ => rfl
theorem B5 {hp hp' : Hp} (he : Ext hp hp') {bid : Nat} {t t' : TypeId} {s x : AV} {u v : Value} (hs : RV H (Qq hp m) s u) (hx : RV H (Qq hp m) x v) : Gc P bid t t' s x hp' = Gc P bid t t' s x hp := by
 unfold Gc
 split
 ·split
  ·rw [Q2k he hx]
   split
   ·split
    ·rfl
    ·cases s with
     | bs id ver z off len =>
      obtain ⟨b, hid⟩ := VM (HP hs)
      simp only [GX, he _ _ hid, hid]
     | _ => rfl
   ·rfl
  ·rfl
 ·rfl
theorem Q2e (h : RelS m H B H0 gl rest st a.tmps w) {hp' : Hp} (he : Ext (lkb st.hp) hp') {bid : Nat} {dst : Option Nat} {op : Op} : xop0 P bid dst op (st.ev gl) hp' = xop0 P bid dst op (st.ev gl) (lkb st.hp) := by
      cases op <;> first | rfl | skip
      case makeFunc fn first caps => cases fn <;> rfl
      case load t x =>
        simp only [xop0, WZ]
        have hx := h.ev x
        generalize st.ev gl x = y at hx ⊢
        cases y <;> first | rfl | skip
        · obtain ⟨b, hid⟩ := VM (Hr hx)
          simp only [he _ _ hid, hid]
        · obtain ⟨b, hid⟩ := VM (oe_al hx)
          simp only [he _ _ hid, hid]
      case store t x y =>
        simp only [xop0, CU]
        have hx := h.ev x
        generalize st.ev gl x = z at hx ⊢
        cases z <;> first | rfl | skip
        · obtain ⟨b, hid⟩ := VM (Hr hx)
          simp only [he _ _ hid, hid]
        · obtain ⟨b, hid⟩ := VM (oe_al hx)
          simp only [he _ _ hid, hid]
      case call c =>
        simp only [xop0]
        cases hcc : c.callee <;> first | rfl | skip
        rename_i b
        cases b <;> first | rfl | skip
        simp only [VQ]
        split
        · rename_i t t' s x ht hx
          match hh : c.args.toList with
          | [] => rw [hh] at hx; cases hx
          | [y] => rw [hh] at hx; simp at hx
          | [y, z] =>
            rw [hh] at hx; simp only [List.map_cons, List.map_nil, List.cons.injEq, and_true] at hx
            obtain ⟨rfl, rfl⟩ := hx
            exact B5 he (h.ev y) (h.ev z)
          | _ :: _ :: _ :: _ => rw [hh] at hx; simp at hx
        · rfl
theorem B8 {pt : TypeId} {p n : AV} {hp hp' : Hp} (h : ∀ id ver off, p = .ptr id ver off → hp id = hp' id) : Ma P pt p n hp = Ma P pt p n hp' := by
 unfold Ma
 split
 ·rfl
 ·rw [h _ _ _ rfl]
 ·rfl
theorem Q2i (h : RelS m H B H0 gl rest st a.tmps w) {hp' : Hp} (he : Ext (lkb st.hp) hp') {bid : Nat} {op : Op} : xopX P bid op (st.ev gl) hp' = xopX P bid op (st.ev gl) (lkb st.hp) := by
 cases op <;> first | rfl | skip
 case binOp o t x y ty =>
  simp only [xopX]
  congr 1
  have hx := h.ev x
  generalize st.ev gl x = z at hx ⊢
  cases z <;> first | rfl | skip
  obtain ⟨b, hid⟩ := VM (Hr hx)
  generalize st.ev gl y = y'
  cases y' <;> first | rfl | simp only [N0, he _ _ hid, hid]
 case convert src to x =>
  simp only [xopX]
  congr 1
  have hx := h.ev x
  generalize st.ev gl x = z at hx ⊢
  cases z <;> first | rfl | skip
  ·obtain ⟨b, hid⟩ := VM (Hr hx)
   simp only [WY, he _ _ hid, hid]
  ·obtain ⟨b, hid⟩ := VM (HP hx)
   simp only [WY, he _ _ hid, hid]
 case call c =>
  simp only [xopX]
  cases hcc : c.callee <;> first | rfl | skip
  rename_i b
  cases b <;> first | rfl | skip
  ·simp only
   split
   ·rename_i t t' s x ht hx
    obtain ⟨y, z, _, rfl, rfl⟩ := Wn hx
    unfold M8
    split
    ·split
     ·split
      ·split
       ·rfl
       ·have hs := h.ev y
        generalize st.ev gl y = y' at hs ⊢
        cases y' <;> first | rfl | skip
        obtain ⟨b, hid⟩ := VM (HP hs)
        simp only [GX, he _ _ hid, hid]
      ·rfl
     ·rfl
    ·rfl
   ·rfl
  ·simp only
   split
   ·rename_i pt it p n ht hx
    obtain ⟨y, z, _, rfl, rfl⟩ := Wn hx
    refine B8 fun id ver off e => ?_
    have hs := h.ev y
    rw [e] at hs
    obtain ⟨b, hid⟩ := VM (Hr hs)
    rw [he _ _ hid, hid]
   ·rfl
theorem Q28 {hp hp' : Hp} (he : Ext hp hp') {sz : Nat} {x : AV} {v : Value} (hx : RV H (Qq hp m) x v) : xels sz x hp' = xels sz x hp := by
 cases x with
 | bs id ver z off len =>
  obtain ⟨b, hid⟩ := VM (HP hx)
  simp only [xels, he _ _ hid, hid]
 | ow id ver z len =>
  obtain ⟨b, hid⟩ := VM (ow_al hx)
  simp only [xels, he _ _ hid, hid]
 | _ => rfl
theorem Q0x {hp hp' : Hp} (he : Ext hp hp') {t t' : TypeId} {s x : AV} {u v : Value} (hs : RV H (Qq hp m) s u) (hx : RV H (Qq hp m) x v) : Wg P t t' s x hp' = Wg P t t' s x hp := by
 cases s with
 | ow id ver z len =>
  obtain ⟨b, hid⟩ := VM (ow_al hs)
  simp only [Wg, he _ _ hid, hid, Q28 he hx]
 | _ => rfl
theorem Q2g (h : RelS m H B H0 gl rest st a.tmps w) {hp' : Hp} (he : Ext (lkb st.hp) hp') {op : Op} : xopO P op (st.ev gl) hp' = xopO P op (st.ev gl) (lkb st.hp) := by
 cases op <;> first | rfl | skip
 case call c =>
  simp only [xopO]
  cases hcc : c.callee <;> first | rfl | skip
  rename_i b
  cases b <;> first | rfl | skip
  simp only
  split
  ·rename_i t t' s x ht hx
   obtain ⟨y, z, _, rfl, rfl⟩ := Wn hx
   exact Q0x he (h.ev y) (h.ev z)
  ·rfl
theorem xo_ext (h : RelS m H B H0 gl rest st a.tmps w) {hp' : Hp} (he : Ext (lkb st.hp) hp') {bid : Nat} {dst : Option Nat} {op : Op} : xo P ch bid dst op (st.ev gl) hp' = xo P ch bid dst op (st.ev gl) (lkb st.hp) := by
 by_cases h0 : hk op = 0
 ·exact xo_hk0 h0
 ·unfold xo
  split
  ·split
   ·rename_i f args hc
    obtain ⟨c, x, caps, ho, hx, hf, rfl⟩ := WO hc
    unfold Nz
    have : optL (tree hp' false 12) (c.args.toList.map (st.ev gl) ++ caps) = optL (tree (lkb st.hp) false 12) (c.args.toList.map (st.ev gl) ++ caps) := CD fun y hy => by
     rw [List.mem_append, List.mem_map] at hy
     rcases hy with ⟨z, _, rfl⟩ | hy
     ·exact RN (fun id b hid => h.heap.box id b hid) he false 12 _ _ (h.ev z)
     ·have hfx := h.ev x
      rw [hf] at hfx
      obtain ⟨us, _, hul, hur⟩ := hfx.fn_inv
      obtain ⟨j, hj⟩ := List.getElem?_of_mem hy
      exact RN (fun id b hid => h.heap.box id b hid) he false 12 _ _ (hur j y _ hj (Array.getElem?_eq_getElem (by rw [← hul]; exact (List.getElem?_eq_some_iff.1 hj).1)))
    rw [this]
   ·rfl
  ·rename_i hnc
   clear hnc
   unfold xop
   rw [Q2e h he, Q2i h he, Q2g h he]
theorem Ab {bid e tg sz by_ n : Nat} {ds : List AV} {s : AV} {hp : Hp} {v : AV} {id : Nat} {b : Box} (h : GX bid e tg sz by_ n ds s hp = some (v, some (id, b))) : id = bid ∨ ∃ b', hp id = some b' := by
 unfold GX at h
 split at h
 ·split at h
  ·cases h; exact .inl rfl
  ·cases h
 ·split at h
  ·cases h; exact .inl rfl
  ·cases h
 ·split at h
  ·rename_i hid
   split at h
   ·cases h; exact .inr ⟨_, hid⟩
   ·cases h
  ·cases h
 ·cases h
theorem Q2h {bid : Nat} {op : Op} {ev : Operand → AV} {hp : Hp} {v : AV} {id : Nat} {b : Box} (h : xopX P bid op ev hp = some (v, some (id, b))) : id = bid ∨ (hk op = 2 ∧ ∃ b', hp id = some b') := by
 have xvno : ∀ o : Option AV, xv o ≠ some (v, some (id, b)) := fun o e => by cases o <;> simp [xv] at e
 unfold xopX at h
 split at h
 ·exact absurd h (xvno _)
 ·exact absurd h (xvno _)
 ·rename_i c
  split at h
  ·rename_i bb hbb
   split at h
   ·split at h
    ·unfold M8 at h
     split at h
     ·split at h
      ·split at h
       ·split at h
        ·cases h
        ·exact (Ab h).imp (fun x => x) fun hh => ⟨by simp [hk, hbb], hh⟩
       ·cases h
      ·cases h
     ·cases h
    ·cases h
   ·split at h
    ·exact absurd h (xvno _)
    ·cases h
   ·split at h
    ·unfold Ma at h
     split at h
     ·cases h
     ·split at h
      ·rename_i hid
       split at h
       ·split at h
        ·split at h
         ·cases h; exact .inr ⟨by simp [hk, hbb], _, hid⟩
         ·cases h
        ·cases h
       ·cases h
      ·cases h
     ·cases h
    ·cases h
   ·cases h
  ·cases h
 ·cases h
theorem Q2f {op : Op} {ev : Operand → AV} {hp : Hp} {v : AV} {id : Nat} {b : Box} (h : xopO P op ev hp = some (v, some (id, b))) : hk op = 2 ∧ ∃ b', hp id = some b' := by
 unfold xopO at h
 split at h
 ·rename_i c
  split at h
  ·rename_i hbb
   split at h
   ·unfold Wg at h
    split at h
    ·split at h
     ·split at h
      ·split at h
       ·rename_i hid
        split at h
        ·split at h
         ·split at h
          ·cases h; exact ⟨by simp [hk, hbb], _, hid⟩
          ·cases h
         ·cases h
        ·cases h
       ·cases h
      ·cases h
     ·cases h
    ·cases h
   ·cases h
  ·cases h
 ·cases h
theorem xo_box {bid : Nat} {dst : Option Nat} {op : Op} {ev : Operand → AV} {hp : Hp} {v : AV} {id : Nat} {b : Box} (h : xo P ch bid dst op ev hp = some (v, some (id, b))) : id = bid ∨ (hk op = 2 ∧ ∃ b', hp id = some b') := by
 have xvno : ∀ o : Option AV, xv o ≠ some (v, some (id, b)) := fun o e => by cases o <;> simp [xv] at e
 unfold xo at h
 split at h
 ·split at h
  ·rename_i f args hc
   left
   have key : ∀ s o, Cq s bid o = some (v, some (id, b)) → id = bid := fun s o hh => by
    unfold Cq at hh
    split at hh
    ·split at hh
     ·split at hh
      ·split at hh
       ·split at hh
        ·cases hh; rfl
        ·cases hh
       ·cases hh
      ·cases hh
     ·split at hh
      ·split at hh
       ·cases hh; rfl
       ·cases hh
      ·cases hh
     ·exact absurd hh (xvno _)
    ·cases hh
   unfold Nz at h
   split at h
   ·exact key _ _ h
   ·split at h
    ·exact key _ _ h
    ·cases h
  ·cases h
 ·unfold xop at h
  split at h
  rotate_left
  ·split at h
   ·rename_i r0 h0; cases h; exact Q2h h0
   ·exact .inr (Q2f h)
  rename_i r0 h0
  cases h
  have h := h0
  unfold xop0 at h
  split at h <;> first
   | (cases h; done)
   | exact absurd h (xvno _)
   | skip
  ·split at h <;> cases h
  ·split at h
   ·split at h
    ·cases h; exact .inl rfl
    ·cases h
   ·cases h
  ·split at h
   ·cases h; exact .inl rfl
   ·cases h
  ·unfold CT at h
   split at h
   ·split at h
    ·split at h
     ·cases h; exact .inl rfl
     ·cases h
    ·cases h
   ·cases h
  ·rename_i t x y
   split at h
   ·right
    unfold CU at h
    split at h
    ·split at h
     ·split at h
      ·rename_i hid
       split at h
       ·cases h; exact ⟨rfl, _, hid⟩
       ·cases h
      ·cases h
     ·split at h
      ·rename_i hid
       split at h
       ·cases h; exact ⟨rfl, _, hid⟩
       ·cases h
      ·cases h
     ·cases h
    ·cases h
   ·cases h
  ·split at h <;> cases h
  ·unfold M9 at h
   split at h
   ·split at h
    ·split at h
     ·cases h; exact .inl rfl
     ·cases h
    ·cases h
   ·cases h
  ·split at h <;> cases h
  ·rename_i c
   split at h
   ·rename_i bb hbb
    unfold VQ at h
    split at h
    ·split at h
     ·exact absurd h (xvno _)
     ·cases h
    ·exact absurd h (xvno _)
    ·exact absurd h (xvno _)
    ·split at h
     ·unfold Gc at h
      split at h
      ·split at h
       ·split at h
        ·split at h
         ·split at h <;> cases h
         ·exact (Ab h).imp (fun x => x) fun hh => ⟨by simp [hk, hbb], hh⟩
        ·cases h
       ·cases h
      ·cases h
     ·cases h
    ·cases h
   ·cases h
theorem Q12 {t : TypeId} {x : AV} {hp hp' : Hp} (hh : ∀ id ∈ idOf x, hp id = hp' id) : WZ P t x hp = WZ P t x hp' := by
 unfold WZ
 split
 ·cases x <;> first | rfl | simp only [hh _ (List.mem_singleton.2 rfl)]
 ·rfl
theorem Q0e {t : TypeId} {x y : AV} {hp hp' : Hp} (hh : ∀ id ∈ idOf x, hp id = hp' id) : CU P t x y hp = CU P t x y hp' := by
 unfold CU
 split
 ·cases x <;> first | rfl | simp only [hh _ (List.mem_singleton.2 rfl)]
 ·rfl
theorem Q0d {o : BinOp} {t : TypeId} {x y : AV} {hp hp' : Hp} (hh : ∀ id ∈ idOf x, hp id = hp' id) : N0 P o t x y hp = N0 P o t x y hp' := by
 cases x <;> first | rfl | skip
 cases y <;> first | rfl | simp only [N0, hh _ (List.mem_singleton.2 rfl)]
theorem Q09 {t t' : TypeId} {x : AV} {hp hp' : Hp} (hh : ∀ id ∈ idOf x, hp id = hp' id) : WY P t t' x hp = WY P t t' x hp' := by
 cases x <;> first | rfl | simp only [WY, hh _ (List.mem_singleton.2 rfl)]
theorem Ac {bid e tg sz by_ n : Nat} {ds : List AV} {s : AV} {hp hp' : Hp} (hh : ∀ id ∈ idOf s, hp id = hp' id) : GX bid e tg sz by_ n ds s hp = GX bid e tg sz by_ n ds s hp' := by
 cases s <;> first | rfl | simp only [GX, hh _ (List.mem_singleton.2 rfl)]
theorem Q2l {sz : Nat} {x : AV} {hp hp' : Hp} (hh : ∀ id ∈ idOf x, hp id = hp' id) : xsrc sz x hp = xsrc sz x hp' := by
 cases x <;> first | rfl | simp only [xsrc, hh _ (List.mem_singleton.2 rfl)]
theorem Q29 {sz : Nat} {x : AV} {hp hp' : Hp} (hh : ∀ id ∈ idOf x, hp id = hp' id) : xels sz x hp = xels sz x hp' := by
 cases x <;> first | rfl | simp only [xels, hh _ (List.mem_singleton.2 rfl)]
theorem Q24 {bid : Nat} {dst : Option Nat} {c : Call} (hc : c.callee = .builtin .append) {x y : Operand} (ha : c.args.toList = [x, y]) {ev : Operand → AV} {hp hp' : Hp} (hx : ∀ id ∈ idOf (ev x), hp id = hp' id) (hy : ∀ id ∈ idOf (ev y), hp id = hp' id) : xop P bid dst (.call c) ev hp = xop P bid dst (.call c) ev hp' := by
 unfold xop
 have e0 : xop0 P bid dst (.call c) ev hp = xop0 P bid dst (.call c) ev hp' := by
  simp only [xop0, hc, ha, List.map_cons, List.map_nil, VQ]
  split
  ·rename_i h
   cases h
   unfold Gc
   simp only [Q2l hy]
   split <;> (try rfl)
   split <;> (try rfl)
   split <;> (try rfl)
   split <;> (try rfl)
   exact Ac hx
  ·rfl
 have e1 : xopX P bid (.call c) ev hp = xopX P bid (.call c) ev hp' := by
  simp only [xopX, hc, ha, List.map_cons, List.map_nil]
  split
  ·rename_i h
   cases h
   unfold M8
   split <;> (try rfl)
   split <;> (try rfl)
   split <;> (try rfl)
   split <;> (try rfl)
   exact Ac hx
  ·rfl
 have e2 : xopO P (.call c) ev hp = xopO P (.call c) ev hp' := by
  simp only [xopO, hc, ha, List.map_cons, List.map_nil]
  split
  ·rename_i h
   cases h
   unfold Wg
   split
   ·rename_i heq
    rw [heq] at hx
    simp only [Q29 hy, hx _ (List.mem_singleton.2 rfl)]
   ·rfl
  ·rfl
 rw [e0, e1, e2]
theorem Pb {c : Call} {ev : Operand → AV} {ids : List Nat} (hc : c.callee = .builtin .append) (hf : foot (.call c) ev = some ids) : ∃ x y, c.args.toList = [x, y] ∧ ids = idOf (ev x) ++ idOf (ev y) := by
 simp only [foot, hc] at hf
 split at hf
 ·rename_i x y ha; cases hf; exact ⟨x, y, ha, rfl⟩
 ·cases hf
theorem xo_foot {bid : Nat} {dst : Option Nat} {op : Op} {ev : Operand → AV} {hp hp' : Hp} {ids : List Nat} (hf : foot op ev = some ids) (hh : ∀ id ∈ ids, hp id = hp' id) : xo P ch bid dst op ev hp = xo P ch bid dst op ev hp' := by
 cases op <;> first | (cases hf; done) | skip
 case load t x =>
  cases hf
  unfold xo xop
  simp only [Ji, Bool.false_eq_true, if_false, xop0, xopX, xopO, Q12 hh]
 case store t x y =>
  cases hf
  unfold xo xop
  simp only [Ji, Bool.false_eq_true, if_false, xop0, xopX, xopO, Q0e hh]
 case binOp o t x y ty =>
  cases hf
  unfold xo xop
  simp only [Ji, Bool.false_eq_true, if_false, xop0, xopX, xopO, Q0d hh]
 case convert t t' x =>
  cases hf
  unfold xo xop
  simp only [Ji, Bool.false_eq_true, if_false, xop0, xopX, xopO, Q09 hh]
 case call c =>
  cases hc : c.callee with
  | builtin b =>
   cases b <;> first | (simp only [foot, hc] at hf; cases hf; done) | skip
   obtain ⟨x, y, ha, rfl⟩ := Pb hc hf
   unfold xo
   rw [if_neg (by simp [Ji, hc]), if_neg (by simp [Ji, hc])]
   exact Q24 hc ha (fun id h => hh id (List.mem_append_left _ h)) (fun id h => hh id (List.mem_append_right _ h))
  | value x =>
   unfold xo
   rw [if_pos (by simp [Ji, hc]), if_pos (by simp [Ji, hc])]
   simp only [foot, hc] at hf
   split at hf
   ·rename_i f args hcl
    split at hf
    ·rename_i ts hts
     simp only [Nz, hts]
    ·cases hf
   ·cases hf
  | invoke x y =>
   simp only [foot, hc, VN] at hf
   cases hf
theorem Oi {bid e tg sz by_ n : Nat} {ds : List AV} {s : AV} {hp : Hp} {v : AV} {id : Nat} {b : Box} (h : GX bid e tg sz by_ n ds s hp = some (v, some (id, b))) : id = bid ∨ id ∈ idOf s := by
 unfold GX at h
 split at h
 ·split at h
  ·cases h; exact .inl rfl
  ·cases h
 ·split at h
  ·cases h; exact .inl rfl
  ·cases h
 ·split at h
  ·split at h
   ·cases h; exact .inr (List.mem_singleton.2 rfl)
   ·cases h
  ·cases h
 ·cases h
theorem xo_id {bid : Nat} {dst : Option Nat} {op : Op} {ev : Operand → AV} {hp : Hp} {ids : List Nat} (hf : foot op ev = some ids) {v : AV} {id : Nat} {b : Box} (h : xo P ch bid dst op ev hp = some (v, some (id, b))) : id = bid ∨ (hk op = 2 ∧ (∃ b', hp id = some b') ∧ id ∈ ids) := by
 rcases xo_box h with h0 | ⟨h2, hb⟩
 ·exact .inl h0
 ·cases op <;> first | (cases h2; done) | skip
  case store t x y =>
   cases hf
   refine .inr ⟨h2, hb, ?_⟩
   unfold xo xop at h
   simp only [Ji, Bool.false_eq_true, if_false, xop0, xopX, xopO] at h
   split at h
   ·rename_i r hr
    cases h
    split at hr
    ·unfold CU at hr
     split at hr
     ·split at hr
      ·rename_i e
       split at hr
       ·split at hr
        ·cases hr; rw [e]; exact List.mem_singleton.2 rfl
        ·cases hr
       ·cases hr
      ·rename_i e
       split at hr
       ·split at hr
        ·cases hr; rw [e]; exact List.mem_singleton.2 rfl
        ·cases hr
       ·cases hr
      ·cases hr
     ·cases hr
    ·cases hr
   ·cases h
  case binOp o t x y ty => exfalso; simp only [hk] at h2; split at h2 <;> cases h2
  case call c =>
   cases hc : c.callee with
   | value x => simp [hk, hc] at h2
   | invoke x y => simp [hk, hc] at h2
   | builtin bb =>
    cases bb <;> first | (simp only [foot, hc] at hf; cases hf; done) | skip
    obtain ⟨x, y, ha, rfl⟩ := Pb hc hf
    unfold xo at h
    rw [if_neg (by simp [Ji, hc])] at h
    have done : id = bid ∨ id ∈ idOf (ev x) → id = bid ∨ hk (Op.call c) = 2 ∧ (∃ b', hp id = some b') ∧ id ∈ idOf (ev x) ++ idOf (ev y) := fun hx => hx.imp (fun e => e) fun hx => ⟨h2, hb, List.mem_append_left _ hx⟩
    refine done ?_
    unfold xop at h
    split at h
    ·rename_i r hr
     cases h
     simp only [xop0, hc, ha, List.map_cons, List.map_nil, VQ] at hr
     split at hr
     ·rename_i he
      cases he
      unfold Gc at hr
      split at hr
      ·split at hr
       ·split at hr
        ·split at hr
         ·split at hr <;> cases hr
         ·exact Oi hr
        ·cases hr
       ·cases hr
      ·cases hr
     ·cases hr
    ·split at h
     ·rename_i r hr
      cases h
      simp only [xopX, hc, ha, List.map_cons, List.map_nil] at hr
      split at hr
      ·rename_i he
       cases he
       unfold M8 at hr
       split at hr
       ·split at hr
        ·split at hr
         ·split at hr
          ·cases hr
          ·exact Oi hr
         ·cases hr
        ·cases hr
       ·cases hr
      ·cases hr
     ·simp only [xopO, hc, ha, List.map_cons, List.map_nil] at h
      split at h
      ·rename_i he
       cases he
       unfold Wg at h
       split at h
       ·rename_i e
        split at h
        ·split at h
         ·split at h
          ·split at h
           ·split at h
            ·split at h
             ·cases h; right; rw [e]; exact List.mem_singleton.2 rfl
             ·cases h
            ·cases h
           ·cases h
          ·cases h
         ·cases h
        ·cases h
       ·cases h
      ·cases h
theorem Pa {md : Bool} {F : Zp} {bid : Nat} {o : Oper} {ev ev' : Operand → AV} (h : ∀ x ∈ o.op.operands, ev x = ev' x) : CO md F bid o ev = CO md F bid o ev' := by
 have : foot o.op ev = foot o.op ev' := by
  have hcal := He h
  cases hop : o.op <;> rw [hop] at h hcal <;> (try rfl) <;> simp only [Op.operands, List.mem_toArray, List.mem_cons, List.not_mem_nil, or_false, forall_eq_or_imp, forall_eq, List.mem_map, Array.mem_toList_iff] at h <;> simp only [foot]
  case load => rw [h]
  case store => rw [h.1]
  case binOp => rw [h.1]
  case convert => rw [h]
  case call c =>
   cases hc : c.callee with
   | value x => simp only [hcal]
   | invoke x y => simp only [hcal]
   | builtin b =>
    cases b <;> (try rfl)
    simp only
    have h' : ∀ x ∈ c.args.toList, ev x = ev' x := fun x hx => h x (by simp [Call.operands, hc]; simpa using hx)
    split
    ·rename_i x y ha
     rw [ha] at h'
     rw [h' x (by simp), h' y (by simp)]
    ·rfl
 unfold CO
 rw [this]
theorem Q13 {md : Bool} {F : Zp} {all : List Oper} {bid : Nat} {o : Oper} {ev ev' : Operand → AV} {hp : Hp} (h : ∀ x ∈ o.op.operands, ev x = ev' x) : xoF P ch md F all bid o ev hp = xoF P ch md F all bid o ev' hp := by
 unfold xoF; rw [Pa h, Q2d h]
theorem BQ {md : Bool} {F : Zp} {all : List Oper} {bid : Nat} {o : Oper} {ev : Operand → AV} {hp hp' : Hp} (h : hk o.op = 0) : xoF P ch md F all bid o ev hp = xoF P ch md F all bid o ev hp' := by
 unfold xoF; rw [xo_hk0 h]
theorem BP (h : RelS m H B H0 gl rest st a.tmps w) {hp' : Hp} (he : Ext (lkb st.hp) hp') {md : Bool} {F : Zp} {all : List Oper} {bid : Nat} {o : Oper} : xoF P ch md F all bid o (st.ev gl) hp' = xoF P ch md F all bid o (st.ev gl) (lkb st.hp) := by
 unfold xoF; rw [xo_ext h he]
theorem Tk {F : Zp} {bid : Nat} {o : Oper} {ev : Operand → AV} {ids : List Nat} (h : CO true F bid o ev = true) (hc : F bid = some ids) : ∃ l, foot o.op ev = some l ∧ ∀ i ∈ l, i ∈ ids := by
 unfold CO at h
 cases hids : foot o.op ev with
 | none => simp [hc, hids] at h
 | some l =>
  refine ⟨l, rfl, fun i hi => ?_⟩
  simp only [hc, hids] at h
  obtain ⟨j, hj, e⟩ := List.any_eq_true.1 (List.all_eq_true.1 h i hi)
  rwa [Nat.eq_of_beq_eq_true e]
theorem BN {F : Zp} {all : List Oper} {bid : Nat} {o : Oper} {ev : Operand → AV} {hp hp' : Hp} {ids : List Nat} (hc : F bid = some ids) (hh : ∀ id, id ∈ ids → hp id = hp' id) : xoF P ch true F all bid o ev hp = xoF P ch true F all bid o ev hp' := by
 unfold xoF
 split
 ·rename_i hf
  split
  ·rfl
  ·obtain ⟨l, hl, hal⟩ := Tk hf hc
   exact xo_foot hl fun id hid => hh id (hal id hid)
 ·rfl
theorem Q18 {bid : Nat} {op : Op} {v : AV} {id : Nat} {b : Box} (h : Ea P bid op = some (v, some (id, b))) : id = bid := by
 unfold Ea at h
 split at h
 ·split at h
  ·split at h
   ·cases h; rfl
   ·cases h
  ·cases h
 ·cases h
theorem BM {md : Bool} {F : Zp} {all : List Oper} {bid : Nat} {o : Oper} {ev : Operand → AV} {hp : Hp} {v : AV} {id : Nat} {b : Box} (h : xoF P ch md F all bid o ev hp = some (v, some (id, b))) : id = bid ∨ (hk o.op = 2 ∧ (∃ b', hp id = some b') ∧ (md = true → ∀ ids, F bid = some ids → id ∈ ids)) := by
 unfold xoF at h
 split at h
 ·rename_i hf
  split at h
  ·exact .inl (Q18 h)
  ·rcases xo_box h with h0 | ⟨h2, hb⟩
   ·exact .inl h0
   ·by_cases hm : md = true ∧ ∃ ids, F bid = some ids
    ·obtain ⟨rfl, ids, hc⟩ := hm
     obtain ⟨l, hl, hal⟩ := Tk hf hc
     rcases xo_id hl h with h0 | ⟨_, _, hid⟩
     ·exact .inl h0
     ·exact .inr ⟨h2, hb, fun _ ids' hi => by rw [hc] at hi; cases hi; exact hal id hid⟩
    ·exact .inr ⟨h2, hb, fun h1 ids h3 => absurd ⟨h1, ids, h3⟩ hm⟩
 ·cases h
theorem LI {a b : Option (List Nat)} (h : LH a b = true) : ∃ l k, a = some l ∧ b = some k ∧ ∀ i, i ∈ l → i ∈ k → False := by
 unfold LH at h
 split at h
 ·rename_i l k
  refine ⟨l, k, rfl, rfl, fun i hi hj => ?_⟩
  have := List.all_eq_true.1 (List.all_eq_true.1 h i hi) i hj
  simp at this
 ·cases h
end
end HY
end
section
namespace HY
open Go Go.RowKit
section
variable {P : Program} {m : Nat → Lc} {H : HV} {B : Nat → Prop} {H0 : HV} {gl : Nat → AV} {rest : List (AV × Value)} {st : St} {a : Act} {w : World} {ch : Yz} {all : List Oper}
theorem R2 {md : Bool} {F : Zp} {bid : Nat} {o : Oper} {gv gv' : Option AV} {ev ev' : Operand → AV} {hp hp' : Hp} (hg : gv = gv') (hx : ∀ x ∈ o.op.operands, ev x = ev' x) (hh : xoF P ch md F all bid o ev' hp = xoF P ch md F all bid o ev' hp') : CI P ch md F all bid o gv ev hp = CI P ch md F all bid o gv' ev' hp' := by
 subst hg
 unfold CI
 rw [Q13 hx, hh]
theorem HK {md : Bool} {F : Zp} {bid : Nat} {o : Oper} {gv : Option AV} {ev : Operand → AV} {hp : Hp} {v : AV} {id : Nat} {b : Box} (h : CI P ch md F all bid o gv ev hp = some (v, some (id, b))) : id = bid ∨ (hk o.op = 2 ∧ (∃ b', hp id = some b') ∧ (md = true → ∀ ids, F bid = some ids → id ∈ ids)) := by
 unfold CI at h
 split at h
 ·exact BM h
 ·split at h
  ·split at h
   ·exact BM h
   ·cases h
   ·cases h
  ·cases h
theorem P2 {o p : Oper} (h : Ti all o p = false) : M4 o.dst (rdO all p) = false ∧ M4 o.dst p.dst.toList = false ∧ M4 p.dst (rdO all o) = false := by
 simp only [Ti, Bool.or_eq_false_iff] at h
 obtain ⟨⟨c1, c2⟩, c3⟩ := h
 exact ⟨c1, c2, c3⟩
def Apart (md : Bool) (F : Zp) (all : List Oper) (bj bi : Nat) (oj oi : Oper) : Prop :=
 Ti all oj oi = false ∧ (hkCl (hk oj.op) (hk oi.op) = false ∨ (md = true ∧ LH (F bj) (F bi) = true))
theorem L8 {d : Option Nat} {l : List Nat} (h : M4 d l = false) {k : Nat} (hk : k ∈ l) : d ≠ some k := by
 intro e; subst e
 simp only [M4] at h
 have : l.contains k = true := by simpa using hk
 rw [this] at h; cases h
theorem SP {o : Oper} {d : Option Nat} (r : AV × Option (Nat × Box)) (hd : M4 d (rdO all o) = false) : (∀ x ∈ o.op.operands, (st.eff d r).ev gl x = st.ev gl x) ∧ gval all o (st.eff d r) = gval all o st := by
 refine ⟨fun x hx => ?_, ?_⟩
 ·cases x with
  | tmp t =>
   show (st.eff d r).get t = st.get t
   rw [Lo, if_neg]
   refine L8 hd ?_
   unfold rdO
   rw [List.mem_append]
   exact .inl (List.mem_filterMap.2 ⟨.tmp t, by simpa using hx, rfl⟩)
  | _ => rfl
 ·unfold gval
  split
  ·rfl
  ·rename_i j want hg
   split
   ·rename_i g hgs
    rw [Lo, if_neg]
    refine L8 hd ?_
    unfold rdO
    rw [List.mem_append]
    refine .inr ?_
    simp [hg, hgs]
   ·rfl
theorem Q0u {f : Hp} {i j : Nat} {x y : Option Box} (h : i ≠ j) : updF (updF f i x) j y = updF (updF f j y) i x := by
 funext k
 unfold updF
 by_cases h1 : k = i <;> by_cases h2 : k = j <;> simp_all
theorem swap (h : RelS m H B H0 gl rest st a.tmps w) {md : Bool} {F : Zp} {oj oi : Oper} {bj bi : Nat} (hne : bj ≠ bi) (hc : Apart md F all bj bi oj oi) {s1 s2 : St} (h1 : Kg P gl ch md F all bj oj st = some s1) (h2 : Kg P gl ch md F all bi oi s1 = some s2) :
  ∃ t1 t2, Kg P gl ch md F all bi oi st = some t1 ∧ Kg P gl ch md F all bj oj t1 = some t2 ∧ StEq t2 s2 := by
 obtain ⟨cD, c4⟩ := hc
 obtain ⟨c1, c2, c3⟩ := P2 cD
 rw [GB] at h1
 split at h1
 ·rename_i k1
  simp only [Bool.and_eq_true, Option.isNone_iff_eq_none] at k1
  obtain ⟨⟨hdj, hbj⟩, hnj⟩ := k1
  split at h1
  ·rename_i rj hrj
   cases h1
   rw [GB] at h2
   split at h2
   ·rename_i k2
    simp only [Bool.and_eq_true, Option.isNone_iff_eq_none, HQ, Hh] at k2
    obtain ⟨⟨hdi, hbi⟩, hni⟩ := k2
    split at h2
    ·rename_i ri hri
     cases h2
     obtain ⟨e1, e2⟩ := SP (st := st) (gl := gl) (all := all) (o := oi) rj c1
     have hbi0 : lkb st.hp bi = none := by
      rw [CP] at hbi
      split at hbi
      ·rename_i id b hb
       by_cases e : bi = id
       ·subst e; rw [QE] at hbi; cases hbi
       ·rwa [QS _ _ e] at hbi
      ·exact hbi
     have hpi : xoF P ch md F all bi oi (st.ev gl) (lkb (st.eff oj.dst rj).hp) = xoF P ch md F all bi oi (st.ev gl) (lkb st.hp) := by
      rw [CP]
      split
      ·rename_i id b hb
       have hrj' : CI P ch md F all bj oj (gval all oj st) (st.ev gl) (lkb st.hp) = some (rj.1, some (id, b)) := by rw [hrj, ← hb]
       rcases HK hrj' with rfl | ⟨hk2, _, hcl⟩
       ·exact BP h (Bc hbj)
       ·rcases c4 with c4 | ⟨rfl, c4⟩
        ·refine BQ ?_
         simp only [hkCl, hk2] at c4
         simp at c4
         exact c4.1
        ·obtain ⟨lj, li, n1, n2, hap⟩ := LI c4
         refine BN n2 fun id' hid' => ?_
         rw [QS _ _ fun e => ?_]
         subst e
         exact hap _ (hcl rfl _ n1) hid'
      ·rfl
     have hi' : CI P ch md F all bi oi (gval all oi st) (st.ev gl) (lkb st.hp) = some ri := by
      rw [← hri]; exact (R2 e2 e1 hpi).symm
     obtain ⟨f1, f2⟩ := SP (st := st) (gl := gl) (all := all) (o := oj) ri c3
     have hidi : ∀ id b, ri.2 = some (id, b) → id = bi ∨ (hk oi.op = 2 ∧ (∃ b', lkb st.hp id = some b') ∧ (md = true → ∀ ids, F bi = some ids → id ∈ ids)) := fun id b hb => by
      refine HK (v := ri.1) (b := b) ?_ (gv := gval all oi st) (ev := st.ev gl) (P := P) (ch := ch) (all := all)
      rw [hi', ← hb]
     have hidj : ∀ id b, rj.2 = some (id, b) → id = bj ∨ (hk oj.op = 2 ∧ (∃ b', lkb st.hp id = some b') ∧ (md = true → ∀ ids, F bj = some ids → id ∈ ids)) := fun id b hb => by
      refine HK (v := rj.1) (b := b) ?_ (gv := gval all oj st) (ev := st.ev gl) (P := P) (ch := ch) (all := all)
      rw [hrj, ← hb]
     have hbj1 : lkb (st.eff oi.dst ri).hp bj = none := by
      rw [CP]
      split
      ·rename_i id b hb
       have : bj ≠ id := by
        rcases hidi id b hb with rfl | ⟨_, ⟨b', hb'⟩, _⟩
        ·exact hne
        ·intro e; subst e; rw [hbj] at hb'; cases hb'
       rw [QS _ _ this]; exact hbj
      ·exact hbj
     have hpj : xoF P ch md F all bj oj (st.ev gl) (lkb (st.eff oi.dst ri).hp) = xoF P ch md F all bj oj (st.ev gl) (lkb st.hp) := by
      rw [CP]
      split
      ·rename_i id b hb
       rcases hidi id b hb with rfl | ⟨hk2, _, hcl⟩
       ·exact BP h (Bc hbi0)
       ·rcases c4 with c4 | ⟨rfl, c4⟩
        ·refine BQ ?_
         simp only [hkCl, hk2] at c4
         simp at c4
         exact c4.2
        ·obtain ⟨lj, li, n1, n2, hap⟩ := LI c4
         refine BN n1 fun id' hid' => ?_
         rw [QS _ _ fun e => ?_]
         subst e
         exact hap _ hid' (hcl rfl _ n2)
      ·rfl
     have hj' : CI P ch md F all bj oj (gval all oj (st.eff oi.dst ri)) ((st.eff oi.dst ri).ev gl) (lkb (st.eff oi.dst ri).hp) = some rj := by
      rw [← hrj]; exact R2 f2 f1 hpj
     refine ⟨st.eff oi.dst ri, (st.eff oi.dst ri).eff oj.dst rj, ?_, ?_, ?_⟩
     ·rw [GB, if_pos (by simp [hdi, hbi0, hni]), hi']
     ·rw [GB, if_pos (by simp [HQ, Hh, hdj, hbj1, hnj]), hj']
     ·refine ⟨by simp only [HQ], by simp only [Hh], fun k => ?_, ?_⟩
      ·simp only [Lo]
       by_cases k1 : oj.dst = some k <;> by_cases k2 : oi.dst = some k <;> simp only [k1, k2, if_true, if_false]
       exact absurd k1 (L8 c2 (by simp [k2]))
       all_goals rfl
      ·rw [CP, CP, CP, CP]
       cases hrj2 : rj.2 with
       | none => rfl
       | some x =>
        obtain ⟨idj, bxj⟩ := x
        cases hri2 : ri.2 with
        | none => rfl
        | some y =>
         obtain ⟨idi, bxi⟩ := y
         simp only
         refine Q0u ?_
         rcases hidi idi bxi hri2 with rfl | ⟨hk2, ⟨b', hb'⟩, hci⟩
         ·rcases hidj idj bxj hrj2 with rfl | ⟨_, ⟨b'', hb''⟩, _⟩
          ·exact Ne.symm hne
          ·intro e; subst e; rw [hbi0] at hb''; cases hb''
         ·rcases hidj idj bxj hrj2 with rfl | ⟨hk3, _, hcj⟩
          ·intro e; subst e; rw [hbj] at hb'; cases hb'
          ·rcases c4 with c4 | ⟨rfl, c4⟩
           ·exfalso; simp [hkCl, hk2, hk3] at c4
           ·obtain ⟨lj, li, n1, n2, hap⟩ := LI c4
            intro e; subst e
            exact hap _ (hcj rfl _ n1) (hci rfl _ n2)
    ·cases h2
   ·cases h2
  ·cases h1
 ·cases h1
theorem PC {ro : Option Nat} {n : Nat} {o : Oper} {next : Act → World → Prop} (h : o.wpIn (FW ro) n P a w next fun _ _ _ => False) : ∃ a' w', next a' w' := by
 obtain ⟨_, h⟩ := h
 unfold Oper.uponIn at h
 split at h
 ·exact ⟨_, _, h⟩
 ·exact ⟨_, _, h⟩
 ·exact ⟨_, _, h⟩
 ·obtain ⟨_, _, hc⟩ := h
  obtain ⟨e, w', fr, hr, _⟩ := hc [] (fun d hd => by simp [FW] at hd)
  cases e with
  | returned v => exact ⟨_, _, hr⟩
  | panicked c => exact hr.elim
  | outgrown => obtain ⟨_, _, hr⟩ := hr; exact hr.elim
 ·obtain ⟨_, hc⟩ := h
  obtain ⟨v, w', hr, _⟩ := hc default [] (fun d hd => by simp [FW] at hd)
  exact ⟨_, _, hr⟩
 ·obtain ⟨_, _, hc⟩ := h
  obtain ⟨e, w', hr, _⟩ := hc default [] (fun d hd => by simp [FW] at hd)
  cases e with
  | returned v => exact ⟨_, _, hr⟩
  | panicked c => exact hr.elim
  | outgrown => obtain ⟨_, _, hr⟩ := hr; exact hr.elim
 ·exact h.elim
 ·exact h.elim
theorem B7 (hch : ch.Ok P gl) (h : RelS m H B H0 gl rest st a.tmps w) {md : Bool} {F : Zp} {o : Oper} {bid : Nat} {st' : St} (hk : Kg P gl ch md F all bid o st = some st') : ∃ (a' : Act) (w' : World) (m' : Nat → Lc) (H' : HV), RelS m' H' B H0 gl rest st' a'.tmps w' := by
 have := Ad hch h hk none 0 (fun a' w' => ∃ m' H', RelS m' H' B H0 gl rest st' a'.tmps w') (fun _ _ _ => False) (fun a' w' m' H' _ _ hr => ⟨m', H', hr⟩)
 split at this
 ·obtain ⟨a', w', m', H', hr⟩ := PC this; exact ⟨a', w', m', H', hr⟩
 ·obtain ⟨_, m', H', hr⟩ := this; exact ⟨_, _, m', H', hr⟩
def runI (P : Program) (gl : Nat → AV) (ch : Yz) (md : Bool) (F : Zp) (all : List Oper) (base : Nat) : List Nat → St → Option St
 | [], st => some st
 | i :: l, st => match all[i]? with
  | some o => match Kg P gl ch md F all (base + i) o st with
   | some s => runI P gl ch md F all base l s
   | none => none
  | none => none
theorem Lb {md : Bool} {F : Zp} {base : Nat} : ∀ {l r : List Nat} {st : St}, runI P gl ch md F all base (l ++ r) st = match runI P gl ch md F all base l st with | some s => runI P gl ch md F all base r s | none => none
 | [], r, st => rfl
 | i :: l, r, st => by
  simp only [List.cons_append, runI]
  cases all[i]? with
  | none => rfl
  | some o =>
   simp only
   cases Kg P gl ch md F all (base + i) o st with
   | none => rfl
   | some s => exact Lb
theorem StEq.runI {md : Bool} {F : Zp} {base : Nat} : ∀ {l : List Nat} {x y s : St}, StEq x y → HY.runI P gl ch md F all base l x = some s → ∃ s', HY.runI P gl ch md F all base l y = some s' ∧ StEq s s'
 | [], x, y, s, h, hk => by simp only [HY.runI, Option.some.injEq] at hk; subst hk; exact ⟨y, rfl, h⟩
 | i :: l, x, y, s, h, hk => by
  simp only [HY.runI] at hk ⊢
  cases ho : all[i]? with
  | none => rw [ho] at hk; cases hk
  | some o =>
   rw [ho] at hk
   simp only at hk ⊢
   cases hs : Kg P gl ch md F all (base + i) o x with
   | none => rw [hs] at hk; cases hk
   | some s1 =>
    rw [hs] at hk
    obtain ⟨s2, h1, h2⟩ := h.stepO hs
    rw [h1]
    exact StEq.runI h2 hk
theorem move (hch : ch.Ok P gl) {md : Bool} {F : Zp} {base i : Nat} {oi : Oper} : ∀ (pre : List Nat) {st : St} {a : Act} {w : World} {m : Nat → Lc} {H : HV} {s1 s2 : St}, RelS m H B H0 gl rest st a.tmps w → runI P gl ch md F all base pre st = some s1 → Kg P gl ch md F all (base + i) oi s1 = some s2 →
  (∀ j ∈ pre, j ≠ i ∧ ∀ oj, all[j]? = some oj → Apart md F all (base + j) (base + i) oj oi) → ∃ t s', Kg P gl ch md F all (base + i) oi st = some t ∧ runI P gl ch md F all base pre t = some s' ∧ StEq s' s2
 | [], st, a, w, m, H, s1, s2, _, h1, h2, _ => by
  simp only [runI, Option.some.injEq] at h1
  subst h1
  exact ⟨s2, s2, h2, rfl, .refl _⟩
 | j :: pre, st, a, w, m, H, s1, s2, h, h1, h2, hc => by
  simp only [runI] at h1 ⊢
  cases hj : all[j]? with
  | none => rw [hj] at h1; cases h1
  | some oj =>
   rw [hj] at h1
   simp only at h1 ⊢
   cases hs : Kg P gl ch md F all (base + j) oj st with
   | none => rw [hs] at h1; cases h1
   | some s0 =>
    rw [hs] at h1
    obtain ⟨a', w', m', H', hr⟩ := B7 hch h hs
    obtain ⟨t, s', k1, k2, k3⟩ := move hch pre hr h1 h2 fun j' hj' => hc j' (by simp [hj'])
    have hcj := hc j (by simp)
    obtain ⟨t1, t2, e1, e2, e3⟩ := swap h (bj := base + j) (bi := base + i) (by omega) (hcj.2 oj hj) hs k1
    obtain ⟨s3, g1, g2⟩ := StEq.runI e3.symm k2
    exact ⟨t1, s3, e1, by rw [e2]; exact g1, g2.symm.trans k3⟩
end
def HU (acc : List Nat) (es : List Edge) : Nat :=
 match es with
 | [] => 0
 | e :: r => if Region.binds .any e then (2 ^ e.on ||| acc.getD e.on 0) ||| HU acc r else HU acc r
def UX : List Oper → List Nat → List Nat
 | [], acc => acc
 | o :: l, acc => UX l (acc ++ [HU acc o.after.toList])
def Tf (md : Bool) (all : List Oper) (ms : List Nat) : List Oper → List Oper → Bool
 | _, [] => true
 | pre, p :: l => (List.range pre.length).all (fun i => match all[i]? with
   | some o => !Th md all o p || (ms.getD pre.length 0).testBit i
   | none => true)
  && p.after.toList.all (fun e => !Region.binds .any e || decide (e.on < pre.length))
  && Tf md all ms (pre ++ [p]) l
def mdR (all : List Oper) : Bool := match all.any fun o => Nat.beq (hk o.op) 2 with
 | true => !Tf false all (UX all []) [] all
 | false => false
def Hg (all : List Oper) : Bool := Tf (mdR all) all (UX all []) [] all
def PairF (F : Zp) (all : List Oper) (base nf : Nat) : Prop := ∀ i j o p, i < j → j < nf → all[i]? = some o → all[j]? = some p → hkCl (hk o.op) (hk p.op) = true → LH (F (base + i)) (F (base + j)) = true ∨ ((UX all []).getD j 0).testBit i = true
structure CkAt (md : Bool) (all : List Oper) (j : Nat) (p : Oper) : Prop where
 pair : ∀ i o, i < j → all[i]? = some o → Th md all o p = true → ((UX all []).getD j 0).testBit i = true
 before : ∀ e ∈ p.after, Region.binds .any e = true → e.on < j
theorem Tg {md : Bool} {all : List Oper} : ∀ (l pre : List Oper), all = pre ++ l → Tf md all (UX all []) pre l = true → ∀ j p, pre.length ≤ j → all[j]? = some p → CkAt md all j p
 | [], pre, he, _, j, p, hj, hp => by
  rw [he, List.append_nil, List.getElem?_eq_none hj] at hp; cases hp
 | q :: l, pre, he, h, j, p, hj, hp => by
  simp only [Tf, Bool.and_eq_true, List.all_eq_true] at h
  obtain ⟨⟨h1, h2⟩, h4⟩ := h
  by_cases hjl : j = pre.length
  ·have hq : q = p := by
    rw [he, hjl, List.getElem?_append_right (Nat.le_refl _)] at hp
    simpa using hp
   subst hq
   subst hjl
   refine ⟨fun i o hi ho hc => ?_, fun e he' hb => ?_⟩
   ·have := h1 i (List.mem_range.2 hi)
    rw [ho] at this
    simp only [Bool.or_eq_true] at this
    rw [hc] at this
    simpa using this
   ·have := h2 e (Array.mem_toList_iff.2 he')
    simpa [hb] using this
  ·exact Tg l (pre ++ [q]) (by simp [he]) h4 j p (by simp; omega) hp
theorem Ns {all : List Oper} (h : Hg all = true) (j : Nat) (p : Oper) (hp : all[j]? = some p) : CkAt (mdR all) all j p :=
 Tg all [] rfl h j p (Nat.zero_le _) hp
def IL (all : List Oper) (L : Nat → Bool) : Prop := ∀ j o, all[j]? = some o → L j = true → ∀ e ∈ o.after, Region.binds .any e = true → L e.on = true
theorem To {acc : List Nat} {L : Nat → Bool} (hacc : ∀ p i, (acc.getD p 0).testBit i = true → L p = true → L i = true) : ∀ (es : List Edge), (∀ e ∈ es, Region.binds .any e = true → L e.on = true) → ∀ i, (HU acc es).testBit i = true → L i = true
 | [], _, i, h => by simp [HU] at h
 | e :: r, hes, i, h => by
  have ih := To hacc r (fun e he => hes e (List.mem_cons_of_mem _ he)) i
  unfold HU at h
  split at h
  ·rename_i hb
   have hl := hes e (List.mem_cons_self ..) hb
   rw [Nat.testBit_or, Nat.testBit_or, Bool.or_eq_true, Bool.or_eq_true, Nat.testBit_two_pow] at h
   rcases h with (h | h) | h
   ·have : e.on = i := by simpa using h
    subst this; exact hl
   ·exact hacc _ _ h hl
   ·exact ih h
  ·exact ih h
theorem Tp {all : List Oper} {L : Nat → Bool} (hL : IL all L) : ∀ (l pre : List Oper) (acc : List Nat), all = pre ++ l → acc.length = pre.length → (∀ p i, (acc.getD p 0).testBit i = true → L p = true → L i = true) →
  ∀ p i, ((UX l acc).getD p 0).testBit i = true → L p = true → L i = true
 | [], _, _, _, _, h => h
 | o :: l, pre, acc, he, hlen, h => by
  refine Tp hL l (pre ++ [o]) _ (by simp [he]) (by simp [hlen]) fun p i hb hp => ?_
  rcases Nat.lt_trichotomy p acc.length with hlt | heq | hgt
  ·refine h p i ?_ hp
   rw [List.getD_eq_getElem?_getD, List.getElem?_append_left hlt, ← List.getD_eq_getElem?_getD] at hb
   exact hb
  ·subst heq
   rw [List.getD_eq_getElem?_getD, List.getElem?_append_right (Nat.le_refl _), Nat.sub_self] at hb
   simp only [List.getElem?_cons_zero, Option.getD_some] at hb
   have ho : all[acc.length]? = some o := by rw [he, hlen, List.getElem?_append_right (Nat.le_refl _)]; simp
   exact To h _ (fun e hm hbd => hL _ o ho hp e (Array.mem_toList_iff.1 hm) hbd) i hb
  ·rw [List.getD_eq_getElem?_getD, List.getElem?_eq_none (by simp; omega)] at hb
   simp at hb
theorem Mx {all : List Oper} {L : Nat → Bool} (hL : IL all L) (p i : Nat) (h : ((UX all []).getD p 0).testBit i = true) (hp : L p = true) : L i = true :=
 Tp hL all [] [] rfl rfl (fun p i h => by simp at h) p i h hp
end HY
end
section
namespace HY
open Go Go.RowKit
def pend (n : Nat) (L : Nat → Bool) : List Nat := (List.range n).filter fun i => !L i
theorem EO {n i : Nat} (h : i < n) : List.range n = List.range i ++ i :: List.range' (i + 1) (n - i - 1) := by
 have : n = i + (1 + (n - i - 1)) := by omega
 rw [this, List.range_add, List.range_add]
 simp only [List.range_one, List.map_append, List.map_cons, List.map_nil, Nat.add_zero, List.map_map, List.singleton_append]
 congr 2
 rw [show i + (1 + (n - i - 1)) - i - 1 = n - i - 1 by omega, List.range'_eq_map_range]
 refine List.map_congr_left fun k _ => ?_
 simp [Function.comp]; omega
theorem BY {n i : Nat} {L : Nat → Bool} (h : i < n) (hL : L i = false) : pend n L = (List.range i).filter (fun j => !L j) ++ i :: (List.range' (i + 1) (n - i - 1)).filter fun j => !L j := by
 unfold pend
 rw [EO h, List.filter_append, List.filter_cons]
 simp [hL]
theorem Q1p {n i : Nat} {L L' : Nat → Bool} (h : i < n) (hi : L' i = true) (ho : ∀ j, j ≠ i → L' j = L j) : pend n L' = (List.range i).filter (fun j => !L j) ++ (List.range' (i + 1) (n - i - 1)).filter fun j => !L j := by
 unfold pend
 rw [EO h, List.filter_append, List.filter_cons]
 simp only [hi, Bool.not_true, Bool.false_eq_true, if_false]
 congr 1
 ·refine List.filter_congr fun j hj => ?_
  rw [ho j (by have := List.mem_range.1 hj; omega)]
 ·refine List.filter_congr fun j hj => ?_
  rw [ho j (by have := (List.mem_range'_1.1 hj).1; omega)]
theorem Mt {listed : Array Bool} {j : Nat} (d : Bool) (h : j < listed.size) : listed.getD j d = listed.getD j false := by
 simp [Array.getD_eq_getD_getElem?, Array.getElem?_eq_getElem h]
section
variable {P : Program} {B : Nat → Prop} {H0 : HV} {gl : Nat → AV} {rest : List (AV × Value)} {ch : Yz} {all : List Oper}
theorem Q1f (hch : ch.Ok P gl) (hok : Hg all = true) {F : Zp} {base nf : Nat} (hF : mdR all = true → PairF F all base nf) (hnf : nf ≤ all.length) (hbar : ∀ i, nf ≤ i → i < all.length → ∀ j, j < nf → ((UX all []).getD i 0).testBit j = true) {ro : Option Nat} {n : Nat} {d0 : List Deferred} {w0 : World} {sF : St} {Q : Exit → Act → World → Prop}
  (hEnd : ∀ (listed : Array Bool) (a : Act) (w : World) (m : Nat → Lc) (H : HV), listed.size = all.length → (∀ j, j < nf → listed.getD j false = true) → (∀ j, nf ≤ j → listed.getD j false = false) → a.defers = d0 → Qv B w0 w → RelS m H B H0 gl rest sF a.tmps w → wpAnyIn (FW ro) n P .any all.toArray Q (all.length - nf) listed a w) :
  ∀ (q : Nat) (listed : Array Bool) (a : Act) (w : World) (m : Nat → Lc) (H : HV) (st s : St), listed.size = all.length → (pend nf fun j => listed.getD j false).length = q → (∀ j, nf ≤ j → listed.getD j false = false) → IL all (fun j => listed.getD j false) →
   a.defers = d0 → Qv B w0 w → RelS m H B H0 gl rest st a.tmps w → runI P gl ch (mdR all) F all base (pend nf fun j => listed.getD j false) st = some s → StEq s sF → wpAnyIn (FW ro) n P .any all.toArray Q (q + (all.length - nf)) listed a w := by
 intro q
 induction q with
 | zero =>
  intro listed a w m H st s hs hl hhi hcl hd hb hr hrun heq
  have hnil : (pend nf fun j => listed.getD j false) = [] := List.eq_nil_of_length_eq_zero hl
  rw [hnil] at hrun
  simp only [runI, Option.some.injEq] at hrun
  subst hrun
  rw [Nat.zero_add]
  refine hEnd listed a w m H hs (fun j hj => ?_) hhi hd hb (heq.rel hr)
  cases hL : listed.getD j false with
  | true => rfl
  | false =>
   have : j ∈ pend nf fun j => listed.getD j false := by
    unfold pend; rw [List.mem_filter]; exact ⟨List.mem_range.2 hj, by simp [hL]⟩
   rw [hnil] at this; cases this
 | succ q ih =>
  intro listed a w m H st s hs hl hhi hcl hd hb hr hrun heq
  have hclI : ∀ i o, all[i]? = some o → (∀ e ∈ o.after, Region.binds .any e = true → listed.getD e.on false = true) → IL all fun k => listed.getD k false || k == i := fun i o ho hpre k o' ho' hLk e he hbd => by
   by_cases hki : k = i
   ·subst hki
    rw [ho] at ho'; cases ho'
    simp only [hpre e he hbd, Bool.true_or]
   ·have hk' : (k == i) = false := by simpa using hki
    simp only [hcl k o' ho' (by simpa [hk'] using hLk) e he hbd, Bool.true_or]
  rw [Nat.add_right_comm]
  refine ⟨fun hready => ?_, fun i hi => ?_⟩
  ·exfalso
   have hall : ∀ j, j < all.length → listed.getD j false = true := by
    intro j
    induction j using Nat.strongRecOn with
    | _ j ihj =>
     intro hj
     cases hL : listed.getD j false with
     | true => rfl
     | false =>
      exfalso
      have : j ∈ Region.ready .any all.toArray listed := by
       rw [mem_ready]
       refine ⟨by rw [Mt true (by omega)]; exact hL, all[j], by simp [hj], fun e he hbd => ?_⟩
       have := (Ns hok j all[j] (List.getElem?_eq_getElem hj)).before e he hbd
       exact ihj e.on this (by omega)
      rw [hready] at this
      cases this
   have : (pend nf fun j => listed.getD j false) = [] := by
    unfold pend
    rw [List.filter_eq_nil_iff]
    intro j hj
    simp [hall j (by have := List.mem_range.1 hj; omega)]
   rw [this] at hl; simp at hl
  ·rw [mem_ready] at hi
   obtain ⟨h0, o, ho, hpre⟩ := hi
   rw [List.getElem?_toArray] at ho
   have hil : i < all.length := (List.getElem?_eq_some_iff.1 ho).1
   rw [Mt true (by omega)] at h0
   by_cases hin : nf ≤ i
   ·exfalso
    have hall : ∀ j, j < nf → listed.getD j false = true := fun j hj => by
     have := Mx (hclI i o ho hpre) i j (hbar i hin hil j hj) (by simp)
     have hne : (j == i) = false := by simp; omega
     simpa only [hne, Bool.or_false] using this
    have : (pend nf fun j => listed.getD j false) = [] := by
     unfold pend
     rw [List.filter_eq_nil_iff]
     intro j hj
     simp [hall j (List.mem_range.1 hj)]
    rw [this] at hl; simp at hl
   have hin : i < nf := by omega
   have hL'i : (listed.setIfInBounds i true).getD i false = true := by simp [Array.getD_eq_getD_getElem?, show i < listed.size by omega]
   have hL'o : ∀ j, j ≠ i → (listed.setIfInBounds i true).getD j false = listed.getD j false := fun j hj => getD_set_ne false (Ne.symm hj)
   rw [BY hin h0] at hrun hl
   have hset := Q1p (L := fun j => listed.getD j false) (L' := fun j => (listed.setIfInBounds i true).getD j false) hin hL'i hL'o
   rw [Lb] at hrun
   cases hr1 : runI P gl ch (mdR all) F all base ((List.range i).filter fun j => !listed.getD j false) st with
   | none => rw [hr1] at hrun; cases hrun
   | some s1 =>
    rw [hr1] at hrun
    simp only [runI, ho] at hrun
    cases hr2 : Kg P gl ch (mdR all) F all (base + i) o s1 with
    | none => rw [hr2] at hrun; cases hrun
    | some s2 =>
     rw [hr2] at hrun
     simp only at hrun
     obtain ⟨t, s', e1, e2, e3⟩ := move hch (oi := o) _ hr hr1 hr2 fun j hj => by
      rw [List.mem_filter] at hj
      have hji := List.mem_range.1 hj.1
      refine ⟨by omega, fun oj hoj => ?_⟩
      have hno : ((UX all []).getD i 0).testBit j = true → False := fun hbit => by
       have := Mx (hclI i o ho hpre) i j hbit (by simp)
       have hne : (j == i) = false := by simp; omega
       simp only [hne, Bool.or_false] at this
       rw [this] at hj
       simp at hj
      have hcf : Th (mdR all) all oj o = false := by
       cases hcf : Th (mdR all) all oj o with
       | false => rfl
       | true => exact (hno ((Ns hok i o ho).pair j oj hji hoj hcf)).elim
      simp only [Th, Bool.or_eq_false_iff] at hcf
      refine ⟨hcf.1, ?_⟩
      cases hkc : hkCl (hk oj.op) (hk o.op) with
      | false => exact .inl rfl
      | true =>
       have hmd : mdR all = true := by
        have := hcf.2
        rw [hkc] at this
        simpa using this
       rcases hF hmd j i oj o hji hin hoj ho hkc with hd | hbit
       ·exact .inr ⟨hmd, hd⟩
       ·exact (hno hbit).elim
     obtain ⟨s3, f1, f2⟩ := StEq.runI e3.symm hrun
     have hrun' : runI P gl ch (mdR all) F all base (pend nf fun j => (listed.setIfInBounds i true).getD j false) t = some s3 := by
      rw [hset, Lb, e2]; exact f1
     have hstep := Ad hch hr e1 ro n (wpAnyIn (FW ro) n P .any all.toArray Q (q + (all.length - nf)) (listed.setIfInBounds i true)) Q (fun a' w' m' H' hd' hb' hr' =>
      ih _ a' w' m' H' t s3 (by simp [hs]) (by
       rw [hset]
       simp only [List.length_append, List.length_cons] at hl ⊢
       omega) (fun j hj => by rw [hL'o j (by omega)]; exact hhi j hj) (fun k o' ho' hLk e he hbd => by
        have : ∀ q, (listed.setIfInBounds i true).getD q false = (listed.getD q false || q == i) := fun q => by
         by_cases hq : q = i
         ·subst hq; rw [hL'i]; simp
         ·rw [hL'o q hq]; have : (q == i) = false := by simpa using hq
          simp [this]
        simp only [this] at hLk ⊢
        exact hclI i o ho hpre k o' ho' hLk e he hbd) (hd'.trans hd) (hb.trans hb') hr' hrun' (f2.symm.trans heq))
     unfold wpOpIn
     simp only [List.getElem?_toArray, ho]
     exact hstep
theorem Q0r {listed : Array Bool} (hs : listed.size = all.length) (h : ∀ j, j < all.length → listed.getD j false = true) : Region.ready .any all.toArray listed = [] := by
 refine List.eq_nil_iff_forall_not_mem.2 fun j hj => ?_
 rw [mem_ready] at hj
 obtain ⟨h0, o, ho, _⟩ := hj
 have hjl : j < all.length := by
  rw [List.getElem?_toArray] at ho
  exact (List.getElem?_eq_some_iff.1 ho).1
 rw [Mt true (by omega), h j hjl] at h0
 cases h0
theorem pend0 (nf : Nat) : (pend nf fun j => (Array.replicate all.toArray.size false).getD j false) = List.range nf := by
 unfold pend
 rw [List.filter_eq_self]
 intro j hj
 simp only [Array.getD_eq_getD_getElem?, Array.getElem?_replicate]
 split <;> simp
theorem getD0 (j : Nat) : (Array.replicate all.toArray.size false).getD j false = false := by
 simp only [Array.getD_eq_getD_getElem?, Array.getElem?_replicate]
 split <;> simp
def okF (F : Zp) (all : List Oper) (base i : Nat) (k : Nat) (ft : Option (List Nat)) : Bool := (List.range i).all fun j => match all[j]? with
 | some oj => match hkCl (hk oj.op) k with
  | true => match LH (F (base + j)) ft with
   | true => true
   | false => ((UX all []).getD i 0).testBit j
  | false => true
 | none => true
def updT (F : Zp) (k : Nat) (x : Option (List Nat)) : Zp := fun j => bif Nat.beq j k then x else F j
theorem SE {F : Zp} {k : Nat} {x : Option (List Nat)} : updT F k x k = x := by simp [updT]
theorem updT_ne {F : Zp} {k j : Nat} {x : Option (List Nat)} (h : j ≠ k) : updT F k x j = F j := by
 unfold updT; rw [beq_ne h]; rfl
theorem Q1o {F G : Zp} {base i : Nat} {p : Oper} {ft : Option (List Nat)} (h : okF F all base i (hk p.op) ft = true) (hFG : ∀ j, j < i → G (base + j) = F (base + j)) (hi : G (base + i) = ft) : ∀ j o, j < i → all[j]? = some o → hkCl (hk o.op) (hk p.op) = true → LH (G (base + j)) (G (base + i)) = true ∨ ((UX all []).getD i 0).testBit j = true := fun j o hj ho hc => by
 have := List.all_eq_true.1 h j (List.mem_range.2 hj)
 simp only [ho, hc] at this
 split at this
 ·rename_i hd; rw [hFG j hj, hi]; exact .inl hd
 ·exact .inr this
def MS (all : List Oper) (o : Oper) (gv : Option AV) (ev : Operand → AV) : Option (List Nat) := match o.guard with
 | none => foot o.op ev
 | some (_, want) => match gv with
  | some x => match MU x want with
   | some true => foot o.op ev
   | _ => some []
  | none => none
theorem Q2m {F G : Zp} {md : Bool} {bid : Nat} {o : Oper} {st : St} (h : F bid = G bid) : Kg P gl ch md F all bid o st = Kg P gl ch md G all bid o st := by
 simp only [GB, CI, xoF, CO, h]
def barOk (all : List Oper) : Bool :=
 let m := (UX all []).getD (all.length - 1) 0
 (List.range (all.length - 1)).all fun j => m.testBit j
def HG (ms : List Nat) : Nat → Nat
 | 0 => 0
 | k + 1 => match Nat.beq (ms.getD k 0) (2 ^ k - 1) with
  | true => HG ms k
  | false => k + 1
def O5 (all : List Oper) : Nat := HG (UX all []) all.length
theorem R1 {ms : List Nat} : ∀ k, HG ms k ≤ k ∧ ∀ i, HG ms k ≤ i → i < k → ∀ j, j < i → (ms.getD i 0).testBit j = true
 | 0 => ⟨Nat.le_refl _, fun i h1 h2 => by omega⟩
 | k + 1 => by
  obtain ⟨h1, h2⟩ := R1 (ms := ms) k
  unfold HG
  split
  ·rename_i hb
   refine ⟨by omega, fun i h3 h4 j hj => ?_⟩
   by_cases e : i = k
   ·subst e
    rw [Nat.eq_of_beq_eq_true hb, Nat.testBit_two_pow_sub_one]
    simpa using hj
   ·exact h2 i h3 (by omega) j hj
  ·exact ⟨Nat.le_refl _, fun i h3 h4 => by omega⟩
theorem Rs (hch : ch.Ok P gl) (hmix : P.follows .mixedOrders = true) (hok : Hg all = true) {F : Zp} {ro : Option Nat} {n : Nat} {m : Nat → Lc} {H : HV} {st sF : St} {a : Act} {w : World} {id nf : Nat} (hnf : nf ≤ all.length)
  (hbit : ∀ i, nf ≤ i → i < all.length → ∀ j, j < i → ((UX all []).getD i 0).testBit j = true)
  (h : RelS m H B H0 gl rest st a.tmps w) (hrun : runI P gl ch (mdR all) F all st.nx (List.range nf) (st.bump all.length) = some sF) (hF : mdR all = true → PairF F all st.nx nf) {Q : Exit → Act → World → Prop}
  (hQ : ∀ (listed : Array Bool) (a' : Act) (w' : World) (m : Nat → Lc) (H : HV), listed.size = all.length → (∀ j, j < nf → listed.getD j false = true) → (∀ j, nf ≤ j → listed.getD j false = false) → a'.defers = a.defers → Qv B w w' → RelS m H B H0 gl rest sF a'.tmps w' → wpAnyIn (FW ro) n P .any all.toArray Q (all.length - nf) listed a' w') : (Code.region id all.toArray true).wpIn (FW ro) n P Q a w := by
 refine wpIn_region_any hmix ?_
 have hb : Below w.heap.size w { w with drawn := w.drawn + 1 } := ⟨rfl, rfl, rfl, Nat.le_refl _, fun _ _ => rfl⟩
 have hr0 : RelS m H B H0 gl rest (st.bump all.length) a.tmps { w with drawn := w.drawn + 1 } := by
  have hh := h.heap.ext hb
  exact ⟨{ hh with fresh := fun id hid => hh.fresh id (Nat.le_trans (Nat.le_add_right _ _) hid) }, h.size, h.slot, h.rest⟩
 have := Q1f (sF := sF) (base := st.nx) (nf := nf) (ro := ro) (n := n) (d0 := a.defers) (w0 := w) (Q := Q) hch hok hF hnf (fun i h1 h2 j hj => hbit i h1 h2 j (by omega)) hQ _ (Array.replicate all.toArray.size false) a _ m H (st.bump all.length) sF (by simp) rfl (fun j _ => getD0 j) (fun j o ho hL => by have hL : (Array.replicate all.toArray.size false).getD j false = true := hL; rw [getD0] at hL; cases hL) rfl (Qv.of hb h.heap.low) hr0 (by rw [pend0]; exact hrun) (.refl _)
 rw [pend0, List.length_range] at this
 rw [show nf + (all.length - nf) = all.toArray.size by simp; omega] at this
 exact this
end
end HY
end
section
namespace HY
open Go Go.RowKit
abbrev CN := Nat → List AV → Tr Box → Nat → Option (AV × Tr Box × Nat)
def RoundOk (P : Program) (gl : Nat → AV) (id : Nat) (args : List AV) (hp : Tr Box) (nx : Nat) (r : AV) (hp' : Tr Box) (nx' : Nat) : Prop :=
 ∀ (m : Nat → Lc) (H : HV) (B : Nat → Prop) (H0 : HV) (rest : List (AV × Value)) (w : World) (vs : Array Value) (l : Nat), RelH m H B H0 gl (lkb hp) nx w → (Qq (lkb hp) m).lp id = some l → args.length = vs.size →
  (∀ (j : Nat) (x : AV) (v : Value), args[j]? = some x → vs[j]? = some v → RV H (Qq (lkb hp) m) x v) → (∀ p ∈ rest, RV H (Qq (lkb hp) m) p.1 p.2) →
  ∃ fn tmps azz bd, (Instr.yield l vs).run P w = .ok (.round l fn tmps azz bd) w ∧ ∀ ro n, RoundIn (FW ro) n P l fn tmps azz bd w fun e w' =>
   ∃ v m' H', e = .returned v ∧ Qv B w w' ∧ RelH m' H' B H0 gl (lkb hp') nx' w' ∧ RV H' (Qq (lkb hp') m') r v ∧ ∀ p ∈ rest, RV H' (Qq (lkb hp') m') p.1 p.2
def CN.Ok (P : Program) (gl : Nat → AV) (rd : CN) : Prop := ∀ id args hp nx r hp' nx', rd id args hp nx = some (r, hp', nx') → RoundOk P gl id args hp nx r hp' nx'
def Ou (ev : Operand → AV) (op : Op) : Option (Nat × List AV) :=
 match op with
 | .call c => match c.callee with
  | .value x => match ev x with
   | .yld id => some (id, c.args.toList.map ev)
   | _ => none
  | _ => none
 | _ => none
def xinl (ch : Z0) (rd : CN) (ev : Operand → AV) (op : Op) (dst : Option Nat) (st : St) : Option St :=
 match VN ev op with
 | some (f, args) => match ch f args st.hp st.nx with
  | some (r, hp', nx') => some ((st.setHp hp' nx').putO dst r)
  | none => none
 | none => match Ou ev op with
  | some (id, args) => match rd id args st.hp st.nx with
   | some (r, hp', nx') => some ((st.setHp hp' nx').putO dst r)
   | none => none
  | none => none
def Ft (P : Program) (gl : Nat → AV) (ch : Z0) (rd : CN) (o : Oper) (st : St) : Option St :=
 if Ji o.op then xinl ch rd (st.ev gl) o.op o.dst st
 else match xop P st.nx o.dst o.op (st.ev gl) (lkb st.hp) with
  | some r => match r.2 with
   | some _ => some ((st.bump 1).eff o.dst r)
   | none => some (st.putO o.dst r.1)
  | none => none
def barrier (l : List Oper) : Option Oper :=
 match l[l.length - 1]? with
 | some o => match o.op with
  | .call c => match c.callee with
   | .value (.tmp _) => match o.guard with
    | none => some o
    | _ => none
   | _ => none
  | _ => none
 | none => none
def X7 : Code → Bool
 | .region _ ops draw => !draw || (Hg ops.toList && (match barrier ops.toList with | some _ => barOk ops.toList | none => true))
 | .seq a b => X7 a && X7 b
 | .cond _ a b => X7 a && X7 b
 | .block _ c => X7 c
 | .loop c => X7 c
 | .rangeFunc _ _ a b => X7 a && X7 b
 | _ => true
def FY (P : Program) (f : Nat) : Bool := match P.funcs[f]? with
 | some fn => (fn.name != "runtime.NumGoroutine") && fn.body.isSome
 | none => false
theorem NQ {P : Program} {f : Nat} (h : FY P f = true) : NA P f := by
 unfold FY at h
 split at h
 ·rename_i fn hf
  simp only [Bool.and_eq_true, bne_iff_ne] at h
  exact NE hf (by simpa using h.1) h.2
 ·cases h
section
variable {P : Program} {m : Nat → Lc} {H : HV} {B : Nat → Prop} {H0 : HV} {gl : Nat → AV} {rest : List (AV × Value)} {st : St} {a : Act} {w : World} {ch : Z0} {rd : CN}
theorem Q0t {H' : HV} {E E' : Env} {x : AV} (h : RV H E x Go.undef) : RV H' E' x Go.undef := by
 unfold Go.undef at h ⊢
 cases h with
 | imm _ _ h =>
  cases h with
  | undef => exact .imm _ _ (.undef _)
  | val => exact .imm _ _ (.val _)
  | tup cs _ hl _ =>
   have : cs = [] := List.eq_nil_of_length_eq_zero (by simpa using hl)
   subst this
   exact .tup [] #[] rfl (fun j c v hj => by simp at hj)
 | tup cs _ hl _ =>
  have : cs = [] := List.eq_nil_of_length_eq_zero (by simpa using hl)
  subst this
  exact .tup [] #[] rfl (fun j c v hj => by simp at hj)
theorem RelS.taken (h : RelS m H B H0 gl rest st a.tmps w) {dst : Option Nat} (hd : Zh dst st.n = true) {hp' : Tr Box} {nx' : Nat} {r : AV} {v : Value} {m' : Nat → Lc} {H' : HV} {w' : World} (hh : RelH m' H' B H0 gl (lkb hp') nx' w') (hrv : RV H' (Qq (lkb hp') m') r v)
  (hrest : ∀ p ∈ (List.range st.n).map (fun k => (st.get k, a.tmps.getD k Go.undef)) ++ rest, RV H' (Qq (lkb hp') m') p.1 p.2) : RelS m' H' B H0 gl rest ((st.setHp hp' nx').putO dst r) (a.put dst v).tmps w' := by
 have h1 : RelS m' H' B H0 gl rest (st.setHp hp' nx') a.tmps w' := by
  refine ⟨hh, h.size, fun k => ?_, fun p hp => hrest p (List.mem_append_right _ hp)⟩
  rcases Nat.lt_or_ge k st.n with hlt | hge
  ·exact hrest (st.get k, a.tmps.getD k Go.undef) (List.mem_append_left _ (List.mem_map.2 ⟨k, List.mem_range.2 hlt, rfl⟩))
  ·have hu : a.tmps.getD k Go.undef = Go.undef := by rw [Array.getD_eq_getD_getElem?, Array.getElem?_eq_none (by rw [h.size]; exact hge)]; rfl
   have := h.slot k
   rw [hu] at this ⊢
   exact Q0t this
 exact h1.putO hd hrv
theorem RelS.hold (h : RelS m H B H0 gl rest st a.tmps w) : ∀ p ∈ (List.range st.n).map (fun k => (st.get k, a.tmps.getD k Go.undef)) ++ rest, RV H (st.env m) p.1 p.2 := fun p hp => by
 rw [List.mem_append, List.mem_map] at hp
 rcases hp with ⟨q, _, rfl⟩ | hp
 ·exact h.slot _
 ·exact h.rest p hp
theorem Q1b {ev : Operand → AV} {op : Op} {id : Nat} {args : List AV} (h : Ou ev op = some (id, args)) : ∃ c x, op = .call c ∧ c.callee = .value x ∧ ev x = .yld id ∧ args = c.args.toList.map ev := by
 unfold Ou at h
 split at h
 ·rename_i c
  split at h
  ·rename_i x hx
   split at h
   ·rename_i id' hf
    cases h
    exact ⟨c, x, rfl, hx, hf, rfl⟩
   ·cases h
  ·cases h
 ·cases h
theorem inl_ok (hch : ch.Ok P gl) (hrd : rd.Ok P gl) (h : RelS m H B H0 gl rest st a.tmps w) {o : Oper} (hd : Zh o.dst st.n = true) {st' : St} (hk : xinl ch rd (st.ev gl) o.op o.dst st = some st') (ro : Option Nat) (n : Nat) : Dk P ro n B H0 gl rest a w o st' := by
 unfold xinl at hk
 split at hk
 ·rename_i f args hc
  split at hk
  ·rename_i r hp' nx' hr
   cases hk
   have hcall := hch _ _ _ _ _ _ _ hr
   refine In h hc ro n fun vs hl hv => ?_
   refine (hcall m H B H0 _ w vs h.heap hl hv h.hold).mono fun e w' hpost => ?_
   obtain ⟨v, m', H', rfl, hb, hh, hrv, hrest⟩ := hpost
   exact ⟨v, m', H', rfl, hb, h.taken hd hh hrv hrest⟩
  ·cases hk
 ·split at hk
  ·rename_i id args hy
   split at hk
   ·rename_i r hp' nx' hr
    cases hk
    obtain ⟨c, x, ho, hx, hid, rfl⟩ := Q1b hy
    have hxv := h.ev x
    rw [hid] at hxv
    obtain ⟨l, hl, hlp⟩ := hxv.yld_inv
    have hargs := Mw h c.args.toList
    obtain ⟨fn, tmps, azz, bd, hrun, hround⟩ := hrd _ _ _ _ _ _ _ hr m H B H0 _ w (c.args.map a.eval) l h.heap hlp (by simp) (fun j y v hy hv => hargs.2 j y v hy (by simpa using hv)) h.hold
    intro next Q hn
    refine ⟨fun _ _ => trivial, ?_⟩
    have hexec : (execOp a.eval o).run P w = .ok (.round l fn tmps azz bd) w := by
     unfold execOp
     simp only [ho, resolve, hx, Sem.run_bind, hl, Deferred.ofValue, Sem.run_pure, Result.andThen_ok, invoke, Array.empty_append]
     exact hrun
    rw [Oper.semAt_eq _ _ _ (fun c e => by rw [ho] at e; cases e), hexec]
    refine ⟨(fun hh => by simp [FW] at hh), (hround ro (n - 1)).mono fun e w' hpost => ?_⟩
    obtain ⟨v, m', H', rfl, hb, hh, hrv, hrest⟩ := hpost
    exact hn _ _ _ _ (Yf _ _ _) hb (h.taken hd hh hrv hrest)
   ·cases hk
  ·cases hk
theorem RelS.bump (h : RelS m H B H0 gl rest st a.tmps w) (k : Nat) : RelS m H B H0 gl rest (st.bump k) a.tmps w :=
 ⟨{ h.heap with fresh := fun id hid => h.heap.fresh id (Nat.le_trans (Nat.le_add_right _ _) hid) }, h.size, h.slot, h.rest⟩
theorem xop_ok0 (h : RelS m H B H0 gl rest st a.tmps w) {o : Oper} (hd : Zh o.dst st.n = true) {r : AV × Option (Nat × Box)} (hk : xop P st.nx o.dst o.op (st.ev gl) (lkb st.hp) = some r) (hn : r.2 = none) :
  OpOk P B H0 gl rest a w o.dst (st.putO o.dst r.1) (execOp a.eval o) := by
 have h1 := Oq (P := P) (st := st.bump 1) (h.bump 1) hd (h.heap.fresh _ (Nat.le_refl _)) (Nat.lt_succ_self _) hk
 obtain ⟨v, b⟩ := r
 cases hn
 obtain ⟨nx, u, w', m', H', h2, h3, h4, h5⟩ := h1
 refine ⟨nx, u, w', m', H', h2, h3, h4, ?_⟩
 have hhp : ((st.bump 1).eff o.dst (v, none)).hp = st.hp := by show ((st.bump 1).putO o.dst v).hp = st.hp; rw [Lt]; rfl
 have hget : ∀ k, ((st.bump 1).eff o.dst (v, none)).get k = (st.putO o.dst v).get k := fun k => by cases o.dst <;> rfl
 refine ⟨?_, ?_, fun k => ?_, fun p hp => ?_⟩
 ·have hh := h5.heap
  rw [hhp] at hh
  rw [Lt, Bl]
  exact { hh with fresh := h.heap.fresh }
 ·rw [putO_n]; have := h5.size; rw [HQ] at this; exact this
 ·have := h5.slot k
  rw [hget] at this
  show RV H' (Qq (lkb (st.putO o.dst v).hp) m') _ _
  rw [Lt]
  unfold St.env at this
  rw [hhp] at this
  exact this
 ·have := h5.rest p hp
  show RV H' (Qq (lkb (st.putO o.dst v).hp) m') _ _
  rw [Lt]
  unfold St.env at this
  rw [hhp] at this
  exact this
theorem Ot (hch : ch.Ok P gl) (hrd : rd.Ok P gl) (h : RelS m H B H0 gl rest st a.tmps w) {o : Oper} (hd : Zh o.dst st.n = true) {st' : St} (hk : Ft P gl ch rd o st = some st') (ro : Option Nat) (n : Nat) : Dk P ro n B H0 gl rest a w o st' := by
 unfold Ft at hk
 split at hk
 ·exact inl_ok hch hrd h hd hk ro n
 ·split at hk
  ·rename_i r hr
   have h1 := (Oq (st := st.bump 1) (h.bump 1) hd (h.heap.fresh _ (Nat.le_refl _)) (Nat.lt_succ_self _) hr).step (ro := ro) (n := n) (Li hr)
   split at hk
   ·cases hk; exact h1
   ·rename_i hn
    cases hk
    have h2 := (xop_ok0 h hd hr hn).step (ro := ro) (n := n) (Li hr)
    exact h2
  ·cases hk
theorem B4 {F : Fence} {n : Nat} {Q : Exit → Act → World → Prop} {c : Code} (I : Nat → Act → World → Prop)
  (round : ∀ j a w, I j a w → c.wpIn F n P (Exit.then (fun a' w' => ∃ i, i < j ∧ I i a' w') Q) a w) {j : Nat} {a : Act} {w : World} (h₀ : I j a w) : (Code.loop c).wpIn F n P Q a w := by
 intro b k cs hro hb hr
 have key : ∀ j a w, I j a w → ∃ e a' w', Q e a' w' ∧ ArrivesIn (Machine.fenced P F) P (lone (b.atR a (.code c :: .inLoop c :: k)) cs w) b k cs e a' w' := by
  intro j
  induction j using Nat.strongRecOn with
  | _ j ih =>
   intro a w hI
   obtain ⟨e, a₁, w₁, hq, harr⟩ := round j a w hI b (.inLoop c :: k) cs hro hb hr
   cases e with
   | normal =>
    obtain ⟨i, hlt, hI₁⟩ := hq
    obtain ⟨e₂, a₂, w₂, hq₂, harr₂⟩ := ih i hlt a₁ w₁ hI₁
    exact ⟨e₂, a₂, w₂, hq₂, .of_steps (StepsIn.trans harr (.one (fenced_calm hb hr rfl) stepR_inLoop)) harr₂⟩
   | exit id => exact ⟨_, a₁, w₁, hq, .pass (x := .inLoop c) rfl (fun _ _ => .inl (by simp)) harr⟩
   | goto l => exact ⟨_, a₁, w₁, hq, .pass (x := .inLoop c) rfl (fun _ _ => .inl (by simp)) harr⟩
   | ret => exact ⟨_, a₁, w₁, hq, .pass (x := .inLoop c) rfl (fun _ _ => .inl (by simp)) harr⟩
   | panic ch => exact ⟨_, a₁, w₁, hq, .pass (x := .inLoop c) rfl (fun _ _ => .inl (by simp)) harr⟩
   | outgrown => exact ⟨_, a₁, w₁, hq, .pass (x := .inLoop c) rfl (fun _ _ => .inl (by simp)) harr⟩
 obtain ⟨e, a', w', hq, harr⟩ := key j a w h₀
 exact ⟨e, a', w', hq, .of_steps (.one (fenced_calm hb hr rfl) stepR_loop) harr⟩
end
end HY
end
section
namespace HY
open Go Go.RowKit
section
variable {P : Program} {m : Nat → Lc} {H : HV} {B : Nat → Prop} {H0 : HV} {gl : Nat → AV} {rest : List (AV × Value)} {st : St} {a : Act} {w : World} {ch : Z0} {rd : CN}
end
end HY
end
section
namespace HY
open Go Go.RowKit
section
variable {P : Program} {gl : Nat → AV} {ch : Z0} {rd : CN}
end
end HY
end
section
namespace HY
open Go Go.RowKit
def Ts : List Nat → List AV → St → Option St
 | [], [], st => some st
 | p :: ps, x :: xs, st => if Zh (some p) st.n then Ts ps xs (st.putO (some p) x) else none
 | _, _, _ => none
def Ru (ex : Exit) : Option (Option Code) := match ex with
 | .normal => some none
 | .ret => some (some .ret)
 | .exit i => some (some (.exit i))
 | _ => none
section
variable {P : Program} {m : Nat → Lc} {H : HV} {B : Nat → Prop} {H0 : HV} {gl : Nat → AV} {rest : List (AV × Value)} {st : St} {a : Act} {w : World} {ch : Z0} {rd : CN}
theorem Pt : ∀ (ps : List Nat) (xs : List AV) (vs : List Value) (st : St) (tmps : Array Value) (s0 : St), RelS m H B H0 gl rest st tmps w → Ts ps xs st = some s0 → xs.length = vs.length → (∀ (j : Nat) (x : AV) (v : Value), xs[j]? = some x → vs[j]? = some v → RV H (st.env m) x v) →
  ps.length = vs.length ∧ RelS m H B H0 gl rest s0 ((ps.zip vs).foldl (fun tmps (q : Nat × Value) => tmps.setIfInBounds q.1 q.2) tmps) w ∧ s0.hp = st.hp ∧ s0.nx = st.nx
 | [], [], vs, st, tmps, s0, h, hk, hl, _ => by
  have : vs = [] := List.eq_nil_of_length_eq_zero (by simpa using hl.symm)
  subst this
  cases hk
  exact ⟨rfl, h, rfl, rfl⟩
 | p :: ps, x :: xs, vs, st, tmps, s0, h, hk, hl, hv => by
  cases vs with
  | nil => simp at hl
  | cons v vs =>
   simp only [Ts] at hk
   split at hk
   ·rename_i hd
    have h1 := RelS.putO (a := { tmps := tmps, defers := [] }) (dst := some p) h hd (hv 0 x v rfl rfl)
    obtain ⟨e1, e2, e3, e4⟩ := Pt ps xs vs (st.putO (some p) x) _ s0 h1 hk (by simpa using hl) (fun j y u hy hu => hv (j + 1) y u (by simpa using hy) (by simpa using hu))
    exact ⟨by simp [e1], e2, by rw [e3]; rfl, by rw [e4]; rfl⟩
   ·cases hk
 | [], _ :: _, _, _, _, _, _, hk, _, _ => by cases hk
 | _ :: _, [], _, _, _, _, _, hk, _, _ => by cases hk
end
end HY
end
section
namespace HY
open Go Go.RowKit
def Un : Nat → List AV → Tr AV
 | _, [] => .nil
 | k, x :: xs => pt (Un (k + 1) xs) k x
theorem Na : ∀ (xs : List AV) (k j : Nat), lk .undef (Un k xs) j = if k ≤ j then (xs[j - k]?).getD .undef else .undef
 | [], k, j => by
  have : lk .undef (Un k []) j = .undef := by unfold lk Un; cases path j <;> rfl
  rw [this]; simp
 | x :: xs, k, j => by
  simp only [Un]
  rw [GV]
  by_cases h : k = j
  ·subst h; simp
  ·rw [if_neg h, Na xs (k + 1) j]
   by_cases h' : k ≤ j
   ·rw [if_pos h', if_pos (by omega)]
    have : j - k = (j - (k + 1)) + 1 := by omega
    rw [this, List.getElem?_cons_succ]
   ·rw [if_neg h', if_neg (by omega)]
def resAV (P : Program) (st : St) : ResultVar → Option AV
 | .tmp t => some (st.get t)
 | .cell a t => WZ P t (st.get a) (lkb st.hp)
def Mz (P : Program) (st : St) : List ResultVar → Option (List AV)
 | [] => some []
 | x :: r => match resAV P st x with
  | some v => match Mz P st r with
   | some vs => some (v :: vs)
   | none => none
  | none => none
def Fl (P : Program) (st : St) (l : List ResultVar) : Option AV :=
 match Mz P st l with
 | some [v] => some v
 | some vs => some (.tup vs)
 | none => none
section
variable {P : Program} {m : Nat → Lc} {H : HV} {B : Nat → Prop} {H0 : HV} {gl : Nat → AV} {rest : List (AV × Value)} {st : St} {tmps : Array Value} {w : World}
theorem res_one (h : RelS m H B H0 gl rest st tmps w) {x : ResultVar} {r : AV} (hr : resAV P st x = some r) :
  ∃ v, (match x with | .tmp t => pure (tmps.getD t Go.undef) | .cell a t => do loadVar t (← asAddr (tmps.getD a Go.undef)) : Sem Value).run P w = .ok v w ∧ RV H (st.env m) r v := by
 cases x with
 | tmp t => cases hr; exact ⟨_, rfl, h.slot t⟩
 | cell a t =>
  simp only [resAV] at hr
  obtain ⟨v, h1, h2⟩ := On (P := P) h.heap (h.slot a) hr
  refine ⟨v, ?_, h2⟩
  show (do loadVar t (← asAddr (tmps.getD a Go.undef)) : Sem Value).run P w = _
  generalize tmps.getD a Go.undef = u at h1 ⊢
  simp only [Instr.loadAt, Instr.sureAddr, asAddr] at h1 ⊢
  cases u <;> simp at h1 ⊢
  rename_i ad
  cases ad <;> simp at h1 ⊢
  exact h1
theorem PE (h : RelS m H B H0 gl rest st tmps w) : ∀ (l : List ResultVar) (avs : List AV), Mz P st l = some avs →
  ∃ vs : List Value, (l.mapM (fun x : ResultVar => (match x with | .tmp t => pure (tmps.getD t Go.undef) | .cell a t => do loadVar t (← asAddr (tmps.getD a Go.undef)) : Sem Value))).run P w = .ok vs w ∧ avs.length = vs.length ∧ ∀ (j : Nat) (c : AV) (v : Value), avs[j]? = some c → vs[j]? = some v → RV H (st.env m) c v
 | [], avs, hk => by
  simp only [Mz, Option.some.injEq] at hk
  subst hk
  exact ⟨[], by simp, rfl, fun j c v hj => by simp at hj⟩
 | x :: l, avs, hk => by
  simp only [Mz] at hk
  split at hk
  ·rename_i v hv
   split at hk
   ·rename_i us hus
    cases hk
    obtain ⟨u, h1, h2⟩ := res_one h hv
    obtain ⟨vs, h3, h4, h5⟩ := PE h l us hus
    refine ⟨u :: vs, ?_, by simp [h4], fun j c v hj hv => ?_⟩
    ·simp only [List.mapM_cons, Sem.run_bind]
     rw [h1]
     simp only [Result.andThen_ok, h3, Sem.run_pure]
    ·cases j with
     | zero => simp only [List.getElem?_cons_zero, Option.some.injEq] at hj hv; subst hj; subst hv; exact h2
     | succ j => exact h5 j c v (by simpa using hj) (by simpa using hv)
   ·cases hk
  ·cases hk
theorem Bm (h : RelS m H B H0 gl rest st tmps w) {fn : Func} {r : AV} (hr : Fl P st fn.results.toList = some r) : ∃ v, (results fn tmps).run P w = .ok v w ∧ RV H (st.env m) r v := by
 unfold Fl at hr
 obtain ⟨avs, ha⟩ : ∃ avs, Mz P st fn.results.toList = some avs := by
  cases hx : Mz P st fn.results.toList with
  | none => rw [hx] at hr; cases hr
  | some avs => exact ⟨avs, rfl⟩
 rw [ha] at hr
 obtain ⟨vs, hrun, hl, hrel⟩ := PE h _ _ ha
 have hres : (results fn tmps).run P w = .ok (if h : vs.toArray.size = 1 then vs.toArray[0] else .tuple vs.toArray) w := by
  unfold results
  have hrun' : (fn.results.mapM (fun x : ResultVar => (match x with | .tmp t => pure (tmps.getD t Go.undef) | .cell a t => do loadVar t (← asAddr (tmps.getD a Go.undef)) : Sem Value))).run P w = .ok vs.toArray w := by
   rw [← Array.toArray_toList (xs := fn.results), List.mapM_toArray, Sem.run_map, hrun]
   rfl
  rw [Sem.run_bind]
  refine Eq.trans (congrArg (fun x => Result.andThen x _) hrun') ?_
  rfl
 refine ⟨_, hres, ?_⟩
 match avs, vs, hl, hr, hrel with
 | [], vs, hl, hr, hrel =>
  have : vs = [] := List.eq_nil_of_length_eq_zero (by simpa using hl.symm)
  subst this
  cases hr
  simp only [List.size_toArray, List.length_nil]
  exact .tup [] #[] rfl (fun j c v hj => by simp at hj)
 | [x], [v], hl, hr, hrel =>
  cases hr
  simpa using hrel 0 _ _ rfl rfl
 | x :: y :: l, vs, hl, hr, hrel =>
  cases hr
  rw [dif_neg (by simp at hl ⊢; omega)]
  exact .tup _ _ (by simpa using hl) fun j c v hj hv => hrel j c v hj (by simpa using hv)
end
section
variable {P : Program} {m : Nat → Lc} {H : HV} {B : Nat → Prop} {H0 : HV} {gl : Nat → AV}
end
def endsFn (ex : Exit) : Bool := match ex with
 | .normal | .ret => true
 | _ => false
def okFn (P : Program) (f : Nat) : Bool :=
 match P.funcs[f]? with
 | some fn => (fn.name != "runtime.NumGoroutine") && match fn.body with
  | some c => X7 c
  | none => false
 | none => false
structure Lm (P : Program) (gd : Nat → Bool) : Prop where
 mix : P.follows .mixedOrders = true
 fn : ∀ f, gd f = true → okFn P f = true
end HY
end
section
namespace HY
open Go Go.RowKit
def HW : CN := fun _ _ _ _ => none
theorem LL {P : Program} {gl : Nat → AV} : CN.Ok P gl HW := fun _ _ _ _ _ _ _ h => by cases h
end HY
end
section
namespace HY
open Go Go.RowKit
structure Pu (P : Program) (gl : Nat → AV) (f : Nat) (args : List AV) (r : AV) : Prop where
 ok : Wo P gl f args r .nil 0
structure KB where
 slot : Nat
 path : List Nat := []
 own : Nat := 0
 cut : Bool := false
 fz : Bool := false
structure Alt where
 {α : Type}
 φ : α → Prop
 ex : Exit
 vs : α → List AV
 bs : α → List Box
inductive Hint : Type 1 where
 | v (x : AV)
 | b (t : Bool)
 | split
 | e {α : Type} (sh : α → AV)
 | u
 | s
 | a
 | us (s : List UInt8)
 | o
 | nn
 | z (kb : List KB) (h : Option Hint)
 | n {α : Type} (sh : α → AV) (s : Nat) (h : Option Hint)
 | cc (r : AV)
 | c {α : Type} (sh : α → AV)
 | cb
 | h (kb : List KB) {α : Type} (r : α → AV) (bs : α → List Box)
 | hb (kb : List KB) {α : Type} (bs : α → List Box)
 | i (sub : List (Nat × Hint))
 | l {υ ω : Type} (gs : List KB) (ks : List Nat) (kb : List KB) (kx : List Nat) (kbx : List KB) (alts : υ → ω → List Alt)
abbrev Zb := List (Nat × Hint)
def lkH : Zb → Nat → Option Hint
 | [], _ => none
 | (k, h) :: r, n => match Nat.beq k n with
  | true => some h
  | false => lkH r n
def Fk (dst : Option Nat) (op : Op) : Nat :=
 match dst with
 | some d => d
 | none => match op with
  | .store _ (.tmp k) _ => 1000000 + k
  | _ => 1000000
abbrev Res := AV × Option (Nat × Box)
def oblV (P : Program) (bid : Nat) (dst : Option Nat) (op : Op) (ev : Operand → AV) (hp : Hp) (r : AV) : Prop :=
 match op with
 | .indexAddr t x i => Yw P t (ev x) (ev i) = some r
 | .index t x i => Lx P t (ev x) (ev i) = some r
 | .slice t x lo hi mx => Ud P t (ev x) (lo.map ev) (hi.map ev) (mx.map ev) = some r
 | .load t x => WZ P t (ev x) hp = some r
 | .binOp o t x y _ => xbin P o t (ev x) (ev y) = some r
 | .convert src to x => TV P src to (ev x) = some r
 | op => xop P bid dst op ev hp = some (r, none)
theorem oblV_ok {P : Program} {bid : Nat} {dst : Option Nat} {op : Op} {ev : Operand → AV} {hp : Hp} {r : AV} (h : oblV P bid dst op ev hp r) : xop P bid dst op ev hp = some (r, none) := by
 unfold oblV at h
 split at h
 ·refine ZF ?_; show xv _ = _; rw [h]; rfl
 ·refine ZF ?_; show xv _ = _; rw [h]; rfl
 ·refine ZF ?_; show xv _ = _; rw [h]; rfl
 ·refine ZF ?_; show xv _ = _; rw [h]; rfl
 ·refine ZF ?_; show xv _ = _; rw [h]; rfl
 ·refine ZF ?_; show xv _ = _; rw [h]; rfl
 ·exact h
def bI (d : Int) : Option AV → Option Int
 | none => some d
 | some (.int _ n) => some n
 | some _ => none
def ieq (P : Program) (t : TypeId) (sz : Nat) : Bool := match elI P t with
 | some k => Nat.beq k sz
 | none => false
theorem Mu {P : Program} {t : TypeId} {sz : Nat} (h : ieq P t sz = true) : elI P t = some sz := by
 unfold ieq at h
 split at h
 ·rename_i k hk; rw [hk, Nat.eq_of_beq_eq_true h]
 ·cases h
def keq (a b : IntKind) : Bool := if a = b then true else false
theorem keq_ok {a b : IntKind} (h : keq a b = true) : a = b := by
 unfold keq at h
 split at h
 ·assumption
 ·cases h
def wopS (P : Program) (op : Op) (ev : Operand → AV) (K : Res → Prop) : Prop :=
 match op with
 | .binOp o _ x y _ => match ev x, ev y with
  | .str a, .str b => match o with
   | .add => a.length + b.length ≤ 9223372036854775807 ∧ K (.str (a ++ b), none)
   | _ => False
  | .int k a, .int k' b => match o with
   | .shl => 0 ≤ b ∧ K (.int k (k.wrap (a * 2 ^ (min b.toNat k.bits))), none)
   | .shr => 0 ≤ b ∧ K (.int k (a.fdiv (2 ^ (min b.toNat k.bits))), none)
   | o => match keq k k' with
    | true => match o with
     | .quo => b ≠ 0 ∧ K (.int k (k.wrap (a.tdiv b)), none)
     | .rem => b ≠ 0 ∧ K (.int k (a.tmod b), none)
     | _ => False
    | false => False
  | _, _ => False
 | .indexAddr t x i => match ev i with
  | .int _ k => match ev x with
   | .bs id ver sz off len => match ieq P t sz with
    | true => (0 ≤ k ∧ k < len) ∧ K (.ptr id ver (off + k.toNat * sz), none)
    | false => False
   | .ow id ver sz len => match ieq P t sz with
    | true => (0 ≤ k ∧ k < len) ∧ K (.oe id ver sz k.toNat 0, none)
    | false => False
   | .ptr id ver off => match arI P t with
    | some (n, z, _) => (0 ≤ k ∧ k < n) ∧ K (.ptr id ver (off + k.toNat * z), none)
    | none => False
   | .ip sz xs j off => match arI P t with
    | some (n, z, _) => (0 ≤ k ∧ k < n) ∧ K (.ip sz xs j (off + k.toNat * z), none)
    | none => False
   | _ => False
  | _ => False
 | .slice t x lo hi mx => match mx with
  | some _ => False
  | none => match bI 0 (lo.map ev) with
   | some l => match ev x with
    | .str s => match Gu P t with
     | true => match hi with
      | none => (0 ≤ l ∧ l ≤ s.length) ∧ K (.str (s.drop l.toNat), none)
      | some hi => match bI 0 (some (ev hi)) with
       | some h => (0 ≤ l ∧ l ≤ h ∧ h ≤ s.length) ∧ K (.str ((s.take h.toNat).drop l.toNat), none)
       | none => False
     | false => False
    | .sl sz xs => match ieq P t sz with
     | true => match hi with
      | none => (0 ≤ l ∧ l ≤ xs.length) ∧ K (.sl sz (xs.drop l.toNat), none)
      | some hi => match bI 0 (some (ev hi)) with
       | some h => (0 ≤ l ∧ l ≤ h ∧ h ≤ xs.length) ∧ K (.sl sz ((xs.take h.toNat).drop l.toNat), none)
       | none => False
     | false => False
    | .bs id ver sz off len => match bI len (hi.map ev) with
     | some h => match ieq P t sz with
      | true => (0 ≤ l ∧ l < h ∧ h ≤ len) ∧ K (.bs id ver sz (off + l.toNat * sz) (h.toNat - l.toNat), none)
      | false => False
     | none => False
    | .ow id ver sz len => match bI len (hi.map ev) with
     | some h => match ieq P t sz with
      | true => (l = 0 ∧ 0 ≤ h ∧ h ≤ len) ∧ K (.ow id ver sz h.toNat, none)
      | false => False
     | none => False
    | _ => False
   | none => False
 | _ => False
theorem bI_ok {d : Nat} {o : Option AV} {n : Int} (h : bI d o = some n) (h0 : 0 ≤ n) : bndN d o = some n.toNat := by
 unfold bI at h
 split at h
 ·cases h; rfl
 ·cases h; simp only [bndN]; rw [if_pos h0]
 ·cases h
theorem bI_okS {d d' : Nat} {x : AV} {n : Int} (h : bI d (some x) = some n) (h0 : 0 ≤ n) : bndN d' (some x) = some n.toNat := by
 unfold bI at h
 split at h
 ·rename_i e; cases e
 ·rename_i k e; cases e; cases h; simp only [bndN]; rw [if_pos h0]
 ·cases h
theorem BF {P : Program} {bid : Nat} {dst : Option Nat} {op : Op} {ev : Operand → AV} {hp : Hp} {K : Res → Prop} (h : wopS P op ev K) : ∃ r, xop P bid dst op ev hp = some r ∧ K r := by
 unfold wopS at h
 split at h
 ·rename_i o t x y p
  split at h
  ·rename_i a b hx hy
   split at h
   ·refine ⟨_, ZF ?_, h.2⟩
    show xv (xbin P .add t (ev x) (ev y)) = _
    rw [hx, hy]
    show xv (TU .add a b) = _
    simp only [TU, if_pos h.1]; rfl
   ·cases h
  ·rename_i k a k' b hx hy
   split at h
   ·refine ⟨_, ZF ?_, h.2⟩
    show xv (xbin P .shl t (ev x) (ev y)) = _
    rw [hx, hy]
    simp only [xbin, if_pos h.1]; rfl
   ·refine ⟨_, ZF ?_, h.2⟩
    show xv (xbin P .shr t (ev x) (ev y)) = _
    rw [hx, hy]
    simp only [xbin, if_pos h.1]; rfl
   ·split at h
    ·rename_i hk
     obtain rfl := keq_ok hk
     split at h
     ·refine ⟨_, ZF ?_, h.2⟩
      show xv (xbin P .quo t (ev x) (ev y)) = _
      rw [hx, hy]
      simp only [xbin, if_true, TT, if_neg h.1]; rfl
     ·refine ⟨_, ZF ?_, h.2⟩
      show xv (xbin P .rem t (ev x) (ev y)) = _
      rw [hx, hy]
      simp only [xbin, if_true, TT, if_neg h.1]; rfl
     ·cases h
    ·cases h
  ·cases h
 ·rename_i t x i
  split at h
  ·rename_i k0 k hi
   split at h
   ·rename_i id ver sz off len hx
    split at h
    ·rename_i ht
     refine ⟨_, ZF ?_, h.2⟩
     show xv (Yw P t (ev x) (ev i)) = _
     rw [hx, hi]
     simp only [Yw]
     rw [if_pos ⟨Mu ht, h.1.1, h.1.2⟩]; rfl
    ·cases h
   ·rename_i id ver sz len hx
    split at h
    ·rename_i ht
     refine ⟨_, ZF ?_, h.2⟩
     show xv (Yw P t (ev x) (ev i)) = _
     rw [hx, hi]
     simp only [Yw]
     rw [if_pos ⟨Mu ht, h.1.1, h.1.2⟩]; rfl
    ·cases h
   ·rename_i id ver off hx
    split at h
    ·rename_i n z g ht
     refine ⟨_, ZF ?_, h.2⟩
     show xv (Yw P t (ev x) (ev i)) = _
     rw [hx, hi]
     simp only [Yw, ht]
     rw [if_pos h.1]; rfl
    ·cases h
   ·rename_i sz xs j off hx
    split at h
    ·rename_i n z g ht
     refine ⟨_, ZF ?_, h.2⟩
     show xv (Yw P t (ev x) (ev i)) = _
     rw [hx, hi]
     simp only [Yw, ht]
     rw [if_pos h.1]; rfl
    ·cases h
   ·cases h
  ·cases h
 ·rename_i t x lo hi mx
  split at h
  ·cases h
  ·split at h
   ·rename_i l hl
    have hl0 : ∀ d : Int, 0 ≤ l → bndN 0 (lo.map ev) = some l.toNat := fun _ h0 => bI_ok hl h0
    split at h
    ·rename_i s hx
     split at h
     ·rename_i ht
      split at h
      ·obtain ⟨⟨h0, h1⟩, hK⟩ := h
       refine ⟨_, ZF ?_, hK⟩
       show xv (Ud P t (ev x) (lo.map ev) none none) = _
       rw [hx]
       simp only [Ud, hl0 0 h0, show bndN s.length none = some s.length from rfl]
       rw [if_pos ⟨ht, rfl, by omega, Nat.le_refl _⟩, List.take_length]; rfl
      ·rename_i hi
       split at h
       ·rename_i hh hhi
        obtain ⟨⟨h0, h1, h2⟩, hK⟩ := h
        refine ⟨_, ZF ?_, hK⟩
        show xv (Ud P t (ev x) (lo.map ev) (some (ev hi)) none) = _
        rw [hx]
        simp only [Ud, hl0 0 h0, bI_okS hhi (by omega)]
        rw [if_pos ⟨ht, rfl, by omega, by omega⟩]; rfl
       ·cases h
     ·cases h
    ·rename_i sz xs hx
     split at h
     ·rename_i ht
      split at h
      ·obtain ⟨⟨h0, h1⟩, hK⟩ := h
       refine ⟨_, ZF ?_, hK⟩
       show xv (Ud P t (ev x) (lo.map ev) none none) = _
       rw [hx]
       simp only [Ud, hl0 0 h0, show bndN xs.length none = some xs.length from rfl]
       rw [if_pos ⟨Mu ht, by omega, Nat.le_refl _⟩, List.take_length]; rfl
      ·rename_i hi
       split at h
       ·rename_i hh hhi
        obtain ⟨⟨h0, h1, h2⟩, hK⟩ := h
        refine ⟨_, ZF ?_, hK⟩
        show xv (Ud P t (ev x) (lo.map ev) (some (ev hi)) none) = _
        rw [hx]
        simp only [Ud, hl0 0 h0, bI_okS hhi (by omega)]
        rw [if_pos ⟨Mu ht, by omega, by omega⟩]; rfl
       ·cases h
     ·cases h
    ·rename_i id ver sz off len hx
     split at h
     ·rename_i hh hhi
      split at h
      ·rename_i ht
       obtain ⟨⟨h0, h1, h2⟩, hK⟩ := h
       refine ⟨_, ZF ?_, hK⟩
       show xv (Ud P t (ev x) (lo.map ev) (hi.map ev) none) = _
       rw [hx]
       simp only [Ud, hl0 0 h0, bI_ok hhi (by omega)]
       rw [if_pos ⟨Mu ht, by omega, by omega⟩, if_neg (by omega)]; rfl
      ·cases h
     ·cases h
    ·rename_i id ver sz len hx
     split at h
     ·rename_i hh hhi
      split at h
      ·rename_i ht
       obtain ⟨⟨h0, h1, h2⟩, hK⟩ := h
       refine ⟨_, ZF ?_, hK⟩
       show xv (Ud P t (ev x) (lo.map ev) (hi.map ev) none) = _
       rw [hx]
       simp only [Ud, hl0 0 (by omega), bI_ok hhi (by omega)]
       rw [if_pos ⟨Mu ht, by omega, by omega⟩]; rfl
      ·cases h
     ·cases h
    ·cases h
   ·cases h
 ·cases h
def wsrc (P : Program) (t t' : TypeId) (sz : Nat) (x : AV) (hp : Hp) : Option (Nat × List AV) :=
 match x with
 | .str b => match Gu P t' && Nat.beq sz 1 with
  | true => some (b.length, b.map Gt)
  | false => none
 | x => match Nat.beq t' t with
  | true => xsrc sz x hp
  | false => none
def wappT (bid e tg sz by_ n : Nat) (ds : List AV) (s : AV) (hp : Hp) (K : Res → Prop) : Prop :=
 match s with
 | .nil => (n ≠ 0 ∧ n * by_ ≤ 140737488355328 ∧ n ≤ 9223372036854775807) ∧ K (.bs bid tg sz 0 n, some (bid, .cells tg ds))
 | .emp => (n ≠ 0 ∧ n * by_ ≤ 140737488355328 ∧ n ≤ 9223372036854775807) ∧ K (.bs bid tg sz 0 n, some (bid, .cells tg ds))
 | .bs id ver z off len => match hp id with
  | some (.cells v cs) => match Nat.beq z sz && Nat.beq v ver with
   | true => (n ≠ 0 ∧ off + len * sz ≤ cs.length ∧ (len + n) * by_ ≤ 140737488355328 ∧ len + n ≤ 9223372036854775807) ∧ K (.bs id (C9 e off ver) sz 0 (len + n), some (id, .cells (C9 e off ver) ((cs.drop off).take (len * sz) ++ ds)))
   | false => False
  | _ => False
 | _ => False
theorem Q20 {bid e tg sz by_ n : Nat} {ds : List AV} {s : AV} {hp : Hp} {K : Res → Prop} (h : wappT bid e tg sz by_ n ds s hp K) : n ≠ 0 ∧ ∃ r, GX bid e tg sz by_ n ds s hp = some r ∧ K r := by
 unfold wappT at h
 unfold GX
 split at h
 ·obtain ⟨⟨h0, h1, h2⟩, hK⟩ := h
  exact ⟨h0, _, by simp only [if_pos (And.intro h1 h2)], hK⟩
 ·obtain ⟨⟨h0, h1, h2⟩, hK⟩ := h
  exact ⟨h0, _, by simp only [if_pos (And.intro h1 h2)], hK⟩
 ·split at h
  ·rename_i v cs hid
   split at h
   ·rename_i hc
    rw [Bool.and_eq_true] at hc
    obtain rfl := Nat.eq_of_beq_eq_true hc.1
    obtain rfl := Nat.eq_of_beq_eq_true hc.2
    obtain ⟨⟨h0, h1, h2, h3⟩, hK⟩ := h
    exact ⟨h0, _, by simp only [hid]; rw [if_pos ⟨trivial, trivial, h1, h2, h3⟩], hK⟩
   ·cases h
  ·cases h
 ·cases h
def wels (sz : Nat) (x : AV) (hp : Hp) (K : List AV → Prop) : Prop :=
 match x with
 | .ow id ver z len => match hp id with
  | some (.own v z' xs) => match Nat.beq z sz && (Nat.beq z' sz && Nat.beq v ver) with
   | true => len = xs.length ∧ K xs
   | false => False
  | _ => False
 | x => match xels sz x hp with
  | some ys => K ys
  | none => False
theorem BB {sz : Nat} {x : AV} {hp : Hp} {K : List AV → Prop} (h : wels sz x hp K) : ∃ ys, xels sz x hp = some ys ∧ K ys := by
 unfold wels at h
 split at h
 ·rename_i id ver z len
  split at h
  ·rename_i v z' xs hid
   split at h
   ·rename_i hc
    simp only [Bool.and_eq_true] at hc
    obtain ⟨hl, hK⟩ := h
    refine ⟨xs, ?_, hK⟩
    simp only [xels, hid]
    rw [hc.1, hc.2.1, hc.2.2, hl, Nat.ble_eq_true_of_le (Nat.le_refl _)]
    simp
   ·cases h
  ·cases h
 ·split at h
  ·rename_i ys hys; exact ⟨ys, hys, h⟩
  ·cases h
def wapp (P : Program) (bid : Nat) (op : Op) (ev : Operand → AV) (hp : Hp) (K : Res → Prop) : Prop :=
 match op with
 | .call c => match c.callee with
  | .builtin .append => match c.argTypes.toList, c.args.toList.map ev with
   | [t, t'], [s, x] => match elG P t with
    | some (sz, by_, _) => match s with
     | .ow id ver z len => match Nat.beq sz z && Nat.beq t' t with
      | true => match hp id with
       | some (.own v z' xs) => match Nat.beq z' z && Nat.beq v ver with
        | true => wels z x hp (fun ys => (len = xs.length ∧ (len + ys.length) * by_ ≤ 140737488355328 ∧ len + ys.length ≤ 9223372036854775807) ∧ K (.ow id (ver + 4096) z (len + ys.length), some (id, .own (ver + 4096) z (xs ++ ys))))
        | false => False
       | _ => False
      | false => False
     | s => match wsrc P t t' sz x hp with
      | some (n, ds) => wappT bid (elT P t) (tagE P (elT P t)) sz by_ n ds s hp K
      | none => False
    | none => False
   | _, _ => False
  | _ => False
 | _ => False
theorem wapp_ok {P : Program} {bid : Nat} {dst : Option Nat} {op : Op} {ev : Operand → AV} {hp : Hp} {K : Res → Prop} (h : wapp P bid op ev hp K) : ∃ r, xop P bid dst op ev hp = some r ∧ K r := by
 unfold wapp at h
 split at h
 ·rename_i c
  split at h
  ·rename_i hc
   split at h
   ·rename_i t t' s x ht hx
    split at h
    ·rename_i sz by_ zs hel
     split at h
     ·rename_i id ver z len
      split at h
      ·rename_i hcc
       rw [Bool.and_eq_true] at hcc
       obtain rfl := Nat.eq_of_beq_eq_true hcc.1
       obtain rfl := Nat.eq_of_beq_eq_true hcc.2
       split at h
       ·rename_i v z' xs hid
        split at h
        ·rename_i hcd
         rw [Bool.and_eq_true] at hcd
         obtain ⟨ys, hys, ⟨h1, h2, h3⟩, hK⟩ := BB h
         subst h1
         refine ⟨_, xop_ofO ?_ ?_ ?_, hK⟩
         ·have : ∀ n ds, (if n = 0 then (if Fj (.ow id ver sz xs.length) then some ((.ow id ver sz xs.length : AV), (none : Option (Nat × Box))) else none) else GX bid (elT P t') (tagE P (elT P t')) sz by_ n ds (.ow id ver sz xs.length) hp) = none := fun n ds => by
           split <;> rfl
          simp only [xop0, hc, VQ, ht, hx, Gc, hel, if_true]
          split
          ·exact this _ _
          ·rfl
         ·simp only [xopX, hc, ht, hx, M8, hel]
          split
          ·split
           ·split
            ·rfl
            ·rfl
           ·rfl
          ·rfl
         ·simp only [xopO, hc, ht, hx, Wg, hel, hid, hys]
          rw [Nat.beq_refl, Nat.beq_refl, hcd.1, hcd.2, Nat.ble_eq_true_of_le (Nat.le_refl _)]
          simp [h2, h3]
        ·cases h
       ·cases h
      ·cases h
     ·split at h
      ·rename_i n ds hsrc
       obtain ⟨h0, r, hr, hK⟩ := Q20 h
       refine ⟨r, ?_, hK⟩
       unfold wsrc at hsrc
       split at hsrc
       ·rename_i b
        split at hsrc
        ·rename_i hcc
         cases hsrc
         have e0 : xop0 P bid dst (.call c) ev hp = none := by
          simp only [xop0, hc, VQ, ht, hx, Gc, hel, xsrc]
          split <;> rfl
         refine Mg e0 ?_
         simp only [xopX, hc, ht, hx, M8, hel]
         rw [hcc]
         cases b with
         | nil => exact absurd rfl h0
         | cons c0 b0 => exact hr
        ·cases hsrc
       ·split at hsrc
        ·rename_i hcc
         obtain rfl := Nat.eq_of_beq_eq_true hcc
         refine ZF ?_
         simp only [xop0, hc, VQ, ht, hx, Gc, hel, if_true, hsrc]
         rw [if_neg h0]; exact hr
        ·cases hsrc
      ·cases h
    ·cases h
   ·cases h
  ·cases h
 ·cases h
theorem LD : ∀ (s : List UInt8), Mp (s.map Gt) = some s
 | [] => rfl
 | c :: s => by
  have hc := c.toNat_lt
  have h : (decide ((0 : Int) ≤ (c.toNat : Int)) && decide ((c.toNat : Int) < 256)) = true := by simp; omega
  simp only [List.map_cons, Gt, Mp, h]
  rw [LD s]
  simp
def wus (P : Program) (op : Op) (ev : Operand → AV) (hp : Hp) (s : List UInt8) (K : Res → Prop) : Prop :=
 match op with
 | .convert src to x => match ev x with
  | .bs id ver sz off len => match hp id with
   | some (.cells v cs) => match Nat.beq v ver && (Nat.beq sz 1 && (N9 P src && Gu P to)) with
    | true => (off + len ≤ cs.length ∧ (cs.drop off).take len = s.map Gt) ∧ K (.str s, none)
    | false => False
   | _ => False
  | _ => False
 | .call c => match c.callee with
  | .builtin b => match b with
   | .unsafeSliceData => match c.args.toList.map ev with
    | [x] => match x with
     | .bs id ver _ off len => 0 < len ∧ K (.ptr id ver off, none)
     | .nil => K (.nilp, none)
     | _ => False
    | _ => False
   | .unsafeString => match c.argTypes.toList, c.args.toList.map ev with
    | [pt, _], [p, n] => match p with
     | .ptr id ver off => match n with
      | .int .i64 n => match hp id with
       | some (.cells v cs) => match ptTo P pt with
        | some e => match Nat.beq v ver && (Nat.beq off 0 && (Nat.beq (ver % 4096) (e + 1) && Nat.beq (P.cellsOf e) 1)) with
         | true => (0 < n ∧ n ≤ 9223372036854775807 ∧ n.toNat ≤ cs.length ∧ cs.take n.toNat = s.map Gt) ∧ K (.str s, some (id, .dead))
         | false => False
        | none => False
       | _ => False
      | _ => False
     | .nilp => match n with
      | .int .i64 0 => K (.str [], none)
      | _ => False
     | _ => False
    | _, _ => False
   | _ => False
  | _ => False
 | _ => False
theorem wus_ok {P : Program} {bid : Nat} {dst : Option Nat} {op : Op} {ev : Operand → AV} {hp : Hp} {s : List UInt8} {K : Res → Prop} (h : wus P op ev hp s K) : ∃ r, xop P bid dst op ev hp = some r ∧ K r := by
 unfold wus at h
 split at h
 ·rename_i src to x
  split at h
  ·rename_i id ver sz off len hx
   split at h
   ·rename_i v cs hid
    split at h
    ·rename_i hc
     simp only [Bool.and_eq_true] at hc
     obtain ⟨h1, h2, h3, h4⟩ := hc
     obtain ⟨⟨hle, hs⟩, hK⟩ := h
     refine ⟨_, ?_, hK⟩
     have e0 : xop0 P bid dst (.convert src to x) ev hp = none := by simp only [xop0, hx, TV]; rfl
     refine Mg e0 ?_
     simp only [xopX, hx, WY, hid, hs, LD]
     rw [h1, h2, h3, h4, Nat.ble_eq_true_of_le hle]
     rfl
    ·cases h
   ·cases h
  ·cases h
 ·rename_i c
  split at h
  ·rename_i b hc
   split at h
   ·split at h
    ·rename_i x hx
     split at h
     ·rename_i id ver z off len
      refine ⟨_, ?_, h.2⟩
      have e0 : xop0 P bid dst (.call c) ev hp = none := by simp only [xop0, hc, VQ]
      refine Mg e0 ?_
      simp only [xopX, hc, hx, HL]
      rw [Nat.ble_eq_true_of_le (show 0 + 1 ≤ len from h.1) |> (fun e => (show Nat.blt 0 len = true from e))]
      rfl
     ·refine ⟨_, ?_, h⟩
      have e0 : xop0 P bid dst (.call c) ev hp = none := by simp only [xop0, hc, VQ]
      refine Mg e0 ?_
      simp only [xopX, hc, hx, HL]
      rfl
     ·cases h
    ·cases h
   ·split at h
    ·rename_i pt it p n ht hx
     split at h
     ·rename_i id ver off
      split at h
      ·rename_i n
       split at h
       ·rename_i v cs hid
        split at h
        ·rename_i e he
         split at h
         ·rename_i hcc
          simp only [Bool.and_eq_true] at hcc
          obtain ⟨h1, h2, h3, h4⟩ := hcc
          obtain ⟨⟨a1, a2, a3, a4⟩, hK⟩ := h
          refine ⟨_, ?_, hK⟩
          have e0 : xop0 P bid dst (.call c) ev hp = none := by simp only [xop0, hc, VQ]
          refine Mg e0 ?_
          simp only [xopX, hc, ht, hx, Ma, hid, he, a4, LD]
          rw [h1, h2, h3, h4, Nat.ble_eq_true_of_le a3]
          simp [a1, a2]
         ·cases h
        ·cases h
       ·cases h
      ·cases h
     ·split at h
      ·refine ⟨_, ?_, h⟩
       have e0 : xop0 P bid dst (.call c) ev hp = none := by simp only [xop0, hc, VQ]
       refine Mg e0 ?_
       simp only [xopX, hc, ht, hx, Ma]
      ·cases h
     ·cases h
    ·cases h
   ·cases h
  ·cases h
 ·cases h
def wdef (P : Program) (bid : Nat) (dst : Option Nat) (op : Op) (ev : Operand → AV) (hp : Hp) (K : Res → Prop) : Prop :=
 match xop P bid dst op ev hp with
 | some r => K r
 | none => False
def wst (P : Program) (dst : Option Nat) (op : Op) (ev : Operand → AV) (hp : Hp) (K : Res → Prop) : Prop :=
 match op with
 | .store t x y => match dst with
  | some _ => False
  | none => match ev x with
   | .oe id ver sz i off => match tyI P t with
    | some (n, _) => match hp id with
     | some (.own v z xs) => match ev y with
      | yv => match Nat.beq v ver && (Nat.beq z sz && (Nat.ble (off + n) sz && (yv.okc && (Nat.beq yv.cells.length n && yv.cells.all immA)))) with
       | true => i < xs.length ∧ K (.undef, some (id, .own v z (xs.set i (putE off n z ((xs[i]?).getD .undef) yv))))
       | false => False
     | _ => False
    | none => False
   | _ => False
 | op => wopS P op ev K
theorem wst_ok {P : Program} {bid : Nat} {dst : Option Nat} {op : Op} {ev : Operand → AV} {hp : Hp} {K : Res → Prop} (h : wst P dst op ev hp K) : ∃ r, xop P bid dst op ev hp = some r ∧ K r := by
 unfold wst at h
 split at h
 ·rename_i t x y
  split at h
  ·cases h
  ·split at h
   ·rename_i id ver sz i off hx
    split at h
    ·rename_i n g ht
     split at h
     ·rename_i v z xs hid
      simp only at h
      split at h
      ·rename_i hc
       obtain ⟨hi, hK⟩ := h
       simp only [Bool.and_eq_true] at hc
       refine ⟨_, ZF ?_, hK⟩
       have hb : Nat.blt i xs.length = true := Nat.ble_eq_true_of_le hi
       simp only [xop0, Option.isNone_none, if_true, CU, ht, hx, hid]
       rw [hc.1, hc.2.1, hb, hc.2.2.1, hc.2.2.2.1, hc.2.2.2.2.1, hc.2.2.2.2.2]
       rfl
      ·cases h
     ·cases h
    ·cases h
   ·cases h
 ·exact BF h
def wask (P : Program) (bid : Nat) (dst : Option Nat) (op : Op) (ev : Operand → AV) (hp : Hp) (h : Option Hint) (K : Res → Prop) : Prop :=
 match h with
 | none => wdef P bid dst op ev hp K
 | some h => match h with
  | .v x => oblV P bid dst op ev hp x ∧ K (x, none)
  | .b t => match xop P bid dst op ev hp with
   | some (.bool u, none) => u = t ∧ K (.bool t, none)
   | _ => False
  | .split => match xop P bid dst op ev hp with
   | some (.bool u, none) => (u = true → K (.bool true, none)) ∧ (u = false → K (.bool false, none))
   | _ => False
  | .e sh => match op with
   | .indexAddr t a i => match ev a with
    | .sl sz xs => match ev i with
     | .int _ k => match ieq P t sz with
      | true => ∃ x, (0 ≤ k ∧ xs[k.toNat]? = some (sh x)) ∧ K (.ip sz [sh x] 0 0, none)
      | false => False
     | _ => False
    | _ => wopS P op ev K
   | .load t a => match ev a with
    | .oe id ver sz i off => match tyI P t with
     | some (n, g) => match hp id with
      | some (.own v z xs) => match Nat.beq v ver && (Nat.beq z sz && Nat.ble (off + wd g n) sz) with
       | true => ∃ x, xs[i]? = some (sh x) ∧ K (WS g n off (sh x).cells, none)
       | false => False
      | _ => False
     | none => False
    | _ => wdef P bid dst op ev hp K
   | _ => False
  | .u => match op with
   | .index t a i => match ev a with
    | .str s => match ev i with
     | .int _ k => match Gu P t with
      | true => ∃ x : UInt8, (0 ≤ k ∧ s[k.toNat]? = some x) ∧ K (.int .u8 x.toNat, none)
      | false => False
     | _ => False
    | _ => False
   | _ => False
  | .s => wst P dst op ev hp K
  | .a => wapp P bid op ev hp K
  | .us s => wus P op ev hp s K
  | _ => False
theorem BA {P : Program} {bid : Nat} {dst : Option Nat} {op : Op} {ev : Operand → AV} {hp : Hp} {K : Res → Prop} (hw : wdef P bid dst op ev hp K) : ∃ r, xop P bid dst op ev hp = some r ∧ K r := by
 unfold wdef at hw
 split at hw
 ·rename_i r hr; exact ⟨r, hr, hw⟩
 ·cases hw
theorem Bz {P : Program} {bid : Nat} {dst : Option Nat} {op : Op} {ev : Operand → AV} {hp : Hp} {h : Option Hint} {K : Res → Prop} (hw : wask P bid dst op ev hp h K) : ∃ r, xop P bid dst op ev hp = some r ∧ K r := by
 unfold wask at hw
 split at hw
 ·exact BA hw
 ·rename_i h
  split at hw
  ·exact ⟨_, oblV_ok hw.1, hw.2⟩
  ·split at hw
   ·rename_i t u hx
    obtain ⟨rfl, hK⟩ := hw
    exact ⟨_, hx, hK⟩
   ·cases hw
  ·split at hw
   ·rename_i u hx
    refine ⟨_, hx, ?_⟩
    cases u with
    | true => exact hw.1 rfl
    | false => exact hw.2 rfl
   ·cases hw
  ·rename_i sh
   split at hw
   ·rename_i t a i
    split at hw
    ·rename_i sz xs hx
     split at hw
     ·rename_i k0 k hi
      split at hw
      ·rename_i ht
       obtain ⟨x, ⟨h0, h1⟩, hK⟩ := hw
       refine ⟨_, ZF ?_, hK⟩
       show xv (Yw P t (ev a) (ev i)) = _
       rw [hx, hi]
       have hlt : k < xs.length := by
        have := (List.getElem?_eq_some_iff.1 h1).1
        omega
       simp only [Yw]
       rw [if_pos ⟨Mu ht, h0, hlt⟩, h1]; rfl
      ·cases hw
     ·cases hw
    ·exact BF hw
   ·rename_i t a
    split at hw
    ·rename_i id ver sz i off hx
     split at hw
     ·rename_i n g ht
      split at hw
      ·rename_i v z xs hid
       split at hw
       ·rename_i hc
        simp only [Bool.and_eq_true] at hc
        obtain ⟨x, h1, hK⟩ := hw
        refine ⟨_, ZF ?_, hK⟩
        show xv (WZ P t (ev a) hp) = _
        rw [hx]
        have hlt : i < xs.length := (List.getElem?_eq_some_iff.1 h1).1
        simp only [WZ, ht, hid]
        rw [hc.1, hc.2.1, hc.2.2, show Nat.blt i xs.length = true from Nat.ble_eq_true_of_le hlt, h1]; rfl
       ·cases hw
      ·cases hw
     ·cases hw
    ·exact BA hw
   ·cases hw
  ·split at hw
   ·rename_i t a i
    split at hw
    ·rename_i s hx
     split at hw
     ·rename_i k0 k hi
      split at hw
      ·rename_i ht
       obtain ⟨x, ⟨h0, h1⟩, hK⟩ := hw
       refine ⟨_, ZF ?_, hK⟩
       show xv (Lx P t (ev a) (ev i)) = _
       rw [hx, hi]
       have hlt : k < s.length := by
        have := (List.getElem?_eq_some_iff.1 h1).1
        omega
       simp only [Lx]
       rw [if_pos (by simp [ht, h0, hlt]), h1]; rfl
      ·cases hw
     ·cases hw
    ·cases hw
   ·cases hw
  ·exact wst_ok hw
  ·exact wapp_ok hw
  ·exact wus_ok hw
  ·cases hw
end HY
end
section
namespace HY
open Go Go.RowKit
def refId : AV → Option Nat
 | .ptr id _ _ => some id
 | .bs id _ _ _ _ => some id
 | .ow id _ _ _ => some id
 | .oe id _ _ _ _ => some id
 | _ => none
def HS (hp : Hp) : AV → List Nat → Option (Nat × Nat)
 | _, [] => none
 | v, i :: p => match v with
  | .agg cs => match cs[i]? with
   | some c => HS hp c p
   | none => none
  | .tup cs => match cs[i]? with
   | some c => HS hp c p
   | none => none
  | v => match refId v with
   | some id => match p with
    | [] => some (id, i)
    | _ :: _ => match hp id with
     | some (.cells _ cs) => match cs[i]? with
      | some c => HS hp c p
      | none => none
     | _ => none
   | none => none
def bsOk (sz off z v ver len : Nat) (cs : List AV) : Bool := Nat.beq z sz && (Nat.beq off 0 && (Nat.beq v ver && (Nat.ble (len * sz) cs.length && (cs.take (len * sz)).all immA)))
def cut1 (st : St) (c : Bool) (id ver len : Nat) : Option St :=
 match c with
 | false => some st
 | true => match lkb st.hp id with
  | some (.own v z xs) => match Nat.beq v ver with
   | true => some ⟨st.n, st.sl, pt st.hp id (.own v z (xs.take len)), st.nx⟩
   | false => none
  | _ => none
def fz1 (st : St) (k : Nat) (p : List Nat) (id ver sz len : Nat) (K : St → Prop) : Prop :=
 match lkb st.hp id with
 | some (.own v z xs) => match Nat.beq v ver && Nat.beq z sz with
  | true => len = xs.length ∧ K ⟨st.n, pt st.sl k (Ca p (st.get k) (.sl z xs)), pt st.hp id (.own (v + 4096) z []), st.nx⟩
  | false => K st
 | _ => K st
def ghS (st : St) (k : Nat) (p : List Nat) (x : AV) (sz : Nat) (c : Bool) : Option St :=
 match x with
 | .nil => some ⟨st.n, pt st.sl k (Ca p (st.get k) (.ow st.nx 0 sz 0)), pt st.hp st.nx (.own 0 sz []), st.nx + 1⟩
 | .emp => some ⟨st.n, pt st.sl k (Ca p (st.get k) (.ow st.nx 0 sz 0)), pt st.hp st.nx (.own 0 sz []), st.nx + 1⟩
 | .bs id ver z off len => match lkb st.hp id with
  | some (.cells v cs) => match bsOk sz off z v ver len cs with
   | true => some ⟨st.n, pt st.sl k (Ca p (st.get k) (.ow id ver sz len)), pt st.hp id (.own ver sz (Kf sz len (cs.take (len * sz)))), st.nx⟩
   | false => none
  | _ => none
 | .ow id ver _ len => cut1 st c id ver len
 | .undef => some st
 | .sl _ _ => some st
 | _ => none
def ghC (st : St) (bx i sz : Nat) (c : Bool) : Option St :=
 match lkb st.hp bx with
 | some (.cells vb cb) => match cb[i]? with
  | some x => match x with
   | .nil => some ⟨st.n, st.sl, pt (pt st.hp st.nx (.own 0 sz [])) bx (.cells vb (cb.set i (.ow st.nx 0 sz 0))), st.nx + 1⟩
   | .emp => some ⟨st.n, st.sl, pt (pt st.hp st.nx (.own 0 sz [])) bx (.cells vb (cb.set i (.ow st.nx 0 sz 0))), st.nx + 1⟩
   | .bs id ver z off len => match lkb st.hp id with
    | some (.cells v cs) => match bsOk sz off z v ver len cs && !Nat.beq bx id with
     | true => some ⟨st.n, st.sl, pt (pt st.hp id (.own ver sz (Kf sz len (cs.take (len * sz))))) bx (.cells vb (cb.set i (.ow id ver sz len))), st.nx⟩
     | false => none
    | _ => none
   | .ow id ver _ len => cut1 st c id ver len
   | _ => none
  | none => none
 | _ => none
def gh1 (st : St) (k : KB) : Option St :=
 match k.own with
 | 0 => some st
 | sz + 1 => match WQ k.path (st.get k.slot) with
  | some x => ghS st k.slot k.path x (sz + 1) k.cut
  | none => match HS (lkb st.hp) (st.get k.slot) k.path with
   | some (bx, j) => ghC st bx j (sz + 1) k.cut
   | none => none
def fzS (st : St) (k : KB) (K : St → Prop) : Prop :=
 match WQ k.path (st.get k.slot) with
 | some x => match x with
  | .ow id ver sz len => fz1 st k.slot k.path id ver sz len K
  | _ => K st
 | none => False
def KH : List KB → St → (St → Prop) → Prop
 | [], st, K => K st
 | k :: ks, st, K => match k.fz with
  | true => fzS st k (fun s => KH ks s K)
  | false => match gh1 st k with
   | some st' => KH ks st' K
   | none => False
theorem FZ {sz off z v ver len : Nat} {cs : List AV} (h : bsOk sz off z v ver len cs = true) : z = sz ∧ off = 0 ∧ v = ver ∧ len * sz ≤ cs.length ∧ (cs.take (len * sz)).all immA = true := by
 simp only [bsOk, Bool.and_eq_true] at h
 exact ⟨Nat.eq_of_beq_eq_true h.1, Nat.eq_of_beq_eq_true h.2.1, Nat.eq_of_beq_eq_true h.2.2.1, Nat.le_of_ble_eq_true h.2.2.2.1, h.2.2.2.2⟩
theorem Bb {gl : Nat → AV} {st st' : St} {c : Bool} {id ver len : Nat} (h : cut1 st c id ver len = some st') : Conv gl st st' := by
 unfold cut1 at h
 split at h
 ·cases h; exact .refl
 ·split at h
  ·rename_i v z xs hid
   split at h
   ·cases h; exact Q1e id v z len xs hid
   ·cases h
  ·cases h
theorem ghS_ok {gl : Nat → AV} {st st' : St} {k : Nat} {p : List Nat} {x : AV} {sz : Nat} {c : Bool} (hpos : 0 < sz) (hi : WQ p (st.get k) = some x) (h : ghS st k p x sz c = some st') : Conv gl st st' := by
 unfold ghS at h
 split at h
 ·cases h; exact SO k p sz _ hpos hi rfl
 ·cases h; exact SO k p sz _ hpos hi rfl
 ·rename_i id ver z off len
  split at h
  ·rename_i v cs hid
   split at h
   ·rename_i hc
    cases h
    obtain ⟨rfl, rfl, rfl, h1, h2⟩ := FZ hc
    exact Hf k p id _ _ len cs hpos hi hid h1 h2
   ·cases h
  ·cases h
 ·exact Bb h
 ·cases h; exact .refl
 ·cases h; exact .refl
 ·cases h
theorem ghC_ok {gl : Nat → AV} {st st' : St} {bx i sz : Nat} {c : Bool} (hpos : 0 < sz) (h : ghC st bx i sz c = some st') : Conv gl st st' := by
 unfold ghC at h
 split at h
 ·rename_i vb cb hb
  split at h
  ·rename_i x hx
   split at h
   ·cases h; exact SN bx i sz vb cb _ hpos hb hx rfl
   ·cases h; exact SN bx i sz vb cb _ hpos hb hx rfl
   ·rename_i id ver z off len
    split at h
    ·rename_i v cs hid
     split at h
     ·rename_i hc
      cases h
      rw [Bool.and_eq_true] at hc
      obtain ⟨rfl, rfl, rfl, h1, h2⟩ := FZ hc.1
      exact P3 bx i id _ vb _ len cb cs hpos (fun e => by subst e; simp at hc) hb hx hid h1 h2
     ·cases h
    ·cases h
   ·exact Bb h
   ·cases h
  ·cases h
 ·cases h
theorem gh1_ok {gl : Nat → AV} {st st' : St} {k : KB} (h : gh1 st k = some st') : Conv gl st st' := by
 unfold gh1 at h
 split at h
 ·cases h; exact .refl
 ·split at h
  ·rename_i x hx; exact ghS_ok (Nat.succ_pos _) hx h
  ·split at h
   ·exact ghC_ok (Nat.succ_pos _) h
   ·cases h
theorem fzS_ok {gl : Nat → AV} {st : St} {k : KB} {K : St → Prop} (h : fzS st k K) : ∃ st', Conv gl st st' ∧ K st' := by
 unfold fzS at h
 split at h
 ·rename_i x hx
  split at h
  ·rename_i id ver z len
   unfold fz1 at h
   split at h
   ·rename_i v z' xs hid
    split at h
    ·rename_i hv
     rw [Bool.and_eq_true] at hv
     obtain rfl := Nat.eq_of_beq_eq_true hv.1
     obtain rfl := Nat.eq_of_beq_eq_true hv.2
     obtain ⟨hl, hK⟩ := h
     exact ⟨_, OL k.slot k.path id v _ len xs hx hid hl, hK⟩
    ·exact ⟨st, .refl, h⟩
   ·exact ⟨st, .refl, h⟩
  ·exact ⟨st, .refl, h⟩
 ·cases h
theorem Yj {gl : Nat → AV} : ∀ {ks : List KB} {st : St} {K : St → Prop}, KH ks st K → ∃ st', Conv gl st st' ∧ K st'
 | [], st, K, h => ⟨st, .refl, h⟩
 | k :: ks, st, K, h => by
  simp only [KH] at h
  split at h
  ·obtain ⟨s1, h1, h2⟩ := fzS_ok (gl := gl) h
   obtain ⟨s2, h3, h4⟩ := Yj h2
   exact ⟨s2, h1.trans h3, h4⟩
  ·split at h
   ·rename_i s1 h1
    obtain ⟨s2, h3, h4⟩ := Yj h
    exact ⟨s2, (gh1_ok h1).trans h3, h4⟩
   ·cases h
def Tj (hp : Hp) : AV → List Nat → Option Nat
 | v, [] => refId v
 | v, i :: p => match v with
  | .agg cs => match cs[i]? with
   | some c => Tj hp c p
   | none => none
  | .tup cs => match cs[i]? with
   | some c => Tj hp c p
   | none => none
  | v => match refId v with
   | some id => match hp id with
    | some (.cells _ cs) => match cs[i]? with
     | some c => Tj hp c p
     | none => none
    | _ => none
   | none => none
def GU (st : St) : List KB → List Nat
 | [] => []
 | k :: r => match k.fz with
  | true => GU st r
  | false => match Tj (lkb st.hp) (st.get k.slot) k.path with
   | some id => id :: GU st r
   | none => GU st r
def idxN : List Nat → Nat → Option Nat
 | [], _ => none
 | k :: r, id => match Nat.beq k id with
  | true => some 0
  | false => match idxN r id with
   | some j => some (j + 1)
   | none => none
def nodN : List Nat → Bool
 | [] => true
 | k :: r => match idxN r k with
  | some _ => false
  | none => nodN r
def curV (hp : Hp) (id ver : Nat) : Option Nat := match hp id with
 | some (.cells v _) => match Nat.beq v ver with
  | true => some (v % 4096)
  | false => none
 | some (.own v _ _) => match Nat.beq v ver with
  | true => some 0
  | false => none
 | _ => none
def mapR (g : Nat → Nat → Option (Nat × Nat)) : Nat → AV → AV
 | 0, _ => .undef
 | k + 1, v => match v with
  | .ptr id ver off => match g id ver with
   | some (j, t) => .ptr j t off
   | none => .undef
  | .bs id ver sz off len => match g id ver with
   | some (j, t) => .bs j t sz off len
   | none => .undef
  | .ow id ver sz len => match g id ver with
   | some (j, t) => .ow j t sz len
   | none => .undef
  | .oe id ver sz i off => match g id ver with
   | some (j, t) => .oe j t sz i off
   | none => .undef
  | .yld _ => .undef
  | .agg cs => .agg (cs.map (mapR g k))
  | .tup cs => .tup (cs.map (mapR g k))
  | .fn f cs => .fn f (cs.map (mapR g k))
  | v => v
def gR (hp : Hp) (ids : List Nat) (id ver : Nat) : Option (Nat × Nat) :=
 match idxN ids id with
 | some j => match curV hp id ver with
  | some t => some (j, t)
  | none => none
 | none => none
abbrev ren (hp : Hp) (ids : List Nat) : Nat → AV → AV := mapR (gR hp ids)
def renB (hp : Hp) (ids : List Nat) : Box → Option Box
 | .cells ver cs => some (.cells (ver % 4096) (cs.map (ren hp ids 12)))
 | .own _ sz xs => some (.own 0 sz xs)
 | _ => none
def E0 (hp : Hp) (all : List Nat) : List Nat → Option (List Box)
 | [] => some []
 | id :: r => match hp id with
  | some b => match renB hp all b with
   | some b' => match E0 hp all r with
    | some l => some (b' :: l)
    | none => none
   | none => none
  | none => none
def pinOk (hp : Hp) (ids : List Nat) : AV → Bool
 | .ptr id ver _ => match idxN ids id with
  | some j => match curV hp id ver with
   | some t => Nat.beq j id && Nat.beq t ver
   | none => false
  | none => false
 | .undef => true
 | .agg cs => cs.all immA
 | v => immA v
def GA (pins : List AV) (ks : List Nat) (kb : List KB) (st : St) (K : List AV → List Box → Prop) : Prop :=
 match nodN (GU st kb) && pins.all (pinOk (lkb st.hp) (GU st kb)) with
 | true => match E0 (lkb st.hp) (GU st kb) (GU st kb) with
  | some bs => K (ks.map fun k => ren (lkb st.hp) (GU st kb) 12 (st.get k)) bs
  | none => False
 | false => False
def slOf : List Nat → List AV → Tr AV
 | k :: ks, v :: vs => pt (slOf ks vs) k v
 | _, _ => .nil
def hpOf : Nat → List Box → Tr Box
 | _, [] => .nil
 | j, b :: r => pt (hpOf (j + 1) r) j b
def ZE (n : Nat) (ks : List Nat) (vs : List AV) (bs : List Box) : St := ⟨n, slOf ks vs, hpOf 0 bs, bs.length⟩
theorem Pe {α : Type} (d : α) (k : Nat) : lk d .nil k = d := by unfold lk; cases path k <;> rfl
theorem DJ : ∀ (bs : List Box) (j k : Nat), lkb (hpOf j bs) k = if j ≤ k then bs[k - j]? else none
 | [], j, k => by simp [hpOf, Zi]
 | b :: r, j, k => by
  simp only [hpOf, Zo]
  by_cases h : k = j
  ·subst h; rw [QE]; simp
  ·rw [QS _ _ h, DJ r (j + 1) k]
   by_cases h' : j ≤ k
   ·rw [if_pos (by omega), if_pos h', show k - j = k - (j + 1) + 1 by omega, List.getElem?_cons_succ]
   ·rw [if_neg (by omega), if_neg h']
theorem ST : ∀ {ids : List Nat} {id j : Nat}, idxN ids id = some j → ids[j]? = some id
 | k :: r, id, j, h => by
  simp only [idxN] at h
  split at h
  ·rename_i hk; cases h; rw [Nat.eq_of_beq_eq_true hk]; rfl
  ·split at h
   ·rename_i j' hj; cases h; simpa using ST hj
   ·cases h
theorem Hk : ∀ {ids : List Nat} {id : Nat}, idxN ids id = none → ∀ (j : Nat), ids[j]? ≠ some id
 | [], id, _, j => by simp
 | k :: r, id, h, j => by
  simp only [idxN] at h
  split at h
  ·cases h
  ·rename_i hk
   split at h
   ·cases h
   ·rename_i hn
    cases j with
    | zero => intro e; simp at e; subst e; simp at hk
    | succ j => rw [List.getElem?_cons_succ]; exact Hk hn j
theorem LN : ∀ {ids : List Nat}, nodN ids = true → ∀ {i j id : Nat}, ids[i]? = some id → ids[j]? = some id → i = j
 | [], _, i, j, id, hi, _ => by simp at hi
 | k :: r, h, i, j, id, hi, hj => by
  simp only [nodN] at h
  split at h
  ·cases h
  ·rename_i hn
   cases i with
   | zero =>
    simp only [List.getElem?_cons_zero, Option.some.injEq] at hi
    cases j with
    | zero => rfl
    | succ j => rw [List.getElem?_cons_succ, ← hi] at hj; exact absurd hj (Hk hn j)
   | succ i =>
    cases j with
    | zero =>
     simp only [List.getElem?_cons_zero, Option.some.injEq] at hj
     rw [List.getElem?_cons_succ, ← hj] at hi; exact absurd hi (Hk hn i)
    | succ j =>
     rw [List.getElem?_cons_succ] at hi hj
     rw [LN h hi hj]
def Box.mark : Box → Nat
 | .cells v _ => v % 4096
 | _ => 0
theorem curV_ok {hp : Hp} {id ver t : Nat} (h : curV hp id ver = some t) : ∃ b, hp id = some b ∧ b.ver? = some ver ∧ b.mark = t := by
 unfold curV at h
 split at h
 ·rename_i v cs hh
  split at h
  ·rename_i hv; cases h; obtain rfl := Nat.eq_of_beq_eq_true hv; exact ⟨_, hh, rfl, rfl⟩
  ·cases h
 ·rename_i v sz xs hh
  split at h
  ·rename_i hv; cases h; obtain rfl := Nat.eq_of_beq_eq_true hv; exact ⟨_, hh, rfl, rfl⟩
  ·cases h
 ·cases h
theorem Sm {H : HV} {E E' : Env} {g : Nat → Nat → Option (Nat × Nat)} (hg : ∀ id ver j t, g id ver = some (j, t) → E'.al j t ∧ ∀ l, E'.loc j t = some l → E.loc id ver = some l) : ∀ (k : Nat) (v : AV) (u : Value), RV H E v u → RV H E' (mapR g k v) u
 | 0, _, _, _ => .imm _ _ (.undef _)
 | k + 1, v, u, h => by
  have ih := Sm (H := H) hg k
  cases v with
  | ptr id ver off =>
   simp only [mapR]
   split
   ·rename_i j t hj
    obtain ⟨a, rfl, _, hloc⟩ := h.ptr_inv
    obtain ⟨h1, h2⟩ := hg id ver j t hj
    exact .ptr _ _ _ _ h1 fun l hl => hloc l (h2 l hl)
   ·exact .imm _ _ (.undef _)
  | bs id ver sz off len =>
   simp only [mapR]
   split
   ·rename_i j t hj
    obtain ⟨a, cap, rfl, _, hl, hm, hloc⟩ := h.bs_inv
    obtain ⟨h1, h2⟩ := hg id ver j t hj
    exact .bs _ _ _ _ _ _ _ h1 hl hm fun l hl => hloc l (h2 l hl)
   ·exact .imm _ _ (.undef _)
  | ow id ver sz len =>
   simp only [mapR]
   split
   ·rename_i j t hj
    obtain ⟨a, cap, rfl, _, hl, hm, hno, hloc⟩ := h.ow_inv
    obtain ⟨h1, h2⟩ := hg id ver j t hj
    exact .ow _ _ _ _ _ _ h1 hl hm hno fun l hl => hloc l (h2 l hl)
   ·exact .imm _ _ (.undef _)
  | oe id ver sz i off =>
   simp only [mapR]
   split
   ·rename_i j t hj
    obtain ⟨a, rfl, _, hloc⟩ := h.oe_inv
    obtain ⟨h1, h2⟩ := hg id ver j t hj
    exact .oe _ _ _ _ _ _ h1 fun l hl => hloc l (h2 l hl)
   ·exact .imm _ _ (.undef _)
  | yld id => exact .imm _ _ (.undef _)
  | agg cs =>
   obtain ⟨vs, rfl, hl, h1, hc⟩ := h.agg_inv
   refine .agg _ vs (by simpa using hl) h1 fun j c v hj hv => ?_
   rw [List.getElem?_map, Option.map_eq_some_iff] at hj
   obtain ⟨c0, hc0, rfl⟩ := hj
   exact ih c0 v (hc j c0 v hc0 hv)
  | tup cs =>
   obtain ⟨vs, rfl, hl, hc⟩ := h.tup_inv
   refine .tup _ vs (by simpa using hl) fun j c v hj hv => ?_
   rw [List.getElem?_map, Option.map_eq_some_iff] at hj
   obtain ⟨c0, hc0, rfl⟩ := hj
   exact ih c0 v (hc j c0 v hc0 hv)
  | fn f cs =>
   obtain ⟨vs, rfl, hl, hc⟩ := h.fn_inv
   refine .fn f _ vs (by simpa using hl) fun j c v hj hv => ?_
   rw [List.getElem?_map, Option.map_eq_some_iff] at hj
   obtain ⟨c0, hc0, rfl⟩ := hj
   exact ih c0 v (hc j c0 v hc0 hv)
  | _ => cases h with | imm _ _ h => exact .imm _ _ h
section
variable {hp : Hp} {ids : List Nat} {m m' : Nat → Lc} {H : HV} {hp' : Hp}
theorem gR_inv {id ver j t : Nat} (h : gR hp ids id ver = some (j, t)) : idxN ids id = some j ∧ curV hp id ver = some t := by
 unfold gR at h
 split at h
 ·rename_i j' hj
  split at h
  ·rename_i t' ht; cases h; exact ⟨hj, ht⟩
  ·cases h
 ·cases h
theorem ren_ok (hhp : ∀ (j id : Nat) (b : Box) (ver : Nat), ids[j]? = some id → hp id = some b → b.ver? = some ver → m' j = m id ∧ ∃ b', hp' j = some b' ∧ b'.ver? = some b.mark) (k : Nat) (v : AV) (u : Value) (h : RV H (Qq hp m) v u) : RV H (Qq hp' m') (ren hp ids k v) u :=
 Sm (fun id ver j t hg => by
  obtain ⟨hj, hc⟩ := gR_inv hg
  obtain ⟨b, hb, hv, ht⟩ := curV_ok hc
  obtain ⟨hm, b', hb', hv'⟩ := hhp j id b ver (ST hj) hb hv
  rw [ht] at hv'
  refine ⟨Fg hb' hv', fun l hl => ?_⟩
  rw [Dn hb' hv'] at hl
  rw [Dn hb hv, ← hm]; exact hl) k v u h
theorem Rt {all : List Nat} : ∀ {ids : List Nat} {bs : List Box}, E0 hp all ids = some bs → bs.length = ids.length ∧ ∀ (j id : Nat), ids[j]? = some id → ∃ b b', hp id = some b ∧ renB hp all b = some b' ∧ bs[j]? = some b'
 | [], bs, h => by cases h; exact ⟨rfl, fun j id hj => by simp at hj⟩
 | id0 :: r, bs, h => by
  simp only [E0] at h
  split at h
  ·rename_i b hb
   split at h
   ·rename_i b' hb'
    split at h
    ·rename_i l hl
     cases h
     obtain ⟨h1, h2⟩ := Rt hl
     refine ⟨by simp [h1], fun j id hj => ?_⟩
     cases j with
     | zero => simp at hj; subst hj; exact ⟨b, b', hb, hb', rfl⟩
     | succ j => simpa using h2 j id (by simpa using hj)
    ·cases h
   ·cases h
  ·cases h
theorem LS {b b' : Box} (h : renB hp ids b = some b') : (∃ ver cs, b = .cells ver cs ∧ b' = .cells (ver % 4096) (cs.map (ren hp ids 12))) ∨ ∃ ver sz xs, b = .own ver sz xs ∧ b' = .own 0 sz xs := by
 cases b <;> simp only [renB, Option.some.injEq, reduceCtorEq] at h
 ·exact .inl ⟨_, _, rfl, h.symm⟩
 ·exact .inr ⟨_, _, _, rfl, h.symm⟩
theorem LU {b b' : Box} (h : renB hp ids b = some b') : (∃ v, b.ver? = some v) ∧ b'.ver? = some b.mark ∧ ∀ l, Real b' l ↔ Real b l := by
 rcases LS h with ⟨v, cs, rfl, rfl⟩ | ⟨v, sz, xs, rfl, rfl⟩
 ·exact ⟨⟨v, rfl⟩, rfl, fun l => Iff.rfl⟩
 ·exact ⟨⟨v, rfl⟩, rfl, fun l => Iff.rfl⟩
end
section
variable {m : Nat → Lc} {H : HV} {B : Nat → Prop} {H0 : HV} {gl : Nat → AV} {rest : List (AV × Value)} {st : St} {tmps : Array Value} {w : World}
theorem RelH.sub {hp : Hp} {nx : Nat} {B' : Nat → Prop} {H1 : HV} (h : RelH m H B H0 gl hp nx w) {ids : List Nat} {bs : List Box} (hn : nodN ids = true) (hbs : E0 hp ids ids = some bs)
  (hold : ∀ b o, B' b → H b o = H1 b o) (hlow : ∀ b, B' b → b < w.heap.size) (hsep : ∀ (j id : Nat) (b : Box), ids[j]? = some id → hp id = some b → Real b (m id) → ¬ B' (m id).g) (hgv : GvOk gl B' w) :
  RelH (fun j => m ((ids[j]?).getD 0)) H B' H1 gl (lkb (hpOf 0 bs)) bs.length w ∧ ∀ (k : Nat) (v : AV) (u : Value), RV H (Qq hp m) v u → RV H (Qq (lkb (hpOf 0 bs)) fun j => m ((ids[j]?).getD 0)) (ren hp ids k v) u := by
 obtain ⟨hlen, hget⟩ := Rt hbs
 have hlk : ∀ j, lkb (hpOf 0 bs) j = bs[j]? := fun j => by rw [DJ]; simp
 have hinv : ∀ j b', lkb (hpOf 0 bs) j = some b' → ∃ id b, ids[j]? = some id ∧ hp id = some b ∧ renB hp ids b = some b' := fun j b' hj => by
  rw [hlk] at hj
  have hjl : j < ids.length := by rw [← hlen]; exact (List.getElem?_eq_some_iff.1 hj).1
  obtain ⟨b, b2, h1, h2, h3⟩ := hget j _ (List.getElem?_eq_getElem hjl)
  rw [hj] at h3; cases h3
  exact ⟨_, b, List.getElem?_eq_getElem hjl, h1, h2⟩
 have hm : ∀ (j id : Nat), ids[j]? = some id → m ((ids[j]?).getD 0) = m id := fun j id hj => by rw [hj]; rfl
 have hren : ∀ (k : Nat) (v : AV) (u : Value), RV H (Qq hp m) v u → RV H (Qq (lkb (hpOf 0 bs)) fun j => m ((ids[j]?).getD 0)) (ren hp ids k v) u := ren_ok fun j id b ver hj hb hv => by
  obtain ⟨b0, b', h1, h2, h3⟩ := hget j id hj
  rw [hb] at h1; cases h1
  exact ⟨hm j id hj, b', by rw [hlk]; exact h3, (LU h2).2.1⟩
 refine ⟨{ sat := h.sat, old := hold, low := hlow, fresh := fun j hj => ?_, box := fun j b' hj => ?_, sepR := fun j b' hj hr => ?_, injR := fun i j b1 b2 h1 h2 r1 r2 he => ?_, gv := hgv, gl := h.gl, ty := fun j v cs hj => ?_ }, hren⟩
 ·rw [hlk, List.getElem?_eq_none hj]
 ·obtain ⟨id, b, hj', hb, hrb⟩ := hinv j b' hj
  rw [hm j id hj']
  have hbx := h.box id b hb
  rcases LS hrb with ⟨v, cs, rfl, rfl⟩ | ⟨v, sz, xs, rfl, rfl⟩
  ·obtain ⟨C, e, c1, c2, c3, c4⟩ := hbx
   refine ⟨C, e, c1, c2, by simpa using c3, fun i c hc => ?_⟩
   rw [List.getElem?_map, Option.map_eq_some_iff] at hc
   obtain ⟨c0, hc0, rfl⟩ := hc
   obtain ⟨u, b1, b2, b3⟩ := c4 i c0 hc0
   exact ⟨u, b1, b2, hren 12 c0 u b3⟩
  ·exact hbx
 ·obtain ⟨id, b, hj', hb, hrb⟩ := hinv j b' hj
  rw [hm j id hj'] at hr ⊢
  have hr' := ((LU hrb).2.2 _).1 hr
  obtain ⟨_, y, z⟩ := h.sepR id b hb hr'
  exact ⟨hsep j id b hj' hb hr', y, z⟩
 ·obtain ⟨id1, b1', hi, hb1, hr1⟩ := hinv i b1 h1
  obtain ⟨id2, b2', hj, hb2, hr2⟩ := hinv j b2 h2
  rw [hm i id1 hi] at r1 he
  rw [hm j id2 hj] at r2 he
  have := h.injR id1 id2 b1' b2' hb1 hb2 (((LU hr1).2.2 _).1 r1) (((LU hr2).2.2 _).1 r2) he
  subst this
  exact LN hn hi hj
 ·obtain ⟨id, b, hj', hb, hrb⟩ := hinv j _ hj
  rw [hm j id hj']
  rcases LS hrb with ⟨v0, cs0, rfl, he⟩ | ⟨v0, sz, xs, rfl, he⟩
  ·cases he
   have := h.ty id _ _ hb
   unfold TyOk at this ⊢
   rw [Nat.mod_mod]; exact this
  ·cases he
theorem PN : ∀ (ks : List Nat) (f : Nat → AV) (k : Nat), lk .undef (slOf ks (ks.map f)) k = .undef ∨ lk .undef (slOf ks (ks.map f)) k = f k
 | [], f, k => .inl (Pe _ _)
 | a :: ks, f, k => by
  simp only [List.map_cons, slOf]
  rw [GV]
  by_cases h : a = k
  ·subst h; simp
  ·rw [if_neg h]; exact PN ks f k
theorem Pg {g : Nat → Nat → Option (Nat × Nat)} {k : Nat} {v : AV} (h : immA v = true) : mapR g (k + 1) v = v := by
 cases v <;> first | rfl | (cases h; done) | skip
 rename_i f cs
 have : cs = [] := by simpa [immA] using h
 subst this
 rfl
theorem pin_ren {hp : Hp} {ids : List Nat} {p : AV} (h : pinOk hp ids p = true) : ren hp ids 12 p = p := by
 unfold pinOk at h
 split at h
 ·rename_i id ver off
  split at h
  ·rename_i j hj
   split at h
   ·rename_i t ht
    rw [Bool.and_eq_true] at h
    obtain rfl := Nat.eq_of_beq_eq_true h.1
    obtain rfl := Nat.eq_of_beq_eq_true h.2
    simp only [ren, mapR, gR, hj, ht]
   ·cases h
  ·cases h
 ·rfl
 ·rename_i cs
  show AV.agg (cs.map (mapR (gR hp ids) 11)) = _
  congr 1
  have : ∀ x ∈ cs, mapR (gR hp ids) 11 x = x := fun x hx => Pg (List.all_eq_true.1 h x hx)
  exact (List.map_congr_left this).trans (List.map_id _)
 ·exact Pg h
theorem GP {pins : List AV} {ks : List Nat} {kb : List KB} {K : List AV → List Box → Prop} (h : RelS m H B H0 gl rest st tmps w) (hp : rest.map (·.1) = pins) (hw : GA pins ks kb st K) : ∃ vs bs m', K vs bs ∧ RelS m' H B H0 gl rest (ZE st.n ks vs bs) tmps w := by
 unfold GA at hw
 split at hw
 ·rename_i hc
  rw [Bool.and_eq_true] at hc
  split at hw
  ·rename_i bs hbs
   obtain ⟨h1, hren⟩ := h.heap.sub hc.1 hbs h.heap.old h.heap.low (fun j id b _ hb hr => (h.heap.sepR id b hb hr).1) h.heap.gv
   refine ⟨_, bs, _, hw, h1, h.size, fun k => ?_, fun p hp' => ?_⟩
   ·show RV H _ (lk .undef (slOf ks (ks.map fun k => ren (lkb st.hp) (GU st kb) 12 (st.get k))) k) _
    rcases PN ks (fun k => ren (lkb st.hp) (GU st kb) 12 (st.get k)) k with e | e
    ·rw [e]; exact .imm _ _ (.undef _)
    ·rw [e]; exact hren 12 _ _ (h.slot k)
   ·have hpin := List.all_eq_true.1 hc.2 p.1 (by rw [← hp]; exact List.mem_map_of_mem hp')
    have := hren 12 p.1 p.2 (h.rest p hp')
    rw [pin_ren hpin] at this
    exact this
  ·cases hw
 ·cases hw
end
end HY
end
section
namespace HY
open Go Go.RowKit
def M0 (hp : Hp) : List Nat → List Box → Nat → Option (List (Nat × Nat))
 | [], [], _ => some []
 | [], b :: bs, nx => match b.ver? with
  | some v => match M0 hp [] bs (nx + 1) with
   | some l => some ((nx, v) :: l)
   | none => none
  | none => none
 | _ :: _, [], _ => none
 | id :: ids, b :: bs, nx => match hp id with
  | some (.cells v _) => match b with
   | .cells t _ => match Nat.beq (v % 4096) t with
    | true => match M0 hp ids bs nx with
     | some l => some ((id, v) :: l)
     | none => none
    | false => none
   | _ => none
  | some (.own v _ _) => match b with
   | .own _ _ _ => match M0 hp ids bs nx with
    | some l => some ((id, v + 4096) :: l)
    | none => none
   | _ => none
  | _ => none
def gB (ps : List (Nat × Nat)) (bs : List Box) (j t : Nat) : Option (Nat × Nat) :=
 match ps[j]? with
 | some p => match bs[j]? with
  | some b => match b.ver? with
   | some v => match Nat.beq v t with
    | true => some p
    | false => none
   | none => none
  | none => none
 | none => none
def unB (g : Nat → Nat → Option (Nat × Nat)) (ver : Nat) : Box → Box
 | .cells _ cs => .cells ver (cs.map (mapR g 12))
 | .own _ sz xs => .own ver sz xs
 | b => b
def DV (g : Nat → Nat → Option (Nat × Nat)) (t : Tr Box) : List (Nat × Nat) → List Box → Tr Box
 | (id, ver) :: ps, b :: bs => pt (DV g t ps bs) id (unB g ver b)
 | _, _ => t
structure HN (hp : Hp) (ids : List Nat) (bs : List Box) (nx : Nat) (ps : List (Nat × Nat)) (j id ver : Nat) (b : Box) : Prop where
 here : (∃ v cs t cs', ids[j]? = some id ∧ hp id = some (.cells v cs) ∧ b = .cells t cs' ∧ ver = v ∧ v % 4096 = t) ∨ (∃ v sz xs v' sz' xs', ids[j]? = some id ∧ hp id = some (.own v sz xs) ∧ b = .own v' sz' xs' ∧ ver = v + 4096) ∨ (ids.length ≤ j ∧ id = nx + (j - ids.length) ∧ b.ver? = some ver)
theorem M1 {hp : Hp} : ∀ {ids : List Nat} {bs : List Box} {nx : Nat} {ps : List (Nat × Nat)}, M0 hp ids bs nx = some ps → ps.length = bs.length ∧ ids.length ≤ bs.length ∧ ∀ (j id ver : Nat) (b : Box), ps[j]? = some (id, ver) → bs[j]? = some b → HN hp ids bs nx ps j id ver b
 | [], [], nx, ps, h => by cases h; exact ⟨rfl, Nat.le_refl _, fun j id ver b hj => by simp at hj⟩
 | [], b0 :: bs, nx, ps, h => by
  simp only [M0] at h
  split at h
  ·rename_i v hv
   split at h
   ·rename_i l hl
    cases h
    obtain ⟨h1, h2, h3⟩ := M1 hl
    refine ⟨by simp [h1], by simp, fun j id ver b hj hb => ?_⟩
    cases j with
    | zero => simp at hj hb; obtain ⟨rfl, rfl⟩ := hj; subst hb; exact ⟨.inr (.inr ⟨by simp, by simp, hv⟩)⟩
    | succ j =>
     rw [List.getElem?_cons_succ] at hj hb
     rcases (h3 j id ver b hj hb).here with ⟨_, _, _, _, e, _⟩ | ⟨_, _, _, _, _, _, e, _⟩ | ⟨a1, a2, a3⟩
     ·simp at e
     ·simp at e
     ·exact ⟨.inr (.inr ⟨by simp, by simp at a2 ⊢; omega, a3⟩)⟩
   ·cases h
  ·cases h
 | _ :: _, [], nx, ps, h => by cases h
 | id0 :: ids, b0 :: bs, nx, ps, h => by
  have go : ∀ (p : Nat × Nat) (l : List (Nat × Nat)), M0 hp ids bs nx = some l → HN hp (id0 :: ids) (b0 :: bs) nx (p :: l) 0 p.1 p.2 b0 →
    (p :: l).length = (b0 :: bs).length ∧ (id0 :: ids).length ≤ (b0 :: bs).length ∧ ∀ (j id ver : Nat) (b : Box), (p :: l)[j]? = some (id, ver) → (b0 :: bs)[j]? = some b → HN hp (id0 :: ids) (b0 :: bs) nx (p :: l) j id ver b := by
   intro p l hl h0
   obtain ⟨h1, h2, h3⟩ := M1 hl
   refine ⟨by simp [h1], by simp; omega, fun j id ver b hj hb => ?_⟩
   cases j with
   | zero => simp at hj hb; subst hj; subst hb; exact h0
   | succ j =>
    rw [List.getElem?_cons_succ] at hj hb
    rcases (h3 j id ver b hj hb).here with ⟨v, cs, t, cs', e1, e2, e3, e4, e5⟩ | ⟨v, sz, xs, v', sz', xs', e1, e2, e3, e4⟩ | ⟨a1, a2, a3⟩
    ·exact ⟨.inl ⟨v, cs, t, cs', by simpa using e1, e2, e3, e4, e5⟩⟩
    ·exact ⟨.inr (.inl ⟨v, sz, xs, v', sz', xs', by simpa using e1, e2, e3, e4⟩)⟩
    ·exact ⟨.inr (.inr ⟨by simp; omega, by simp at a2 ⊢; omega, a3⟩)⟩
  simp only [M0] at h
  split at h
  ·rename_i v cs hid
   split at h
   ·rename_i t cs'
    split at h
    ·rename_i hv
     split at h
     ·rename_i l hl
      cases h
      exact go _ _ hl ⟨.inl ⟨v, cs, t, cs', rfl, hid, rfl, rfl, Nat.eq_of_beq_eq_true hv⟩⟩
     ·cases h
    ·cases h
   ·cases h
  ·rename_i v sz xs hid
   split at h
   ·rename_i v' sz' xs'
    split at h
    ·rename_i l hl
     cases h
     exact go _ _ hl ⟨.inr (.inl ⟨v, sz, xs, v', sz', xs', rfl, hid, rfl, rfl⟩)⟩
    ·cases h
   ·cases h
  ·cases h
theorem A4 {g : Nat → Nat → Option (Nat × Nat)} {t : Tr Box} : ∀ {ps : List (Nat × Nat)} {bs : List Box}, (∀ (i j id v v' : Nat), ps[i]? = some (id, v) → ps[j]? = some (id, v') → i = j) → ∀ (j id ver : Nat) (b : Box), ps[j]? = some (id, ver) → bs[j]? = some b → lkb (DV g t ps bs) id = some (unB g ver b)
 | [], _, _, j, id, ver, b, hj, _ => by simp at hj
 | _ :: _, [], _, j, id, ver, b, _, hb => by simp at hb
 | (id0, v0) :: ps, b0 :: bs, hinj, j, id, ver, b, hj, hb => by
  simp only [DV]
  rw [Zo]
  cases j with
  | zero => simp at hj hb; obtain ⟨rfl, rfl⟩ := hj; subst hb; rw [QE]
  | succ j =>
   have hne : id ≠ id0 := fun e => by
    subst e
    have := hinj 0 (j + 1) id v0 ver rfl hj
    omega
   rw [QS _ _ hne]
   exact A4 (fun i j id v v' h1 h2 => by have := hinj (i + 1) (j + 1) id v v' (by simpa using h1) (by simpa using h2); omega) j id ver b (by simpa using hj) (by simpa using hb)
theorem Tx {g : Nat → Nat → Option (Nat × Nat)} {t : Tr Box} : ∀ {ps : List (Nat × Nat)} {bs : List Box} {id : Nat}, (∀ (j v : Nat), ps[j]? ≠ some (id, v)) → lkb (DV g t ps bs) id = lkb t id
 | [], _, _, _ => by simp [DV]
 | _ :: _, [], _, _ => by simp [DV]
 | (id0, v0) :: ps, b0 :: bs, id, h => by
  simp only [DV]
  have hne : id ≠ id0 := fun e => h 0 v0 (by simp [e])
  rw [Zo, QS _ _ hne]
  exact Tx fun j v hj => h (j + 1) v (by simpa using hj)
theorem HN.ver {hp : Hp} {ids : List Nat} {bs : List Box} {nx : Nat} {ps : List (Nat × Nat)} {j id ver : Nat} {b : Box} (h : HN hp ids bs nx ps j id ver b) : ∃ v, b.ver? = some v := by
 rcases h.here with ⟨v, cs, t, cs', e1, e2, rfl, e4, e5⟩ | ⟨v, sz, xs, v', sz', xs', e1, e2, rfl, e4⟩ | ⟨a1, a2, a3⟩
 ·exact ⟨_, rfl⟩
 ·exact ⟨_, rfl⟩
 ·exact ⟨_, a3⟩
theorem CH {g : Nat → Nat → Option (Nat × Nat)} {ver v : Nat} {b : Box} (h : b.ver? = some v) : (unB g ver b).ver? = some ver ∧ ∀ l, Real (unB g ver b) l ↔ Real b l := by
 cases b <;> first | exact ⟨rfl, fun _ => Iff.rfl⟩ | cases h
def OffB (hp : Hp) (m : Nat → Lc) (ids : List Nat) (w : World) (k : Nat) : Prop := k < w.heap.size ∧ ∀ (j id : Nat) (b : Box), ids[j]? = some id → hp id = some b → Real b (m id) → (m id).g ≠ k
section
variable {m : Nat → Lc} {H : HV} {B : Nat → Prop} {H0 : HV} {gl : Nat → AV} {t : Tr Box} {nx : Nat} {w : World}
theorem RelH.offB (h : RelH m H B H0 gl (lkb t) nx w) (ids : List Nat) : ∀ k, B k → OffB (lkb t) m ids w k := fun k hk => ⟨h.low k hk, fun _ id b _ hb hr e => (h.sepR id b hb hr).1 (e ▸ hk)⟩
theorem back_ok (h : RelH m H B H0 gl (lkb t) nx w) {ids : List Nat} {bs' : List Box} {ps : List (Nat × Nat)} (hn : nodN ids = true) (hps : M0 (lkb t) ids bs' nx = some ps) {m' : Nat → Lc} {H' : HV} {w' : World}
  (hH : RelH m' H' (OffB (lkb t) m ids w) H gl (lkb (hpOf 0 bs')) bs'.length w') (hb : Qv (OffB (lkb t) m ids w) w w') (hpin : ∀ (j id v : Nat) (cs : List AV), ids[j]? = some id → lkb t id = some (.cells v cs) → m' j = m id) :
  ∃ M, RelH M H' B H0 gl (lkb (DV (gB ps bs') t ps bs')) (nx + (bs'.length - ids.length)) w' ∧ Env.le (Qq (lkb t) m) (Qq (lkb (DV (gB ps bs') t ps bs')) M) ∧ HV.le H H' ∧
   (∀ v u, RV H' (Qq (lkb (hpOf 0 bs')) m') v u → RV H' (Qq (lkb (DV (gB ps bs') t ps bs')) M) (mapR (gB ps bs') 12 v) u) ∧ Qv B w w' := by
 classical
 obtain ⟨hlen, hle, hspec⟩ := M1 hps
 have hlk : ∀ j, lkb (hpOf 0 bs') j = bs'[j]? := fun j => by rw [DJ]; simp
 have hget : ∀ (j id ver : Nat), ps[j]? = some (id, ver) → ∃ b, bs'[j]? = some b ∧ HN (lkb t) ids bs' nx ps j id ver b := fun j id ver hj => by
  have hjl : j < bs'.length := by rw [← hlen]; exact (List.getElem?_eq_some_iff.1 hj).1
  exact ⟨_, List.getElem?_eq_getElem hjl, hspec j id ver _ hj (List.getElem?_eq_getElem hjl)⟩
 have hlt : ∀ id b, lkb t id = some b → id < nx := fun id b hb => by
  rcases Nat.lt_or_ge id nx with hlt | hge
  ·exact hlt
  ·have := h.fresh id hge; rw [this] at hb; cases hb
 have hcase : ∀ (j id ver : Nat), ps[j]? = some (id, ver) → (ids[j]? = some id ∧ id < nx) ∨ (ids.length ≤ j ∧ id = nx + (j - ids.length)) := fun j id ver hj => by
  obtain ⟨b, _, hs⟩ := hget j id ver hj
  rcases hs.here with ⟨v, cs, t, cs', e1, e2, _⟩ | ⟨v, sz, xs, v', sz', xs', e1, e2, _⟩ | ⟨a1, a2, _⟩
  ·exact .inl ⟨e1, hlt _ _ e2⟩
  ·exact .inl ⟨e1, hlt _ _ e2⟩
  ·exact .inr ⟨a1, a2⟩
 have hinj : ∀ (i j id v v' : Nat), ps[i]? = some (id, v) → ps[j]? = some (id, v') → i = j := fun i j id v v' hi hj => by
  rcases hcase i id v hi with ⟨a1, a2⟩ | ⟨a1, a2⟩ <;> rcases hcase j id v' hj with ⟨b1, b2⟩ | ⟨b1, b2⟩
  ·exact LN hn a1 b1
  ·omega
  ·omega
  ·omega
 have hM : ∃ M : Nat → Lc, (∀ (j id ver : Nat), ps[j]? = some (id, ver) → M id = m' j) ∧ ∀ (id : Nat), (∀ (j v : Nat), ps[j]? ≠ some (id, v)) → M id = m id := by
  refine ⟨fun id => if hx : ∃ (j v : Nat), ps[j]? = some (id, v) then m' hx.choose else m id, fun j id ver hj => ?_, fun id hno => ?_⟩
  ·have hx : ∃ (j v : Nat), ps[j]? = some (id, v) := ⟨j, ver, hj⟩
   obtain ⟨v, hv⟩ := hx.choose_spec
   show (if hx : ∃ (j v : Nat), ps[j]? = some (id, v) then m' hx.choose else m id) = m' j
   rw [dif_pos hx, hinj _ j id v ver hv hj]
  ·show (if hx : ∃ (j v : Nat), ps[j]? = some (id, v) then m' hx.choose else m id) = m id
   rw [dif_neg]
   rintro ⟨j, v, hj⟩
   exact hno j v hj
 obtain ⟨M, hM1, hM2⟩ := hM
 have hin : ∀ (j id : Nat), ids[j]? = some id → ∃ ver, ps[j]? = some (id, ver) := fun j id hj => by
  have hjl := (List.getElem?_eq_some_iff.1 hj).1
  have hjp : j < ps.length := by omega
  have hp := List.getElem?_eq_getElem hjp
  rcases hcase j ps[j].1 ps[j].2 hp with ⟨a1, _⟩ | ⟨a1, _⟩
  ·rw [hj] at a1; cases a1; exact ⟨_, hp⟩
  ·omega
 generalize hT : DV (gB ps bs') t ps bs' = T
 have hat : ∀ (j id ver : Nat) (b : Box), ps[j]? = some (id, ver) → bs'[j]? = some b → lkb T id = some (unB (gB ps bs') ver b) := fun j id ver b hj hb => by subst hT; exact A4 hinj j id ver b hj hb
 have hoff : ∀ (id : Nat), (∀ (j v : Nat), ps[j]? ≠ some (id, v)) → lkb T id = lkb t id := fun id hno => by subst hT; exact Tx hno
 have hBB := h.offB ids
 have hoffB : ∀ id b, lkb t id = some b → Real b (m id) → (∀ (j v : Nat), ps[j]? ≠ some (id, v)) → OffB (lkb t) m ids w (m id).g := fun id b hb hr hno => ⟨(h.sepR id b hb hr).2.1, fun j id2 b2 hj hb2 hr2 e => by
  have := h.injR id2 id b2 b hb2 hb hr2 hr e
  subst this
  obtain ⟨ver, hv⟩ := hin j id2 hj
  exact hno j ver hv⟩
 have hHle : HV.le H H' := fun b o v hv => by
  rw [hH.old b o ⟨Gx h.sat hv, fun j id bx _ hb hr e => by
   have := (h.sepR id bx hb hr).2.2 o
   rw [e, hv] at this; cases this⟩]
  exact hv
 have hE : Env.le (Qq (lkb t) m) (Qq (lkb T) M) := by
  refine ⟨fun id ver ⟨b, h1, h2⟩ => ?_, fun id ver l ⟨b, h1, h2⟩ hl => ?_, fun id l hl => ?_⟩
  ·by_cases hx : ∃ (j v : Nat), ps[j]? = some (id, v)
   ·obtain ⟨j, v, hj⟩ := hx
    obtain ⟨b', hb', hs⟩ := hget j id v hj
    obtain ⟨v0, hv0⟩ := hs.ver
    refine ⟨_, hat j id v b' hj hb', fun v1 hv1 => ?_⟩
    rw [(CH hv0).1] at hv1; cases hv1
    rcases hs.here with ⟨v2, cs, t2, cs', e1, e2, _, e4, _⟩ | ⟨v2, sz, xs, v', sz', xs', e1, e2, _, e4⟩ | ⟨a1, a2, _⟩
    ·rw [h1] at e2; cases e2; rw [e4]; exact h2 _ rfl
    ·rw [h1] at e2; cases e2; rw [e4]; exact Nat.le_trans (h2 _ rfl) (Nat.le_add_right _ _)
    ·have := hlt _ _ h1; omega
   ·have hno : ∀ (j v : Nat), ps[j]? ≠ some (id, v) := fun j v hj => hx ⟨j, v, hj⟩
    exact ⟨b, by rw [hoff id hno]; exact h1, h2⟩
  ·by_cases hx : ∃ (j v : Nat), ps[j]? = some (id, v)
   ·obtain ⟨j, v, hj⟩ := hx
    obtain ⟨b', hb', hs⟩ := hget j id v hj
    obtain ⟨v0, hv0⟩ := hs.ver
    have hnew := hat j id v b' hj hb'
    simp only [Qq, hnew, (CH hv0).1] at hl
    split at hl
    ·rename_i hv
     subst hv
     rcases hs.here with ⟨v2, cs, t2, cs', e1, e2, _, e4, _⟩ | ⟨v2, sz, xs, v', sz', xs', e1, e2, _, e4⟩ | ⟨a1, a2, _⟩
     ·cases hl
      rw [hM1 j id _ hj, hpin j id v2 cs e1 e2, e4]
      exact Dn e2 rfl
     ·rw [h1] at e2; cases e2
      have := h2 _ rfl
      omega
     ·have := hlt _ _ h1; omega
    ·cases hl
   ·have hno : ∀ (j v : Nat), ps[j]? ≠ some (id, v) := fun j v hj => hx ⟨j, v, hj⟩
    simp only [Qq, hoff id hno, hM2 id hno] at hl ⊢
    exact hl
  ·by_cases hx : ∃ (j v : Nat), ps[j]? = some (id, v)
   ·obtain ⟨j, v, hj⟩ := hx
    obtain ⟨b', hb', hs⟩ := hget j id v hj
    rcases hs.here with ⟨v2, cs, t2, cs', e1, e2, _, e4, _⟩ | ⟨v2, sz, xs, v', sz', xs', e1, e2, _, e4⟩ | ⟨a1, a2, _⟩
    ·simp only [Qq, e2] at hl; cases hl
    ·simp only [Qq, e2] at hl; cases hl
    ·have := h.fresh id (by omega)
     simp only [Qq, this] at hl; cases hl
   ·have hno : ∀ (j v : Nat), ps[j]? ≠ some (id, v) := fun j v hj => hx ⟨j, v, hj⟩
    simp only [Qq, hoff id hno, hM2 id hno] at hl ⊢
    exact hl
 have hren : ∀ (v : AV) (u : Value), RV H' (Qq (lkb (hpOf 0 bs')) m') v u → RV H' (Qq (lkb T) M) (mapR (gB ps bs') 12 v) u := fun v u hv => by
  refine Sm (fun j tv id ver hg => ?_) 12 v u hv
  unfold gB at hg
  split at hg
  ·rename_i p hp
   split at hg
   ·rename_i b hb
    split at hg
    ·rename_i v0 hv0
     split at hg
     ·rename_i hbq
      cases hg
      obtain rfl := Nat.eq_of_beq_eq_true hbq
      have hnew := hat j id ver b hp hb
      refine ⟨Fg hnew (CH hv0).1, fun l hl => ?_⟩
      rw [Dn hnew (CH hv0).1, hM1 j id ver hp] at hl
      rw [Dn (by rw [hlk]; exact hb) hv0]; exact hl
     ·cases hg
    ·cases hg
   ·cases hg
  ·cases hg
 refine ⟨M, { sat := hH.sat, old := fun b o hB => ?_, low := fun b hB => Nat.lt_of_lt_of_le (h.low b hB) hb.size, fresh := fun id hid => ?_, box := fun id b hid => ?_, sepR := fun id b hid hr => ?_, injR := fun i j b1 b2 h1 h2 r1 r2 he => ?_, gv := h.gv.mono fun k hk => hb.block k (hBB k hk), gl := hH.gl, ty := fun id v cs hid => ?_ }, hE, hHle, hren, hb.mono hBB⟩
 ·rw [hH.old b o (hBB b hB)]; exact h.old b o hB
 ·rw [hoff id fun j v hj => ?_]
  ·exact h.fresh id (by omega)
  ·have hjl : j < bs'.length := by rw [← hlen]; exact (List.getElem?_eq_some_iff.1 hj).1
   rcases hcase j id v hj with ⟨_, a2⟩ | ⟨a1, a2⟩ <;> omega
 ·by_cases hx : ∃ (j v : Nat), ps[j]? = some (id, v)
  ·obtain ⟨j, v, hj⟩ := hx
   obtain ⟨b', hb', hs⟩ := hget j id v hj
   obtain ⟨v0, hv0⟩ := hs.ver
   rw [hat j id v b' hj hb'] at hid
   cases hid
   rw [hM1 j id v hj]
   have hbx := hH.box j b' (by rw [hlk]; exact hb')
   cases b' with
   | cells v2 cs =>
    obtain ⟨C, e, c1, c2, c3, c4⟩ := hbx
    refine ⟨C, e, c1, c2, by simpa using c3, fun i c hc => ?_⟩
    rw [List.getElem?_map, Option.map_eq_some_iff] at hc
    obtain ⟨c0, hc0, rfl⟩ := hc
    obtain ⟨u, b1, b2, b3⟩ := c4 i c0 hc0
    exact ⟨u, b1, b2, hren c0 u b3⟩
   | own v2 sz xs => exact hbx
   | _ => cases hv0
  ·have hno : ∀ (j v : Nat), ps[j]? ≠ some (id, v) := fun j v hj => hx ⟨j, v, hj⟩
   rw [hoff id hno] at hid
   rw [hM2 id hno]
   exact (h.box id b hid).mono' hHle hE fun hr => hb.block _ (hoffB id b hid hr hno)
 ·by_cases hx : ∃ (j v : Nat), ps[j]? = some (id, v)
  ·obtain ⟨j, v, hj⟩ := hx
   obtain ⟨b', hb', hs⟩ := hget j id v hj
   obtain ⟨v0, hv0⟩ := hs.ver
   rw [hat j id v b' hj hb'] at hid
   cases hid
   rw [hM1 j id v hj] at hr ⊢
   obtain ⟨x, y, z⟩ := hH.sepR j b' (by rw [hlk]; exact hb') (((CH hv0).2 _).1 hr)
   exact ⟨fun hB => x (hBB _ hB), y, z⟩
  ·have hno : ∀ (j v : Nat), ps[j]? ≠ some (id, v) := fun j v hj => hx ⟨j, v, hj⟩
   rw [hoff id hno] at hid
   rw [hM2 id hno] at hr ⊢
   obtain ⟨x, y, z⟩ := h.sepR id b hid hr
   exact ⟨x, Nat.lt_of_lt_of_le y hb.size, fun o => by rw [hH.old _ o (hoffB id b hid hr hno)]; exact z o⟩
 ·by_cases hx : ∃ (k v : Nat), ps[k]? = some (i, v) <;> by_cases hy : ∃ (k v : Nat), ps[k]? = some (j, v)
  ·obtain ⟨k1, v1, hk1⟩ := hx
   obtain ⟨k2, v2, hk2⟩ := hy
   obtain ⟨c1, hc1, hs1⟩ := hget k1 i v1 hk1
   obtain ⟨c2, hc2, hs2⟩ := hget k2 j v2 hk2
   obtain ⟨u1, hu1⟩ := hs1.ver
   obtain ⟨u2, hu2⟩ := hs2.ver
   rw [hat k1 i v1 c1 hk1 hc1] at h1
   rw [hat k2 j v2 c2 hk2 hc2] at h2
   cases h1; cases h2
   rw [hM1 k1 i v1 hk1] at r1 he
   rw [hM1 k2 j v2 hk2] at r2 he
   have := hH.injR k1 k2 c1 c2 (by rw [hlk]; exact hc1) (by rw [hlk]; exact hc2) (((CH hu1).2 _).1 r1) (((CH hu2).2 _).1 r2) he
   subst this
   rw [hk1] at hk2; cases hk2; rfl
  ·obtain ⟨k1, v1, hk1⟩ := hx
   obtain ⟨c1, hc1, hs1⟩ := hget k1 i v1 hk1
   obtain ⟨u1, hu1⟩ := hs1.ver
   have hno : ∀ (k v : Nat), ps[k]? ≠ some (j, v) := fun k v hk => hy ⟨k, v, hk⟩
   rw [hat k1 i v1 c1 hk1 hc1] at h1
   rw [hoff j hno] at h2
   cases h1
   rw [hM1 k1 i v1 hk1] at r1 he
   rw [hM2 j hno] at r2 he
   exact absurd (by rw [he]; exact hoffB j b2 h2 r2 hno) (hH.sepR k1 c1 (by rw [hlk]; exact hc1) (((CH hu1).2 _).1 r1)).1
  ·obtain ⟨k2, v2, hk2⟩ := hy
   obtain ⟨c2, hc2, hs2⟩ := hget k2 j v2 hk2
   obtain ⟨u2, hu2⟩ := hs2.ver
   have hno : ∀ (k v : Nat), ps[k]? ≠ some (i, v) := fun k v hk => hx ⟨k, v, hk⟩
   rw [hat k2 j v2 c2 hk2 hc2] at h2
   rw [hoff i hno] at h1
   cases h2
   rw [hM1 k2 j v2 hk2] at r2 he
   rw [hM2 i hno] at r1 he
   exact absurd (by rw [← he]; exact hoffB i b1 h1 r1 hno) (hH.sepR k2 c2 (by rw [hlk]; exact hc2) (((CH hu2).2 _).1 r2)).1
  ·have hno1 : ∀ (k v : Nat), ps[k]? ≠ some (i, v) := fun k v hk => hx ⟨k, v, hk⟩
   have hno2 : ∀ (k v : Nat), ps[k]? ≠ some (j, v) := fun k v hk => hy ⟨k, v, hk⟩
   rw [hoff i hno1] at h1
   rw [hoff j hno2] at h2
   rw [hM2 i hno1] at r1 he
   rw [hM2 j hno2] at r2 he
   exact h.injR i j b1 b2 h1 h2 r1 r2 he
 ·by_cases hx : ∃ (j v : Nat), ps[j]? = some (id, v)
  ·obtain ⟨j, v1, hj⟩ := hx
   obtain ⟨b', hb', hs⟩ := hget j id v1 hj
   rw [hat j id v1 b' hj hb'] at hid
   rw [hM1 j id v1 hj]
   rcases hs.here with ⟨v2, cs2, t2, cs', e1, e2, rfl, e4, e5⟩ | ⟨v2, sz, xs, v', sz', xs', e1, e2, rfl, e4⟩ | ⟨a1, a2, a3⟩
   ·simp only [unB, Option.some.injEq, Box.cells.injEq] at hid
    obtain ⟨rfl, _⟩ := hid
    have := hH.ty j t2 cs' (by rw [hlk]; exact hb')
    unfold TyOk at this ⊢
    rw [e4, e5]
    rw [← e5, Nat.mod_mod, e5] at this
    exact this
   ·simp only [unB, Option.some.injEq, reduceCtorEq] at hid
   ·cases b' with
    | cells v3 cs3 =>
     cases a3
     simp only [unB, Option.some.injEq, Box.cells.injEq] at hid
     obtain ⟨rfl, _⟩ := hid
     exact hH.ty j _ cs3 (by rw [hlk]; exact hb')
    | own => simp only [unB, Option.some.injEq, reduceCtorEq] at hid
    | _ => cases a3
  ·have hno : ∀ (j v : Nat), ps[j]? ≠ some (id, v) := fun j v hj => hx ⟨j, v, hj⟩
   rw [hoff id hno] at hid
   rw [hM2 id hno]
   exact (h.ty id v cs hid).mono (hb.block _ (hoffB id _ hid trivial hno))
end
end HY
end
section
namespace HY
open Go Go.RowKit
def WP (o : Oper) (gv : Option AV) : Option Bool :=
 match o.guard with
 | none => some true
 | some (_, want) => match gv with
  | some x => MU x want
  | none => none
theorem Lh {P : Program} {ch : Yz} {md : Bool} {F : Zp} {all : List Oper} {bid : Nat} {o : Oper} {gv : Option AV} {ev : Operand → AV} {hp : Hp} : CI P ch md F all bid o gv ev hp = match WP o gv with | some true => xoF P ch md F all bid o ev hp | some false => some (.tup [], none) | none => none := by
 unfold CI WP
 cases o.guard with
 | none => rfl
 | some x =>
  cases gv with
  | none => rfl
  | some y => first | (simp only; done) | (simp only; cases MU y x.2 with | none => rfl | some b => cases b <;> rfl)
def NJ (f : AV → (AV → Prop) → Prop) : List AV → (List AV → Prop) → Prop
 | [], K => K []
 | x :: xs, K => f x (fun y => NJ f xs (fun ys => K (y :: ys)))
def WX (hp : Hp) : Nat → AV → (AV → Prop) → Prop
 | 0, _, _ => False
 | k + 1, x, K => match x with
  | .bs id ver sz off len => match hp id with
   | some (.cells v cs) => match Nat.beq v ver && (Nat.ble (off + len * sz) cs.length && Nat.blt 0 sz) with
    | true => NJ (WX hp k) ((cs.drop off).take (len * sz)) (fun ds => K (.sl sz (DH sz len ds)))
    | false => False
   | _ => False
  | .ow id ver sz len => match hp id with
   | some (.own v z xs) => match Nat.beq v ver && Nat.beq z sz with
    | true => len = xs.length ∧ K (.sl sz xs)
    | false => False
   | _ => False
  | .agg cs => NJ (WX hp k) cs (fun ds => K (.agg ds))
  | .tup cs => NJ (WX hp k) cs (fun ds => K (.tup ds))
  | .fn f cs => NJ (WX hp k) cs (fun ds => K (.fn f ds))
  | .ptr id ver off => match hp id with
   | some (.cells v cs) => match Nat.beq v ver && Nat.blt 0 cs.length with
    | true => NJ (WX hp k) cs (fun ds => K (.ip cs.length [.agg ds] 0 off))
    | false => False
   | _ => False
  | .oe .. => False
  | .yld _ => False
  | x => K x
theorem Co {R : AV → Value → Prop} {R' : AV → Value → Prop} {f : AV → (AV → Prop) → Prop} (hf : ∀ x u K, R x u → f x K → ∃ t, K t ∧ R' t u) : ∀ (cs : List AV) (us : List Value) (K : List AV → Prop), cs.length ≤ us.length → (∀ (j : Nat) (c : AV) (u : Value), cs[j]? = some c → us[j]? = some u → R c u) → NJ f cs K →
  ∃ ds, K ds ∧ ds.length = cs.length ∧ ∀ (j : Nat) (d : AV) (u : Value), ds[j]? = some d → us[j]? = some u → R' d u
 | [], us, K, _, _, h => ⟨[], h, rfl, fun j d u hj => by simp at hj⟩
 | c :: cs, [], K, hl, _, _ => by simp at hl
 | c :: cs, u :: us, K, hl, hr, h => by
  obtain ⟨t, ht, hR⟩ := hf c u _ (hr 0 c u rfl rfl) h
  obtain ⟨ds, hK, hlen, hds⟩ := Co hf cs us _ (by simpa using hl) (fun j c' u' h1 h2 => hr (j + 1) c' u' (by simpa using h1) (by simpa using h2)) ht
  refine ⟨t :: ds, hK, by simp [hlen], fun j d u' h1 h2 => ?_⟩
  cases j with
  | zero => simp at h1 h2; subst h1; subst h2; exact hR
  | succ j => exact hds j d u' (by simpa using h1) (by simpa using h2)
theorem bs_tree {K : HV} {E : Env} {H : HV} {w : World} {id ver sz off len : Nat} {cs ds : List AV} {l : Lc} {v : Value} (hx : RV H E (.bs id ver sz off len) v) (hE : E.loc id ver = some l) (hbox : Vd H E cs l w) (hle : off + len * sz ≤ cs.length) (hpos : 0 < sz) (hdl : ds.length = len * sz)
  (hget : ∀ (j : Nat) (d : AV) (u : Value), ds[j]? = some d → w.cell? ⟨l.g, l.base + (off + j), none⟩ = some u → RelI K d u) (hK : ∀ o, K l.g o = w.cell? ⟨l.g, o, none⟩) : RelI K (.sl sz (DH sz len ds)) v := by
 obtain ⟨a, cap, rfl, _, hlc, hcm, hloc⟩ := hx.bs_inv
 obtain ⟨rfl, hfit⟩ := hloc _ hE
 obtain ⟨C, e, hC, hsC, hle2, hcs⟩ := hbox
 have hcl : (DH sz len ds).length = len := by simp [DH]
 have hel : ∀ (i : Nat) (x : AV), (DH sz len ds)[i]? = some x → i < len ∧ x = .agg ((ds.drop (i * sz)).take sz) := fun i x hx => by
  have hi : i < len := by rw [← hcl]; exact (List.getElem?_eq_some_iff.1 hx).1
  simp [DH, hi] at hx
  exact ⟨hi, hx.symm⟩
 have hmul : ∀ i, i < len → i * sz + sz ≤ len * sz := fun i hi => by
  have : (i + 1) * sz ≤ len * sz := Nat.mul_le_mul_right _ hi
  rw [Nat.add_mul] at this; omega
 have hcell : ∀ (i : Nat) (x : AV) (j : Nat) (c : AV), (DH sz len ds)[i]? = some x → x.cells[j]? = some c → i < len ∧ j < sz ∧ ds[i * sz + j]? = some c := fun i x j c hx hj => by
  obtain ⟨hi, rfl⟩ := hel i x hx
  simp only [AV.cells] at hj
  have hjl : j < sz := by have := (List.getElem?_eq_some_iff.1 hj).1; simp at this; omega
  rw [List.getElem?_take, if_pos hjl, List.getElem?_drop] at hj
  exact ⟨hi, hjl, hj⟩
 have hreal : ∀ (n : Nat) (c : AV), ds[n]? = some c → ∃ u, C[l.base + off + n]? = some u ∧ u.oneCell' = true ∧ RelI K c u := fun n c hn => by
  have hnl : n < len * sz := by rw [← hdl]; exact (List.getElem?_eq_some_iff.1 hn).1
  have hcn : cs[off + n]? = some (cs[off + n]'(by omega)) := List.getElem?_eq_getElem (by omega)
  obtain ⟨u, a1, a2, a3⟩ := hcs _ _ hcn
  exact ⟨u, by rw [Nat.add_assoc]; exact a1, a2, hget n c u hn (by rw [Ye _ _ _ _ _ _ hC]; exact a1)⟩
 have := RelI.sl (H := K) sz (DH sz len ds) l.g (l.base + off) cap (fun i j => (C[l.base + off + (i * sz + j)]?).getD Go.undef) hpos (by rw [hcl]; exact hlc) hcm
  (fun i x hx => by
   obtain ⟨hi, rfl⟩ := hel i x hx
   have := hmul i hi
   simp [AV.cells]; omega)
  (fun i x j c hx hj => by
   obtain ⟨hi, hjl, hn⟩ := hcell i x j c hx hj
   obtain ⟨u, a1, a2, a3⟩ := hreal _ c hn
   rw [a1]
   refine ⟨?_, a2⟩
   rw [hK, Ye _ _ _ _ _ _ hC, Nat.add_assoc, a1]
   rfl)
  (fun i x j c hx hj => by
   obtain ⟨hi, hjl, hn⟩ := hcell i x j c hx hj
   obtain ⟨u, a1, a2, a3⟩ := hreal _ c hn
   rw [a1]; exact a3)
 rw [hcl] at this
 exact this
theorem I4 {H : HV} {hp : Hp} {m : Nat → Lc} {w : World} (hbox : ∀ id b, hp id = some b → Vs H (Qq hp m) b (m id) w) (hd : ∀ id bx, hp id = some bx → Real bx (m id) → ∀ o, H (m id).g o = none) : ∀ (k : Nat) (x : AV) (v : Value) (K : AV → Prop), RV H (Qq hp m) x v → WX hp k x K → ∃ t, K t ∧ RelI (snap H hp m w) t v
 | 0, x, v, K, _, h => h.elim
 | k + 1, x, v, K, hx, h => by
  have ih := I4 hbox hd k
  have hle : HV.le H (snap H hp m w) := Lv hd
  have hsn : ∀ id b ver, hp id = some b → b.ver? = some ver → Real b (m id) → ∀ o, snap H hp m w (m id).g o = w.cell? ⟨(m id).g, o, none⟩ := fun id b ver hid hv hr o => by
   unfold snap; rw [if_pos ⟨id, b, ver, hid, hv, hr, rfl⟩]
  unfold WX at h
  split at h
  ·rename_i id ver sz off len
   split at h
   ·rename_i v' cs hid
    split at h
    ·rename_i hc
     simp only [Bool.and_eq_true] at hc
     obtain rfl := Nat.eq_of_beq_eq_true hc.1
     have hle' := Nat.le_of_ble_eq_true hc.2.1
     have hpos : 0 < sz := Nat.le_of_ble_eq_true hc.2.2
     have hb := hbox id _ hid
     obtain ⟨C, e, hC, hsC, hle2, hcs⟩ := hb
     obtain ⟨ds, hK, hdl, hds⟩ := Co (R := RV H (Qq hp m)) (R' := RelI (snap H hp m w)) ih ((cs.drop off).take (len * sz)) ((List.range (len * sz)).map fun j => (C[(m id).base + (off + j)]?).getD Go.undef) _ (by simp; omega) (fun j c u hc hu => by
      have hjl : j < len * sz := by have := (List.getElem?_eq_some_iff.1 hu).1; simpa using this
      rw [List.getElem?_take, if_pos hjl, List.getElem?_drop] at hc
      obtain ⟨u', a1, _, a3⟩ := hcs _ c hc
      simp [hjl, a1] at hu
      subst hu; exact a3) h
     have hdl' : ds.length = len * sz := by rw [hdl]; simp; omega
     refine ⟨_, hK, bs_tree hx (Dn hid rfl) ⟨C, e, hC, hsC, hle2, hcs⟩ hle' hpos hdl' (fun j d u hj hu => ?_) (hsn id _ _ hid rfl trivial)⟩
     have hjl : j < len * sz := by rw [← hdl']; exact (List.getElem?_eq_some_iff.1 hj).1
     rw [Ye _ _ _ _ _ _ hC] at hu
     exact hds j d u hj (by simp [hjl, hu])
    ·cases h
   ·cases h
  ·rename_i id ver sz len
   split at h
   ·rename_i v' z xs hid
    split at h
    ·rename_i hc
     rw [Bool.and_eq_true] at hc
     obtain rfl := Nat.eq_of_beq_eq_true hc.1
     obtain rfl := Nat.eq_of_beq_eq_true hc.2
     obtain ⟨hl, hK⟩ := h
     exact ⟨_, hK, Po (w := w) hx (Dn hid rfl) (hbox id _ hid) hl hle fun h0 o => hsn id _ _ hid rfl h0 o⟩
    ·cases h
   ·cases h
  ·rename_i cs
   obtain ⟨vs, rfl, h1, h2, h3⟩ := hx.agg_inv
   obtain ⟨ds, hK, hdl, hds⟩ := Co (R := RV H (Qq hp m)) (R' := RelI (snap H hp m w)) ih cs vs.toList _ (by simp [h1]) (fun j c u hc hu => h3 j c u hc (by simpa using hu)) h
   exact ⟨_, hK, .agg ds vs (by rw [hdl]; exact h1) h2 fun j c u hj hu => hds j c u hj (by simpa using hu)⟩
  ·rename_i cs
   obtain ⟨vs, rfl, h1, h3⟩ := hx.tup_inv
   obtain ⟨ds, hK, hdl, hds⟩ := Co (R := RV H (Qq hp m)) (R' := RelI (snap H hp m w)) ih cs vs.toList _ (by simp [h1]) (fun j c u hc hu => h3 j c u hc (by simpa using hu)) h
   exact ⟨_, hK, .tup ds vs (by rw [hdl]; exact h1) fun j c u hj hu => hds j c u hj (by simpa using hu)⟩
  ·rename_i f cs
   obtain ⟨vs, rfl, h1, h3⟩ := hx.fn_inv
   obtain ⟨ds, hK, hdl, hds⟩ := Co (R := RV H (Qq hp m)) (R' := RelI (snap H hp m w)) ih cs vs.toList _ (by simp [h1]) (fun j c u hc hu => h3 j c u hc (by simpa using hu)) h
   exact ⟨_, hK, .fn f ds vs (by rw [hdl]; exact h1) fun j c u hj hu => hds j c u hj (by simpa using hu)⟩
  ·rename_i id ver off
   split at h
   ·rename_i v' cs hid
    split at h
    ·rename_i hc
     simp only [Bool.and_eq_true] at hc
     obtain rfl := Nat.eq_of_beq_eq_true hc.1
     have hpos : 0 < cs.length := Nat.le_of_ble_eq_true hc.2
     obtain ⟨C, e, hC, hsC, hle2, hcs⟩ := hbox id _ hid
     obtain ⟨ds, hK, hdl, hds⟩ := Co (R := RV H (Qq hp m)) (R' := RelI (snap H hp m w)) ih cs ((List.range cs.length).map fun j => (C[(m id).base + j]?).getD Go.undef) _ (by simp) (fun j c u hc hu => by
      have hjl : j < cs.length := by have := (List.getElem?_eq_some_iff.1 hu).1; simpa using this
      obtain ⟨u', a1, _, a3⟩ := hcs _ c hc
      simp [hjl, a1] at hu
      subst hu; exact a3) h
     obtain ⟨a, rfl, _, hloc⟩ := hx.ptr_inv
     obtain rfl := hloc _ (Dn hid rfl)
     have hone : ∀ (i : Nat) (x : AV), [AV.agg ds][i]? = some x → i = 0 ∧ x = .agg ds := fun i x hx => by
      cases i with
      | zero => simp at hx; exact ⟨rfl, hx.symm⟩
      | succ i => simp at hx
     have hcell : ∀ (i : Nat) (x : AV) (j : Nat) (c : AV), [AV.agg ds][i]? = some x → x.cells[j]? = some c → i = 0 ∧ j < cs.length ∧ ds[j]? = some c := fun i x j c hx hj => by
      obtain ⟨rfl, rfl⟩ := hone i x hx
      exact ⟨rfl, by rw [← hdl]; exact (List.getElem?_eq_some_iff.1 hj).1, hj⟩
     have hreal : ∀ (j : Nat) (c : AV), j < cs.length → ds[j]? = some c → ∃ u, C[(m id).base + j]? = some u ∧ u.oneCell' = true ∧ RelI (snap H hp m w) c u := fun j c hj hc => by
      obtain ⟨u, a1, a2, _⟩ := hcs j _ (List.getElem?_eq_getElem hj)
      exact ⟨u, a1, a2, hds j c u hc (by simp [hj, a1])⟩
     have := RelI.ip (H := snap H hp m w) cs.length [.agg ds] (m id).g (m id).base 0 off (fun _ j => (C[(m id).base + j]?).getD Go.undef) hpos (by simp)
      (fun i x hx => by obtain ⟨_, rfl⟩ := hone i x hx; exact hdl)
      (fun i x j c hx hj => by
       obtain ⟨rfl, hjl, hn⟩ := hcell i x j c hx hj
       obtain ⟨u, a1, a2, a3⟩ := hreal j c hjl hn
       rw [a1]
       refine ⟨?_, a2⟩
       rw [hsn id _ _ hid rfl trivial, Ye _ _ _ _ _ _ hC, Nat.zero_mul, Nat.add_zero, a1]
       rfl)
      (fun i x j c hx hj => by
       obtain ⟨rfl, hjl, hn⟩ := hcell i x j c hx hj
       obtain ⟨u, a1, a2, a3⟩ := hreal j c hjl hn
       rw [a1]; exact a3)
     rw [Nat.zero_mul, Nat.add_zero] at this
     exact ⟨_, hK, this⟩
    ·cases h
   ·cases h
  ·cases h
  ·cases h
  ·rename_i x n1 n2 n3 n4 n5 n6 n7 n8
   refine ⟨_, h, ?_⟩
   cases hx with
   | imm _ _ hx => exact hx.mono hle
   | ptr => exact absurd rfl (n6 _ _ _)
   | bs => exact absurd rfl (n1 _ _ _ _ _)
   | ow => exact absurd rfl (n2 _ _ _ _)
   | oe => exact absurd rfl (n7 _ _ _ _ _)
   | yld => exact absurd rfl (n8 _)
   | fn => exact absurd rfl (n5 _ _)
   | agg => exact absurd rfl (n3 _)
   | tup => exact absurd rfl (n4 _)
end HY
end
