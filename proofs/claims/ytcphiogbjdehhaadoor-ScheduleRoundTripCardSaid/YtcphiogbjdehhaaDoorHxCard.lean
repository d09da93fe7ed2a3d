/- The frame of a law: its contract on trees, laid tables, the world's shape. -/
import Derived.Test.YtcphiogbjdehhaaDoorHxLib
import Derived.Test.YtcphiogbjdehhaaDoorHxClose
import Derived.WalkKit
import Derived.ProofKit
import Derived.Handy
import Derived.Lay
import Derived.SevenTiedAt
import Derived.HandedShaped
import Derived.Shelf.Vars
namespace HX
open Go Go.RowKit Go.ChangeShapes Go.WideShapes Go.ChangeAt

/-- A law by its contract. -/
theorem law_callsP {P : Program} {gl : Nat → AV} {f : FuncId} {args : List AV} (hent : Enters P f) (h : Pu P gl f args (.bool true)) {W : World} {vs : Array Value} (hl : args.length = vs.size) (hgl : ∀ g, RelI (HV.full W) (gl g) (.pointer (some ⟨g, 0, none⟩))) (hgv : GvOk gl W.heap.size W)
    (hr : ∀ (j : Nat) (x : AV) (v : Value), args[j]? = some x → vs[j]? = some v → RelI (HV.full W) x v) : Calls P f vs W fun e W' => e = .returned (.bool true) ∧ Below W.heap.size W W' := by
  refine (Ans.calls (he := hent) <| h.ok (fun _ => ⟨0, 0, 0⟩) (HV.full W) W.heap.size (HV.full W) W vs
    { sat := full_sat W, old := fun _ _ _ => rfl, low := Nat.le_refl _, fresh := fun _ _ => lkb_nil _, box := (fun _ _ hh => by rw [lkb_nil] at hh; cases hh), sep := (fun _ _ hh => by rw [lkb_nil] at hh; cases hh), inj := (fun _ _ _ _ hh => by rw [lkb_nil] at hh; cases hh), gv := hgv, gl := hgl, ty := (fun _ _ _ hh => by rw [lkb_nil] at hh; cases hh) } hl
    (fun j x v hx hv => .imm _ _ (hr j x v hx hv))).mono fun e W' hpost => ?_
  obtain ⟨v, m', H', he, hb, _, hv⟩ := hpost
  have := hv.bool_inv
  subst this
  exact ⟨he, hb⟩

/-- The wrap of a law: the contract is told both what is laid and the world's shape. -/
theorem handed_and_shaped {H : Type} {enc : TypeId × Value → H} {C : Checked} {os : Os} {f : FuncId} {fn : Func} {s : ChangeSpec} {X : World → Prop} (hX : ∀ w w' : World, w.heap = w'.heap → X w → X w')
    (own : ownKnob C.prog.godebug = none) (started : os.Started) (noInit : C.prog.inits.idxOf? f = none) (hfn : C.prog.funcs[f]? = some fn)
    (witness : ∃ (w : World) (tape : Tape) (i : Input), w.os = os ∧ (w.forCall tape i).Shaped C.prog ∧ i.vars = [] ∧ Input.okWide C.prog (w.forCall tape i) .any w.heap.size f i ∧
      ((s.pre enc C.prog fn [] false (w.forCall tape i).memory i.args ∧ X (w.forCall tape i).memory) ∧ sizedMet enc C.prog fn (OpenSpec.ofChange s) false (w.forCall tape i).memory i.args) ∧ ({} : Assume).holds C.prog (lone (Frame.enter C.prog f i.args .normal) [] (w.forCall tape i)))
    (contract : ∀ (W : World) (base : Nat) (args : Array Value) (ds gs : List (DataW H)) (before : List MemPlace),
      (∀ (j : Nat) t v, fn.params[j]? = some t → args[j]? = some v → Value.okWide C.prog W .any base t v) → DataW.Whole enc C.prog fn.params.toList s.vars false W args.toList ds gs before → X W → W.ShapedOpen C.prog →
      Calls C.prog f args W fun e W' => ∃ v, e = .returned v ∧ s.post enc C.prog fn false true false false W args v W') :
    ReturnsInHanded {} C os f .any (fun w args => (s.pre enc C.prog fn [] false w args ∧ X w) ∧ sizedMet enc C.prog fn (OpenSpec.ofChange s) false w args) (s.post enc C.prog fn false true false false) := by
  refine returnsInHanded_of_calls own started noInit witness fun w tape i _ hsh _ hok hpre _ => ?_
  obtain ⟨_, _, _, fn', hfn', _, _, _, _, hval⟩ := hok
  obtain rfl : fn' = fn := Option.some.inj (hfn'.symm.trans hfn)
  obtain ⟨⟨⟨ds, gs, before, hw, _⟩, hx⟩, _⟩ := hpre
  refine (contract (w.forCall tape i) w.heap.size i.args ds gs before hval (DataW.Whole.of_heap (w' := w.forCall tape i) (by rfl) hw) (hX _ _ (by rfl) hx) hsh).mono fun e W' ⟨v, he, hp⟩ => ?_
  subst he
  exact ChangeSpec.post_blind hp

/- tables of numbers -/
theorem laidVars_at {P : Program} {w : World} : ∀ {l : List (String × DataW Unit)} {ps : List MemPlace} (i : Nat) {n : String} {d : DataW Unit}, DataW.LaidVars P w l ps → l[i]? = some (n, d) →
    ∃ g t cs fuel p, P.globalNamed n = some g ∧ (P.globals[g]?).map (·.type) = some t ∧ w.var? P n = some cs ∧ DataW.trod (fun _ => ()) P w 0 (fun _ => true) false fuel t cs.toList = some (d, p)
  | [], _, i, _, _, _, hi => by simp at hi
  | (n0, d0) :: r, ps, i, n, d, h, hi => by
    obtain ⟨g, t, cs, fuel, p, q, h1, h2, h3, h4, h5, _⟩ := h
    cases i with
    | zero => cases hi; exact ⟨g, t, cs, fuel, p, h1, h2, h3, h4⟩
    | succ i => exact laidVars_at i h5 hi

def litZ (k : IntKind) (z : Int) : DataW Unit := .lit (.int k z)
/-- The cells of a laid table of numbers. -/
theorem laid_cells {P : Program} {w : World} {laid : List (String × DataW Unit)} (hm : laidMetH P laid w) (hpl : (laid.all fun x => x.2.handleName?.isNone) = true) (i : Nat) {n : String} {k : IntKind} {zs : List Int} (hi : laid[i]? = some (n, .agg (zs.map (litZ k))))
    {g t e : Nat} (hg : P.globalNamed n = some g) (hgt : (P.globals[g]?).map (·.type) = some t) (hu : P.underlying t = some (.array zs.length e)) (hc : P.cellsOf e = 1) (hue : P.underlying e = some (.int k)) (j : Nat) (z : Int) (hj : zs[j]? = some z) :
    w.cell? ⟨g, j, none⟩ = some (.int k z) := by
  rw [MakeChecks.laidMetH_plain _ _ _ hpl] at hm
  obtain ⟨ps, hl, _, _⟩ := hm
  obtain ⟨g', t', cs, fuel, p, e1, e2, e3, e4⟩ := laidVars_at i hl hi
  rw [hg] at e1; cases e1
  rw [hgt] at e2; cases e2
  obtain ⟨xs, m, rfl, hxe, hcl, hxl, hel⟩ := DataW.trod_array hu e4
  rw [World.var?_cell hg e3 j]
  have hjl : j < zs.length := (List.getElem?_eq_some_iff.1 hj).1
  have h1 := hel j hjl
  rw [hc] at h1
  have hxj : xs[j]? = some (xs[j]'(by omega)) := List.getElem?_eq_getElem (by omega)
  rw [hxj] at h1
  obtain ⟨v, h2, h3, _⟩ := DataW.trod_int hue h1
  have h4 : (xs.map (·.1))[j]? = some (.lit (.int k v)) := by rw [List.getElem?_map, hxj, Option.map_some, h3]
  have h5 : (.agg (zs.map (litZ k)) : DataW Unit) = .agg (xs.map (·.1)) := congrArg Prod.fst hxe
  have h6 : zs.map (litZ k) = xs.map (·.1) := by injection h5
  rw [← h6, List.getElem?_map, hj, Option.map_some] at h4
  simp only [litZ, Option.some.injEq, DataW.lit.injEq, Lit.int.injEq, true_and] at h4
  subst h4
  have h7 := congrArg (·[0]?) h2
  simp only [Nat.mul_one, List.getElem?_take, List.getElem?_drop, Nat.add_zero] at h7
  simpa using h7

/-- A table of numbers is seen through its address. -/
theorem tab_rel {W : World} {g : Nat} {k : IntKind} {zs : List Int} (hz : 0 < zs.length) (h : ∀ (j : Nat) (z : Int), zs[j]? = some z → W.cell? ⟨g, j, none⟩ = some (.int k z)) : RelI (HV.full W) (.ip zs.length [.agg (zs.map (.int k))] 0 0) (.pointer (some ⟨g, 0, none⟩)) := by
  have hx0 : ∀ (i : Nat) (x : AV), [AV.agg (zs.map (AV.int k))][i]? = some x → i = 0 ∧ x = .agg (zs.map (.int k)) := fun i x hx => by
    cases i with
    | zero => simp at hx; exact ⟨rfl, hx.symm⟩
    | succ i => simp at hx
  have hc0 : ∀ (j : Nat) (c : AV), (zs.map (AV.int k))[j]? = some c → ∃ z, zs[j]? = some z ∧ c = .int k z := fun j c hc => by
    rw [List.getElem?_map, Option.map_eq_some_iff] at hc
    obtain ⟨z, h1, rfl⟩ := hc
    exact ⟨z, h1, rfl⟩
  suffices hs : RelI (HV.full W) (.ip zs.length [.agg (zs.map (.int k))] 0 0) (.pointer (some ⟨g, 0 + 0 * zs.length + 0, none⟩)) by
    rwa [show 0 + 0 * zs.length + 0 = 0 by omega] at hs
  refine RelI.ip zs.length [.agg (zs.map (.int k))] g 0 0 0 (fun _ j => .int k ((zs[j]?).getD 0)) hz (by simp) (fun i x hx => ?_) (fun i x j c hx hc => ?_) (fun i x j c hx hc => ?_)
  · obtain ⟨rfl, rfl⟩ := hx0 i x hx
    show (zs.map (AV.int k)).length = _
    simp
  · obtain ⟨rfl, rfl⟩ := hx0 i x hx
    obtain ⟨z, hz', rfl⟩ := hc0 j c hc
    rw [hz']
    refine ⟨?_, rfl⟩
    show W.cell? ⟨g, 0 + 0 * zs.length + j, none⟩ = _
    rw [show 0 + 0 * zs.length + j = j by omega]
    exact h j z hz'
  · obtain ⟨rfl, rfl⟩ := hx0 i x hx
    obtain ⟨z, hz', rfl⟩ := hc0 j c hc
    rw [hz']
    exact .int _ _
theorem tab_gv {P : Program} {W : World} (h : W.ShapedOpen P) {g n t : Nat} {zero : Array Value} (hg : g < P.globals.size) (h0 : ((begin P (fun _ _ => 0) default).world.heap[g]?).bind Obj.row? = some (zero, t)) (hz : zero.size = n) : g < W.heap.size ∧ ∃ C e fr, W.heap[g]? = some (.cells C e fr) ∧ C.size = n := by
  obtain ⟨cs, h1, h2, _⟩ := h.1 g zero t hg h0
  refine ⟨?_, cs, t, _, h1, by omega⟩
  rcases Nat.lt_or_ge g W.heap.size with h | h
  · exact h
  · rw [Array.getElem?_eq_none h] at h1; cases h1
end HX
