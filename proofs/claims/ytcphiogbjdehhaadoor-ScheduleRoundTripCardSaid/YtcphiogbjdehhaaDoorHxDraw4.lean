/- All orders of a region come to the end of the order in which it is written. -/
import Derived.Test.YtcphiogbjdehhaaDoorHxDraw3
namespace HX
open Go Go.RowKit

def pend (n : Nat) (L : Nat → Bool) : List Nat := (List.range n).filter fun i => !L i

theorem range_split {n i : Nat} (h : i < n) : List.range n = List.range i ++ i :: List.range' (i + 1) (n - i - 1) := by
  have : n = i + (1 + (n - i - 1)) := by omega
  rw [this, List.range_add, List.range_add]
  simp only [List.range_one, List.map_append, List.map_cons, List.map_nil, Nat.add_zero, List.map_map, List.singleton_append]
  congr 2
  rw [show i + (1 + (n - i - 1)) - i - 1 = n - i - 1 by omega, List.range'_eq_map_range]
  refine List.map_congr_left fun k _ => ?_
  simp [Function.comp]; omega

theorem pend_split {n i : Nat} {L : Nat → Bool} (h : i < n) (hL : L i = false) : pend n L = (List.range i).filter (fun j => !L j) ++ i :: (List.range' (i + 1) (n - i - 1)).filter fun j => !L j := by
  unfold pend
  rw [range_split h, List.filter_append, List.filter_cons]
  simp [hL]

theorem pend_set {n i : Nat} {L L' : Nat → Bool} (h : i < n) (hi : L' i = true) (ho : ∀ j, j ≠ i → L' j = L j) : pend n L' = (List.range i).filter (fun j => !L j) ++ (List.range' (i + 1) (n - i - 1)).filter fun j => !L j := by
  unfold pend
  rw [range_split h, List.filter_append, List.filter_cons]
  simp only [hi, Bool.not_true, Bool.false_eq_true, if_false]
  congr 1
  · refine List.filter_congr fun j hj => ?_
    rw [ho j (by have := List.mem_range.1 hj; omega)]
  · refine List.filter_congr fun j hj => ?_
    rw [ho j (by have := (List.mem_range'_1.1 hj).1; omega)]

theorem getD_def {listed : Array Bool} {j : Nat} (d : Bool) (h : j < listed.size) : listed.getD j d = listed.getD j false := by
  simp [Array.getD_eq_getD_getElem?, Array.getElem?_eq_getElem h]

section
variable {P : Program} {B : Nat} {H0 : HV} {gl : Nat → AV} {rest : List (AV × Value)} {ch : CallB} {all : List Oper}

/-- The first nf operations in all orders; what is left is bound to come behind them. -/
theorem draw_any (hch : ch.Ok P gl) (hok : drawOk all = true) {base nf : Nat} (hnf : nf ≤ all.length) (hbar : ∀ i, nf ≤ i → i < all.length → ∀ j, j < nf → ((masks all []).getD i 0).testBit j = true) {ro : Option Nat} {n : Nat} {d0 : List Deferred} {w0 : World} {sF : St} {Q : Exit → Act → World → Prop}
    (hEnd : ∀ (listed : Array Bool) (a : Act) (w : World) (m : Nat → Lc) (H : HV), listed.size = all.length → (∀ j, j < nf → listed.getD j false = true) → (∀ j, nf ≤ j → listed.getD j false = false) → a.defers = d0 → Below B w0 w → RelS m H B H0 gl rest sF a.tmps w → wpAnyIn (FW ro) n P .any all.toArray Q (all.length - nf) listed a w) :
    ∀ (q : Nat) (listed : Array Bool) (a : Act) (w : World) (m : Nat → Lc) (H : HV) (st s : St), listed.size = all.length → (pend nf fun j => listed.getD j false).length = q → (∀ j, nf ≤ j → listed.getD j false = false) → Closed all (fun j => listed.getD j false) →
      a.defers = d0 → Below B w0 w → RelS m H B H0 gl rest st a.tmps w → runI P gl ch all base (pend nf fun j => listed.getD j false) st = some s → StEq s sF → wpAnyIn (FW ro) n P .any all.toArray Q (q + (all.length - nf)) listed a w := by
  intro q
  induction q with
  | zero =>
    intro listed a w m H st s hs hl hhi hcl hd hb hr hrun heq
    have hnil : (pend nf fun j => listed.getD j false) = [] := List.eq_nil_of_length_eq_zero hl
    rw [hnil] at hrun
    simp only [runI, Option.some.injEq] at hrun
    subst hrun
    rw [Nat.zero_add]
    refine hEnd listed a w m H hs (fun j hj => ?_) hhi hd hb (heq.rel hr)
    cases hL : listed.getD j false with
    | true => rfl
    | false =>
      have : j ∈ pend nf fun j => listed.getD j false := by
        unfold pend; rw [List.mem_filter]; exact ⟨List.mem_range.2 hj, by simp [hL]⟩
      rw [hnil] at this; cases this
  | succ q ih =>
    intro listed a w m H st s hs hl hhi hcl hd hb hr hrun heq
    have hclI : ∀ i o, all[i]? = some o → (∀ e ∈ o.after, Region.binds .any e = true → listed.getD e.on false = true) → Closed all fun k => listed.getD k false || k == i := fun i o ho hpre k o' ho' hLk e he hbd => by
      by_cases hki : k = i
      · subst hki
        rw [ho] at ho'; cases ho'
        simp only [hpre e he hbd, Bool.true_or]
      · have hk' : (k == i) = false := by simpa using hki
        simp only [hcl k o' ho' (by simpa [hk'] using hLk) e he hbd, Bool.true_or]
    rw [Nat.add_right_comm]
    refine ⟨fun hready => ?_, fun i hi => ?_⟩
    · exfalso
      -- the first that is not done is ready
      have hall : ∀ j, j < all.length → listed.getD j false = true := by
        intro j
        induction j using Nat.strongRecOn with
        | _ j ihj =>
          intro hj
          cases hL : listed.getD j false with
          | true => rfl
          | false =>
            exfalso
            have : j ∈ Region.ready .any all.toArray listed := by
              rw [mem_ready]
              refine ⟨by rw [getD_def true (by omega)]; exact hL, all[j], by simp [hj], fun e he hbd => ?_⟩
              have := (drawOk_spec hok j all[j] (List.getElem?_eq_getElem hj)).before e he hbd
              exact ihj e.on this (by omega)
            rw [hready] at this
            cases this
      have : (pend nf fun j => listed.getD j false) = [] := by
        unfold pend
        rw [List.filter_eq_nil_iff]
        intro j hj
        simp [hall j (by have := List.mem_range.1 hj; omega)]
      rw [this] at hl; simp at hl
    · rw [mem_ready] at hi
      obtain ⟨h0, o, ho, hpre⟩ := hi
      rw [List.getElem?_toArray] at ho
      have hil : i < all.length := (List.getElem?_eq_some_iff.1 ho).1
      rw [getD_def true (by omega)] at h0
      by_cases hin : nf ≤ i
      · exfalso
        have hall : ∀ j, j < nf → listed.getD j false = true := fun j hj => by
          have := masks_closed (hclI i o ho hpre) i j (hbar i hin hil j hj) (by simp)
          have hne : (j == i) = false := by simp; omega
          simpa only [hne, Bool.or_false] using this
        have : (pend nf fun j => listed.getD j false) = [] := by
          unfold pend
          rw [List.filter_eq_nil_iff]
          intro j hj
          simp [hall j (List.mem_range.1 hj)]
        rw [this] at hl; simp at hl
      have hin : i < nf := by omega
      have hL'i : (listed.setIfInBounds i true).getD i false = true := by simp [Array.getD_eq_getD_getElem?, show i < listed.size by omega]
      have hL'o : ∀ j, j ≠ i → (listed.setIfInBounds i true).getD j false = listed.getD j false := fun j hj => getD_set_ne false (Ne.symm hj)
      rw [pend_split hin h0] at hrun hl
      have hset := pend_set (L := fun j => listed.getD j false) (L' := fun j => (listed.setIfInBounds i true).getD j false) hin hL'i hL'o
      rw [runI_append] at hrun
      cases hr1 : runI P gl ch all base ((List.range i).filter fun j => !listed.getD j false) st with
      | none => rw [hr1] at hrun; cases hrun
      | some s1 =>
        rw [hr1] at hrun
        simp only [runI, ho] at hrun
        cases hr2 : xstepO P gl ch all (base + i) o s1 with
        | none => rw [hr2] at hrun; cases hrun
        | some s2 =>
          rw [hr2] at hrun
          simp only at hrun
          obtain ⟨t, s', e1, e2, e3⟩ := move hch (oi := o) _ hr hr1 hr2 fun j hj => by
            rw [List.mem_filter] at hj
            have hji := List.mem_range.1 hj.1
            refine ⟨by omega, fun oj hoj => ?_⟩
            cases hcf : confl all oj o with
            | false => rfl
            | true =>
              exfalso
              have hbit := (drawOk_spec hok i o ho).pair j oj hji hoj hcf
              have := masks_closed (hclI i o ho hpre) i j hbit (by simp)
              have hne : (j == i) = false := by simp; omega
              simp only [hne, Bool.or_false] at this
              rw [this] at hj
              simp at hj
          obtain ⟨s3, f1, f2⟩ := StEq.runI e3.symm hrun
          have hrun' : runI P gl ch all base (pend nf fun j => (listed.setIfInBounds i true).getD j false) t = some s3 := by
            rw [hset, runI_append, e2]; exact f1
          have hstep := xstepO_ok hch hr e1 ro n (wpAnyIn (FW ro) n P .any all.toArray Q (q + (all.length - nf)) (listed.setIfInBounds i true)) Q (fun a' w' m' H' hd' hb' hr' =>
            ih _ a' w' m' H' t s3 (by simp [hs]) (by
              rw [hset]
              simp only [List.length_append, List.length_cons] at hl ⊢
              omega) (fun j hj => by rw [hL'o j (by omega)]; exact hhi j hj) (fun k o' ho' hLk e he hbd => by
                have : ∀ q, (listed.setIfInBounds i true).getD q false = (listed.getD q false || q == i) := fun q => by
                  by_cases hq : q = i
                  · subst hq; rw [hL'i]; simp
                  · rw [hL'o q hq]; have : (q == i) = false := by simpa using hq
                    simp [this]
                simp only [this] at hLk ⊢
                exact hclI i o ho hpre k o' ho' hLk e he hbd) (hd'.trans hd) (hb.trans hb') hr' hrun' (f2.symm.trans heq))
          unfold wpOpIn
          simp only [List.getElem?_toArray, ho]
          exact hstep

theorem ready_nil {listed : Array Bool} (hs : listed.size = all.length) (h : ∀ j, j < all.length → listed.getD j false = true) : Region.ready .any all.toArray listed = [] := by
  refine List.eq_nil_iff_forall_not_mem.2 fun j hj => ?_
  rw [mem_ready] at hj
  obtain ⟨h0, o, ho, _⟩ := hj
  have hjl : j < all.length := by
    rw [List.getElem?_toArray] at ho
    exact (List.getElem?_eq_some_iff.1 ho).1
  rw [getD_def true (by omega), h j hjl] at h0
  cases h0

theorem pend0 (nf : Nat) : (pend nf fun j => (Array.replicate all.toArray.size false).getD j false) = List.range nf := by
  unfold pend
  rw [List.filter_eq_self]
  intro j hj
  simp only [Array.getD_eq_getD_getElem?, Array.getElem?_replicate]
  split <;> simp
theorem getD0 (j : Nat) : (Array.replicate all.toArray.size false).getD j false = false := by
  simp only [Array.getD_eq_getD_getElem?, Array.getElem?_replicate]
  split <;> simp

/-- Is the last operation bound to come behind all others? -/
def barOk (all : List Oper) : Bool :=
  let m := (masks all []).getD (all.length - 1) 0
  (List.range (all.length - 1)).all fun j => m.testBit j

/-- A region that draws its order, walked in the order in which it is written. -/
theorem region_draw (hch : ch.Ok P gl) (hmix : P.follows .mixedOrders = true) (hok : drawOk all = true) {ro : Option Nat} {n : Nat} {m : Nat → Lc} {H : HV} {st sF : St} {a : Act} {w : World} {id : Nat}
    (h : RelS m H B H0 gl rest st a.tmps w) (hrun : runI P gl ch all st.nx (List.range all.length) (st.bump all.length) = some sF) {Q : Exit → Act → World → Prop}
    (hQ : ∀ (a' : Act) (w' : World) (m : Nat → Lc) (H : HV), a'.defers = a.defers → Below B w w' → RelS m H B H0 gl rest sF a'.tmps w' → Q .normal a' w') : (Code.region id all.toArray true).wpIn (FW ro) n P Q a w := by
  refine wpIn_region_any hmix ?_
  have hb : Below w.heap.size w { w with drawn := w.drawn + 1 } := ⟨rfl, rfl, rfl, Nat.le_refl _, fun _ _ => rfl⟩
  have hr0 : RelS m H B H0 gl rest (st.bump all.length) a.tmps { w with drawn := w.drawn + 1 } := by
    have hh := h.heap.ext hb
    exact ⟨{ hh with fresh := fun id hid => hh.fresh id (Nat.le_trans (Nat.le_add_right _ _) hid) }, h.size, h.slot, h.rest⟩
  have := draw_any (sF := sF) (base := st.nx) (nf := all.length) (ro := ro) (n := n) (d0 := a.defers) (w0 := w) (Q := Q) hch hok (Nat.le_refl _) (fun i h1 h2 => by omega) (fun listed a' w' m' H' hs h1 _ hd hb' hr => by
    rw [Nat.sub_self]
    exact ⟨ready_nil hs h1, hQ a' w' m' H' hd hb' hr⟩) _ (Array.replicate all.toArray.size false) a _ m H (st.bump all.length) sF (by simp) rfl (fun j _ => getD0 j) (fun j o ho hL => by have hL : (Array.replicate all.toArray.size false).getD j false = true := hL; rw [getD0] at hL; cases hL) rfl (hb.mono h.heap.low) hr0 (by rw [pend0]; exact hrun) (.refl _)
  rw [pend0, Nat.sub_self, Nat.add_zero, List.length_range] at this
  simpa using this

/-- The same, where the last operation is bound to come behind all others: it may be anything. -/
theorem region_draw_bar (hch : ch.Ok P gl) (hmix : P.follows .mixedOrders = true) (hok : drawOk all = true) (hbar : barOk all = true) {ol : Oper} (hol : all[all.length - 1]? = some ol) (hg : ol.guard = none) {ro : Option Nat} {n : Nat} {m : Nat → Lc} {H : HV} {st sF : St} {a : Act} {w : World} {id : Nat}
    (h : RelS m H B H0 gl rest st a.tmps w) (hrun : runI P gl ch all st.nx (List.range (all.length - 1)) (st.bump all.length) = some sF) {Q : Exit → Act → World → Prop}
    (hQ : ∀ (a' : Act) (w' : World) (m : Nat → Lc) (H : HV) (K : Act → World → Prop), a'.defers = a.defers → Below B w w' → RelS m H B H0 gl rest sF a'.tmps w' → (∀ a2 w2, Q .normal a2 w2 → K a2 w2) → ol.wpIn (FW ro) n P a' w' K Q) : (Code.region id all.toArray true).wpIn (FW ro) n P Q a w := by
  refine wpIn_region_any hmix ?_
  have hlen : 0 < all.length := by have := (List.getElem?_eq_some_iff.1 hol).1; omega
  have hb : Below w.heap.size w { w with drawn := w.drawn + 1 } := ⟨rfl, rfl, rfl, Nat.le_refl _, fun _ _ => rfl⟩
  have hr0 : RelS m H B H0 gl rest (st.bump all.length) a.tmps { w with drawn := w.drawn + 1 } := by
    have hh := h.heap.ext hb
    exact ⟨{ hh with fresh := fun id hid => hh.fresh id (Nat.le_trans (Nat.le_add_right _ _) hid) }, h.size, h.slot, h.rest⟩
  have hbit : ∀ i, all.length - 1 ≤ i → i < all.length → ∀ j, j < all.length - 1 → ((masks all []).getD i 0).testBit j = true := fun i h1 h2 j hj => by
    have : i = all.length - 1 := by omega
    subst this
    simp only [barOk, List.all_eq_true] at hbar
    exact hbar j (List.mem_range.2 hj)
  have := draw_any (sF := sF) (base := st.nx) (nf := all.length - 1) (ro := ro) (n := n) (d0 := a.defers) (w0 := w) (Q := Q) hch hok (by omega) hbit (fun listed a' w' m' H' hs h1 h2 hd hb' hr => by
    rw [show all.length - (all.length - 1) = 0 + 1 by omega]
    have hfin : Region.ready .any all.toArray (listed.setIfInBounds (all.length - 1) true) = [] := ready_nil (by simp [hs]) fun j hj => by
      by_cases e : j = all.length - 1
      · subst e; simp [Array.getD_eq_getD_getElem?, show all.length - 1 < listed.size by omega]
      · rw [getD_set_ne false (Ne.symm e)]; exact h1 j (by omega)
    refine ⟨fun hready => ?_, fun i hi => ?_⟩
    · exfalso
      have : all.length - 1 ∈ Region.ready .any all.toArray listed := by
        rw [mem_ready]
        refine ⟨by rw [getD_def true (by omega)]; exact h2 _ (Nat.le_refl _), ol, by rw [List.getElem?_toArray]; exact hol, fun e he hbd => h1 e.on ?_⟩
        exact (drawOk_spec hok _ ol hol).before e he hbd
      rw [hready] at this; cases this
    · rw [mem_ready] at hi
      obtain ⟨h0, o, ho, hpre⟩ := hi
      rw [List.getElem?_toArray] at ho
      have hil : i < all.length := (List.getElem?_eq_some_iff.1 ho).1
      rw [getD_def true (by omega)] at h0
      have hie : i = all.length - 1 := by
        rcases Nat.lt_or_ge i (all.length - 1) with hlt | hge
        · rw [h1 i hlt] at h0; cases h0
        · omega
      subst hie
      rw [hol] at ho; cases ho
      unfold wpOpIn
      simp only [List.getElem?_toArray, hol]
      rw [if_pos (by simp [Region.wanted, hg])]
      exact hQ a' w' m' H' _ hd hb' hr fun a2 w2 hq => ⟨hfin, hq⟩) _ (Array.replicate all.toArray.size false) a _ m H (st.bump all.length) sF (by simp) rfl (fun j _ => getD0 j) (fun j o ho hL => by have hL : (Array.replicate all.toArray.size false).getD j false = true := hL; rw [getD0] at hL; cases hL) rfl (hb.mono h.heap.low) hr0 (by rw [pend0]; exact hrun) (.refl _)
  rw [pend0, List.length_range, show all.length - 1 + (all.length - (all.length - 1)) = all.length by omega] at this
  simpa using this
end
end HX
