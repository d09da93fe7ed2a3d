/- The answer of a function, read as a tree whose rows are given ahead; also piece by piece in a tuple. -/
import Derived.Test.YtcphiogbjdehhaaDoorHxWp4
namespace HX
open Go

def endE (hp : Hp) (x : AV) (K : AV → Prop) : Prop :=
  match x with
  | .bs id ver sz off len => match hp id with
    | some (.cells v cs) => match Nat.beq v ver with
      | true => ∃ xs, ((off + len * sz ≤ cs.length ∧ xs.length = len ∧ 0 < sz) ∧ Rows sz xs ((cs.drop off).take (len * sz))) ∧ K (.sl sz xs)
      | false => False
    | _ => False
  | x => match tree hp false 12 x with
    | some t => K t
    | none => False
/-- Pieces that the mask names are forgotten. -/
def endTs (hp : Hp) : List Bool → List AV → (List AV → Prop) → Prop
  | _, [], K => K []
  | true :: fs, _ :: xs, K => endTs hp fs xs (fun ts => K (.undef :: ts))
  | fs, x :: xs, K => endE hp x (fun t => endTs hp fs.tail xs (fun ts => K (t :: ts)))
def endT (fs : List Bool) (t r0 : AV) (s : St) : Prop :=
  match r0 with
  | .tup xs => endTs (lkb s.hp) fs xs (fun ts => AV.tup ts = t)
  | x => endE (lkb s.hp) x (fun u => u = t)

section
variable {P : Program} {gl : Nat → AV} {ch0 : CallH} {wf : WF} {gd : Nat → Bool} {fl : Nat}
theorem endE_ok {H : HV} {hp : Hp} {m : Nat → Lc} {w : World} (hbox : ∀ id ver cs, hp id = some (.cells ver cs) → BoxOk H (envOf hp m) (.cells ver cs) (m id) w) (hd : ∀ id ver cs, hp id = some (.cells ver cs) → ∀ o, H (m id).g o = none)
    {x : AV} {v : Value} {K : AV → Prop} (hx : RV H (envOf hp m) x v) (h : endE hp x K) : ∃ t, K t ∧ RelI (snap H hp m w) t v := by
  unfold endE at h
  split at h
  · rename_i id ver sz off len
    split at h
    · rename_i v' cs hid
      split at h
      · rename_i hc
        obtain ⟨xs, hR, hK⟩ := h
        exact ⟨_, hK, asTree_ok hbox hd hx (by
          unfold asTree
          simp only [hid]
          have : (Nat.beq v' ver && Nat.beq sz sz) = true := by rw [hc, Nat.beq_refl]; rfl
          rw [this]; exact hR)⟩
      · cases h
    · cases h
  · split at h
    · rename_i t ht
      exact ⟨t, h, tree_ok (H1 := H) false (fun id ver cs hh => live_loc hh) hbox hd (fun _ => rfl) 12 _ t v hx ht⟩
    · cases h

theorem endTs_ok {H : HV} {hp : Hp} {m : Nat → Lc} {w : World} (hbox : ∀ id ver cs, hp id = some (.cells ver cs) → BoxOk H (envOf hp m) (.cells ver cs) (m id) w) (hd : ∀ id ver cs, hp id = some (.cells ver cs) → ∀ o, H (m id).g o = none) :
    ∀ {fs : List Bool} {xs : List AV} {vs : List Value} {K : List AV → Prop}, xs.length = vs.length → (∀ (j : Nat) (x : AV) (v : Value), xs[j]? = some x → vs[j]? = some v → RV H (envOf hp m) x v) → endTs hp fs xs K →
      ∃ ts, K ts ∧ ts.length = vs.length ∧ ∀ (j : Nat) (t : AV) (v : Value), ts[j]? = some t → vs[j]? = some v → RelI (snap H hp m w) t v
  | fs, [], [], K, _, _, h => ⟨[], by cases fs with
    | nil => exact h
    | cons f fs => cases f <;> exact h, rfl, fun j t v ht => by simp at ht⟩
  | fs, x :: xs, v :: vs, K, hl, hx, h => by
    have step : ∀ (t : AV) (fs' : List Bool), RelI (snap H hp m w) t v → endTs hp fs' xs (fun ts => K (t :: ts)) → ∃ ts, K ts ∧ ts.length = (v :: vs).length ∧ ∀ (j : Nat) (t : AV) (v' : Value), ts[j]? = some t → (v :: vs)[j]? = some v' → RelI (snap H hp m w) t v' := fun t fs' hr h2 => by
      obtain ⟨ts, hK, hlen, hrs⟩ := endTs_ok hbox hd (by simpa using hl) (fun j x v h1 h2 => hx (j + 1) x v (by simpa using h1) (by simpa using h2)) h2
      refine ⟨t :: ts, hK, by simp [hlen], fun j t' v' ht hv => ?_⟩
      cases j with
      | zero => simp at ht hv; subst ht; subst hv; exact hr
      | succ j => exact hrs j t' v' (by simpa using ht) (by simpa using hv)
    have plain : ∀ fs' : List Bool, endE hp x (fun t => endTs hp fs' xs (fun ts => K (t :: ts))) → ∃ ts, K ts ∧ ts.length = (v :: vs).length ∧ ∀ (j : Nat) (t : AV) (v' : Value), ts[j]? = some t → (v :: vs)[j]? = some v' → RelI (snap H hp m w) t v' := fun fs' h' => by
      obtain ⟨t, h2, hr⟩ := endE_ok hbox hd (hx 0 x v rfl rfl) h'
      exact step t _ hr h2
    cases fs with
    | nil => exact plain _ h
    | cons f fs => cases f with
      | true => exact step .undef fs (.undef _) h
      | false => exact plain _ h
  | _, [], _ :: _, _, hl, _, _ => by simp at hl
  | _, _ :: _, [], _, hl, _, _ => by simp at hl

/-- The weakest precondition of an answer given ahead, its rows too. -/
def wpureT (P : Program) (gl : Nat → AV) (ch0 : CallH) (wf : WF) (gd : Nat → Bool) (fl f : Nat) (hs : Hints) (args : List AV) (fs : List Bool) (r : AV) : Prop :=
  wfunB P gl ch0 wf gd true fl f hs args .nil 0 (endT fs r)

theorem Pu.ofT (h0 : ch0.Ok P gl) (hwf : WF.Ok P gl wf) (hp : ProgOk P gd) {f : Nat} {hs : Hints} {args : List AV} {fs : List Bool} {r : AV} (hw : wpureT P gl ch0 wf gd fl f hs args fs r) : Pu P gl f args r := by
  refine ⟨fun m H B H0 w vs hh hl hargs => ?_⟩
  refine (wfunB_ok h0 hwf hp hw m H B H0 [] w vs (fun _ => rfl) hh hl hargs (fun p hp => by simp at hp)).mono fun e w' hq => ?_
  obtain ⟨v, m', H', r0, s, tmps, hK, rfl, hb, hr, hrv⟩ := hq
  have hbox : ∀ id ver cs, lkb s.hp id = some (.cells ver cs) → BoxOk H' (envOf (lkb s.hp) m') (.cells ver cs) (m' id) w' := fun id ver cs hh => hr.heap.box id _ hh
  have hd : ∀ id ver cs, lkb s.hp id = some (.cells ver cs) → ∀ o, H' (m' id).g o = none := fun id ver cs hh => (hr.heap.sep id _ hh).2.2
  refine ⟨v, m', snap H' (lkb s.hp) m' w', rfl, hb, relH_nil hr.heap, .imm _ _ ?_⟩
  unfold endT at hK
  split at hK
  · rename_i xs
    obtain ⟨us, rfl, hlen, hc⟩ := hrv.tup_inv
    obtain ⟨ts, rfl, hl2, hrs⟩ := endTs_ok (w := w') (vs := us.toList) hbox hd (by simpa using hlen) (fun j c u h1 h2 => hc j c u h1 (by simpa using h2)) hK
    exact .tup ts us (by simpa using hl2) fun j c u h1 h2 => hrs j c u h1 (by simpa using h2)
  · obtain ⟨t, rfl, h1⟩ := endE_ok (w := w') hbox hd hrv hK
    exact h1
end
end HX
