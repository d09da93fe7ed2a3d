/- Functions: the executor with calls, and that it is sound. -/
import Derived.Test.YtcphiogbjdehhaaDoorHxRound
namespace HX
open Go Go.RowKit

def argSl : Nat → List AV → Tr AV
  | _, [] => .nil
  | k, x :: xs => pt (argSl (k + 1) xs) k x

theorem lk_argSl : ∀ (xs : List AV) (k j : Nat), lk .undef (argSl k xs) j = if k ≤ j then (xs[j - k]?).getD .undef else .undef
  | [], k, j => by
    have : lk .undef (argSl k []) j = .undef := by unfold lk argSl; cases path j <;> rfl
    rw [this]; simp
  | x :: xs, k, j => by
    simp only [argSl]
    rw [lk_pt]
    by_cases h : k = j
    · subst h; simp
    · rw [if_neg h, lk_argSl xs (k + 1) j]
      by_cases h' : k ≤ j
      · rw [if_pos h', if_pos (by omega)]
        have : j - k = (j - (k + 1)) + 1 := by omega
        rw [this, List.getElem?_cons_succ]
      · rw [if_neg h', if_neg (by omega)]

def resAV (P : Program) (st : St) : ResultVar → Option AV
  | .tmp t => some (st.get t)
  | .cell a t => xload P t (st.get a) (lkb st.hp)
def resAVs (P : Program) (st : St) : List ResultVar → Option (List AV)
  | [] => some []
  | x :: r => match resAV P st x with
    | some v => match resAVs P st r with
      | some vs => some (v :: vs)
      | none => none
    | none => none
def resOf (P : Program) (st : St) (l : List ResultVar) : Option AV :=
  match resAVs P st l with
  | some [v] => some v
  | some vs => some (.tup vs)
  | none => none

section
variable {P : Program} {m : Nat → Lc} {H : HV} {B : Nat} {H0 : HV} {gl : Nat → AV} {rest : List (AV × Value)} {st : St} {tmps : Array Value} {w : World}

theorem res_one (h : RelS m H B H0 gl rest st tmps w) {x : ResultVar} {r : AV} (hr : resAV P st x = some r) :
    ∃ v, (match x with | .tmp t => pure (tmps.getD t Go.undef) | .cell a t => do loadVar t (← asAddr (tmps.getD a Go.undef)) : Sem Value).run P w = .ok v w ∧ RV H (st.env m) r v := by
  cases x with
  | tmp t => cases hr; exact ⟨_, rfl, h.slot t⟩
  | cell a t =>
    simp only [resAV] at hr
    obtain ⟨v, h1, h2⟩ := xload_ok (P := P) h.heap (h.slot a) hr
    refine ⟨v, ?_, h2⟩
    show (do loadVar t (← asAddr (tmps.getD a Go.undef)) : Sem Value).run P w = _
    generalize tmps.getD a Go.undef = u at h1 ⊢
    simp only [Instr.loadAt, Instr.sureAddr, asAddr] at h1 ⊢
    cases u <;> simp at h1 ⊢
    rename_i ad
    cases ad <;> simp at h1 ⊢
    exact h1

theorem res_list (h : RelS m H B H0 gl rest st tmps w) : ∀ (l : List ResultVar) (avs : List AV), resAVs P st l = some avs →
    ∃ vs : List Value, (l.mapM (fun x : ResultVar => (match x with | .tmp t => pure (tmps.getD t Go.undef) | .cell a t => do loadVar t (← asAddr (tmps.getD a Go.undef)) : Sem Value))).run P w = .ok vs w ∧ avs.length = vs.length ∧ ∀ (j : Nat) (c : AV) (v : Value), avs[j]? = some c → vs[j]? = some v → RV H (st.env m) c v
  | [], avs, hk => by
    simp only [resAVs, Option.some.injEq] at hk
    subst hk
    exact ⟨[], by simp, rfl, fun j c v hj => by simp at hj⟩
  | x :: l, avs, hk => by
    simp only [resAVs] at hk
    split at hk
    · rename_i v hv
      split at hk
      · rename_i us hus
        cases hk
        obtain ⟨u, h1, h2⟩ := res_one h hv
        obtain ⟨vs, h3, h4, h5⟩ := res_list h l us hus
        refine ⟨u :: vs, ?_, by simp [h4], fun j c v hj hv => ?_⟩
        · simp only [List.mapM_cons, Sem.run_bind]
          rw [h1]
          simp only [Result.andThen_ok, h3, Sem.run_pure]
        · cases j with
          | zero => simp only [List.getElem?_cons_zero, Option.some.injEq] at hj hv; subst hj; subst hv; exact h2
          | succ j => exact h5 j c v (by simpa using hj) (by simpa using hv)
      · cases hk
    · cases hk

theorem res_all (h : RelS m H B H0 gl rest st tmps w) {fn : Func} {r : AV} (hr : resOf P st fn.results.toList = some r) : ∃ v, (results fn tmps).run P w = .ok v w ∧ RV H (st.env m) r v := by
  unfold resOf at hr
  obtain ⟨avs, ha⟩ : ∃ avs, resAVs P st fn.results.toList = some avs := by
    cases hx : resAVs P st fn.results.toList with
    | none => rw [hx] at hr; cases hr
    | some avs => exact ⟨avs, rfl⟩
  rw [ha] at hr
  obtain ⟨vs, hrun, hl, hrel⟩ := res_list h _ _ ha
  have hres : (results fn tmps).run P w = .ok (if h : vs.toArray.size = 1 then vs.toArray[0] else .tuple vs.toArray) w := by
    unfold results
    have hrun' : (fn.results.mapM (fun x : ResultVar => (match x with | .tmp t => pure (tmps.getD t Go.undef) | .cell a t => do loadVar t (← asAddr (tmps.getD a Go.undef)) : Sem Value))).run P w = .ok vs.toArray w := by
      rw [← Array.toArray_toList (xs := fn.results), List.mapM_toArray, Sem.run_map, hrun]
      rfl
    rw [Sem.run_bind]
    refine Eq.trans (congrArg (fun x => Result.andThen x _) hrun') ?_
    rfl
  refine ⟨_, hres, ?_⟩
  match avs, vs, hl, hr, hrel with
  | [], vs, hl, hr, hrel =>
    have : vs = [] := List.eq_nil_of_length_eq_zero (by simpa using hl.symm)
    subst this
    cases hr
    simp only [List.size_toArray, List.length_nil]
    exact .tup [] #[] rfl (fun j c v hj => by simp at hj)
  | [x], [v], hl, hr, hrel =>
    cases hr
    simpa using hrel 0 _ _ rfl rfl
  | x :: y :: l, vs, hl, hr, hrel =>
    cases hr
    rw [dif_neg (by simp at hl ⊢; omega)]
    exact .tup _ _ (by simpa using hl) fun j c v hj hv => hrel j c v hj (by simpa using hv)
end

/-- The marks of ranges over functions are taken at the function's end. -/
def shut : List Nat → Tr Box → Option (Tr Box)
  | [], hp => some hp
  | id :: ds, hp => match lkb hp id with
    | some (.defb true) => shut ds (pt hp id (.defb false))
    | _ => none

section
variable {P : Program} {m : Nat → Lc} {H : HV} {B : Nat} {H0 : HV} {gl : Nat → AV}

theorem lp_defb {hp : Hp} {id : Nat} {o : Bool} (h : hp id = some (.defb o)) : (envOf hp m).lp id = some (m id).g := by simp [envOf, h]

theorem shut_ok {F : Fence} {n : Nat} {fn : Func} {tmps : Array Value} {R : Ending → World → Prop} {nx : Nat} {hp' : Tr Box} : ∀ (D : List (Nat × Nat)) (hp : Tr Box) (w : World), RelH m H B H0 gl (lkb hp) nx w → (∀ p ∈ D, (envOf (lkb hp) m).lp p.1 = some p.2) → shut (D.map (·.1)) hp = some hp' →
    (∀ w', RelH m H B H0 gl (lkb hp') nx w' → Env.le (envOf (lkb hp) m) (envOf (lkb hp') m) → Below B w w' → ∃ v, (results fn tmps).run P w' = .ok v w' ∧ R (.returned v) w') → LeavesInM F n P fn tmps R (marks D) .returning w
  | [], hp, w, h, _, hk, hQ => by
    cases hk
    exact hQ w h (.refl _) (Below.refl _ _)
  | (id, l) :: D, hp, w, h, hD, hk, hQ => by
    simp only [List.map_cons, shut] at hk
    split at hk
    · rename_i hid
      have hl : (m id).g = l := by
        have := hD (id, l) (by simp)
        rw [lp_defb hid] at this
        simpa using this
      have hobj : w.heap[(m id).g]? = some (.deferred (some [])) := h.box _ _ hid
      obtain ⟨hh2, hE2, hb2⟩ := h.putObj hid (fun _ _ e => by cases e) (b' := .defb false) (fun _ _ e => by cases e) (.deferred none) (fun E' hE' => World.putObj_heap_same (h.sep _ _ hid).2.1)
      rw [← lkb_pt] at hh2 hE2
      rw [hl] at hobj hh2 hb2
      refine ⟨by simp, .inl ⟨l, _, rfl, run_takeDeferred hobj, ?_⟩⟩
      exact shut_ok D _ _ hh2 (fun p hp => hE2.lp _ _ (hD p (List.mem_cons_of_mem _ hp))) hk (fun w' h3 hE3 hb3 => hQ w' h3 (hE2.trans hE3) (hb2.trans hb3))
    · cases hk
end

def endsFn (ex : Exit) : Bool := match ex with
  | .normal | .ret => true
  | _ => false

/-- One function's body, run. -/
def xfun (P : Program) (gl : Nat → AV) (gd : Nat → Bool) (fl : Nat) (ch : CallH) (rd : RoundH) : CallH := fun f args hp nx =>
  bif gd f then (match P.funcs[f]? with
    | some fn => match fn.body with
      | some c => bif Nat.ble args.length fn.ntmps then (match xcode P gl ch rd true fl c ⟨fn.ntmps, argSl 0 args, hp, nx⟩ with
        | some (ex, s, ds) => bif endsFn ex then (match shut ds s.hp with
          | some hp' => match resOf P (s.setHp hp' s.nx) fn.results.toList with
            | some r => some (r, hp', s.nx)
            | none => none
          | none => none) else none
        | none => none) else none
      | none => none
    | none => none) else none
def xlev (P : Program) (gl : Nat → AV) (gd : Nat → Bool) (fl : Nat) : Nat → CallH × RoundH
  | 0 => (fun _ _ _ _ => none, fun _ _ _ _ => none)
  | k + 1 => (fun f args hp nx => xfun P gl gd fl (xlev P gl gd fl k).1 (xlev P gl gd fl k).2 f args hp nx, fun id args hp nx => xround P gl fl (xlev P gl gd fl k).1 (xlev P gl gd fl k).2 id args hp nx)
def xcall (P : Program) (gl : Nat → AV) (gd : Nat → Bool) (fl k : Nat) : CallH := (xlev P gl gd fl k).1

/-- What is checked of a function once for all. -/
def okFn (P : Program) (f : Nat) : Bool :=
  match P.funcs[f]? with
  | some fn => (fn.name != "runtime.NumGoroutine") && match fn.body with
    | some c => okCode c
    | none => false
  | none => false

structure ProgOk (P : Program) (gd : Nat → Bool) : Prop where
  mix : P.follows .mixedOrders = true
  fn : ∀ f, gd f = true → okFn P f = true

theorem xfun_ok {P : Program} {gl : Nat → AV} {gd : Nat → Bool} {fl : Nat} {ch : CallH} {rd : RoundH} (hp : ProgOk P gd) (hch : ch.Ok P gl) (hrd : rd.Ok P gl) : CallH.Ok P gl (xfun P gl gd fl ch rd) := by
  intro f args hpx nx r hp' nx' hk
  unfold xfun at hk
  cases hg : gd f with
  | false => rw [hg] at hk; cases hk
  | true =>
    rw [hg] at hk
    simp only [cond_true] at hk
    have hok := hp.fn f hg
    unfold okFn at hok
    split at hk
    · rename_i fn hf
      rw [hf] at hok
      simp only [Bool.and_eq_true, bne_iff_ne] at hok
      obtain ⟨hname, hok⟩ := hok
      split at hk
      · rename_i c hb
        rw [hb] at hok
        simp only at hok
        cases hle : Nat.ble args.length fn.ntmps with
        | false => rw [hle] at hk; cases hk
        | true =>
          rw [hle] at hk
          simp only [cond_true] at hk
          have hle := Nat.le_of_ble_eq_true hle
          split at hk
          · rename_i ex s ds hx
            cases hex : endsFn ex with
            | false => rw [hex] at hk; cases hk
            | true =>
            rw [hex] at hk
            simp only [cond_true] at hk
            split at hk
            · rename_i hp2 hshut
              split at hk
              · rename_i r' hr'
                cases hk
                intro m H B H0 rest w vs hh hl hargs hrest
                refine .inl ⟨enters_of hf (by simpa using hname) (by rw [hb]; rfl), ?_⟩
                have h0 : RelS m H B H0 gl rest ⟨fn.ntmps, argSl 0 args, hpx, nx⟩ (vs ++ Array.replicate (fn.ntmps - vs.size) Go.undef) w := by
                  refine ⟨hh, by simp; omega, fun k => ?_, hrest⟩
                  show RV H _ (lk .undef (argSl 0 args) k) _
                  rw [lk_argSl, if_pos (Nat.zero_le _), Nat.sub_zero]
                  cases hx : args[k]? with
                  | none => exact .imm _ _ (.undef _)
                  | some x =>
                    have hk : k < vs.size := by rw [← hl]; exact (List.getElem?_eq_some_iff.1 hx).1
                    have hv : (vs ++ Array.replicate (fn.ntmps - vs.size) Go.undef).getD k Go.undef = vs[k] := by
                      rw [Array.getD_eq_getD_getElem?, Array.getElem?_append_left hk, Array.getElem?_eq_getElem hk]; rfl
                    rw [hv]
                    exact hargs k x _ hx (Array.getElem?_eq_getElem hk)
                have hcode := xcode_ok hch hrd hp.mix true none (fun _ => rfl) 0 fl c _ ex s ds hok hx B H0 rest m H { tmps := vs ++ Array.replicate (fn.ntmps - vs.size) Go.undef, defers := [] } w h0
                refine CallsIn.calls (F := FW none) (callsIn_of_wp_marks hf hb trivial (wpIn_mono hcode fun e a' w' hq => ?_)) (fun k d hd => by simp [FW] at hd)
                obtain ⟨rfl, m', H', D, hD, hd, hlp, hbl, hr2⟩ := hq
                subst hD
                have hgo : LeavesInM (FW none) 0 P fn a'.tmps (fun e w' => ∃ v m' H', e = .returned v ∧ Below B w w' ∧ RelH m' H' B H0 gl (lkb hp') s.nx w' ∧ RV H' (envOf (lkb hp') m') r v ∧ ∀ p ∈ rest, RV H' (envOf (lkb hp') m') p.1 p.2) a'.defers .returning w' := by
                  rw [hd, List.append_nil]
                  refine shut_ok D _ w' hr2.heap hlp hshut fun w3 h3 hE3 hb3 => ?_
                  have hr3 : RelS m' H' B H0 gl rest (s.setHp hp' s.nx) a'.tmps w3 := ⟨h3, hr2.size, fun k => (hr2.slot k).mono (.refl _) hE3, fun p hp => (hr2.rest p hp).mono (.refl _) hE3⟩
                  obtain ⟨v, hv, hrv⟩ := res_all hr3 hr'
                  exact ⟨v, hv, v, m', H', rfl, hbl.trans hb3, h3, hrv, hr3.rest⟩
                cases e with
                | normal => exact hgo
                | ret => exact hgo
                | _ => cases hex
              · cases hk
            · cases hk
          · cases hk
      · cases hk
    · cases hk

theorem xlev_ok {P : Program} {gl : Nat → AV} {gd : Nat → Bool} {fl : Nat} (hp : ProgOk P gd) : ∀ k, CallH.Ok P gl (xlev P gl gd fl k).1 ∧ RoundH.Ok P gl (xlev P gl gd fl k).2
  | 0 => ⟨fun _ _ _ _ _ _ _ h => (by cases h), fun _ _ _ _ _ _ _ h => (by cases h)⟩
  | k + 1 => ⟨xfun_ok hp (xlev_ok hp k).1 (xlev_ok hp k).2, xround_ok (xlev_ok hp k).1 (xlev_ok hp k).2 hp.mix fl⟩
theorem xcall_ok {P : Program} {gl : Nat → AV} {gd : Nat → Bool} {fl : Nat} (hp : ProgOk P gd) (k : Nat) : CallH.Ok P gl (xcall P gl gd fl k) := (xlev_ok hp k).1
end HX
