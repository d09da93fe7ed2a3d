/- A round of a loop over a function. -/
import Derived.Test.YtcphiogbjdehhaaDoorHxCode3
namespace HX
open Go Go.RowKit

def putPs : List Nat → List AV → St → Option St
  | [], [], st => some st
  | p :: ps, x :: xs, st => if dstOk (some p) st.n then putPs ps xs (st.putO (some p) x) else none
  | _, _, _ => none

def roundEnd (ex : Exit) : Option (Option Code) := match ex with
  | .normal => some none
  | .ret => some (some .ret)
  | .exit i => some (some (.exit i))
  | _ => none

def xround (P : Program) (gl : Nat → AV) (fl : Nat) (ch : CallH) (rd : RoundH) : RoundH := fun id args hp nx =>
  match lkb hp id with
  | some (.loop _ _ n sl ps as bd _) => bif okCode as && okCode bd then (match putPs ps.toList args ⟨n, sl, hp, nx⟩ with
    | some s0 => match xcode P gl ch rd false fl as s0 with
      | some (.normal, s1, []) => match lkb s1.hp id with
        | some (.loop .ready pend1 n1 sl1 ps1 as1 bd1 d1) => match xcode P gl ch rd false fl bd (s1.setHp (pt s1.hp id (.loop .busy pend1 n1 sl1 ps1 as1 bd1 d1)) s1.nx) with
          | some (ex, s2, []) => match lkb s2.hp id with
            | some (.loop _ _ n2 sl2 ps2 as2 bd2 d2) => match roundEnd ex with
              | some j => some (.bool j.isNone, pt s2.hp id (.loop (if j.isNone then .ready else .done) j n2 sl2 ps2 as2 bd2 d2), s2.nx)
              | none => none
            | _ => none
          | _ => none
        | _ => none
      | _ => none
    | none => none) else none
  | _ => none

section
variable {P : Program} {m : Nat → Lc} {H : HV} {B : Nat} {H0 : HV} {gl : Nat → AV} {rest : List (AV × Value)} {st : St} {a : Act} {w : World} {ch : CallH} {rd : RoundH}

theorem putPs_ok : ∀ (ps : List Nat) (xs : List AV) (vs : List Value) (st : St) (tmps : Array Value) (s0 : St), RelS m H B H0 gl rest st tmps w → putPs ps xs st = some s0 → xs.length = vs.length → (∀ (j : Nat) (x : AV) (v : Value), xs[j]? = some x → vs[j]? = some v → RV H (st.env m) x v) →
    ps.length = vs.length ∧ RelS m H B H0 gl rest s0 ((ps.zip vs).foldl (fun tmps (q : Nat × Value) => tmps.setIfInBounds q.1 q.2) tmps) w ∧ s0.hp = st.hp ∧ s0.nx = st.nx
  | [], [], vs, st, tmps, s0, h, hk, hl, _ => by
    have : vs = [] := List.eq_nil_of_length_eq_zero (by simpa using hl.symm)
    subst this
    cases hk
    exact ⟨rfl, h, rfl, rfl⟩
  | p :: ps, x :: xs, vs, st, tmps, s0, h, hk, hl, hv => by
    cases vs with
    | nil => simp at hl
    | cons v vs =>
      simp only [putPs] at hk
      split at hk
      · rename_i hd
        have h1 := RelS.putO (a := { tmps := tmps, defers := [] }) (dst := some p) h hd (hv 0 x v rfl rfl)
        obtain ⟨e1, e2, e3, e4⟩ := putPs_ok ps xs vs (st.putO (some p) x) _ s0 h1 hk (by simpa using hl) (fun j y u hy hu => hv (j + 1) y u (by simpa using hy) (by simpa using hu))
        exact ⟨by simp [e1], e2, by rw [e3]; rfl, by rw [e4]; rfl⟩
      · cases hk
  | [], _ :: _, _, _, _, _, _, hk, _, _ => by cases hk
  | _ :: _, [], _, _, _, _, _, hk, _, _ => by cases hk

theorem lp_keep {E : Env} {id l : Nat} {v : AV × Value} (hv : v = (.yld id, .func (.yield l) #[] #[])) (h : RV H E v.1 v.2) : E.lp id = some l := by
  subst hv
  obtain ⟨l', q1, q2⟩ := h.yld_inv
  cases q1; exact q2

set_option maxHeartbeats 1000000 in
theorem xround_ok (hch : ch.Ok P gl) (hrd : rd.Ok P gl) (hmix : P.follows .mixedOrders = true) (fl : Nat) : RoundH.Ok P gl (xround P gl fl ch rd) := by
  intro id args hp nx r hp' nx' hk m H B H0 rest w vs l hh hlp hl hargs hrest
  unfold xround at hk
  split at hk
  · rename_i s pend n sl ps as bd d hid
    cases hok : (okCode as && okCode bd) with
    | false => rw [hok] at hk; cases hk
    | true =>
      rw [hok] at hk
      simp only [cond_true] at hk
      rw [Bool.and_eq_true] at hok
      split at hk
      · rename_i s0 hs0
        split at hk
        · rename_i s1 hs1
          split at hk
          · rename_i pend1 n1 sl1 ps1 as1 bd1 d1 hid1
            split at hk
            · rename_i ex s2 hs2
              split at hk
              · rename_i st2 pend2 n2 sl2 ps2 as2 bd2 d2 hid2
                split at hk
                · rename_i j hj
                  cases hk
                  -- the record
                  have hlm : (m id).g = l := by rw [lp_loop hid] at hlp; simpa using hlp
                  obtain ⟨fn, tmps, dg, hobj, hsz, hsl, hd⟩ := hh.box _ _ hid
                  rw [hlm] at hobj
                  have hr0 : RelS m H B H0 gl ((.yld id, .func (.yield l) #[] #[]) :: rest) ⟨n, sl, hp, nx⟩ tmps w :=
                    ⟨hh, hsz, hsl, fun p hp => by
                      rw [List.mem_cons] at hp
                      rcases hp with rfl | hp
                      · exact .yld _ _ hlp
                      · exact hrest p hp⟩
                  obtain ⟨hpl, hr1, e1, e2⟩ := putPs_ok ps.toList args vs.toList _ tmps s0 hr0 hs0 (by simpa using hl) (fun j x v hx hv => hargs j x v hx (by simpa using hv))
                  have hfold : (ps.zip vs).foldl (fun tmps (q : Nat × Value) => tmps.setIfInBounds q.1 q.2) tmps = (ps.toList.zip vs.toList).foldl (fun tmps (q : Nat × Value) => tmps.setIfInBounds q.1 q.2) tmps := by
                    rw [← Array.foldl_toList, Array.toList_zip]
                  rw [← hfold] at hr1
                  refine ⟨fn, _, as, bd, run_yield hobj (by simpa using hpl.symm), fun ro k => ?_⟩
                  refine roundIn_of_wpIn trivial ?_
                  have hA := xcode_ok hch hrd hmix false (some l) (by simp) k fl as s0 .normal s1 [] hok.1 hs1 B H0 _ m H { tmps := (ps.zip vs).foldl (fun tmps (q : Nat × Value) => tmps.setIfInBounds q.1 q.2) tmps, defers := [] } w hr1
                  refine wpIn_mono hA fun e a1 w1 hq => ?_
                  obtain ⟨rfl, m1, H1, D1, hD1, -, -, hb1, hrel1⟩ := hq
                  have hlp1 := lp_keep rfl (hrel1.rest (.yld id, .func (.yield l) #[] #[]) (by simp))
                  have hlm1 : (m1 id).g = l := by
                    have := lp_loop (m := m1) hid1
                    rw [show (envOf (lkb s1.hp) m1).lp id = some l from hlp1] at this
                    simpa using this.symm
                  obtain ⟨fn1, tmps1, dg1, hobj1, hsz1, hsl1, hd1⟩ := hrel1.heap.box _ _ hid1
                  obtain ⟨hh2, hE2, hb2⟩ := hrel1.heap.putObj hid1 (fun _ _ e => by cases e) (b' := .loop .busy pend1 n1 sl1 ps1 as1 bd1 d1) (fun _ _ e => by cases e) (.loop { state := .busy, pending := pend1, fn := fn1, tmps := tmps1, params := ps1, assign := as1, body := bd1, defers := dg1 }) (fun E' hE' => ⟨fn1, tmps1, dg1, by rw [World.putObj_heap_same (hrel1.heap.sep _ _ hid1).2.1], hsz1, fun k => (hsl1 k).mono (.refl _) hE', hE'.lp _ _ hd1⟩)
                  rw [hlm1] at hobj1 hh2 hb2
                  rw [← lkb_pt] at hh2 hE2
                  refine ⟨_, run_beginRound hobj1 rfl, ?_⟩
                  have hrel2 : RelS m1 H1 B H0 gl ((.yld id, .func (.yield l) #[] #[]) :: rest) (s1.setHp (pt s1.hp id (.loop .busy pend1 n1 sl1 ps1 as1 bd1 d1)) s1.nx) a1.tmps (w1.putObj l (.loop { state := .busy, pending := pend1, fn := fn1, tmps := tmps1, params := ps1, assign := as1, body := bd1, defers := dg1 })) :=
                    ⟨hh2, hrel1.size, fun k => (hrel1.slot k).mono (.refl _) hE2, fun p hp => (hrel1.rest p hp).mono (.refl _) hE2⟩
                  have hB := xcode_ok hch hrd hmix false (some l) (by simp) k fl bd _ ex s2 [] hok.2 hs2 B H0 _ m1 H1 a1 _ hrel2
                  refine wpIn_mono hB fun e a3 w3 hq => ?_
                  obtain ⟨rfl, m3, H3, D3, hD3, -, -, hb3, hrel3⟩ := hq
                  have hlp3 := lp_keep rfl (hrel3.rest (.yld id, .func (.yield l) #[] #[]) (by simp))
                  have hlm3 : (m3 id).g = l := by
                    have := lp_loop (m := m3) hid2
                    rw [show (envOf (lkb s2.hp) m3).lp id = some l from hlp3] at this
                    simpa using this.symm
                  obtain ⟨fn3, tmps3, dg3, hobj3, hsz3, hsl3, hd3⟩ := hrel3.heap.box _ _ hid2
                  obtain ⟨hh4, hE4, hb4⟩ := hrel3.heap.putObj hid2 (fun _ _ e => by cases e) (b' := .loop (if j.isNone then .ready else .done) j n2 sl2 ps2 as2 bd2 d2) (fun _ _ e => by cases e) (.loop { state := if j.isNone then .ready else .done, pending := j, fn := fn3, tmps := tmps3, params := ps2, assign := as2, body := bd2, defers := dg3 }) (fun E' hE' => ⟨fn3, tmps3, dg3, by rw [World.putObj_heap_same (hrel3.heap.sep _ _ hid2).2.1], hsz3, fun k => (hsl3 k).mono (.refl _) hE', hE'.lp _ _ hd3⟩)
                  rw [hlm3] at hobj3 hh4 hb4
                  rw [← lkb_pt] at hh4 hE4
                  have hend := run_endRound (P := P) j hobj3
                  have hfin : ∃ v m' H', Ending.returned (.bool j.isNone) = .returned v ∧ Below B w (w3.putObj l (.loop { state := if j.isNone then .ready else .done, pending := j, fn := fn3, tmps := tmps3, params := ps2, assign := as2, body := bd2, defers := dg3 })) ∧ RelH m' H' B H0 gl (lkb (pt s2.hp id (.loop (if j.isNone then .ready else .done) j n2 sl2 ps2 as2 bd2 d2))) s2.nx (w3.putObj l (.loop { state := if j.isNone then .ready else .done, pending := j, fn := fn3, tmps := tmps3, params := ps2, assign := as2, body := bd2, defers := dg3 })) ∧ RV H' (envOf (lkb (pt s2.hp id (.loop (if j.isNone then .ready else .done) j n2 sl2 ps2 as2 bd2 d2))) m') (.bool j.isNone) v ∧ ∀ p ∈ rest, RV H' (envOf (lkb (pt s2.hp id (.loop (if j.isNone then .ready else .done) j n2 sl2 ps2 as2 bd2 d2))) m') p.1 p.2 :=
                    ⟨.bool j.isNone, m3, H3, rfl, ((hb1.trans hb2).trans hb3).trans hb4, hh4, .imm _ _ (.bool _), fun p hp => (hrel3.rest p (List.mem_cons_of_mem _ hp)).mono (.refl _) hE4⟩
                  cases e with
                  | normal => cases hj; exact ⟨_, _, hend, hfin⟩
                  | ret => cases hj; exact ⟨_, _, hend, hfin⟩
                  | exit i => cases hj; exact ⟨_, _, hend, hfin⟩
                  | _ => cases hj
                · cases hk
              · cases hk
            · cases hk
          · cases hk
        · cases hk
      · cases hk
  · cases hk
end
end HX
