/- Code is sound: ranges over functions, and all the rest. -/
import Derived.Test.YtcphiogbjdehhaaDoorHxCode
namespace HX
open Go Go.RowKit

section
variable {P : Program} {m : Nat → Lc} {H : HV} {B : Nat} {H0 : HV} {gl : Nat → AV} {rest : List (AV × Value)} {st : St} {a : Act} {w : World} {ch : CallH} {rd : RoundH}

/-- A new block that is no row of cells. -/
theorem RelH.newObj {hp : Hp} {nx : Nat} (h : RelH m H B H0 gl hp nx w) {id : Nat} (hn : hp id = none) {nx' : Nat} (hid : id < nx') (hnx : nx ≤ nx') (o : Obj) (b : Box) (hbc : ∀ ver cs, b ≠ .cells ver cs) (hb : BoxOk H (envOf (updF hp id (some b)) (updF m id ⟨w.heap.size, 0, 0⟩)) b ⟨w.heap.size, 0, 0⟩ (w.alloc o)) :
    RelH (updF m id ⟨w.heap.size, 0, 0⟩) H B H0 gl (updF hp id (some b)) nx' (w.alloc o) ∧ Env.le (envOf hp m) (envOf (updF hp id (some b)) (updF m id ⟨w.heap.size, 0, 0⟩)) := by
  have hE := env_new (m := m) (hp := hp) (b := b) (l := ⟨w.heap.size, 0, 0⟩) hn
  have hnew : ∀ o, H w.heap.size o = none := fun o => by
    cases hh : H w.heap.size o with
    | none => rfl
    | some v => have := sat_lt h.sat hh; omega
  exact ⟨h.one (l := ⟨w.heap.size, 0, 0⟩) (fun k hk _ => heap_alloc_old w _ k hk) (by rw [heap_alloc_size]; omega) hE ⟨h.low, by rw [heap_alloc_size]; show w.heap.size < _; omega, hnew⟩ (fun id' b' _ hid' => by
    have := (h.sep id' b' hid').2.1; show (m id').g ≠ w.heap.size; omega) hid hnx hb (fun ver cs e => (hbc ver cs e).elim), hE⟩

/-- A block that is no row of cells is replaced by another. -/
theorem RelH.putObj {hp : Hp} {nx : Nat} (h : RelH m H B H0 gl hp nx w) {id : Nat} {b b' : Box} (hid : hp id = some b) (h1 : ∀ v cs, b ≠ .cells v cs) (h2 : ∀ v cs, b' ≠ .cells v cs) (o : Obj)
    (hb : ∀ E', Env.le (envOf hp m) E' → BoxOk H E' b' (m id) (w.putObj (m id).g o)) : RelH m H B H0 gl (updF hp id (some b')) nx (w.putObj (m id).g o) ∧ Env.le (envOf hp m) (envOf (updF hp id (some b')) m) ∧ Below B w (w.putObj (m id).g o) := by
  have hm : updF m id (m id) = m := by funext k; simp only [updF]; split <;> simp [*]
  have hE := env_obj (m := m) (hp := hp) (l := m id) hid h1 h2 rfl
  obtain ⟨s1, s2, s3⟩ := h.sep id b hid
  have hidn : id < nx := by
    rcases Nat.lt_or_ge id nx with hlt | hge
    · exact hlt
    · have := h.fresh id hge; rw [this] at hid; cases hid
  have := h.one (id := id) (b := b') (l := m id) (w' := w.putObj (m id).g o) (fun k _ hk => World.putObj_heap_other hk) (by simp) hE ⟨s1, by simpa using s2, s3⟩ (fun id' b2 hne hb2 e => hne (h.inj id' id b2 b hb2 hid e)) hidn (Nat.le_refl _) (hb _ hE) (fun ver cs e => (h2 ver cs e).elim)
  rw [hm] at this hE
  exact ⟨this, hE, rfl, rfl, rfl, by simp, fun k hk => World.putObj_heap_other (by omega)⟩

theorem lp_loop {hp : Hp} {id : Nat} {s : LoopState} {pend : Option Code} {n : Nat} {sl : Tr AV} {ps : Array Tmp} {as bd : Code} {d : Nat} (h : hp id = some (.loop s pend n sl ps as bd d)) : (envOf hp m).lp id = some (m id).g := by simp [envOf, h]

set_option maxHeartbeats 1000000 in
theorem xrange_ok (hch : ch.Ok P gl) {g : Operand} {ps : Array Tmp} {as bd : Code} {ex : Exit} {st' : St} {ds : List Nat} (hk : xrange P gl ch g ps as bd st = some (ex, st', ds)) (n : Nat) : CodeOk P gl none n (.rangeFunc g ps as bd) st ex st' ds := by
  intro B H0 rest m H a w hr
  unfold xrange at hk
  split at hk
  · rename_i f caps hg
    cases hbd : bodied P f with
    | false => rw [hbd] at hk; cases hk
    | true =>
    rw [hbd] at hk
    simp only [cond_true] at hk
    have hent := bodied_enters hbd
    split at hk
    · rename_i rv hp' nx' hc
      have hcall := hch _ _ _ _ _ _ _ hc
      have hgv := hr.ev g
      rw [hg] at hgv
      obtain ⟨us, hu, hul, hur⟩ := hgv.fn_inv
      refine wpIn_rangeFunc fun fn _ => ?_
      -- the two new blocks
      have hb1 : BoxOk H (envOf (updF (lkb st.hp) st.nx (some (.defb true))) (updF m st.nx ⟨w.heap.size, 0, 0⟩)) (.defb true) ⟨w.heap.size, 0, 0⟩ (w.alloc (.deferred (some []))) := heap_alloc_new w _
      obtain ⟨r1, E1⟩ := hr.heap.newObj (nx' := st.nx + 2) (hr.heap.fresh _ (Nat.le_refl _)) (by omega) (by omega) _ _ (fun _ _ e => by cases e) hb1
      have hb2 : BoxOk H (envOf (updF (updF (lkb st.hp) st.nx (some (.defb true))) (st.nx + 1) (some (.loop .ready none st.n st.sl ps as bd st.nx))) (updF (updF m st.nx ⟨w.heap.size, 0, 0⟩) (st.nx + 1) ⟨(w.alloc (.deferred (some []))).heap.size, 0, 0⟩)) (.loop .ready none st.n st.sl ps as bd st.nx) ⟨(w.alloc (.deferred (some []))).heap.size, 0, 0⟩
          ((w.alloc (.deferred (some []))).alloc (.loop { state := .ready, pending := none, fn := fn, tmps := a.tmps, params := ps, assign := as, body := bd, defers := w.heap.size })) := by
        refine ⟨fn, a.tmps, w.heap.size, heap_alloc_new _ _, hr.size, fun k => ?_, ?_⟩
        · have hE2 := env_new (m := updF m st.nx ⟨w.heap.size, 0, 0⟩) (hp := updF (lkb st.hp) st.nx (some (.defb true))) (id := st.nx + 1) (b := .loop .ready none st.n st.sl ps as bd st.nx) (l := ⟨(w.alloc (.deferred (some []))).heap.size, 0, 0⟩) (by rw [updF_ne _ _ (by omega)]; exact hr.heap.fresh _ (by omega))
          exact ((hr.slot k).mono (.refl _) E1).mono (.refl _) hE2
        · simp [envOf, updF_ne (lkb st.hp |> fun f => updF f st.nx (some (.defb true))) _ (show st.nx ≠ st.nx + 1 by omega), updF_same, updF_ne (updF m st.nx ⟨w.heap.size, 0, 0⟩) _ (show st.nx ≠ st.nx + 1 by omega)]
      obtain ⟨r2, E2⟩ := r1.newObj (id := st.nx + 1) (nx' := st.nx + 2) (by rw [updF_ne _ _ (by omega)]; exact hr.heap.fresh _ (by omega)) (by omega) (by omega) _ _ (fun _ _ e => by cases e) hb2
      have hws : (w.alloc (.deferred (some []))).heap.size = w.heap.size + 1 := by simp
      have hlp1 : (envOf (updF (updF (lkb st.hp) st.nx (some (.defb true))) (st.nx + 1) (some (.loop .ready none st.n st.sl ps as bd st.nx))) (updF (updF m st.nx ⟨w.heap.size, 0, 0⟩) (st.nx + 1) ⟨(w.alloc (.deferred (some []))).heap.size, 0, 0⟩)).lp (st.nx + 1) = some (w.heap.size + 1) := by
        simp [envOf, updF_same]
      have hlp0 : (envOf (updF (updF (lkb st.hp) st.nx (some (.defb true))) (st.nx + 1) (some (.loop .ready none st.n st.sl ps as bd st.nx))) (updF (updF m st.nx ⟨w.heap.size, 0, 0⟩) (st.nx + 1) ⟨(w.alloc (.deferred (some []))).heap.size, 0, 0⟩)).lp st.nx = some w.heap.size := by
        have e1 : updF (updF (lkb st.hp) st.nx (some (.defb true))) (st.nx + 1) (some (.loop .ready none st.n st.sl ps as bd st.nx)) st.nx = some (.defb true) := by rw [updF_ne _ _ (by omega), updF_same]
        have e2 : updF (updF m st.nx ⟨w.heap.size, 0, 0⟩) (st.nx + 1) ⟨(w.alloc (.deferred (some []))).heap.size, 0, 0⟩ st.nx = ⟨w.heap.size, 0, 0⟩ := by rw [updF_ne _ _ (by omega), updF_same]
        simp only [envOf, e1, e2]
      have hE12 := E1.trans E2
      rw [← lkb_pt, ← lkb_pt] at r2 hlp1 hlp0 hE12
      have hbel : Below B w ((w.alloc (.deferred (some []))).alloc (.loop { state := .ready, pending := none, fn := fn, tmps := a.tmps, params := ps, assign := as, body := bd, defers := w.heap.size })) :=
        ((Below.refl B w).alloc hr.heap.low _).alloc (by have := hr.heap.low; simp; omega) _
      have henter : (Instr.enterLoop fn a.tmps ps as bd (FW none).round).run P w = .ok (w.heap.size + 1, [{ target := .collected w.heap.size, args := #[] }]) ((w.alloc (.deferred (some []))).alloc (.loop { state := .ready, pending := none, fn := fn, tmps := a.tmps, params := ps, assign := as, body := bd, defers := w.heap.size })) := run_enterLoop_outer fn a.tmps ps as bd
      generalize ((w.alloc (.deferred (some []))).alloc (.loop { state := .ready, pending := none, fn := fn, tmps := a.tmps, params := ps, assign := as, body := bd, defers := w.heap.size })) = W2 at r2 hbel henter
      generalize (updF (updF m st.nx ⟨w.heap.size, 0, 0⟩) (st.nx + 1) ⟨(w.alloc (.deferred (some []))).heap.size, 0, 0⟩) = m2 at r2 hlp1 hlp0 hE12
      have hres : (resolve a.eval (rangeCall g (w.heap.size + 1)) 0).run P W2 = .ok { target := .fn (.func f) us, args := #[.func (.yield (w.heap.size + 1)) #[] #[]] } W2 := by
        have : a.eval g = .func (.func f) #[] us := hu
        show (Deferred.ofValue (a.eval g) (#[Operand.const (.func (.yield (w.heap.size + 1)) #[] #[])].map a.eval)).run P W2 = _
        rw [this]
        simp [Deferred.ofValue, Act.eval]
      have hinv : (invoke (.fn (.func f) us) #[.func (.yield (w.heap.size + 1)) #[] #[]]).run P W2 = .ok (.enter f (#[.func (.yield (w.heap.size + 1)) #[] #[]] ++ us)) W2 := by
        simp only [invoke]
        exact hent _ _
      -- the call
      have hcall' := Ans.calls (he := hent) <| hcall m2 H B H0 ((List.range st.n).map (fun k => (st.get k, a.tmps.getD k Go.undef)) ++ (pairsOf [(st.nx, w.heap.size), (st.nx + 1, w.heap.size + 1)] ++ rest)) _ (#[.func (.yield (w.heap.size + 1)) #[] #[]] ++ us) r2 (by simp; omega) (fun j x v hx hv => by
          cases j with
          | zero =>
            simp only [List.getElem?_cons_zero, Option.some.injEq] at hx
            subst hx
            have : v = .func (.yield (w.heap.size + 1)) #[] #[] := by rw [Array.getElem?_append_left (by simp)] at hv; simpa using hv.symm
            subst this
            exact .yld _ _ hlp1
          | succ j =>
            rw [List.getElem?_cons_succ] at hx
            refine (hur j x v hx ?_).mono (.refl _) hE12
            rw [Array.getElem?_append_right (by simp)] at hv
            simpa using hv) (fun p hp => by
          rw [List.mem_append, List.mem_map, List.mem_append] at hp
          rcases hp with ⟨q, _, rfl⟩ | hp | hp
          · exact (hr.slot _).mono (.refl _) hE12
          · simp only [pairsOf, List.map_cons, List.map_nil, List.mem_cons, List.not_mem_nil, or_false] at hp
            rcases hp with rfl | rfl
            · exact .yld _ _ hlp0
            · exact .yld _ _ hlp1
          · exact (hr.rest p hp).mono (.refl _) hE12)
      refine ⟨_, _, _, _, _, _, _, _, henter, hres, fun _ _ => trivial, hinv, (fun hh => by simp [FW] at hh), callsIn_FW (hcall'.mono fun e w3 hpost => ?_)⟩
      · obtain ⟨v, m', H', rfl, hb3, hh3, _, hrest3⟩ := hpost
        split at hk
        · rename_i s3 pend n3 sl3 ps3 as3 bd3 d3 hid
          split at hk
          · cases hk
          · rename_i hbusy
            have hy1 := hrest3 (.yld (st.nx + 1), .func (.yield (w.heap.size + 1)) #[] #[]) (by simp [pairsOf])
            obtain ⟨l1, q1, q2⟩ := hy1.yld_inv
            cases q1
            have hl1 : (m' (st.nx + 1)).g = w.heap.size + 1 := by
              rw [lp_loop hid] at q2; simpa using q2
            have hbx := hh3.box _ _ hid
            obtain ⟨fn3, t3, dg3, hobj, hsz3, hsl3, hd3⟩ := hbx
            rw [hl1] at hobj
            have hend := run_endLoop (P := P) hobj hbusy
            have hput := hh3.putObj hid (fun _ _ e => by cases e) (b' := .loop .exhausted pend n3 sl3 ps3 as3 bd3 d3) (fun _ _ e => by cases e) (.loop { state := .exhausted, pending := pend, fn := fn3, tmps := t3, params := ps3, assign := as3, body := bd3, defers := dg3 }) (fun E' hE' => ⟨fn3, t3, dg3, by rw [World.putObj_heap_same (hh3.sep _ _ hid).2.1], hsz3, fun k => (hsl3 k).mono (.refl _) hE', hE'.lp _ _ hd3⟩)
            obtain ⟨hh4, hE4, hb4⟩ := hput
            rw [← lkb_pt] at hh4 hE4
            rw [hl1] at hh4 hb4
            -- the caller's state
            have hfin : CPost gl B H0 rest a w (st.setHp (pt hp' (st.nx + 1) (.loop .exhausted pend n3 sl3 ps3 as3 bd3 d3)) nx') [st.nx] { a with defers := [{ target := .collected w.heap.size, args := #[] }] ++ a.defers } (w3.putObj (w.heap.size + 1) (.loop { state := .exhausted, pending := pend, fn := fn3, tmps := t3, params := ps3, assign := as3, body := bd3, defers := dg3 })) := by
              refine ⟨m', H', [(st.nx, w.heap.size)], rfl, rfl, fun p hp => ?_, (hbel.trans hb3).trans hb4, ?_⟩
              · simp only [List.mem_singleton] at hp
                subst hp
                have hy0 := (hrest3 (.yld st.nx, .func (.yield w.heap.size) #[] #[]) (by simp [pairsOf])).mono (.refl _) hE4
                obtain ⟨l0, q3, q4⟩ := hy0.yld_inv
                cases q3; exact q4
              · have := RelS.taken (dst := none) hr rfl (r := .undef) (v := Go.undef) hh4 (.imm _ _ (.undef _)) (fun p hp => by
                  refine (hrest3 p ?_).mono (.refl _) hE4
                  rw [List.mem_append] at hp ⊢
                  rcases hp with hp | hp
                  · exact .inl hp
                  · exact .inr (List.mem_append_right _ hp))
                exact this
            refine ⟨pend, _, hend, ?_⟩
            split at hk
            · cases hk; exact ⟨rfl, hfin⟩
            · cases hk; exact wpIn_ret ⟨rfl, hfin⟩
            · cases hk; exact wpIn_exit ⟨rfl, hfin⟩
            · cases hk
        · cases hk
    · cases hk
  · cases hk
end
end HX
