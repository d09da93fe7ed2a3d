/- A walk whose conditions the kernel works out: functions. -/
import Derived.Test.YtcphiogbjdehhaaDoorHxWp3
namespace HX
open Go Go.RowKit

/-- The marks that a body without ranges over functions leaves: none. -/
def wfunB (P : Program) (gl : Nat → AV) (ch0 : CallH) (wf : WF) (gd : Nat → Bool) (top : Bool) (fl f : Nat) (hs : Hints) (args : List AV) (hp : Tr Box) (nx : Nat) (K : AV → St → Prop) : Prop :=
  match gd f with
  | true => match P.funcs[f]? with
    | some fn => match fn.body with
      | some c => match Nat.ble args.length fn.ntmps with
        | true => wcode P gl ch0 wf hs top fl c ⟨fn.ntmps, argSl 0 args, hp, nx⟩ (fun e s => match endsFn e with
          | true => match resOf P s fn.results.toList with
            | some r => K r s
            | none => False
          | false => False)
        | false => False
      | none => False
    | none => False
  | false => False

/-- Inlined calls, to a depth; ex: what the machine itself answers. -/
def wlev (P : Program) (gl : Nat → AV) (ch0 : CallH) (gd : Nat → Bool) (fl : Nat) (ex : WF) : Nat → WF
  | 0 => ex
  | k + 1 => fun f hs args hp nx K => match gd f with
    | true => wfunB P gl ch0 (wlev P gl ch0 gd fl ex k) gd false fl f hs args hp nx (fun r s => K r s.hp s.nx)
    | false => ex f hs args hp nx K

/-- A function that hands back its argument (internal/abi.NoEscape). -/
def exId (nf : Nat) : WF := fun f _ args hp nx K => match Nat.beq f nf with
  | true => match args with
    | [x] => K x hp nx
    | _ => False
  | false => False
theorem exId_ok {P : Program} {gl : Nat → AV} {nf : Nat} (h : ∀ (x : Value) (w : World), (callFunc nf #[x]).run P w = .ok (.value x) w) : WF.Ok P gl (exId nf) := by
  intro f hs args hp nx K hk
  unfold exId at hk
  split at hk
  · rename_i hf
    obtain rfl := Nat.eq_of_beq_eq_true hf
    split at hk
    · rename_i x
      intro m H B H0 rest w vs hh hl hargs hrest
      have hv : vs = #[vs[0]'(by rw [← hl]; simp)] := by
        apply Array.ext
        · simp [← hl]
        · intro i h1 h2; simp at h2; subst h2; rfl
      have h0 := hargs 0 x (vs[0]'(by rw [← hl]; simp)) rfl (Array.getElem?_eq_getElem _)
      generalize vs[0]'(by rw [← hl]; simp) = v0 at hv h0
      rw [hv]
      exact .inr ⟨_, w, h _ w, _, m, H, x, hp, nx, hk, rfl, Below.refl _ _, hh, h0, hrest⟩
    · cases hk
  · cases hk

section
variable {P : Program} {gl : Nat → AV} {ch0 : CallH} {wf : WF} {hs : Hints} {gd : Nat → Bool} {fl : Nat}

/-- A function by its body: from a world of the arguments it comes back with a state that K allows. -/
theorem wfunB_ok (h0 : ch0.Ok P gl) (hwf : WF.Ok P gl wf) (hp : ProgOk P gd) {top : Bool} {f : Nat} {args : List AV} {hpx : Tr Box} {nx : Nat} {K : AV → St → Prop} (hw : wfunB P gl ch0 wf gd top fl f hs args hpx nx K)
    (m : Nat → Lc) (H : HV) (B : Nat) (H0 : HV) (rest : List (AV × Value)) (w : World) (vs : Array Value) (htop : top = true → rest = []) (hh : RelH m H B H0 gl (lkb hpx) nx w) (hl : args.length = vs.size)
    (hargs : ∀ (j : Nat) (x : AV) (v : Value), args[j]? = some x → vs[j]? = some v → RV H (envOf (lkb hpx) m) x v) (hrest : ∀ p ∈ rest, RV H (envOf (lkb hpx) m) p.1 p.2) :
    Ans P f vs w fun e w' => ∃ v m' H' r s tmps, K r s ∧ e = .returned v ∧ Below B w w' ∧ RelS m' H' B H0 gl rest s tmps w' ∧ RV H' (s.env m') r v := by
  unfold wfunB at hw
  split at hw
  · rename_i hg
    have hok := hp.fn f hg
    unfold okFn at hok
    split at hw
    · rename_i fn hf
      rw [hf] at hok
      simp only [Bool.and_eq_true, bne_iff_ne] at hok
      obtain ⟨hname, hok⟩ := hok
      split at hw
      · rename_i c hb
        rw [hb] at hok
        simp only at hok
        split at hw
        · rename_i hle
          have hle := Nat.le_of_ble_eq_true hle
          refine .inl ⟨enters_of hf (by simpa using hname) (by rw [hb]; rfl), ?_⟩
          have hr0 : RelS m H B H0 gl rest ⟨fn.ntmps, argSl 0 args, hpx, nx⟩ (Act.mk (vs ++ Array.replicate (fn.ntmps - vs.size) Go.undef) []).tmps w := by
            refine ⟨hh, by simp; omega, fun k => ?_, hrest⟩
            show RV H _ (lk .undef (argSl 0 args) k) _
            rw [lk_argSl, if_pos (Nat.zero_le _), Nat.sub_zero]
            cases hx : args[k]? with
            | none => exact .imm _ _ (.undef _)
            | some x =>
              have hk : k < vs.size := by rw [← hl]; exact (List.getElem?_eq_some_iff.1 hx).1
              have hv : (vs ++ Array.replicate (fn.ntmps - vs.size) Go.undef).getD k Go.undef = vs[k] := by
                rw [Array.getD_eq_getD_getElem?, Array.getElem?_append_left hk, Array.getElem?_eq_getElem hk]; rfl
              rw [hv]
              exact hargs k x _ hx (Array.getElem?_eq_getElem hk)
          refine CallsIn.calls (F := FW none) (callsIn_of_wp hf hb trivial (wpIn_mono (wcode_n h0 hwf hp.mix hok hw B H0 rest m H _ w htop hr0) fun e a' w' hq => ?_)) (fun k d hd => by simp [FW] at hd)
          obtain ⟨s, m', H', hK, hd, hbl, hr⟩ := hq
          split at hK
          · rename_i hex
            split at hK
            · rename_i r hres
              obtain ⟨v, hv, hrv⟩ := res_all hr hres
              have hfin : ∃ v0 m' H' r s tmps, K r s ∧ Ending.returned v = .returned v0 ∧ Below B w w' ∧ RelS m' H' B H0 gl rest s tmps w' ∧ RV H' (s.env m') r v0 := ⟨v, m', H', r, s, a'.tmps, hK, rfl, hbl, hr, hrv⟩
              cases e with
              | normal => exact ⟨hd, v, hv, hfin⟩
              | ret => exact ⟨hd, v, hv, hfin⟩
              | _ => cases hex
            · cases hK
          · cases hK
        · cases hw
      · cases hw
    · cases hw
  · cases hw

theorem wlev_ok {ex : WF} (h0 : ch0.Ok P gl) (hp : ProgOk P gd) (hex : WF.Ok P gl ex) : ∀ k, WF.Ok P gl (wlev P gl ch0 gd fl ex k)
  | 0 => hex
  | k + 1 => fun f hs args hpx nx K h => by
    simp only [wlev] at h
    split at h
    · intro m H B H0 rest w vs hh hl hargs hrest
      refine (wfunB_ok h0 (wlev_ok h0 hp hex k) hp h m H B H0 rest w vs (fun e => by cases e) hh hl hargs hrest).mono fun e w' hq => ?_
      obtain ⟨v, m', H', r, s, tmps, hK, rfl, hb, hr, hrv⟩ := hq
      exact ⟨v, m', H', r, s.hp, s.nx, hK, rfl, hb, hr.heap, hrv, hr.rest⟩
    · exact hex f hs args hpx nx K h

/-- The end of a function whose answer is a tree. -/
def endP (r : AV) (r0 : AV) (s : St) : Prop := tree (lkb s.hp) false 12 r0 = some r
/-- The end of a function whose answer is a slice of its own. -/
def endF (sz len : Nat) (ds : List AV) (r0 : AV) (s : St) : Prop :=
  match r0 with
  | .bs id ver sz' off len' => match lkb s.hp id with
    | some (.cells v cs) => match Nat.beq v ver && Nat.beq sz' sz with
      | true => len' = len ∧ off + len * sz ≤ cs.length ∧ 0 < sz ∧ (cs.drop off).take (len * sz) = ds ∧ (∀ hp, optL (tree hp false 12) ds = some ds)
      | false => False
    | _ => False
  | _ => False

def wpure (P : Program) (gl : Nat → AV) (ch0 : CallH) (wf : WF) (gd : Nat → Bool) (fl f : Nat) (hs : Hints) (args : List AV) (r : AV) : Prop :=
  wfunB P gl ch0 wf gd true fl f hs args .nil 0 (endP r)
def wfresh (P : Program) (gl : Nat → AV) (ch0 : CallH) (wf : WF) (gd : Nat → Bool) (fl f : Nat) (hs : Hints) (args : List AV) (sz len : Nat) (ds : List AV) : Prop :=
  wfunB P gl ch0 wf gd true fl f hs args .nil 0 (endF sz len ds)

theorem relH_nil {m : Nat → Lc} {H : HV} {B : Nat} {H0 : HV} {hp : Tr Box} {nx : Nat} {w : World} (h : RelH m H B H0 gl (lkb hp) nx w) : RelH m (snap H (lkb hp) m w) B H0 gl (lkb .nil) 0 w where
  sat := snap_sat h.sat
  old b o hlt := by
    unfold snap
    rw [if_neg ?_]
    · exact h.old b o hlt
    · rintro ⟨id, ver, cs, h1, h2⟩
      have := (h.sep id _ h1).1
      omega
  low := h.low
  fresh _ _ := lkb_nil _
  box _ _ hh := by rw [lkb_nil] at hh; cases hh
  sep _ _ hh := by rw [lkb_nil] at hh; cases hh
  inj _ _ _ _ hh := by rw [lkb_nil] at hh; cases hh
  gl g := (h.gl g).mono (snap_le fun id ver cs hh => (h.sep id _ hh).2.2)
  ty _ _ _ hh := by rw [lkb_nil] at hh; cases hh
  gv := h.gv

theorem Pu.of (h0 : ch0.Ok P gl) (hwf : WF.Ok P gl wf) (hp : ProgOk P gd) {f : Nat} {args : List AV} {r : AV} (hw : wpure P gl ch0 wf gd fl f hs args r) : Pu P gl f args r := by
  refine ⟨fun m H B H0 w vs hh hl hargs => ?_⟩
  refine (wfunB_ok h0 hwf hp hw m H B H0 [] w vs (fun _ => rfl) hh hl hargs (fun p hp => by simp at hp)).mono fun e w' hq => ?_
  obtain ⟨v, m', H', r0, s, tmps, hK, rfl, hb, hr, hrv⟩ := hq
  refine ⟨v, m', snap H' (lkb s.hp) m' w', rfl, hb, relH_nil hr.heap, .imm _ _ (tree_ok (H1 := H') false (fun id ver cs hh => live_loc hh) (fun id ver cs hh => hr.heap.box id _ hh) (fun id ver cs hh => (hr.heap.sep id _ hh).2.2) (fun _ => rfl) 12 r0 r v hrv hK)⟩

theorem Fresh.of (h0 : ch0.Ok P gl) (hwf : WF.Ok P gl wf) (hp : ProgOk P gd) {f : Nat} {args : List AV} {sz len : Nat} {ds : List AV} (hw : wfresh P gl ch0 wf gd fl f hs args sz len ds) (hds : ds.length = len * sz) (hpos : 0 < sz) (strict : Bool) (ht : ∀ hp, optL (tree hp strict 12) ds = some ds) : Fresh P gl strict f args sz len ds := by
  refine ⟨fun m H B H0 w vs hh hl hargs => ?_, hds, hpos, ht⟩
  refine (wfunB_ok h0 hwf hp hw m H B H0 [] w vs (fun _ => rfl) hh hl hargs (fun p hp => by simp at hp)).mono fun e w' hq => ?_
  obtain ⟨v, m', H', r0, s, tmps, hK, rfl, hb, hr, hrv⟩ := hq
  unfold endF at hK
  split at hK
  · rename_i id ver sz' off len'
    split at hK
    · rename_i v' cs hid
      split at hK
      · rename_i hc
        rw [Bool.and_eq_true] at hc
        obtain rfl := Nat.eq_of_beq_eq_true hc.1
        obtain rfl := Nat.eq_of_beq_eq_true hc.2
        obtain ⟨rfl, hle, _, hcs, htr⟩ := hK
        obtain ⟨ad, cap, rfl, _, hlc, hcm, hloc⟩ := hrv.bs_inv
        obtain ⟨rfl, hfit⟩ := hloc _ (live_loc hid)
        obtain ⟨C, e, hC, hsC, hle2, hcell⟩ := hr.heap.box id _ hid
        obtain ⟨s1, s2, s3⟩ := hr.heap.sep id _ hid
        -- all other boxes become known
        have hsy : ∀ id2 ver cs, updF (lkb s.hp) id none id2 = some (.cells ver cs) → lkb s.hp id2 = some (.cells ver cs) := fun id2 ver cs hh => by
          by_cases e : id2 = id
          · subst e; rw [updF_same] at hh; cases hh
          · rwa [updF_ne _ _ e] at hh
        have hd : ∀ id2 ver cs, updF (lkb s.hp) id none id2 = some (.cells ver cs) → ∀ o, H' (m' id2).g o = none := fun id2 ver cs hh => (hr.heap.sep id2 _ (hsy _ _ _ hh)).2.2
        have hnone : ∀ o, snap H' (updF (lkb s.hp) id none) m' w' (m' id).g o = none := fun o => by
          unfold snap
          rw [if_neg ?_]
          · exact s3 o
          · rintro ⟨id2, ver, cs2, h1, h2⟩
            have := hr.heap.inj id2 id _ _ (hsy _ _ _ h1) hid h2
            subst this
            rw [updF_same] at h1; cases h1
        have hlk : ∀ k, lkb (pt .nil 0 (.cells 0 ds)) k = if k = 0 then some (.cells 0 ds) else none := fun k => by
          rw [lkb_pt]
          by_cases e : k = 0
          · subst e; rw [updF_same]; simp
          · rw [updF_ne _ _ e, lkb_nil, if_neg e]
        have hval : ∀ (x t : AV) (u : Value), RV H' (s.env m') x u → tree (updF (lkb s.hp) id none) false 12 x = some t → RelI (snap H' (updF (lkb s.hp) id none) m' w') t u := fun x t u hx ht =>
          tree_ok (H1 := H') false (fun id2 ver cs hh => live_loc (hsy _ _ _ hh)) (fun id2 ver cs hh => hr.heap.box id2 _ (hsy _ _ _ hh)) hd (fun _ => rfl) 12 x t u hx ht
        refine ⟨_, fun _ => ⟨(m' id).g, (m' id).base + off, (m' id).size⟩, snap H' (updF (lkb s.hp) id none) m' w', rfl, hb, ⟨snap_sat hr.heap.sat, fun b o hlt => ?_, hr.heap.low, fun k hk => ?_, fun k b hk => ?_, fun k b hk => ?_, fun i j b b' hi hj _ => ?_, hr.heap.gv, fun g => (hr.heap.gl g).mono (snap_le hd), fun k v2 cs2 hk => ?_⟩, ?_⟩
        · unfold snap
          rw [if_neg ?_]
          · exact hr.heap.old b o hlt
          · rintro ⟨id2, ver, cs2, h1, h2⟩
            have := (hr.heap.sep id2 _ (hsy _ _ _ h1)).1
            omega
        · rw [hlk, if_neg (by omega)]
        · rw [hlk] at hk
          split at hk
          · rename_i e0; subst e0; cases hk
            refine ⟨C, e, hC, hsC, ?_, fun j c hj => ?_⟩
            · rw [hds]; show (m' id).base + off + _ ≤ _
              omega
            · have hj' := hj
              rw [← hcs] at hj
              have hjl : j < len' * sz' := by
                have := (List.getElem?_eq_some_iff.1 hj).1
                simp at this; omega
              rw [List.getElem?_take, if_pos hjl, List.getElem?_drop] at hj
              obtain ⟨u, a1, a2, a3⟩ := hcell _ _ hj
              refine ⟨u, by show C[(m' id).base + off + j]? = some u; rw [Nat.add_assoc]; exact a1, a2, .imm _ _ (hval c c u a3 ?_)⟩
              obtain ⟨hl1, hl2⟩ := optL_spec (htr (updF (lkb s.hp) id none))
              obtain ⟨x, hx, hxt⟩ := hl2 j c hj'
              rw [hj'] at hx; cases hx
              exact hxt
          · cases hk
        · exact ⟨s1, s2, hnone⟩
        · rw [hlk] at hi hj
          split at hi
          · split at hj
            · omega
            · cases hj
          · cases hi
        · rw [hlk] at hk
          split at hk
          · cases hk; exact .inl rfl
          · cases hk
        · refine .bs 0 0 sz' 0 len' _ cap ⟨_, by rw [hlk, if_pos rfl], Nat.le_refl _⟩ hlc hcm fun l hl => ?_
          simp only [envOf, hlk, if_true, Option.some.injEq] at hl
          subst hl
          exact ⟨rfl, by simpa using hfit⟩
      · cases hK
    · cases hK
  · cases hK

theorem Pu.ofCall {f : Nat} {args : List AV} {r0 r : AV} {hp' : Tr Box} {nx' : Nat} (h : CallOk0 P gl f args r0 hp' nx') (ht : tree (lkb hp') false 12 r0 = some r) : Pu P gl f args r := by
  refine ⟨fun m H B H0 w vs hh hl hargs => (h m H B H0 w vs hh hl hargs).mono fun e w' hq => ?_⟩
  obtain ⟨v, m', H', rfl, hb, hH, hrv⟩ := hq
  exact ⟨v, m', snap H' (lkb hp') m' w', rfl, hb, relH_nil hH, .imm _ _ (tree_ok (H1 := H') false (fun id ver cs hh => live_loc hh) (fun id ver cs hh => hH.box id _ hh) (fun id ver cs hh => (hH.sep id _ hh).2.2) (fun _ => rfl) 12 r0 r v hrv ht)⟩
/-- A run's answer, as a tree. -/
def runR (r : Option (AV × Tr Box × Nat)) : Option AV := match r with
  | some (r0, hp', _) => tree (lkb hp') false 12 r0
  | none => none
/-- A run with nothing unknown. -/
theorem Pu.run {fl k : Nat} (hp : ProgOk P gd) {f : Nat} {args : List AV} {r : AV} (h : runR (xcall P gl gd fl k f args .nil 0) = some r) : Pu P gl f args r := by
  unfold runR at h
  split at h
  · rename_i r0 hp' nx' hx
    exact Pu.ofCall (xcall_ok hp k _ _ _ _ _ _ _ hx).zero h
  · cases h
end

/-- A loop of a function's body, by the number of its first region. -/
def findLoop (r : Nat) : Code → Option Code
  | .loop c => match Nat.beq (regId c) r with
    | true => some c
    | false => findLoop r c
  | .seq a b => match findLoop r a with
    | some c => some c
    | none => findLoop r b
  | .cond _ a b => match findLoop r a with
    | some c => some c
    | none => findLoop r b
  | .block _ c => findLoop r c
  | _ => none
def lcode (P : Program) (f r : Nat) : Code := match P.funcs[f]? with
  | some fn => match fn.body with
    | some c => match findLoop r c with
      | some c => c
      | none => .skip
    | none => .skip
  | none => .skip
end HX
