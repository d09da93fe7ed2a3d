/- The swap of two operations; the static check of a region; all orders. -/
import Derived.Test.YtcphiogbjdehhaaDoorHxDraw2
namespace HX
open Go Go.RowKit

section
variable {P : Program} {m : Nat → Lc} {H : HV} {B : Nat} {H0 : HV} {gl : Nat → AV} {rest : List (AV × Value)} {st : St} {a : Act} {w : World} {ch : CallB} {all : List Oper}

theorem xcore_congr {bid : Nat} {o : Oper} {gv gv' : Option AV} {ev ev' : Operand → AV} {hp hp' : Hp} (hg : gv = gv') (hx : ∀ x ∈ o.op.operands, ev x = ev' x) (hh : xo P ch bid o.dst o.op ev' hp = xo P ch bid o.dst o.op ev' hp') : xcore P ch bid o gv ev hp = xcore P ch bid o gv' ev' hp' := by
  subst hg
  unfold xcore
  rw [xo_congr hx, hh]

theorem xcore_box {bid : Nat} {o : Oper} {gv : Option AV} {ev : Operand → AV} {hp : Hp} {v : AV} {id : Nat} {b : Box} (h : xcore P ch bid o gv ev hp = some (v, some (id, b))) : id = bid ∨ (hk o.op = 2 ∧ ∃ b', hp id = some b') := by
  unfold xcore at h
  split at h
  · exact xo_box h
  · split at h
    · split at h
      · exact xo_box h
      · cases h
      · cases h
    · cases h

theorem meetD_false {d : Option Nat} {l : List Nat} (h : meetD d l = false) {k : Nat} (hk : k ∈ l) : d ≠ some k := by
  intro e; subst e
  simp only [meetD] at h
  have : l.contains k = true := by simpa using hk
  rw [this] at h; cases h

theorem eff_reads {o : Oper} {d : Option Nat} (r : AV × Option (Nat × Box)) (hd : meetD d (rdO all o) = false) : (∀ x ∈ o.op.operands, (st.eff d r).ev gl x = st.ev gl x) ∧ gval all o (st.eff d r) = gval all o st := by
  refine ⟨fun x hx => ?_, ?_⟩
  · cases x with
    | tmp t =>
      show (st.eff d r).get t = st.get t
      rw [get_eff, if_neg]
      refine meetD_false hd ?_
      unfold rdO
      rw [List.mem_append]
      exact .inl (List.mem_filterMap.2 ⟨.tmp t, by simpa using hx, rfl⟩)
    | _ => rfl
  · unfold gval
    split
    · rfl
    · rename_i j want hg
      split
      · rename_i g hgs
        rw [get_eff, if_neg]
        refine meetD_false hd ?_
        unfold rdO
        rw [List.mem_append]
        refine .inr ?_
        simp [hg, hgs]
      · rfl

theorem updF_comm {f : Hp} {i j : Nat} {x y : Option Box} (h : i ≠ j) : updF (updF f i x) j y = updF (updF f j y) i x := by
  funext k
  unfold updF
  by_cases h1 : k = i <;> by_cases h2 : k = j <;> simp_all

theorem swap (h : RelS m H B H0 gl rest st a.tmps w) {oj oi : Oper} {bj bi : Nat} (hne : bj ≠ bi) (hc : confl all oj oi = false) {s1 s2 : St} (h1 : xstepO P gl ch all bj oj st = some s1) (h2 : xstepO P gl ch all bi oi s1 = some s2) :
    ∃ t1 t2, xstepO P gl ch all bi oi st = some t1 ∧ xstepO P gl ch all bj oj t1 = some t2 ∧ StEq t2 s2 := by
  simp only [confl, Bool.or_eq_false_iff] at hc
  obtain ⟨⟨⟨c1, c2⟩, c3⟩, c4⟩ := hc
  rw [xstepO_eq] at h1
  split at h1
  · rename_i k1
    simp only [Bool.and_eq_true, Option.isNone_iff_eq_none] at k1
    obtain ⟨⟨hdj, hbj⟩, hnj⟩ := k1
    split at h1
    · rename_i rj hrj
      cases h1
      rw [xstepO_eq] at h2
      split at h2
      · rename_i k2
        simp only [Bool.and_eq_true, Option.isNone_iff_eq_none, eff_n, eff_nx] at k2
        obtain ⟨⟨hdi, hbi⟩, hni⟩ := k2
        split at h2
        · rename_i ri hri
          cases h2
          obtain ⟨e1, e2⟩ := eff_reads (st := st) (gl := gl) (all := all) (o := oi) rj c1
          -- the second operation, ahead of the first
          have hbi0 : lkb st.hp bi = none := by
            rw [hp_eff] at hbi
            split at hbi
            · rename_i id b hb
              by_cases e : bi = id
              · subst e; rw [updF_same] at hbi; cases hbi
              · rwa [updF_ne _ _ e] at hbi
            · exact hbi
          have hpi : xo P ch bi oi.dst oi.op (st.ev gl) (lkb (st.eff oj.dst rj).hp) = xo P ch bi oi.dst oi.op (st.ev gl) (lkb st.hp) := by
            rw [hp_eff]
            split
            · rename_i id b hb
              have hrj' : xcore P ch bj oj (gval all oj st) (st.ev gl) (lkb st.hp) = some (rj.1, some (id, b)) := by rw [hrj, ← hb]
              rcases xcore_box hrj' with rfl | ⟨hk2, _⟩
              · exact xo_ext h (ext_upd hbj)
              · refine xo_hk0 ?_
                simp only [hkCl, hk2] at c4
                simp at c4
                exact c4.1
            · rfl
          have hi' : xcore P ch bi oi (gval all oi st) (st.ev gl) (lkb st.hp) = some ri := by
            rw [← hri]; exact (xcore_congr e2 e1 hpi).symm
          obtain ⟨f1, f2⟩ := eff_reads (st := st) (gl := gl) (all := all) (o := oj) ri c3
          have hidi : ∀ id b, ri.2 = some (id, b) → id = bi ∨ (hk oi.op = 2 ∧ ∃ b', lkb st.hp id = some b') := fun id b hb => by
            refine xcore_box (v := ri.1) (b := b) ?_ (gv := gval all oi st) (ev := st.ev gl) (P := P) (ch := ch)
            rw [hi', ← hb]
          have hidj : ∀ id b, rj.2 = some (id, b) → id = bj ∨ (hk oj.op = 2 ∧ ∃ b', lkb st.hp id = some b') := fun id b hb => by
            refine xcore_box (v := rj.1) (b := b) ?_ (gv := gval all oj st) (ev := st.ev gl) (P := P) (ch := ch)
            rw [hrj, ← hb]
          have hbj1 : lkb (st.eff oi.dst ri).hp bj = none := by
            rw [hp_eff]
            split
            · rename_i id b hb
              have : bj ≠ id := by
                rcases hidi id b hb with rfl | ⟨_, b', hb'⟩
                · exact hne
                · intro e; subst e; rw [hbj] at hb'; cases hb'
              rw [updF_ne _ _ this]; exact hbj
            · exact hbj
          have hpj : xo P ch bj oj.dst oj.op (st.ev gl) (lkb (st.eff oi.dst ri).hp) = xo P ch bj oj.dst oj.op (st.ev gl) (lkb st.hp) := by
            rw [hp_eff]
            split
            · rename_i id b hb
              rcases hidi id b hb with rfl | ⟨hk2, _⟩
              · exact xo_ext h (ext_upd hbi0)
              · refine xo_hk0 ?_
                simp only [hkCl, hk2] at c4
                simp at c4
                exact c4.2
            · rfl
          have hj' : xcore P ch bj oj (gval all oj (st.eff oi.dst ri)) ((st.eff oi.dst ri).ev gl) (lkb (st.eff oi.dst ri).hp) = some rj := by
            rw [← hrj]; exact xcore_congr f2 f1 hpj
          refine ⟨st.eff oi.dst ri, (st.eff oi.dst ri).eff oj.dst rj, ?_, ?_, ?_⟩
          · rw [xstepO_eq, if_pos (by simp [hdi, hbi0, hni]), hi']
          · rw [xstepO_eq, if_pos (by simp [eff_n, eff_nx, hdj, hbj1, hnj]), hj']
          · refine ⟨by simp only [eff_n], by simp only [eff_nx], fun k => ?_, ?_⟩
            · simp only [get_eff]
              by_cases k1 : oj.dst = some k <;> by_cases k2 : oi.dst = some k <;> simp only [k1, k2, if_true, if_false]
              exact absurd k1 (meetD_false c2 (by simp [k2]))
              all_goals rfl
            · rw [hp_eff, hp_eff, hp_eff, hp_eff]
              cases hrj2 : rj.2 with
              | none => rfl
              | some x =>
                obtain ⟨idj, bxj⟩ := x
                cases hri2 : ri.2 with
                | none => rfl
                | some y =>
                  obtain ⟨idi, bxi⟩ := y
                  simp only
                  refine updF_comm ?_
                  rcases hidi idi bxi hri2 with rfl | ⟨hk2, b', hb'⟩
                  · rcases hidj idj bxj hrj2 with rfl | ⟨_, b'', hb''⟩
                    · exact Ne.symm hne
                    · intro e; subst e; rw [hbi0] at hb''; cases hb''
                  · rcases hidj idj bxj hrj2 with rfl | ⟨hk3, _⟩
                    · intro e; subst e; rw [hbj] at hb'; cases hb'
                    · exfalso; simp [hkCl, hk2, hk3] at c4
        · cases h2
      · cases h2
    · cases h1
  · cases h1

/-- Whatever comes to be asked of what stands behind an operation, it does come to be. -/
theorem real_of_wpIn {ro : Option Nat} {n : Nat} {o : Oper} {next : Act → World → Prop} (h : o.wpIn (FW ro) n P a w next fun _ _ _ => False) : ∃ a' w', next a' w' := by
  obtain ⟨_, h⟩ := h
  unfold Oper.uponIn at h
  split at h
  · exact ⟨_, _, h⟩
  · exact ⟨_, _, h⟩
  · exact ⟨_, _, h⟩
  · obtain ⟨_, _, hc⟩ := h
    obtain ⟨e, w', fr, hr, _⟩ := hc [] (fun d hd => by simp [FW] at hd)
    cases e with
    | returned v => exact ⟨_, _, hr⟩
    | panicked c => exact hr.elim
    | outgrown => obtain ⟨_, _, hr⟩ := hr; exact hr.elim
  · obtain ⟨_, hc⟩ := h
    obtain ⟨v, w', hr, _⟩ := hc default [] (fun d hd => by simp [FW] at hd)
    exact ⟨_, _, hr⟩
  · obtain ⟨_, _, hc⟩ := h
    obtain ⟨e, w', hr, _⟩ := hc default [] (fun d hd => by simp [FW] at hd)
    cases e with
    | returned v => exact ⟨_, _, hr⟩
    | panicked c => exact hr.elim
    | outgrown => obtain ⟨_, _, hr⟩ := hr; exact hr.elim
  · exact h.elim
  · exact h.elim

theorem xstepO_real (hch : ch.Ok P gl) (h : RelS m H B H0 gl rest st a.tmps w) {o : Oper} {bid : Nat} {st' : St} (hk : xstepO P gl ch all bid o st = some st') : ∃ (a' : Act) (w' : World) (m' : Nat → Lc) (H' : HV), RelS m' H' B H0 gl rest st' a'.tmps w' := by
  have := xstepO_ok hch h hk none 0 (fun a' w' => ∃ m' H', RelS m' H' B H0 gl rest st' a'.tmps w') (fun _ _ _ => False) (fun a' w' m' H' _ _ hr => ⟨m', H', hr⟩)
  split at this
  · obtain ⟨a', w', m', H', hr⟩ := real_of_wpIn this; exact ⟨a', w', m', H', hr⟩
  · obtain ⟨_, m', H', hr⟩ := this; exact ⟨_, _, m', H', hr⟩

def runI (P : Program) (gl : Nat → AV) (ch : CallB) (all : List Oper) (base : Nat) : List Nat → St → Option St
  | [], st => some st
  | i :: l, st => match all[i]? with
    | some o => match xstepO P gl ch all (base + i) o st with
      | some s => runI P gl ch all base l s
      | none => none
    | none => none

theorem runI_append {base : Nat} : ∀ {l r : List Nat} {st : St}, runI P gl ch all base (l ++ r) st = match runI P gl ch all base l st with | some s => runI P gl ch all base r s | none => none
  | [], r, st => rfl
  | i :: l, r, st => by
    simp only [List.cons_append, runI]
    cases all[i]? with
    | none => rfl
    | some o =>
      simp only
      cases xstepO P gl ch all (base + i) o st with
      | none => rfl
      | some s => exact runI_append

theorem StEq.runI {base : Nat} : ∀ {l : List Nat} {x y s : St}, StEq x y → HX.runI P gl ch all base l x = some s → ∃ s', HX.runI P gl ch all base l y = some s' ∧ StEq s s'
  | [], x, y, s, h, hk => by simp only [HX.runI, Option.some.injEq] at hk; subst hk; exact ⟨y, rfl, h⟩
  | i :: l, x, y, s, h, hk => by
    simp only [HX.runI] at hk ⊢
    cases ho : all[i]? with
    | none => rw [ho] at hk; cases hk
    | some o =>
      rw [ho] at hk
      simp only at hk ⊢
      cases hs : xstepO P gl ch all (base + i) o x with
      | none => rw [hs] at hk; cases hk
      | some s1 =>
        rw [hs] at hk
        obtain ⟨s2, h1, h2⟩ := h.stepO hs
        rw [h1]
        exact StEq.runI h2 hk

theorem move (hch : ch.Ok P gl) {base i : Nat} {oi : Oper} : ∀ (pre : List Nat) {st : St} {a : Act} {w : World} {m : Nat → Lc} {H : HV} {s1 s2 : St}, RelS m H B H0 gl rest st a.tmps w → runI P gl ch all base pre st = some s1 → xstepO P gl ch all (base + i) oi s1 = some s2 →
    (∀ j ∈ pre, j ≠ i ∧ ∀ oj, all[j]? = some oj → confl all oj oi = false) → ∃ t s', xstepO P gl ch all (base + i) oi st = some t ∧ runI P gl ch all base pre t = some s' ∧ StEq s' s2
  | [], st, a, w, m, H, s1, s2, _, h1, h2, _ => by
    simp only [runI, Option.some.injEq] at h1
    subst h1
    exact ⟨s2, s2, h2, rfl, .refl _⟩
  | j :: pre, st, a, w, m, H, s1, s2, h, h1, h2, hc => by
    simp only [runI] at h1 ⊢
    cases hj : all[j]? with
    | none => rw [hj] at h1; cases h1
    | some oj =>
      rw [hj] at h1
      simp only at h1 ⊢
      cases hs : xstepO P gl ch all (base + j) oj st with
      | none => rw [hs] at h1; cases h1
      | some s0 =>
        rw [hs] at h1
        obtain ⟨a', w', m', H', hr⟩ := xstepO_real hch h hs
        obtain ⟨t, s', k1, k2, k3⟩ := move hch pre hr h1 h2 fun j' hj' => hc j' (by simp [hj'])
        have hcj := hc j (by simp)
        obtain ⟨t1, t2, e1, e2, e3⟩ := swap h (bj := base + j) (bi := base + i) (by omega) (hcj.2 oj hj) hs k1
        obtain ⟨s3, g1, g2⟩ := StEq.runI e3.symm k2
        exact ⟨t1, s3, e1, by rw [e2]; exact g1, g2.symm.trans k3⟩
end

/- the static check -/
def maskE (acc : List Nat) (es : List Edge) : Nat :=
  match es with
  | [] => 0
  | e :: r => if Region.binds .any e then (2 ^ e.on ||| acc.getD e.on 0) ||| maskE acc r else maskE acc r

/-- The operations that are surely done ahead of each. -/
def masks : List Oper → List Nat → List Nat
  | [], acc => acc
  | o :: l, acc => masks l (acc ++ [maskE acc o.after.toList])

def ckAll (all : List Oper) (ms : List Nat) : List Oper → List Oper → Bool
  | _, [] => true
  | pre, p :: l => (List.range pre.length).all (fun i => match all[i]? with
      | some o => !confl all o p || (ms.getD pre.length 0).testBit i
      | none => true)
    && p.after.toList.all (fun e => !Region.binds .any e || decide (e.on < pre.length))
    && ckAll all ms (pre ++ [p]) l

def drawOk (all : List Oper) : Bool := ckAll all (masks all []) [] all

structure CkAt (all : List Oper) (j : Nat) (p : Oper) : Prop where
  pair : ∀ i o, i < j → all[i]? = some o → confl all o p = true → ((masks all []).getD j 0).testBit i = true
  before : ∀ e ∈ p.after, Region.binds .any e = true → e.on < j

theorem ckAll_spec {all : List Oper} : ∀ (l pre : List Oper), all = pre ++ l → ckAll all (masks all []) pre l = true → ∀ j p, pre.length ≤ j → all[j]? = some p → CkAt all j p
  | [], pre, he, _, j, p, hj, hp => by
    rw [he, List.append_nil, List.getElem?_eq_none hj] at hp; cases hp
  | q :: l, pre, he, h, j, p, hj, hp => by
    simp only [ckAll, Bool.and_eq_true, List.all_eq_true] at h
    obtain ⟨⟨h1, h2⟩, h4⟩ := h
    by_cases hjl : j = pre.length
    · have hq : q = p := by
        rw [he, hjl, List.getElem?_append_right (Nat.le_refl _)] at hp
        simpa using hp
      subst hq
      subst hjl
      refine ⟨fun i o hi ho hc => ?_, fun e he' hb => ?_⟩
      · have := h1 i (List.mem_range.2 hi)
        rw [ho] at this
        simp only [Bool.or_eq_true] at this
        rw [hc] at this
        simpa using this
      · have := h2 e (Array.mem_toList_iff.2 he')
        simpa [hb] using this
    · exact ckAll_spec l (pre ++ [q]) (by simp [he]) h4 j p (by simp; omega) hp

theorem drawOk_spec {all : List Oper} (h : drawOk all = true) (j : Nat) (p : Oper) (hp : all[j]? = some p) : CkAt all j p :=
  ckAll_spec all [] rfl h j p (Nat.zero_le _) hp

/-- A set of operations that are done, with all that binds them. -/
def Closed (all : List Oper) (L : Nat → Bool) : Prop := ∀ j o, all[j]? = some o → L j = true → ∀ e ∈ o.after, Region.binds .any e = true → L e.on = true

theorem maskE_spec {acc : List Nat} {L : Nat → Bool} (hacc : ∀ p i, (acc.getD p 0).testBit i = true → L p = true → L i = true) : ∀ (es : List Edge), (∀ e ∈ es, Region.binds .any e = true → L e.on = true) → ∀ i, (maskE acc es).testBit i = true → L i = true
  | [], _, i, h => by simp [maskE] at h
  | e :: r, hes, i, h => by
    have ih := maskE_spec hacc r (fun e he => hes e (List.mem_cons_of_mem _ he)) i
    unfold maskE at h
    split at h
    · rename_i hb
      have hl := hes e (List.mem_cons_self ..) hb
      rw [Nat.testBit_or, Nat.testBit_or, Bool.or_eq_true, Bool.or_eq_true, Nat.testBit_two_pow] at h
      rcases h with (h | h) | h
      · have : e.on = i := by simpa using h
        subst this; exact hl
      · exact hacc _ _ h hl
      · exact ih h
    · exact ih h

theorem masks_spec {all : List Oper} {L : Nat → Bool} (hL : Closed all L) : ∀ (l pre : List Oper) (acc : List Nat), all = pre ++ l → acc.length = pre.length → (∀ p i, (acc.getD p 0).testBit i = true → L p = true → L i = true) →
    ∀ p i, ((masks l acc).getD p 0).testBit i = true → L p = true → L i = true
  | [], _, _, _, _, h => h
  | o :: l, pre, acc, he, hlen, h => by
    refine masks_spec hL l (pre ++ [o]) _ (by simp [he]) (by simp [hlen]) fun p i hb hp => ?_
    rcases Nat.lt_trichotomy p acc.length with hlt | heq | hgt
    · refine h p i ?_ hp
      rw [List.getD_eq_getElem?_getD, List.getElem?_append_left hlt, ← List.getD_eq_getElem?_getD] at hb
      exact hb
    · subst heq
      rw [List.getD_eq_getElem?_getD, List.getElem?_append_right (Nat.le_refl _), Nat.sub_self] at hb
      simp only [List.getElem?_cons_zero, Option.getD_some] at hb
      have ho : all[acc.length]? = some o := by rw [he, hlen, List.getElem?_append_right (Nat.le_refl _)]; simp
      exact maskE_spec h _ (fun e hm hbd => hL _ o ho hp e (Array.mem_toList_iff.1 hm) hbd) i hb
    · rw [List.getD_eq_getElem?_getD, List.getElem?_eq_none (by simp; omega)] at hb
      simp at hb

theorem masks_closed {all : List Oper} {L : Nat → Bool} (hL : Closed all L) (p i : Nat) (h : ((masks all []).getD p 0).testBit i = true) (hp : L p = true) : L i = true :=
  masks_spec hL all [] [] rfl rfl (fun p i h => by simp at h) p i h hp
end HX
