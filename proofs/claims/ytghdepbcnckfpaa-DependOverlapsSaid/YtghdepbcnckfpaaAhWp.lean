/- Code on abstract states: the transformer, and that it is sound. -/
import Derived.Test.YtghdepbcnckfpaaAhDrawM
namespace AH
open Go Go.RowKit

/-- The checks of a region that draws its order. -/
structure DrawOk (P : Program) (l : List Oper) : Prop where
  ok : drawOk l = true
  mix : P.follows .mixedOrders = true

/-- A place for each variable that the operations make. -/
def resv : List Oper → List (Nat × List AV) → List (Nat × List AV)
  | [], hp => hp
  | o :: l, hp => resv l (if isAl o = true then hp ++ [(0, [])] else hp)

theorem resv_eq : ∀ (l : List Oper) (hp : List (Nat × List AV)), resv l hp = hp ++ List.replicate (nAl l) (0, [])
  | [], hp => by simp [resv, nAl]
  | o :: l, hp => by
    simp only [resv, resv_eq l, nAl, List.countP_cons]
    split
    · rw [List.append_assoc, List.replicate_succ]; rfl
    · simp

/-- The code is walked, but loops, which are met by a rule. -/
def awp (P : Program) : Code → St → (Exit → St → Prop) → Prop
  | .skip, st, Q => Q .normal st
  | .label _, st, Q => Q .normal st
  | .region _ ops draw, st, Q => if draw = true then DrawOk P ops.toList ∧ aopsD P ops.toList Q st.hp.length ops.toList { st with hp := resv ops.toList st.hp } else aops P ops.toList Q ops.toList st
  | .seq a b, st, Q => awp P a st (thenQ (fun st => awp P b st Q) Q)
  | .cond c a b, st, Q => match st.ev c with
    | .bool t => if t = true then awp P a st Q else awp P b st Q
    | _ => False
  | .block id c, st, Q => awp P c st (blockQ id Q)
  | .loop c, st, Q => ATri P (.loop c) st Q
  | .exit id, st, Q => Q (.exit id) st
  | .ret, st, Q => Q .ret st
  | _, _, _ => False

section
variable {P : Program} {G : Gh} {B : Nat} {H0 : HV} {rest : List (AV × Value)} {st : St} {a : Act} {w : World}

theorem awp_sound : ∀ (c : Code) (st : St) (Q : Exit → St → Prop), awp P c st Q → ATri P c st Q := by
  intro c
  induction c with
  | skip => intro st Q h B H0 rest G a w hd hr; exact wp_skip ⟨st, G, h, rfl, hd, Below.refl _ _, hr⟩
  | label l => intro st Q h B H0 rest G a w hd hr; exact wp_label ⟨st, G, h, rfl, hd, Below.refl _ _, hr⟩
  | region id ops draw =>
    intro st Q h B H0 rest G a w hd hr
    cases draw with
    | true =>
      simp only [awp, if_true] at h
      obtain ⟨h1, h2⟩ := h
      rw [resv_eq] at h2
      exact draw_sound (l := ops.toList) h1.ok h1.mix h2 B H0 rest G a w hd hr
    | false =>
    have h : aops P ops.toList Q ops.toList st := by simpa [awp] using h
    refine wp_region_list ?_
    have := aops_sound ops.toList Q w st.n ops.toList st G a w h rfl hd (Below.refl _ _) hr
    rw [Array.toArray_toList] at this
    exact this
  | seq x y ihx ihy =>
    intro st Q h B H0 rest G a w hd hr
    refine wp_seq (Code.wp_mono (fun e a' w' hq => ?_) (ihx st _ h B H0 rest G a w hd hr))
    obtain ⟨st', G', q, hn, hd', hb, hr'⟩ := hq
    cases e with
    | normal =>
      refine Code.wp_mono (fun e a2 w2 hq2 => ?_) (ihy st' _ q B H0 rest G' a' w' hd' hr')
      obtain ⟨st2, G2, q2, hn2, hd2, hb2, hr2⟩ := hq2
      exact ⟨st2, G2, q2, hn2.trans hn, hd2, hb.trans hb2, hr2⟩
    | _ => exact ⟨st', G', q, hn, hd', hb, hr'⟩
  | cond c x y ihx ihy =>
    intro st Q h B H0 rest G a w hd hr
    simp only [awp] at h
    split at h
    · rename_i t ht
      exact wp_cond_split (hr.evBool ht) (fun e => ihx st Q (by rw [if_pos e] at h; exact h) B H0 rest G a w hd hr) (fun e => ihy st Q (by rw [if_neg (by rw [e]; simp)] at h; exact h) B H0 rest G a w hd hr)
    · exact h.elim
  | block id c ih =>
    intro st Q h B H0 rest G a w hd hr
    refine wp_block (Code.wp_mono (fun e a' w' hq => ?_) (ih st _ h B H0 rest G a w hd hr))
    obtain ⟨st', G', q, x⟩ := hq
    cases e with
    | exit id' =>
      simp only [blockQ] at q
      simp only [Exit.inBlock]
      split at q
      · rename_i he; rw [if_pos he]; exact ⟨st', G', q, x⟩
      · rename_i he; rw [if_neg he]; exact ⟨st', G', q, x⟩
    | _ => exact ⟨st', G', q, x⟩
  | loop c => intro st Q h; exact h
  | exit id => intro st Q h B H0 rest G a w hd hr; exact wp_exit ⟨st, G, h, rfl, hd, Below.refl _ _, hr⟩
  | ret => intro st Q h B H0 rest G a w hd hr; exact wp_ret ⟨st, G, h, rfl, hd, Below.refl _ _, hr⟩
  | _ => intro st Q h; exact h.elim
end

/-- A loop: an invariant with a number that goes down. -/
theorem wp_loop_n {P : Program} {Q : Exit → Act → World → Prop} {c : Code} (I : Nat → Act → World → Prop)
    (round : ∀ n a w, I n a w → c.wp P (Exit.then (fun a' w' => ∃ m, m < n ∧ I m a' w') Q) a w) {n : Nat} {a : Act} {w : World} (h₀ : I n a w) : (Code.loop c).wp P Q a w := by
  intro b k cs
  have key : ∀ n a w, I n a w → ∃ e a' w', Q e a' w' ∧ Arrives P (lone (b.at a (.code c :: .inLoop c :: k)) cs w) b k cs e a' w' := by
    intro n
    induction n using Nat.strongRecOn with
    | _ n ih =>
      intro a w hI
      obtain ⟨e, a₁, w₁, hq, harr⟩ := round n a w hI b (.inLoop c :: k) cs
      cases e with
      | normal =>
        obtain ⟨m, hlt, hI₁⟩ := hq
        obtain ⟨e₂, a₂, w₂, hq₂, harr₂⟩ := ih m hlt a₁ w₁ hI₁
        exact ⟨e₂, a₂, w₂, hq₂, .of_steps (Steps.trans harr (.one step_inLoop)) harr₂⟩
      | exit id => exact ⟨_, a₁, w₁, hq, .pass (x := .inLoop c) rfl (fun _ _ => .inl (by simp)) harr⟩
      | goto l => exact ⟨_, a₁, w₁, hq, .pass (x := .inLoop c) rfl (fun _ _ => .inl (by simp)) harr⟩
      | ret => exact ⟨_, a₁, w₁, hq, .pass (x := .inLoop c) rfl (fun _ _ => .inl (by simp)) harr⟩
      | panic ch => exact ⟨_, a₁, w₁, hq, .pass (x := .inLoop c) rfl (fun _ _ => .inl (by simp)) harr⟩
      | outgrown => exact ⟨_, a₁, w₁, hq, .pass (x := .inLoop c) rfl (fun _ _ => .inl (by simp)) harr⟩
  obtain ⟨e, a', w', hq, harr⟩ := key n a w h₀
  exact ⟨e, a', w', hq, .of_steps (.one step_loop) harr⟩

/-- st' knows all that st says: slot by slot. -/
def AV.le (x y : AV) : Prop := x = .undef ∨ x = y ∨ (∃ sz, x = .own sz [] ∧ y = .nil) ∨ (∃ sz, x = .sl sz [] ∧ y = .nil) ∨ (∃ sz xs, x = .sl sz xs ∧ y = .own sz xs)

theorem AV.le.rel {G : Gh} {B : Nat} {w : World} {p : List Nat} {x y : AV} {v : Value} (h : AV.le x y) (hv : RelV G B w p y v) : RelV G B w p x v := by
  rcases h with rfl | rfl | ⟨sz, rfl, rfl⟩ | ⟨sz, rfl, rfl⟩ | ⟨sz, xs, rfl, rfl⟩
  · exact RelV.undef
  · exact hv
  · have : v = .slice none 0 0 := (show Rel0 G.H G.io .nil v from hv).nil_inv
    exact .inl ⟨rfl, none, this⟩
  · have : v = .slice none 0 0 := (show Rel0 G.H G.io .nil v from hv).nil_inv
    subst this
    exact RelV.of0 (.imm _ _ (.sl0 _ _ _ (Nat.zero_le _)))
  · exact RelV.of0 (.imm _ _ (OwnRel.sl hv))

/-- The slots of sl, each read in st'. -/
def subst? (sl : List (Nat × AV)) (st' : St) : Prop := ∀ k, AV.le (lk sl k) (st'.get k)

theorem lk_sub : ∀ (sl : List (Nat × AV)) (st' : St), (∀ p ∈ sl, AV.le p.2 (st'.get p.1)) → ∀ k, AV.le (lk sl k) (st'.get k)
  | [], st', _, k => .inl rfl
  | (j, v) :: r, st', h, k => by
    simp only [lk]
    split
    · rename_i e; subst e; exact h (j, v) (List.mem_cons_self ..)
    · exact lk_sub r st' (fun p hp => h p (List.mem_cons_of_mem _ hp)) k

/-- Its pointers lead to boxes below n. -/
def AV.bel0 (n : Nat) : AV → Bool
  | .ptr id _ _ _ => decide (id < n)
  | .fn _ cs => cs.all fun c => match c with | .ptr id _ _ _ => decide (id < n) | c => c.imm0
  | .agg _ => false
  | .tup _ => false
  | _ => true
def AV.bel1 (n : Nat) : AV → Bool
  | .agg cs => cs.all (AV.bel0 n)
  | c => c.bel0 n
def AV.bel (n : Nat) : AV → Bool
  | .tup cs => cs.all (AV.bel1 n)
  | c => c.bel1 n

theorem Rel0.bel0 {H : HV} {io : Nat → Option Nat} {c : AV} {v : Value} {n : Nat} (h : Rel0 H io c v) (hb : c.bel0 n = true) : Rel0 H (fun id => if id < n then io id else none) c v := by
  cases h with
  | imm _ _ h => exact .imm _ _ h
  | ptr id sz i off g hg => exact .ptr id sz i off g (by simp only [AV.bel0, decide_eq_true_eq] at hb; simp [hb, hg])
  | agg => cases hb
  | tup => cases hb
  | fn f cs vs hl hc =>
    simp only [AV.bel0, List.all_eq_true] at hb
    refine .fn f cs vs hl fun j c u hj hu => ?_
    have h1 := hc j c u hj hu
    have h2 := hb c (List.mem_of_getElem? hj)
    cases c with
    | ptr id sz i off =>
      obtain ⟨g, hg, rfl⟩ := h1.ptr_inv
      exact .ptr id sz i off g (by simp only [decide_eq_true_eq] at h2; simp [h2, hg])
    | _ => exact .imm _ _ (h1.imm0 h2)

theorem Rel0.bel1 {H : HV} {io : Nat → Option Nat} {c : AV} {v : Value} {n : Nat} (h : Rel0 H io c v) (hb : c.bel1 n = true) : Rel0 H (fun id => if id < n then io id else none) c v := by
  cases c with
  | agg cs =>
    obtain ⟨vs, rfl, hl, h1, hc⟩ := h.agg_inv
    simp only [AV.bel1, List.all_eq_true] at hb
    exact .agg cs vs hl h1 fun j c u hj hu => (hc j c u hj hu).bel0 (hb c (List.mem_of_getElem? hj))
  | _ => exact h.bel0 hb

theorem RelC.bel {G : Gh} {B : Nat} {w : World} {p : List Nat} {c : AV} {v : Value} {n : Nat} (h : RelC G B w p c v) (hb : c.bel1 n = true) : RelC (G.res n) B w p c v := by
  cases c with
  | own sz xs =>
    rcases h with h | ⟨g, cap, hv, h⟩
    · exact .inl h
    · exact .inr ⟨g, cap, hv, h.low, h.om, h.row, h.len, h.max, h.pos, h.one, h.cell, h.free⟩
  | _ => exact Rel0.bel1 h hb

theorem RelV.bel {G : Gh} {B : Nat} {w : World} {p : List Nat} {c : AV} {v : Value} {n : Nat} (h : RelV G B w p c v) (hb : c.bel n = true) : RelV (G.res n) B w p c v := by
  rcases RelV.cases' (G := G) (B := B) (w := w) (p := p) (v := v) c with ⟨cs, rfl⟩ | ⟨hne, e⟩
  · obtain ⟨vs, hv, hl, hc⟩ := h
    simp only [AV.bel, List.all_eq_true] at hb
    exact ⟨vs, hv, hl, fun j c u hj hu => (hc j c u hj hu).bel (hb c (List.mem_of_getElem? hj))⟩
  · rcases RelV.cases' (G := G.res n) (B := B) (w := w) (p := p) (v := v) c with ⟨cs, rfl⟩ | ⟨_, e'⟩
    · exact absurd rfl (hne _)
    · rw [e] at h; rw [e']
      refine h.bel ?_
      revert hb; cases c <;> intro hb <;> first | exact hb | exact absurd rfl (hne _)

/-- The boxes: all, or the first ones, when nothing that stays leads to the others. -/
def hpLe (fl : Nat) (sl : List (Nat × AV)) (hp hp' : List (Nat × List AV)) : Prop :=
  hp = hp' ∨ (fl ≤ hp.length ∧ hp.length ≤ hp'.length ∧ hp = hp'.take hp.length ∧ (∀ p ∈ sl, p.2.bel hp.length = true) ∧ ∀ b ∈ hp, ∀ x ∈ b.2, ∀ c ∈ x.cells, c.bel0 hp.length = true)

structure StLe (st st' : St) : Prop where
  n : st.n = st'.n
  fl : st.fl = st'.fl
  hp : hpLe st.fl st.sl st.hp st'.hp
  slot : ∀ p ∈ st.sl, AV.le p.2 (st'.get p.1)

theorem lk_mem : ∀ (sl : List (Nat × AV)) (k : Nat), lk sl k = .undef ∨ ∃ p ∈ sl, p.2 = lk sl k
  | [], _ => .inl rfl
  | (j, v) :: r, k => by
    simp only [lk]
    split
    · exact .inr ⟨(j, v), List.mem_cons_self .., rfl⟩
    · rcases lk_mem r k with h | ⟨p, hp, h⟩
      · exact .inl h
      · exact .inr ⟨p, List.mem_cons_of_mem _ hp, h⟩

theorem StLe.rel {G : Gh} {B : Nat} {H0 : HV} {rest : List (AV × Value)} {st st' : St} {tmps : Array Value} {w : World} (h : StLe st st') (hr : RelG G B H0 rest st' tmps w) : ∃ G', RelG G' B H0 rest st tmps w := by
  have hslot : ∀ k, RelV G B w [0, k] (st.get k) (tmps.getD k Go.undef) := fun k => (lk_sub st.sl st' h.slot k).rel (hr.slot k)
  rcases h.hp with he | ⟨h1, h2, h3, h4, h5⟩
  · exact ⟨G, by rw [h.n]; exact hr.size, by rw [he]; exact hr.wf, hslot, by rw [h.fl]; exact hr.rest, by rw [he]; exact hr.heap⟩
  · refine ⟨G.res st.hp.length, by rw [h.n]; exact hr.size, ?_, fun k => ?_, fun k x v hx => ?_, fun id sz xs hx => ?_⟩
    · have wf := hr.wf
      exact { sat := wf.sat
              old := wf.old
              omlt := wf.omlt
              iolt := fun id g hg => by
                simp only [Gh.res] at hg ⊢
                split at hg
                · exact wf.iolt id g hg
                · cases hg
              ioinj := fun id id' g hg hg' => by
                simp only [Gh.res] at hg hg'
                split at hg
                · split at hg'
                  · exact wf.ioinj id id' g hg hg'
                  · cases hg'
                · cases hg
              iodom := fun id g hg => by
                simp only [Gh.res] at hg
                split at hg
                · assumption
                · cases hg
              low := wf.low }
    · refine (hslot k).bel ?_
      rcases lk_mem st.sl k with e | ⟨p, hp, e⟩
      · show (lk st.sl k).bel _ = true
        rw [e]; rfl
      · show (lk st.sl k).bel _ = true
        rw [← e]; exact h4 p hp
    · have := hr.rest k x v hx
      rw [← h.fl] at this
      have e : (G.res st.hp.length).res st.fl = G.res st.fl := by
        simp only [Gh.res]
        congr 1
        funext id
        by_cases hlt : id < st.fl
        · simp [hlt, Nat.lt_of_lt_of_le hlt h1]
        · simp [hlt]
      rw [e]; exact this
    · have hidl : id < st.hp.length := (List.getElem?_eq_some_iff.1 hx).1
      have hx' : st'.hp[id]? = some (sz, xs) := by
        rw [h3, List.getElem?_take, if_pos hidl] at hx; exact hx
      rcases hr.heap id sz xs hx' with ⟨e1, e2⟩ | ⟨g, hg⟩
      · exact .inl ⟨e1, by simp [Gh.res, e2]⟩
      obtain ⟨C, e, hC, hl, hc⟩ := hg.row
      refine .inr ⟨g, by simp [Gh.res, hidl, hg.io], ⟨C, e, hC, hl, fun i x j c hxi hj => ?_⟩, hg.one, hg.ne⟩
      obtain ⟨v, hv, h1', hr'⟩ := hc i x j c hxi hj
      refine ⟨v, hv, h1', hr'.bel ?_⟩
      have := h5 _ (List.mem_of_getElem? hx) x (List.mem_of_getElem? hxi) c (List.mem_of_getElem? hj)
      revert this; cases c <;> intro this <;> first | exact this | cases this

theorem ATri.le {P : Program} {c : Code} {st st' : St} {Q : Exit → St → Prop} (h : StLe st st') (ht : ATri P c st Q) : ATri P c st' Q :=
  fun B H0 rest G a w hd hr => by
    obtain ⟨G', hr'⟩ := h.rel hr
    rw [← h.n]; exact ht B H0 rest G' a w hd hr'

/-- The rule for loops. -/
theorem ATri.loop {P : Program} {c : Code} {Q : Exit → St → Prop} (n0 : Nat) (I : Nat → St → Prop) (round : ∀ n st, st.n = n0 → I n st → ATri P c st (thenQ (fun st' => ∃ m st'', m < n ∧ I m st'' ∧ StLe st'' st') Q))
    {n : Nat} {st st0 : St} (h0 : I n st0) (hle : StLe st0 st) (hn : st.n = n0) : ATri P (.loop c) st Q := by
  refine ATri.le hle fun B H0 rest G a w hd hr => ?_
  refine wp_loop_n (n := n) (fun n a' w' => ∃ st' G', I n st' ∧ st'.n = st0.n ∧ a'.defers = [] ∧ Below B w w' ∧ RelG G' B H0 rest st' a'.tmps w') (fun m a1 w1 hI => ?_) ⟨st0, G, h0, rfl, hd, Below.refl _ _, hr⟩
  obtain ⟨st1, G1, hi, hn1, hd1, hb1, hr1⟩ := hI
  refine Code.wp_mono (fun e a2 w2 hq => ?_) (round m st1 (by rw [hn1, hle.n]; exact hn) hi B H0 rest G1 a1 w1 hd1 hr1)
  obtain ⟨st2, G2, q, hn2, hd2, hb2, hr2⟩ := hq
  cases e with
  | normal =>
    obtain ⟨m', st3, hlt, hi3, hle3⟩ := q
    obtain ⟨G3, hr3⟩ := hle3.rel hr2
    exact ⟨m', hlt, st3, G3, hi3, by rw [hle3.n, hn2, hn1], hd2, hb1.trans hb2, hr3⟩
  | _ => exact ⟨st2, G2, q, hn2.trans hn1, hd2, hb1.trans hb2, hr2⟩

/- What stands behind, as a stack: nothing is hidden in it that could be rewritten. -/
inductive Kt where
  | seq (c : Code)
  | block (id : Nat)

def cont (P : Program) : List Kt → (Exit → St → Prop) → Exit → St → Prop
  | [], Q => Q
  | .seq b :: ks, Q => thenQ (fun st => awp P b st (cont P ks Q)) (cont P ks Q)
  | .block id :: ks, Q => blockQ id (cont P ks Q)

section
variable {P : Program} {ks : List Kt} {Q : Exit → St → Prop} {st : St}
theorem awp_seq {x y : Code} : awp P (.seq x y) st (cont P ks Q) = awp P x st (cont P (.seq y :: ks) Q) := rfl
theorem awp_block {id : Nat} {c : Code} : awp P (.block id c) st (cont P ks Q) = awp P c st (cont P (.block id :: ks) Q) := rfl
theorem awp_skip : awp P .skip st (cont P ks Q) = cont P ks Q .normal st := rfl
theorem awp_label {l : Nat} : awp P (.label l) st (cont P ks Q) = cont P ks Q .normal st := rfl
theorem awp_exit {id : Nat} : awp P (.exit id) st (cont P ks Q) = cont P ks Q (.exit id) st := rfl
theorem awp_ret : awp P .ret st (cont P ks Q) = cont P ks Q .ret st := rfl
theorem awp_loop {c : Code} : awp P (.loop c) st (cont P ks Q) = ATri P (.loop c) st (cont P ks Q) := rfl
theorem awp_region_draw {id : Nat} {l : List Oper} (h : DrawOk P l) : awp P (.region id ⟨l⟩ true) st (cont P ks Q) = aopsD P l (cont P ks Q) st.hp.length l { st with hp := resv l st.hp } := by simp [awp, h]
theorem awp_region {id : Nat} {l : List Oper} : awp P (.region id ⟨l⟩ false) st (cont P ks Q) = aops P l (cont P ks Q) l st := by simp [awp]
theorem awp_cond {c : Operand} {x y : Code} : awp P (.cond c x y) st (cont P ks Q) = match st.ev c with
    | .bool t => if t = true then awp P x st (cont P ks Q) else awp P y st (cont P ks Q)
    | _ => False := rfl
theorem cont_nil {e : Exit} : cont P [] Q e st = Q e st := rfl
theorem cont_seq {c : Code} : cont P (.seq c :: ks) Q .normal st = awp P c st (cont P ks Q) := rfl
theorem cont_seq_exit {c : Code} {id : Nat} : cont P (.seq c :: ks) Q (.exit id) st = cont P ks Q (.exit id) st := rfl
theorem cont_seq_ret {c : Code} : cont P (.seq c :: ks) Q .ret st = cont P ks Q .ret st := rfl
theorem cont_block {id : Nat} : cont P (.block id :: ks) Q .normal st = cont P ks Q .normal st := rfl
theorem cont_block_ret {id : Nat} : cont P (.block id :: ks) Q .ret st = cont P ks Q .ret st := rfl
theorem cont_block_exit {id id' : Nat} : cont P (.block id :: ks) Q (.exit id') st = if id' = id then cont P ks Q .normal st else cont P ks Q (.exit id') st := rfl
theorem aopsD_nil {all : List Oper} {r : Nat} : aopsD P all (cont P ks Q) r [] st = cont P ks Q .normal st := rfl
theorem aops_nil {all : List Oper} : aops P all (cont P ks Q) [] st = cont P ks Q .normal st := rfl
end

/-- The rule for loops, with what stands behind hidden. -/
theorem loop_walk {P : Program} {c : Code} {Q : Exit → St → Prop} (n0 : Nat) (I : Nat → St → Prop)
    (round : ∀ n st, st.n = n0 → I n st → ∀ Q' : Exit → St → Prop, (∀ m st' st'', m < n → I m st'' → StLe st'' st' → Q' .normal st') → (∀ id st', Q (.exit id) st' → Q' (.exit id) st') → (∀ st', Q .ret st' → Q' .ret st') → awp P c st (cont P [] Q'))
    {n : Nat} {st st0 : St} (h0 : I n st0) (hle : StLe st0 st) (hn : st.n = n0) : ATri P (.loop c) st Q :=
  ATri.loop n0 I (fun n st hn hi => awp_sound _ _ _ (round n st hn hi (thenQ (fun st' => ∃ m st'', m < n ∧ I m st'' ∧ StLe st'' st') Q) (fun m _ st'' h1 h2 h3 => ⟨m, st'', h1, h2, h3⟩) (fun _ _ h => h) (fun _ h => h))) h0 hle hn
end AH
