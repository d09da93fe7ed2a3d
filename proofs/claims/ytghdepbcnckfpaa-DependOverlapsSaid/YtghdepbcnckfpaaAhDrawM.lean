/- A region that draws its order: every order comes to the lexical walk's end. -/
import Derived.Test.YtghdepbcnckfpaaAhDrawS
namespace AH
open Go Go.RowKit

structure DCtx (P : Program) (l : List Oper) (r : Nat) (st0 : St) (es : List Eff) : Prop where
  ok : drawOk l = true
  len : es.length = l.length
  fact : ∀ i o, l[i]? = some o → ∃ e, es[i]? = some e ∧ dstOk o.dst st0.n = true ∧ Fact P l (r + nAl (l.take i)) o (futB o.dst (l.drop (i + 1))) (apps st0 (es.take i)) e

section
variable {P : Program} {l : List Oper} {r : Nat} {st0 : St} {es : List Eff}

theorem DCtx.factE (c : DCtx P l r st0 es) {i : Nat} {o : Oper} {e : Eff} (ho : l[i]? = some o) (he : es[i]? = some e) :
    dstOk o.dst st0.n = true ∧ Fact P l (r + nAl (l.take i)) o (futB o.dst (l.drop (i + 1))) (apps st0 (es.take i)) e := by
  obtain ⟨e', he', h⟩ := c.fact i o ho
  rw [he] at he'; cases he'
  exact h

theorem DCtx.oper (c : DCtx P l r st0 es) {i : Nat} {e : Eff} (he : es[i]? = some e) : ∃ o, l[i]? = some o := by
  have h1 : i < es.length := (List.getElem?_eq_some_iff.1 he).1
  exact ⟨_, List.getElem?_eq_getElem (by rw [← c.len]; exact h1)⟩

/-- Operation m makes the variable at place id. -/
def Alr (l : List Oper) (r m id : Nat) : Prop := ∃ o, l[m]? = some o ∧ isAl o = true ∧ id = r + nAl (l.take m)

theorem Alr.inj {m m' id : Nat} (h : Alr l r m id) (h' : Alr l r m' id) : m = m' := by
  obtain ⟨o, ho, ha, rfl⟩ := h
  obtain ⟨o', ho', ha', he⟩ := h'
  have h1 : m < l.length := (List.getElem?_eq_some_iff.1 ho).1
  have h2 : m' < l.length := (List.getElem?_eq_some_iff.1 ho').1
  rcases Nat.lt_trichotomy m m' with hlt | heq | hgt
  · have := nAl_lt l hlt ho ha (Nat.le_of_lt h2); omega
  · exact heq
  · have := nAl_lt l hgt ho' ha' (Nat.le_of_lt h1); omega

def Live (st : St) (id : Nat) : Prop := ∃ c, st.hp[id]? = some c ∧ c.2 ≠ []

theorem DCtx.box (c : DCtx P l r st0 es) {j : Nat} {o : Oper} {e : Eff} (ho : l[j]? = some o) (he : es[j]? = some e) {id : Nat} (hb : e.box? id = true) :
    (∃ b, e.box = some (id, b) ∧ b.2 ≠ []) ∧ (Alr l r j id ∨ (hk (futB o.dst (l.drop (j + 1))) o = .wr ∧ ∃ x, adr o.op = some x ∧ ∃ sz i off, (apps st0 (es.take j)).ev x = .ptr id sz i off ∧ Live (apps st0 (es.take j)) id)) := by
  obtain ⟨_, f⟩ := c.factE ho he
  have hbox : ∃ b, e.box = some (id, b) := by
    unfold Eff.box? at hb
    cases hx : e.box with
    | none => rw [hx] at hb; cases hb
    | some b => rw [hx] at hb; obtain ⟨b1, b2⟩ := b; simp only [beq_iff_eq] at hb; exact ⟨b2, by rw [hb]⟩
  obtain ⟨b, hbx⟩ := hbox
  cases f with
  | al z ha hg hz h1 hr hee =>
    rw [hee] at hbx
    cases hbx
    exact ⟨⟨_, by rw [hee], by simp⟩, .inl ⟨o, ho, ha, rfl⟩⟩
  | run hno hg h1 h2 h4 h3 =>
    obtain ⟨hw, x, hx, sz, i, off, hev, cc, hcc, hne, hb2⟩ := h2 id b hbx
    exact ⟨⟨b, hbx, hb2⟩, .inr ⟨hw, x, hx, sz, i, off, hev, cc, hcc, hne⟩⟩
  | skip hno hg hee => rw [hee] at hbx; cases hbx

theorem take_succ' {α : Type} (es : List α) (m : Nat) (e : α) (h : es[m]? = some e) : es.take (m + 1) = es.take m ++ [e] := by
  rw [List.take_add_one, h]; rfl

theorem DCtx.live (c : DCtx P l r st0 es) {id : Nat} {j : Nat} : ∀ (m : Nat), j ≤ m → m ≤ l.length → Live (apps st0 (es.take j)) id → Live (apps st0 (es.take m)) id
  | 0, h, _, hl => by
    have : j = 0 := by omega
    subst this; exact hl
  | m + 1, h, hm, hl => by
    by_cases hj : j = m + 1
    · subst hj; exact hl
    · obtain ⟨cc, hcc, hne⟩ := c.live m (by omega) (by omega) hl
      have hlt : m < es.length := by rw [c.len]; omega
      have he : es[m]? = some es[m] := List.getElem?_eq_getElem hlt
      obtain ⟨o, ho⟩ := c.oper he
      rw [take_succ' es m _ he, apps_append]
      show Live ((apps st0 (es.take m)).app es[m]) id
      unfold Live
      rw [app_hp]
      by_cases hb : es[m].box? id = true
      · obtain ⟨⟨b, hbx, hb2⟩, _⟩ := c.box ho he hb
        rw [if_pos hb, hbx]
        have : id < (apps st0 (es.take m)).hp.length := (List.getElem?_eq_some_iff.1 hcc).1
        exact ⟨b, by simp only [if_pos this], hb2⟩
      · rw [if_neg hb]; exact ⟨cc, hcc, hne⟩

theorem DCtx.alDead (c : DCtx P l r st0 es) {m id : Nat} (h : Alr l r m id) : (apps st0 (es.take m)).hp[id]? = some (0, []) := by
  obtain ⟨o, ho, ha, rfl⟩ := h
  obtain ⟨e, he, _, f⟩ := c.fact m o ho
  cases f with
  | al z _ hg hz h1 hr hee => exact hr
  | run hno => rw [ha] at hno; cases hno
  | skip hno => rw [ha] at hno; cases hno

theorem Alr.lt {m id : Nat} (h : Alr l r m id) : m < l.length := by
  obtain ⟨o, ho, _⟩ := h
  exact (List.getElem?_eq_some_iff.1 ho).1

theorem DCtx.notLive (c : DCtx P l r st0 es) {m id j : Nat} (h : Alr l r m id) (hj : j ≤ m) (hl : Live (apps st0 (es.take j)) id) : False := by
  obtain ⟨cc, hcc, hne⟩ := c.live m hj (Nat.le_of_lt h.lt) hl
  rw [c.alDead h] at hcc
  cases hcc
  exact hne rfl

def Closed2 (l : List Oper) (r : Nat) (es : List Eff) (L : Nat → Bool) : Prop := ∀ j m e id, es[j]? = some e → L j = true → e.box? id = true → Alr l r m id → L m = true

/-- The place of a variable that is not yet made. -/
theorem DCtx.dead (c : DCtx P l r st0 es) {L : Nat → Bool} (h2 : Closed2 l r es L) {m id : Nat} (h : Alr l r m id) (hL : L m = false) : (mixS st0 es L).hp[id]? = some (0, []) := by
  rw [← c.alDead h, ← mix_lt st0 es m (by rw [c.len]; exact Nat.le_of_lt h.lt)]
  refine hp_mix es 0 st0 st0 rfl rfl fun j e he hne => ?_
  rw [Nat.zero_add] at hne
  cases hb : e.box? id with
  | false => rfl
  | true =>
    exfalso
    obtain ⟨o, ho⟩ := c.oper he
    cases hLj : L j with
    | true => rw [h2 j m e id he hLj hb h] at hL; cases hL
    | false =>
      have hlt : j < m := by rw [hLj] at hne; simpa using hne
      rcases (c.box ho he hb).2 with ha | ⟨_, x, _, sz, i, off, _, hl⟩
      · have := ha.inj h; omega
      · exact c.notLive h (Nat.le_of_lt hlt) hl

theorem DCtx.puts (c : DCtx P l r st0 es) {j : Nat} {o : Oper} {e : Eff} (ho : l[j]? = some o) (he : es[j]? = some e) {k : Nat} (hb : e.puts? k = true) : k ∈ wr (futB o.dst (l.drop (j + 1))) o := by
  obtain ⟨_, f⟩ := c.factE ho he
  unfold Eff.puts? at hb
  rw [List.any_eq_true] at hb
  obtain ⟨p, hp, hk⟩ := hb
  have hk' : p.1 = k := by simpa using hk
  subst hk'
  cases f with
  | al z ha hg hz h1 hr hee =>
    rw [hee] at hp
    simp only [List.mem_map] at hp
    obtain ⟨d, hd, rfl⟩ := hp
    exact List.mem_append_left _ hd
  | run hno hg h1 h2 h4 h3 => exact h1 p hp
  | skip hno hg hee =>
    rw [hee] at hp
    simp only [List.mem_map] at hp
    obtain ⟨d, hd, rfl⟩ := hp
    exact List.mem_append_left _ hd

/-- The next operation, of those that may be next. -/
structure Nx (l : List Oper) (L : Nat → Bool) (i : Nat) : Prop where
  cl : Closed l L
  cl' : Closed l fun j => L j || j == i
  un : L i = false

theorem Nx.before (c : DCtx P l r st0 es) {L : Nat → Bool} {i : Nat} (n : Nx l L i) {j : Nat} {oj oi : Oper} (hj : l[j]? = some oj) (hi : l[i]? = some oi) (hlt : j < i) (hL : L j = false) :
    confl l oj (futB oj.dst (l.drop (j + 1))) oi (futB oi.dst (l.drop (i + 1))) = false := by
  cases hc : confl l oj (futB oj.dst (l.drop (j + 1))) oi (futB oi.dst (l.drop (i + 1))) with
  | false => rfl
  | true =>
    have hb := (drawOk_spec c.ok i oi hi).pair j oj hlt hj hc
    have := masks_closed n.cl' i j hb (by simp)
    have hne : (j == i) = false := by simp; omega
    rw [hne, hL] at this
    cases this

theorem Nx.after (c : DCtx P l r st0 es) {L : Nat → Bool} {i : Nat} (n : Nx l L i) {j : Nat} {oj oi : Oper} (hj : l[j]? = some oj) (hi : l[i]? = some oi) (hlt : i < j) (hL : L j = true) :
    confl l oi (futB oi.dst (l.drop (i + 1))) oj (futB oj.dst (l.drop (j + 1))) = false := by
  cases hc : confl l oi (futB oi.dst (l.drop (i + 1))) oj (futB oj.dst (l.drop (j + 1))) with
  | false => rfl
  | true =>
    have hb := (drawOk_spec c.ok j oj hj).pair i oi hlt hi hc
    have := masks_closed n.cl j i hb hL
    rw [n.un] at this
    cases this

theorem confl_wr {o p : Oper} {fo fp : Bool} (h : confl l o fo p fp = false) : meet (wr fo o) (rdO l p) = false ∧ meet (wr fo o) (wr fp p) = false ∧ meet (rdO l o) (wr fp p) = false ∧ (hk fo o).cl (hk fp p) = false := by
  unfold confl at h
  simp only [Bool.or_eq_false_iff] at h
  exact ⟨h.1.1.1, h.1.1.2, h.1.2, h.2⟩

/-- Which operations make the mixture differ from the lexical state. -/
theorem differ {L : Nat → Bool} {i j : Nat} (n : L i = false) (h : L j ≠ decide (j < i)) : (j < i ∧ L j = false) ∨ (i < j ∧ L j = true) := by
  by_cases hji : j < i
  · refine .inl ⟨hji, ?_⟩
    cases hL : L j with
    | false => rfl
    | true => rw [hL] at h; simp [hji] at h
  · have hL : L j = true := by
      cases hL : L j with
      | true => rfl
      | false => rw [hL] at h; simp [hji] at h
    refine .inr ⟨?_, hL⟩
    rcases Nat.lt_or_ge i j with h' | h'
    · exact h'
    · have : i = j := by omega
      subst this
      rw [n] at hL; cases hL

theorem DCtx.reads (c : DCtx P l r st0 es) {L : Nat → Bool} {i : Nat} (n : Nx l L i) {o : Oper} (ho : l[i]? = some o) {k : Nat} (hk : k ∈ rdO l o) : (mixS st0 es L).get k = (apps st0 (es.take i)).get k := by
  have hi : i < l.length := (List.getElem?_eq_some_iff.1 ho).1
  rw [← mix_lt st0 es i (by rw [c.len]; omega)]
  refine get_mix es 0 st0 st0 rfl fun j e he hne => ?_
  rw [Nat.zero_add] at hne
  obtain ⟨oj, hoj⟩ := c.oper he
  cases hb : e.puts? k with
  | false => rfl
  | true =>
    exfalso
    have hw := c.puts hoj he hb
    rcases differ n.un hne with ⟨hlt, hL⟩ | ⟨hlt, hL⟩
    · have := (confl_wr (n.before c hoj ho hlt hL)).1
      rw [meet_spec hw hk] at this; cases this
    · have := (confl_wr (n.after c hoj ho hlt hL)).2.2.1
      rw [meet_spec hk hw] at this; cases this

theorem DCtx.evs (c : DCtx P l r st0 es) {L : Nat → Bool} {i : Nat} (n : Nx l L i) {o : Oper} (ho : l[i]? = some o) {x : Operand} (hx : x ∈ o.op.operands.toList) : (mixS st0 es L).ev x = (apps st0 (es.take i)).ev x := by
  cases x with
  | tmp t =>
    refine c.reads n ho (List.mem_append_left _ (List.mem_filterMap.2 ⟨.tmp t, hx, rfl⟩))
  | _ => rfl

theorem adr_hk {o : Oper} {fut : Bool} {x : Operand} (h : adr o.op = some x) : x ∈ o.op.operands.toList ∧ (hk fut o).cl .wr = true ∧ Hk.cl .wr (hk fut o) = true := by
  obtain ⟨dst, op, type, pos, after, guard⟩ := o
  cases op with
  | load t y => cases h; refine ⟨by simp [Op.operands], ?_, ?_⟩ <;> (cases fut <;> rfl)
  | store t y z => cases h; exact ⟨by simp [Op.operands], rfl, rfl⟩
  | _ => cases h

variable {G : Gh} {B : Nat} {H0 : HV} {rest : List (AV × Value)} {a : Act} {w : World}

theorem DCtx.boxes (c : DCtx P l r st0 es) {L : Nat → Bool} {i : Nat} (n : Nx l L i) (h2 : Closed2 l r es L) (hrel : RelG G B H0 rest (mixS st0 es L) a.tmps w) {o : Oper} (ho : l[i]? = some o) {x : Operand} (hx : adr o.op = some x)
    {id sz k off : Nat} (hev : (apps st0 (es.take i)).ev x = .ptr id sz k off) (hl : Live (apps st0 (es.take i)) id) : (apps st0 (es.take i)).hp[id]? = (mixS st0 es L).hp[id]? ∧ ∀ m, Alr l r m id → L m = true := by
  have hi : i < l.length := (List.getElem?_eq_some_iff.1 ho).1
  have hal : ∀ m, Alr l r m id → L m = true := fun m hm => by
    cases hL : L m with
    | true => rfl
    | false => exact (hrel.ptr_dead (by rw [c.evs n ho (adr_hk (fut := false) hx).1]; exact hev) (c.dead h2 hm hL)).elim
  refine ⟨?_, hal⟩
  rw [← mix_lt st0 es i (by rw [c.len]; omega)]
  refine (hp_mix es 0 st0 st0 rfl rfl fun j e he hne => ?_).symm
  rw [Nat.zero_add] at hne
  obtain ⟨oj, hoj⟩ := c.oper he
  cases hb : e.box? id with
  | false => rfl
  | true =>
    exfalso
    rcases (c.box hoj he hb).2 with ha | ⟨hw, _⟩
    · rcases differ n.un hne with ⟨hlt, hL⟩ | ⟨hlt, hL⟩
      · rw [hal j ha] at hL; cases hL
      · exact c.notLive ha (Nat.le_of_lt hlt) hl
    · rcases differ n.un hne with ⟨hlt, hL⟩ | ⟨hlt, hL⟩
      · have := (confl_wr (n.before c hoj ho hlt hL)).2.2.2
        rw [hw, (adr_hk hx).2.2] at this; cases this
      · have := (confl_wr (n.after c hoj ho hlt hL)).2.2.2
        rw [hw, (adr_hk hx).2.1] at this; cases this

/-- The next operation is done. -/
theorem DCtx.step (c : DCtx P l r st0 es) {L : Nat → Bool} {i : Nat} (n : Nx l L i) (h2 : Closed2 l r es L) (hrel : RelG G B H0 rest (mixS st0 es L) a.tmps w) {o : Oper} (ho : l[i]? = some o)
    {Q : Exit → Act → World → Prop} {K : Act → World → Prop}
    (hK : ∀ a' w' G', Closed2 l r es (fun j => L j || j == i) → a'.defers = a.defers → Below B w w' → RelG G' B H0 rest (mixS st0 es fun j => L j || j == i) a'.tmps w' → K a' w') : wpOp P l.toArray Q i K a w := by
  have hi : i < l.length := (List.getElem?_eq_some_iff.1 ho).1
  obtain ⟨e, he, hdst, f⟩ := c.fact i o ho
  have hn : (mixS st0 es L).n = st0.n := apps_n _ _
  have hdst' : dstOk o.dst (mixS st0 es L).n = true := by rw [hn]; exact hdst
  -- the variables
  have hcl2 : Closed2 l r es (fun j => L j || j == i) := fun j m e' id he' hLj hb ha => by
    by_cases hji : j = i
    · subst hji
      rw [he] at he'; cases he'
      rcases (c.box ho he hb).2 with ha' | ⟨_, x, hx, sz, k, off, hev, hl⟩
      · have := ha'.inj ha; subst this; simp
      · have := (c.boxes n h2 hrel ho hx hev hl).2 m ha
        simp [this]
    · have hj' : (j == i) = false := by simpa using hji
      have := h2 j m e' id he' (by simpa [hj'] using hLj) hb ha
      simp [this]
  have hstep : StEq (mixS st0 es fun j => L j || j == i) ((mixS st0 es L).app e) := by
    refine mix_step st0 es L i e he n.un (fun j e' hlt he' hL k hk => ?_) (fun j e' hlt he' hL id hb => ?_)
    · obtain ⟨oj, hoj⟩ := c.oper he'
      cases hb : e'.puts? k with
      | false => rfl
      | true =>
        have := (confl_wr (n.after c hoj ho hlt hL)).2.1
        rw [meet_spec (c.puts ho he hk) (c.puts hoj he' hb)] at this; cases this
    · obtain ⟨oj, hoj⟩ := c.oper he'
      cases hb' : e'.box? id with
      | false => rfl
      | true =>
        exfalso
        rcases (c.box ho he hb).2 with ha | ⟨hw, x, hx, sz, k, off, hev, hl⟩
        · have := h2 j i e' id he' hL hb' ha
          rw [n.un] at this; cases this
        · rcases (c.box hoj he' hb').2 with ha | ⟨hw', _⟩
          · exact c.notLive ha (Nat.le_of_lt hlt) hl
          · have := (confl_wr (n.after c hoj ho hlt hL)).2.2.2
            rw [hw, hw'] at this; cases this
  have hgo : ∀ a' w' G', a'.defers = a.defers → Below B w w' → RelG G' B H0 rest ((mixS st0 es L).app e) a'.tmps w' → K a' w' := fun a' w' G' h1 h3 h4 => hK a' w' G' hcl2 h1 h3 (hstep.rel h4)
  have hget : ∀ k ∈ rdO l o, (mixS st0 es L).get k = (apps st0 (es.take i)).get k := fun k hk => c.reads n ho hk
  have hgd : ∀ b, Gd l o (apps st0 (es.take i)) b → Region.wanted o (yielded l.toArray a.tmps) = b := fun b hg => by
    unfold Gd at hg
    cases hgu : o.guard with
    | none => rw [hgu] at hg; simp only at hg; subst hg; simp [Region.wanted, hgu]
    | some x =>
      obtain ⟨j, want⟩ := x
      rw [hgu] at hg
      obtain ⟨g, hgs, hgv⟩ := hg
      have hv := hrel.slot g
      rw [hget g (by unfold rdO; rw [hgu]; exact List.mem_append_right _ (by simp [hgs])), hgv] at hv
      have hval := (show Rel0 G.H G.io (.bool _) _ from hv).bool_inv
      have hy := yielded_bool hgs hval
      simp only [Region.wanted, hgu, hy]
      cases b <;> cases want <;> simp
  unfold wpOp
  have hoa : l.toArray[i]? = some o := by rw [List.getElem?_toArray]; exact ho
  rw [hoa]
  simp only
  cases f with
  | al z ha hg hz h1 hr hee =>
    have hw : Region.wanted o (yielded l.toArray a.tmps) = true := by simp [Region.wanted, hg]
    rw [if_pos hw]
    have hd := c.dead h2 ⟨o, ho, ha, rfl⟩ n.un
    have hz' : newOf P (mixS st0 es L) o.op = some z := by
      rw [← hz]
      cases hop : o.op <;> simp only [newOf]
      rw [c.evs n ho (by rw [hop]; simp [Op.operands])]
    refine .inl (new_sound hrel hdst' hz' h1 hd (K := fun s => s = (mixS st0 es L).app e) ?_ _ _ fun a' w' st' G' hk' hn' hd' hb' h' => ?_)
    · rw [hee]; cases o.dst <;> rfl
    · subst hk'; exact hgo a' w' G' hd' hb' h'
  | run hno hg h1 h2' h4 h3 =>
    rw [if_pos (hgd true hg)]
    have hagr : Agr (adr o.op) o.op.operands.toList (apps st0 (es.take i)) (mixS st0 es L) := by
      refine ⟨by rw [hn, apps_n], fun x hx => (c.evs n ho hx).symm, fun x hx id sz k off hev => ?_⟩
      exact (c.boxes n h2 hrel ho hx hev (h4 x hx id sz k off hev)).1
    refine .inl (astepD_sound hrel hdst' (h3 _ hagr) _ _ fun a' w' st' G' hk' hn' hd' hb' h' => ?_)
    subst hk'; exact hgo a' w' G' hd' hb' h'
  | skip hno hg hee =>
    rw [if_neg (by rw [hgd false hg]; simp)]
    refine hgo _ _ G (put_defers' _ _ _) (Below.refl _ _) ?_
    have : (mixS st0 es L).app e = (mixS st0 es L).putO o.dst .undef := by rw [hee]; cases o.dst <;> rfl
    rw [this]
    exact hrel.putO hdst' fun _ _ => RelV.undef

theorem getD_def {listed : Array Bool} {j : Nat} (d : Bool) (h : j < listed.size) : listed.getD j d = listed.getD j false := by
  simp [Array.getD_eq_getD_getElem?, Array.getElem?_eq_getElem h]

theorem cnt_set {listed : Array Bool} {i : Nat} (hi : i < listed.size) (h : listed.getD i false = false) : (listed.setIfInBounds i true).toList.countP id = listed.toList.countP id + 1 := by
  rw [Array.toList_setIfInBounds, List.countP_set (by simpa using hi)]
  have : listed.toList[i]'(by simpa using hi) = false := by
    rw [Array.getElem_toList]
    simpa [Array.getD_eq_getD_getElem?, Array.getElem?_eq_getElem hi] using h
  simp [this]

theorem DCtx.any (c : DCtx P l r st0 es) (w0 : World) {Q : Exit → Act → World → Prop} (hQ : ∀ a w G, a.defers = [] → Below B w0 w → RelG G B H0 rest (apps st0 es) a.tmps w → Q .normal a w) : ∀ (fuel : Nat) (listed : Array Bool) (a : Act) (w : World) (G : Gh),
    listed.size = l.length → listed.toList.countP id + fuel = l.length → Closed l (fun j => listed.getD j false) → Closed2 l r es (fun j => listed.getD j false) → a.defers = [] → Below B w0 w →
    RelG G B H0 rest (mixS st0 es fun j => listed.getD j false) a.tmps w → wpAny P .any l.toArray Q fuel listed a w := by
  have fin : ∀ (listed : Array Bool) (a : Act) (w : World) (G : Gh), (∀ j, j < l.length → listed.getD j false = true) → a.defers = [] → Below B w0 w → RelG G B H0 rest (mixS st0 es fun j => listed.getD j false) a.tmps w → Q .normal a w := by
    intro listed a w G hall hd hb hr
    refine hQ a w G hd hb ?_
    have := mix_all (fun j => listed.getD j false) es 0 (fun j _ hj => hall j (by rw [← c.len]; omega))
    unfold mixS at hr
    rw [this] at hr
    exact hr
  intro fuel
  induction fuel with
  | zero =>
    intro listed a w G hs hc h1 h2 hd hb hr
    have hall : ∀ j, j < l.length → listed.getD j false = true := fun j hj => by
      have hc' : listed.toList.countP id = listed.toList.length := by rw [Array.length_toList]; omega
      rw [List.countP_eq_length] at hc'
      have := hc' (listed[j]'(by omega)) (by simp)
      simpa [Array.getD_eq_getD_getElem?, Array.getElem?_eq_getElem (show j < listed.size by omega)] using this
    refine ⟨?_, fin listed a w G hall hd hb hr⟩
    refine List.eq_nil_iff_forall_not_mem.2 fun j hj => ?_
    rw [mem_ready] at hj
    obtain ⟨h0, o, ho, _⟩ := hj
    have hjl : j < l.length := by
      rw [List.getElem?_toArray] at ho
      exact (List.getElem?_eq_some_iff.1 ho).1
    rw [getD_def true (by omega), hall j hjl] at h0
    cases h0
  | succ fuel ih =>
    intro listed a w G hs hc h1 h2 hd hb hr
    refine ⟨fun hready => ?_, fun i hi => ?_⟩
    · refine fin listed a w G (fun j => ?_) hd hb hr
      induction j using Nat.strongRecOn with
      | _ j ihj =>
        intro hj
        cases hL : listed.getD j false with
        | true => rfl
        | false =>
          exfalso
          have : j ∈ Region.ready .any l.toArray listed := by
            rw [mem_ready]
            refine ⟨by rw [getD_def true (by omega)]; exact hL, l[j], by simp [hj], fun e he hbd => ?_⟩
            have := (drawOk_spec c.ok j l[j] (List.getElem?_eq_getElem hj)).before e he hbd
            exact ihj e.on this (by omega)
          rw [hready] at this
          cases this
    · rw [mem_ready] at hi
      obtain ⟨h0, o, ho, hpre⟩ := hi
      rw [List.getElem?_toArray] at ho
      have hil : i < l.length := (List.getElem?_eq_some_iff.1 ho).1
      rw [getD_def true (by omega)] at h0
      have hL' : (fun j => listed.getD j false || j == i) = fun j => (listed.setIfInBounds i true).getD j false := by
        funext j
        by_cases hji : i = j
        · subst hji
          simp [Array.getD_eq_getD_getElem?, show i < listed.size by omega]
        · rw [getD_set_ne false hji]
          have : (j == i) = false := by simp; omega
          simp [this]
      have hcl' : Closed l fun j => listed.getD j false || j == i := fun j o' ho' hLj e he hbd => by
        by_cases hji : j = i
        · subst hji
          rw [ho] at ho'; cases ho'
          simp only [hpre e he hbd, Bool.true_or]
        · have hj' : (j == i) = false := by simpa using hji
          simp only [h1 j o' ho' (by simpa [hj'] using hLj) e he hbd, Bool.true_or]
      refine c.step ⟨h1, hcl', h0⟩ h2 hr ho fun a' w' G' hc2 hd' hb' hr' => ?_
      rw [hL'] at hc2 hr' hcl'
      exact ih _ a' w' G' (by simp [hs]) (by rw [cnt_set (by omega) h0]; omega) hcl' hc2 (hd'.trans hd) (hb.trans hb') hr'
end

theorem draw_sound {P : Program} {l : List Oper} (hok : drawOk l = true) (hmix : P.follows .mixedOrders = true) {Q : Exit → St → Prop} {st : St} {id : Nat}
    (h : aopsD P l Q st.hp.length l { st with hp := st.hp ++ List.replicate (nAl l) (0, []) }) : ATri P (.region id ⟨l⟩ true) st Q := by
  intro B H0 rest G a w hd hr
  refine wp_region_any hmix ?_
  have hb : Below w.heap.size w { w with drawn := w.drawn + 1 } := ⟨rfl, rfl, rfl, Nat.le_refl _, fun _ _ => rfl⟩
  have hr0 := (hr.ext hb).reserve (nAl l)
  obtain ⟨es, fin, ht, hfin, hq⟩ := trace_of l st.hp.length _ (fun l1 o l2 he t x ho => by
    have := (drawOk_spec hok l1.length o (by rw [he, List.getElem?_append_right (Nat.le_refl _)]; simp)).load t x ho
    rw [he, List.drop_append, List.drop_of_length_le (by omega)] at this
    simpa using this) h
  obtain ⟨hlen, hfact⟩ := ht.at
  have c : DCtx P l st.hp.length { st with hp := st.hp ++ List.replicate (nAl l) (0, []) } es := ⟨hok, hlen, hfact⟩
  have hsz : (List.toArray l).size = l.length := by simp
  show wpAny P .any l.toArray _ l.toArray.size _ a _
  refine c.any w (fun a' w' G' hd' hb' hr' => ⟨fin, G', hq, (by rw [← hfin.n, apps_n]), hd', hb', hfin.symm.rel hr'⟩) _ _ a _ G (by simp) (by simp [List.countP_replicate]) ?_ ?_ hd (hb.mono hr.wf.low) ?_
  · intro j o ho hL
    exfalso
    revert hL
    simp only [Array.getD_eq_getD_getElem?, Array.getElem?_replicate]
    split <;> simp
  · intro j m e id he hL
    exfalso
    revert hL
    simp only [Array.getD_eq_getD_getElem?, Array.getElem?_replicate]
    split <;> simp
  · have : (mixS { st with hp := st.hp ++ List.replicate (nAl l) (0, []) } es fun j => (Array.replicate l.toArray.size false).getD j false) = { st with hp := st.hp ++ List.replicate (nAl l) (0, []) } := by
      unfold mixS
      refine mix_null _ _ _ _ fun j _ => ?_
      simp only [Array.getD_eq_getD_getElem?, Array.getElem?_replicate]
      split <;> simp
    rw [this]
    exact hr0
end AH
