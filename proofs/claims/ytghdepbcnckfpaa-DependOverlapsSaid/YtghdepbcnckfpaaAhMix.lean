/- Mixtures: the state where some of a region's operations are done. -/
import Derived.Test.YtghdepbcnckfpaaAhDraw
namespace AH
open Go Go.RowKit

def nullE : Eff := ⟨[], none⟩

def mixFrom (L : Nat → Bool) : Nat → List Eff → List Eff
  | _, [] => []
  | i, e :: es => (if L i then e else nullE) :: mixFrom L (i + 1) es

def Eff.puts? (e : Eff) (k : Nat) : Bool := e.puts.any (·.1 == k)
def Eff.box? (e : Eff) (id : Nat) : Bool := match e.box with | some b => b.1 == id | none => false

theorem app_get (st : St) (e : Eff) (k : Nat) : (st.app e).get k = if e.puts? k then lk e.puts k else st.get k := lk_append _ _ _

theorem app_hp (st : St) (e : Eff) (id : Nat) : (st.app e).hp[id]? = if e.box? id then (match e.box with | some b => if id < st.hp.length then some b.2 else none | none => none) else st.hp[id]? := by
  unfold St.app Eff.box?
  cases e.box with
  | none => simp
  | some b =>
    simp only [List.getElem?_set]
    by_cases h : b.1 = id
    · subst h; simp
    · have h' : (b.1 == id) = false := by simpa using h
      simp [h, h']

theorem app_len (st : St) (e : Eff) : (st.app e).hp.length = st.hp.length := by
  unfold St.app
  cases e.box <;> simp

theorem app_null (st : St) : st.app nullE = st := rfl

theorem apps_n (st : St) (es : List Eff) : (apps st es).n = st.n := by
  induction es generalizing st with
  | nil => rfl
  | cons e es ih => exact (ih _).trans rfl
theorem apps_fl (st : St) (es : List Eff) : (apps st es).fl = st.fl := by
  induction es generalizing st with
  | nil => rfl
  | cons e es ih => exact (ih _).trans rfl
theorem apps_len (st : St) (es : List Eff) : (apps st es).hp.length = st.hp.length := by
  induction es generalizing st with
  | nil => rfl
  | cons e es ih => exact (ih _).trans (app_len _ _)

theorem apps_append (st : St) (a b : List Eff) : apps st (a ++ b) = apps (apps st a) b := by
  unfold apps; rw [List.foldl_append]

theorem get_mix {k : Nat} {L L' : Nat → Bool} : ∀ (es : List Eff) (i : Nat) (st st' : St), st.get k = st'.get k → (∀ j e, es[j]? = some e → L (i + j) ≠ L' (i + j) → e.puts? k = false) →
    (apps st (mixFrom L i es)).get k = (apps st' (mixFrom L' i es)).get k
  | [], _, _, _, h, _ => h
  | e :: es, i, st, st', h, hd => by
    refine get_mix es (i + 1) _ _ ?_ (fun j e' he hne => hd (j + 1) e' he (by rw [show i + (j + 1) = i + 1 + j by omega]; exact hne))
    have h0 := hd 0 e rfl
    simp only [Nat.add_zero] at h0
    cases h1 : L i <;> cases h2 : L' i <;> simp only [if_true, Bool.false_eq_true, if_false, app_null, app_get, h]
    · rw [h0 (by rw [h1, h2]; simp)]; simp
    · rw [h0 (by rw [h1, h2]; simp)]; simp

theorem hp_mix {id : Nat} {L L' : Nat → Bool} : ∀ (es : List Eff) (i : Nat) (st st' : St), st.hp.length = st'.hp.length → st.hp[id]? = st'.hp[id]? → (∀ j e, es[j]? = some e → L (i + j) ≠ L' (i + j) → e.box? id = false) →
    (apps st (mixFrom L i es)).hp[id]? = (apps st' (mixFrom L' i es)).hp[id]?
  | [], _, _, _, _, h, _ => h
  | e :: es, i, st, st', hl, h, hd => by
    have h0 := hd 0 e rfl
    simp only [Nat.add_zero] at h0
    refine hp_mix es (i + 1) _ _ ?_ ?_ (fun j e' he hne => hd (j + 1) e' he (by rw [show i + (j + 1) = i + 1 + j by omega]; exact hne))
    · rw [app_len, app_len, hl]
    cases h1 : L i <;> cases h2 : L' i <;> simp only [if_true, Bool.false_eq_true, if_false, app_null, app_hp, h, hl]
    · rw [h0 (by rw [h1, h2]; simp)]; simp
    · rw [h0 (by rw [h1, h2]; simp)]; simp

theorem mixFrom_append (L : Nat → Bool) : ∀ (a b : List Eff) (i : Nat), mixFrom L i (a ++ b) = mixFrom L i a ++ mixFrom L (i + a.length) b
  | [], b, i => rfl
  | e :: a, b, i => by
    simp only [List.cons_append, mixFrom, mixFrom_append L a b (i + 1), List.length_cons]
    rw [show i + 1 + a.length = i + (a.length + 1) by omega]

theorem mix_null (L : Nat → Bool) : ∀ (es : List Eff) (i : Nat) (st : St), (∀ j, i ≤ j → L j = false) → apps st (mixFrom L i es) = st
  | [], _, _, _ => rfl
  | e :: es, i, st, h => by
    show apps (st.app (if L i then e else nullE)) _ = st
    rw [h i (Nat.le_refl _)]
    exact mix_null L es (i + 1) st fun j hj => h j (by omega)

theorem mix_all (L : Nat → Bool) : ∀ (es : List Eff) (i : Nat), (∀ j, i ≤ j → j < i + es.length → L j = true) → mixFrom L i es = es
  | [], _, _ => rfl
  | e :: es, i, h => by
    simp only [mixFrom]
    rw [h i (Nat.le_refl _) (by simp), if_pos rfl, mix_all L es (i + 1) fun j h1 h2 => h j (by omega) (by simp; omega)]

/-- The state of the lexical walk ahead of operation i. -/
theorem mix_lt (st : St) (es : List Eff) (i : Nat) (hi : i ≤ es.length) : apps st (mixFrom (fun j => decide (j < i)) 0 es) = apps st (es.take i) := by
  have h1 : es = es.take i ++ es.drop i := (List.take_append_drop i es).symm
  have hlen : (es.take i).length = i := by simp; omega
  rw [show mixFrom (fun j => decide (j < i)) 0 es = mixFrom (fun j => decide (j < i)) 0 (es.take i ++ es.drop i) by rw [← h1], mixFrom_append, apps_append, Nat.zero_add, hlen,
    mix_all _ _ _ (fun j _ h => by simp [hlen] at h ⊢; omega), mix_null _ _ _ _ (fun j hj => by simp; omega)]

def mixS (st : St) (es : List Eff) (L : Nat → Bool) : St := apps st (mixFrom L 0 es)

/-- One more operation is done: it may as well have been the last one. -/
theorem mix_step (st : St) (es : List Eff) (L : Nat → Bool) (i : Nat) (e : Eff) (he : es[i]? = some e) (hLi : L i = false)
    (h1 : ∀ j e', i < j → es[j]? = some e' → L j = true → ∀ k, e.puts? k = true → e'.puts? k = false)
    (h2 : ∀ j e', i < j → es[j]? = some e' → L j = true → ∀ id, e.box? id = true → e'.box? id = false) :
    StEq (mixS st es fun j => L j || j == i) ((mixS st es L).app e) := by
  have hlt : i < es.length := (List.getElem?_eq_some_iff.1 he).1
  let L' : Nat → Bool := fun j => L j || j == i
  have hsplit : es = es.take i ++ e :: es.drop (i + 1) := by
    rw [List.getElem?_eq_getElem hlt] at he
    cases he
    exact (List.take_append_drop i es).symm.trans (by rw [List.drop_eq_getElem_cons hlt])
  have hlen : (es.take i).length = i := by simp; omega
  have hm : mixFrom L' 0 es = mixFrom L' 0 (es.take i) ++ (e :: mixFrom L' (i + 1) (es.drop (i + 1))) := by
    have : mixFrom L' 0 es = mixFrom L' 0 (es.take i ++ e :: es.drop (i + 1)) := by rw [← hsplit]
    rw [this, mixFrom_append, Nat.zero_add, hlen]
    simp only [mixFrom, L', beq_self_eq_true, Bool.or_true, if_true]
  have hne : ∀ j, L' j ≠ L j → j = i := fun j h => by
    by_cases hj : j = i
    · exact hj
    · have : (j == i) = false := by simpa using hj
      simp [L', this] at h
  refine ⟨?_, ?_, ?_, fun k => ?_⟩
  · show (apps st _).n = (apps st _).n
    rw [apps_n, apps_n]
  · show (apps st _).fl = (apps st _).fl
    rw [apps_fl, apps_fl]
  · refine List.ext_getElem? fun id => ?_
    show (apps st (mixFrom L' 0 es)).hp[id]? = _
    rw [app_hp]
    by_cases hb : e.box? id = true
    · rw [if_pos hb, hm, apps_append]
      show (apps ((apps st (mixFrom L' 0 (es.take i))).app e) (mixFrom L' (i + 1) (es.drop (i + 1)))).hp[id]? = _
      have hz := hp_mix (id := id) (L := L') (L' := fun _ => false) (es.drop (i + 1)) (i + 1) ((apps st (mixFrom L' 0 (es.take i))).app e) ((apps st (mixFrom L' 0 (es.take i))).app e) rfl rfl (fun j e' he' hj => by
        rw [List.getElem?_drop] at he'
        refine h2 _ e' (by omega) he' ?_ id hb
        have hj' : (i + 1 + j == i) = false := by simp; omega
        simpa [L', hj'] using hj)
      rw [hz, mix_null _ _ _ _ (fun _ _ => rfl), app_hp, if_pos hb]
      unfold mixS
      simp only [apps_len]
    · rw [if_neg hb]
      refine hp_mix es 0 st st rfl rfl (fun j e' he' hj => ?_)
      have := hne _ hj
      rw [Nat.zero_add] at this
      subst this
      rw [he] at he'; cases he'
      simpa using hb
  · show (apps st (mixFrom L' 0 es)).get k = _
    rw [app_get]
    by_cases hb : e.puts? k = true
    · rw [if_pos hb, hm, apps_append]
      show (apps ((apps st (mixFrom L' 0 (es.take i))).app e) (mixFrom L' (i + 1) (es.drop (i + 1)))).get k = _
      have hz := get_mix (k := k) (L := L') (L' := fun _ => false) (es.drop (i + 1)) (i + 1) ((apps st (mixFrom L' 0 (es.take i))).app e) ((apps st (mixFrom L' 0 (es.take i))).app e) rfl (fun j e' he' hj => by
        rw [List.getElem?_drop] at he'
        refine h1 _ e' (by omega) he' ?_ k hb
        have hj' : (i + 1 + j == i) = false := by simp; omega
        simpa [L', hj'] using hj)
      rw [hz, mix_null _ _ _ _ (fun _ _ => rfl), app_get, if_pos hb]
    · rw [if_neg hb]
      refine get_mix es 0 st st rfl (fun j e' he' hj => ?_)
      have := hne _ hj
      rw [Nat.zero_add] at this
      subst this
      rw [he] at he'; cases he'
      simpa using hb

/-- How many variables the first operations make. -/
def nAl (l : List Oper) : Nat := l.countP isAl

theorem Trace.at {P : Program} {all : List Oper} : ∀ {l : List Oper} {r : Nat} {st : St} {es : List Eff}, Trace P all r l st es → es.length = l.length ∧
    ∀ i o, l[i]? = some o → ∃ e, es[i]? = some e ∧ dstOk o.dst st.n = true ∧ Fact P all (r + nAl (l.take i)) o (futB o.dst (l.drop (i + 1))) (apps st (es.take i)) e
  | [], _, _, [], _ => ⟨rfl, fun i o h => by simp at h⟩
  | o :: l, r, st, e :: es, ⟨h1, h2, h3⟩ => by
    obtain ⟨hl, ih⟩ := h3.at
    refine ⟨by simp [hl], fun i o' ho => ?_⟩
    cases i with
    | zero =>
      simp only [List.getElem?_cons_zero, Option.some.injEq] at ho
      subst ho
      exact ⟨e, rfl, h1, h2⟩
    | succ i =>
      rw [List.getElem?_cons_succ] at ho
      obtain ⟨e', he, hd, hf⟩ := ih i o' ho
      refine ⟨e', he, hd, ?_⟩
      have : r + nAl ((o :: l).take (i + 1)) = (if isAl o = true then r + 1 else r) + nAl (l.take i) := by
        simp only [List.take_succ_cons, nAl, List.countP_cons]
        split <;> omega
      rw [this]
      exact hf

theorem nAl_lt (l : List Oper) {i j : Nat} (hij : i < j) {o : Oper} (ho : l[i]? = some o) (ha : isAl o = true) (_ : j ≤ l.length) : nAl (l.take i) < nAl (l.take j) := by
  have hlt : i < l.length := (List.getElem?_eq_some_iff.1 ho).1
  have h1 : l.take j = l.take i ++ o :: (l.drop (i + 1)).take (j - (i + 1)) := by
    rw [List.getElem?_eq_getElem hlt] at ho
    cases ho
    have : l.take j = (l.take i ++ l[i] :: l.drop (i + 1)).take j := by
      congr 1
      exact (List.take_append_drop i l).symm.trans (by rw [List.drop_eq_getElem_cons hlt])
    rw [this, List.take_append, List.length_take, Nat.min_eq_left (Nat.le_of_lt hlt), List.take_of_length_le (by simp; omega), show j - i = (j - (i + 1)) + 1 by omega, List.take_succ_cons]
  rw [h1]
  simp only [nAl, List.countP_append, List.countP_cons, ha, if_true]
  omega
end AH
