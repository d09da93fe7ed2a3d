/- Literals of structs and slices; parts of slices; len, max, min. -/
import Derived.Test.YtghdepbcnckfpaaAhExec2
namespace AH
open Go Go.RowKit

def afill (place : Nat → Option (Nat × Nat)) (cs : List AV) : List (Nat × AV) → Option (List AV)
  | [] => some cs
  | (i, v) :: r => match place i with
    | some (o, n) => if v.okc = true ∧ v.cells.length = n ∧ o + n ≤ cs.length then afill place (cs.take o ++ (v.cells ++ cs.drop (o + n))) r else none
    | none => none

theorem fold_set (off : Nat) : ∀ (l : List Value) (s : Nat) (arr : Array Value), off + s + l.length ≤ arr.size →
    ((l.zipIdx s).foldl (fun cs (x : Value × Nat) => cs.setIfInBounds (off + x.2) x.1) arr).toList = arr.toList.take (off + s) ++ (l ++ arr.toList.drop (off + s + l.length))
  | [], s, arr, _ => by simp
  | v :: l, s, arr, h => by
    simp only [List.zipIdx_cons, List.foldl_cons]
    rw [fold_set off l (s + 1) _ (by simp at h ⊢; omega)]
    simp only [Array.toList_setIfInBounds, List.length_cons]
    have e := list_seg_step arr.toList (off + s) v l (by simp at h ⊢; omega)
    simp only [List.append_assoc, List.cons_append] at e ⊢
    rw [show off + (s + 1) = off + s + 1 by omega, e]

theorem fold_set' (off : Nat) (v arr : Array Value) (h : off + v.size ≤ arr.size) :
    (v.zipIdx.foldl (fun cs (x : Value × Nat) => cs.setIfInBounds (off + x.2) x.1) arr).toList = arr.toList.take off ++ (v.toList ++ arr.toList.drop (off + v.size)) := by
  rw [← Array.foldl_toList, Array.toList_zipIdx]
  have := fold_set off v.toList 0 arr (by simpa using h)
  simpa using this

def CellsRel (R : AV → Value → Prop) (cs : List AV) (vs : List Value) : Prop :=
  cs.length = vs.length ∧ ∀ (j : Nat) (c : AV), cs[j]? = some c → ∃ u, vs[j]? = some u ∧ u.oneCell' = true ∧ R c u

theorem CellsRel.put {R : AV → Value → Prop} {cs ds : List AV} {vs us : List Value} {o n : Nat} (h : CellsRel R cs vs) (h' : CellsRel R ds us) (hn : ds.length = n) (ho : o + n ≤ cs.length) :
    CellsRel R (cs.take o ++ (ds ++ cs.drop (o + n))) (vs.take o ++ (us ++ vs.drop (o + n))) := by
  have e1 := h.1
  have e2 := h'.1
  refine ⟨by simp; omega, fun j c hj => ?_⟩
  simp only [List.getElem?_append, List.length_take, List.getElem?_take, List.getElem?_drop] at hj ⊢
  have m1 : min o cs.length = o := by omega
  have m2 : min o vs.length = o := by omega
  rw [m1] at hj; rw [m2]
  by_cases c1 : j < o
  · rw [if_pos c1, if_pos c1] at hj
    rw [if_pos c1, if_pos c1]
    exact h.2 j c hj
  · rw [if_neg c1] at hj
    rw [if_neg c1]
    by_cases c2 : j - o < ds.length
    · rw [if_pos c2] at hj
      rw [if_pos (by omega)]
      exact h'.2 _ c hj
    · rw [if_neg c2] at hj
      rw [if_neg (by omega), ← e2]
      exact h.2 _ c hj

theorem fill_rel {H : HV} {io : Nat → Option Nat} (place : Nat → Option (Nat × Nat)) : ∀ (avs : List (Nat × AV)) (parts : List (Nat × Value)) (cs cs' : List AV) (vs : Array Value),
    (avs.length = parts.length ∧ ∀ (k : Nat) (x : Nat × AV) (y : Nat × Value), avs[k]? = some x → parts[k]? = some y → x.1 = y.1 ∧ Rel0 H io x.2 y.2) → CellsRel (Rel0 H io) cs vs.toList → afill place cs avs = some cs' →
    ∃ vs', Instr.fill place vs parts = some vs' ∧ CellsRel (Rel0 H io) cs' vs'.toList
  | [], parts, cs, cs', vs, hp, hc, hf => by
    have : parts = [] := List.eq_nil_of_length_eq_zero (by simpa using hp.1.symm)
    subst this
    simp only [afill, Option.some.injEq] at hf
    subst hf
    exact ⟨vs, rfl, hc⟩
  | (i, x) :: avs, parts, cs, cs', vs, hp, hc, hf => by
    cases parts with
    | nil => simp at hp
    | cons y parts =>
      obtain ⟨k, v⟩ := y
      obtain ⟨h1, h2⟩ := hp.2 0 _ _ rfl rfl
      simp only at h1 h2
      subst h1
      simp only [afill] at hf
      split at hf
      · rename_i o n hpl
        split at hf
        · rename_i hcond
          obtain ⟨hok, hn, hle⟩ := hcond
          have hr := h2.cells hok
          have hv : CellsRel (Rel0 H io) x.cells v.cells.toList := ⟨by simpa using hr.1, fun j c hj => by simpa using hr.2 j c hj⟩
          have hcs := hc.1
          simp only [Array.length_toList] at hcs
          have hsz : v.cells.size = n := by rw [← hr.1]; exact hn
          have hfit : o + v.cells.size ≤ vs.size := by omega
          obtain ⟨vs', h3, h4⟩ := fill_rel place avs parts _ cs' (v.cells.zipIdx.foldl (fun cs (x : Value × Nat) => cs.setIfInBounds (o + x.2) x.1) vs)
            ⟨by simpa using hp.1, fun k x y hx hy => hp.2 (k + 1) x y hx hy⟩ (by
              rw [fold_set' o v.cells vs hfit, hsz]
              exact hc.put hv hn hle) hf
          refine ⟨vs', ?_, h4⟩
          simp only [Instr.fill, hpl]
          rw [if_neg (by simp [hsz]; omega)]
          exact h3
        · cases hf
      · cases hf

/-- All fields of a struct have their places. -/
def fldsOk (P : Program) (t : TypeId) : Bool :=
  match P.underlying t with
  | some (.struct fs) => fs.toList.all fun f => (tyI P f.type).isSome
  | _ => false

/-- A struct's literal. -/
def abuild (P : Program) (t : TypeId) (parts : List (Nat × AV)) (K : AV → Prop) : Prop :=
  match P.underlying t with
  | some (.struct _) => match zeroI P t with
    | some (.agg zs) => fldsOk P t = true ∧ match afill (fun i => (fldI P t i).map fun x => (x.1, x.2.1)) zs parts with
      | some cs => K (.agg cs)
      | none => False
    | _ => False
  | _ => False

def elemT (P : Program) (t : TypeId) : Option TypeId :=
  match P.underlying t with
  | some (.slice e) => some e
  | _ => none

/-- A slice's literal: every element is given, in order. -/
def abuildSlice (P : Program) (t : TypeId) (len : Nat) (parts : List (Nat × AV)) (K : AV → Prop) : Prop :=
  match elG P t with
  | some (sz, _) => (parts.map (·.1) = List.range len ∧ (∀ p ∈ parts, p.2.okc = true ∧ p.2.imm = true ∧ p.2.cells.length = sz) ∧ len * sz ≤ 16777216) ∧ K (.own sz (parts.map (·.2)))
  | none => False

section
variable {P : Program} {G : Gh} {B : Nat} {H0 : HV} {rest : List (AV × Value)} {st : St} {a : Act} {w : World} {dst : Option Nat} {K : AV → St → Prop}

def St.evD (st : St) (x : Operand) : AV := (st.ev x).dem

theorem RelG.parts (h : RelG G B H0 rest st a.tmps w) (ps : List (Nat × Operand)) :
    (ps.map fun p => (p.1, st.evD p.2)).length = (ps.map fun p => (p.1, a.eval p.2)).length ∧
      ∀ (k : Nat) (x : Nat × AV) (y : Nat × Value), (ps.map fun p => (p.1, st.evD p.2))[k]? = some x → (ps.map fun p => (p.1, a.eval p.2))[k]? = some y → x.1 = y.1 ∧ Rel0 G.H G.io x.2 y.2 := by
  refine ⟨by simp, fun k x y hx hy => ?_⟩
  simp only [List.getElem?_map, Option.map_eq_some_iff] at hx hy
  obtain ⟨p, hp, rfl⟩ := hx
  obtain ⟨q, hq, rfl⟩ := hy
  rw [hp] at hq; cases hq
  exact ⟨rfl, h.ev p.2⟩

theorem mapM_places {fs : Array Field} : ∀ (l : List Field), (∀ f ∈ l, (tyI P f.type).isSome = true) →
    (l.mapM (fun f => do pure (f.offset, ← Go.sizeOf f.type) : Field → Sem (Nat × Nat))).run P w = .ok (l.map fun f => (f.offset, ((tyI P f.type).map (·.1)).getD 0)) w
  | [], _ => by simp
  | f :: l, h => by
    obtain ⟨x, hx⟩ := Option.isSome_iff_exists.1 (h f (by simp))
    have ih := mapM_places (fs := fs) l (fun g hg => h g (by simp [hg]))
    simp only [List.mapM_cons, Sem.run_bind, run_sizeOf' (show tyI P f.type = some (x.1, x.2) from hx), Result.andThen_ok, Sem.run_pure, ih, List.map_cons, hx, Option.map_some, Option.getD_some]

theorem abuild_sound (h : RelG G B H0 rest st a.tmps w) (hd : dstOk dst st.n = true) {t : TypeId} {ps : Array (Nat × Operand)}
    (hk : abuild P t (ps.toList.map fun p => (p.1, st.evD p.2)) fun av => K av st) :
    OpOk P B H0 rest st.n a w dst K (do pure (.value (← Instr.build t (ps.map fun p => (p.1, a.eval p.2))))) := by
  unfold abuild at hk
  split at hk
  · rename_i fs ht
    split at hk
    · rename_i zs hz
      obtain ⟨i, v, hi, hv, hzv⟩ := zeroI_inv hz
      obtain ⟨hz1, hk⟩ := hk
      have hfs : ∀ f ∈ fs.toList, (tyI P f.type).isSome = true := by
        simp only [fldsOk, ht, List.all_eq_true] at hz1
        exact hz1
      split at hk
      · rename_i cs hf
        have hzr := Rel0.imm (io := G.io) _ _ (ofV_rel G.H v)
        rw [← hzv] at hzr
        have hzc := hzr.cells rfl
        have hvc : v.cells.size = zs.length := hzc.1.symm
        have hpl : ∀ k, ((fs.toList.map fun f => (f.offset, ((tyI P f.type).map (·.1)).getD 0)).toArray[k]?) = (fldI P t k).map fun x => (x.1, x.2.1) := fun k => by
          simp only [List.getElem?_toArray, List.getElem?_map, Array.getElem?_toList, fldI, ht]
          cases hfk : fs[k]? with
          | none => rfl
          | some f =>
            obtain ⟨x, hx⟩ := Option.isSome_iff_exists.1 (hfs f (Array.mem_toList_iff.2 (Array.mem_of_getElem? hfk)))
            simp [hx]
        have hpl' : (fun k => (fs.toList.map fun f => (f.offset, ((tyI P f.type).map (·.1)).getD 0)).toArray[k]?) = fun k => (fldI P t k).map fun x => (x.1, x.2.1) := funext hpl
        obtain ⟨vs', h3, h4⟩ := fill_rel (fun i => (fldI P t i).map fun x => (x.1, x.2.1)) _ _ zs cs v.cells (h.parts ps.toList) ⟨by simpa [AV.cells] using hzc.1, fun j c hj => by simpa using hzc.2 j c hj⟩ hf
        have hm := mapM_places (P := P) (w := w) (fs := fs) fs.toList (fun f hf => hfs f hf)
        refine OpOk.val h hd (v := .agg vs') ?_ ?_ hk
        · simp only [Instr.build, Sem.run_bind, zeroValue, typeInfo, run_program, Result.andThen_ok, hi, Sem.run_pure, hv, run_underlying ht]
          rw [← Array.toArray_toList (xs := fs)] 
          simp only [List.mapM_toArray, Sem.run_map, hm, Result.andThen_ok, Array.toList_map]
          rw [hpl', h3]
          rfl
        · refine .agg cs vs' (by simpa using h4.1) (fun u hu => ?_) (fun j c u hj hu => ?_)
          · obtain ⟨j, hj, rfl⟩ := Array.mem_iff_getElem.1 hu
            have hjc : j < cs.length := by have := h4.1; simp at this; omega
            obtain ⟨u', h5, h6, _⟩ := h4.2 j _ (List.getElem?_eq_getElem hjc)
            rw [Array.getElem?_toList, Array.getElem?_eq_getElem hj] at h5
            cases h5; exact h6
          · obtain ⟨u', h5, h6, h7⟩ := h4.2 j c hj
            rw [Array.getElem?_toList, hu] at h5
            cases h5; exact h7
      · exact hk.elim
    · exact hk.elim
  · exact hk.elim

/-- Elements in order, laid in a row. -/
theorem fill_elems {H : HV} {io : Nat → Option Nat} (sz : Nat) : ∀ (ps : List (Nat × AV)) (qs : List (Nat × Value)) (k : Nat) (vs : Array Value), ps.length = qs.length → ps.map (·.1) = List.range' k ps.length →
    (∀ (i : Nat) (x : Nat × AV) (y : Nat × Value), ps[i]? = some x → qs[i]? = some y → x.1 = y.1 ∧ Rel0 H io x.2 y.2) → (∀ p ∈ ps, p.2.okc = true ∧ p.2.cells.length = sz) → (k + ps.length) * sz ≤ vs.size →
    ∃ vs', Instr.fill (fun i => some (i * sz, sz)) vs qs = some vs' ∧ vs'.size = vs.size ∧ (∀ o, o < k * sz → vs'[o]? = vs[o]?) ∧
      ∀ (i : Nat) (x : Nat × AV) (j : Nat) (c : AV), ps[i]? = some x → x.2.cells[j]? = some c → ∃ v, vs'[(k + i) * sz + j]? = some v ∧ v.oneCell' = true ∧ Rel0 H io c v
  | [], qs, k, vs, hl, _, _, _, _ => by
    have : qs = [] := List.eq_nil_of_length_eq_zero (by simpa using hl.symm)
    subst this
    exact ⟨vs, rfl, rfl, fun _ _ => rfl, fun i x j c hx => by simp at hx⟩
  | (k', x) :: ps, qs, k, vs, hl, hk, hr, hok, hsz => by
    cases qs with
    | nil => simp at hl
    | cons y qs =>
      obtain ⟨k2, v⟩ := y
      simp only [List.map_cons, List.length_cons, List.range'_succ, List.cons.injEq] at hk
      obtain ⟨rfl, hk⟩ := hk
      obtain ⟨h1, h2⟩ := hr 0 _ _ rfl rfl
      simp only at h1 h2
      subst h1
      obtain ⟨ho, hn⟩ := hok _ (List.mem_cons_self ..)
      simp only at ho hn
      have hc := h2.cells ho
      have hvs : v.cells.size = sz := by rw [← hc.1]; exact hn
      simp only [List.length_cons] at hsz
      have hfit : k' * sz + v.cells.size ≤ vs.size := by
        have : (k' + 1) * sz ≤ (k' + (ps.length + 1)) * sz := Nat.mul_le_mul_right _ (by omega)
        rw [Nat.add_mul] at this
        omega
      have hfold := fold_set' (k' * sz) v.cells vs hfit
      have hfsz : (v.cells.zipIdx.foldl (fun cs (x : Value × Nat) => cs.setIfInBounds (k' * sz + x.2) x.1) vs).size = vs.size := by
        rw [← Array.length_toList, hfold]; simp; omega
      obtain ⟨vs', h3, h4, h5, h6⟩ := fill_elems sz ps qs (k' + 1) (v.cells.zipIdx.foldl (fun cs (x : Value × Nat) => cs.setIfInBounds (k' * sz + x.2) x.1) vs) (by simpa using hl) hk
        (fun i x y hx hy => hr (i + 1) x y hx hy) (fun p hp => hok p (List.mem_cons_of_mem _ hp)) (by rw [hfsz]; rw [show k' + 1 + ps.length = k' + (ps.length + 1) by omega]; exact hsz)
      have hget : ∀ o, (v.cells.zipIdx.foldl (fun cs (x : Value × Nat) => cs.setIfInBounds (k' * sz + x.2) x.1) vs)[o]? = (vs.toList.take (k' * sz) ++ (v.cells.toList ++ vs.toList.drop (k' * sz + v.cells.size)))[o]? := fun o => by
        rw [← hfold, Array.getElem?_toList]
      have hm : min (k' * sz) vs.size = k' * sz := by omega
      refine ⟨vs', ?_, h4.trans hfsz, fun o ho => ?_, fun i y j c hy hj => ?_⟩
      · simp only [Instr.fill]
        rw [if_neg (by simp [hvs]; omega)]
        exact h3
      · have e1 : (k' + 1) * sz = k' * sz + sz := by rw [Nat.add_mul]; omega
        rw [h5 o (by omega), hget, List.getElem?_append, if_pos (by simp; omega), List.getElem?_take, if_pos ho, Array.getElem?_toList]
      · cases i with
        | zero =>
          simp only [List.getElem?_cons_zero, Option.some.injEq] at hy
          subst hy
          simp only at hj
          obtain ⟨u, hu, hu1, hur⟩ := hc.2 j c hj
          have hjl : j < sz := by rw [← hn]; exact (List.getElem?_eq_some_iff.1 hj).1
          have e1 : (k' + 1) * sz = k' * sz + sz := by rw [Nat.add_mul]; omega
          refine ⟨u, ?_, hu1, hur⟩
          rw [Nat.add_zero, h5 _ (by omega), hget, List.getElem?_append, if_neg (by simp; omega), List.getElem?_append]
          simp only [List.length_take, Array.length_toList, hm]
          rw [if_pos (by omega), show k' * sz + j - k' * sz = j by omega, Array.getElem?_toList]
          exact hu
        | succ i =>
          obtain ⟨u, hu, hu1, hur⟩ := h6 i y j c (by simpa using hy) hj
          exact ⟨u, by rw [show k' + (i + 1) = k' + 1 + i by omega]; exact hu, hu1, hur⟩

theorem abuildSlice_sound (h : RelG G B H0 rest st a.tmps w) (hd : dstOk dst st.n = true) {t : TypeId} {len : Nat} {ps : Array (Nat × Operand)}
    (hk : abuildSlice P t len (ps.toList.map fun p => (p.1, st.evD p.2)) fun av => K av st) :
    OpOk P B H0 rest st.n a w dst K (do pure (.value (← Instr.buildSlice t len (ps.map fun p => (p.1, a.eval p.2))))) := by
  unfold abuildSlice at hk
  split at hk
  · rename_i sz by_ ht
    obtain ⟨⟨hr, hok, hbig⟩, hk⟩ := hk
    obtain ⟨e, i, z, hte, hi, hz, hzs, hpos, hsize, hby⟩ := elG_inv ht
    have hlen : len = (ps.toList.map fun p => (p.1, st.evD p.2)).length := by
      have := congrArg List.length hr
      simpa using this.symm
    obtain ⟨vs', h3, h4, _, h6⟩ := fill_elems (H := G.H) (io := G.io) sz (ps.toList.map fun p => (p.1, st.evD p.2)) (ps.toList.map fun p => (p.1, a.eval p.2)) 0 ((Array.range (len * sz)).map (z.cells[· % z.cells.size]!))
      (by simp) (by rw [hr, List.range_eq_range', ← hlen]) (h.parts ps.toList).2 (fun p hp => ⟨(hok p hp).1, (hok p hp).2.2⟩) (by simp [hlen])
    have hel : ((ps.toList.map fun p => (p.1, st.evD p.2)).map (·.2)).length = len := by rw [hlen]; simp
    obtain ⟨G', h7, h8, h9, h10⟩ := h.newRow vs' e sz len ((ps.toList.map fun p => (p.1, st.evD p.2)).map (·.2)) [0, dst.getD 0] hpos (by rw [h4]; simp) (by rw [hel]; exact Nat.le_refl _)
      (by have : len ≤ len * sz := Nat.le_mul_of_pos_right _ hpos; simp only [maxLen]; omega)
      (fun k x hx => by
        rw [List.getElem?_map, Option.map_eq_some_iff] at hx
        obtain ⟨p, hp, rfl⟩ := hx
        exact (hok p (List.mem_of_getElem? hp)).2.2)
      (fun k x j c hx hj => by
        rw [List.getElem?_map, Option.map_eq_some_iff] at hx
        obtain ⟨p, hp, rfl⟩ := hx
        obtain ⟨u, hu, hu1, hur⟩ := h6 k p j c hp hj
        refine ⟨u, by simpa using hu, hu1, ?_⟩
        have him := (hok p (List.mem_of_getElem? hp)).2.1
        cases hp2 : p.2 with
        | agg cs =>
          rw [hp2] at him hj
          simp only [AV.imm, List.all_eq_true] at him
          exact hur.imm0 (him c (List.mem_of_getElem? hj))
        | _ =>
          rw [hp2] at him hj
          cases j with
          | zero => simp only [AV.cells, List.getElem?_cons_zero, Option.some.injEq] at hj; subst hj; exact hur.imm0 him
          | succ j => simp [AV.cells] at hj)
    rw [hel] at h8
    refine ⟨_, .slice (some ⟨w.heap.size, 0, none⟩) len len, w.alloc (.cells vs' e), G', _, st, ?_, .inl rfl, (Below.refl _ _).alloc h.wf.low _, hk, rfl, ?_⟩
    · simp only [Instr.buildSlice, Sem.run_bind, run_underlying hte, Result.andThen_ok, Go.sizeOf, typeInfo, run_program, hi, Sem.run_pure, hsize]
      rw [if_neg (by omega)]
      by_cases h0 : len * sz = 0
      · have e0 : (Array.range (len * sz)).map (fun x => (#[] : Array Value)[x % (#[] : Array Value).size]!) = (Array.range (len * sz)).map (z.cells[· % z.cells.size]!) := by simp [h0]
        rw [if_pos h0]
        simp only [Sem.run_bind, Sem.run_pure, Result.andThen_ok]
        rw [e0, Array.toList_map, h3]
        simp [newRow]
      · rw [if_neg h0]
        simp only [Sem.run_bind, Sem.run_pure, Result.andThen_ok, zeroValue, typeInfo, run_program, hi, hz]
        rw [Array.toList_map, h3]
        simp [newRow]
    · exact h7.putO hd fun d hdst => by subst hdst; exact h8
  · exact hk.elim
end
end AH
