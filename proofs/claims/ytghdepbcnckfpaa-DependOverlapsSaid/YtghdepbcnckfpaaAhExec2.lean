/- More operations: new variables, stores, tuples, literals, slices, the builtins. -/
import Derived.Test.YtghdepbcnckfpaaAhAppend
namespace AH
open Go Go.RowKit

def AV.imm0 : AV → Bool
  | .ptr .. => false
  | .own .. => false
  | .agg _ => false
  | .tup _ => false
  | .fn _ cs => cs.isEmpty
  | _ => true
def AV.imm : AV → Bool
  | .agg cs => cs.all AV.imm0
  | v => v.imm0

theorem Rel0.imm0 {H : HV} {io : Nat → Option Nat} {av : AV} {v : Value} (h : Rel0 H io av v) (hi : av.imm0 = true) : RelI H av v := by
  cases h with
  | imm _ _ h => exact h
  | ptr => cases hi
  | agg => cases hi
  | tup => cases hi
  | fn f cs vs hl hc =>
    simp only [AV.imm0, List.isEmpty_iff] at hi
    subst hi
    exact .fn f [] vs hl (fun j c v h => by simp at h)

theorem Rel0.toI {H : HV} {io : Nat → Option Nat} {av : AV} {v : Value} (h : Rel0 H io av v) (hi : av.imm = true) : RelI H av v := by
  cases av with
  | agg cs =>
    obtain ⟨vs, rfl, hl, h1, hc⟩ := h.agg_inv
    simp only [AV.imm, List.all_eq_true] at hi
    exact .agg cs vs hl h1 fun j c v hj hv => (hc j c v hj hv).imm0 (hi c (List.mem_of_getElem? hj))
  | _ => exact h.imm0 hi

def AV.okc : AV → Bool
  | .agg _ => true
  | x => x.one

/-- The cells of a plain value, and those of its abstract one. -/
theorem Rel0.cells {H : HV} {io : Nat → Option Nat} {av : AV} {v : Value} (h : Rel0 H io av v) (h1 : av.okc = true) :
    av.cells.length = v.cells.size ∧ ∀ (j : Nat) (c : AV), av.cells[j]? = some c → ∃ u, v.cells[j]? = some u ∧ u.oneCell' = true ∧ Rel0 H io c u := by
  cases av with
  | agg cs =>
    obtain ⟨vs, rfl, hl, h1, hc⟩ := h.agg_inv
    refine ⟨hl, fun j c hj => ?_⟩
    have hjl : j < vs.size := by rw [← hl]; exact (List.getElem?_eq_some_iff.1 hj).1
    exact ⟨vs[j], by simp [Value.cells, hjl], h1 _ (Array.getElem_mem hjl), hc j c _ hj (by simp [hjl])⟩
  | _ =>
    have ho := h.oneCell h1
    have hcs : v.cells = #[v] := by cases v <;> first | rfl | cases ho
    refine ⟨by rw [hcs]; rfl, fun j c hj => ?_⟩
    cases j with
    | zero => simp only [AV.cells, List.getElem?_cons_zero, Option.some.injEq] at hj; subst hj; exact ⟨v, by rw [hcs]; rfl, ho, h⟩
    | succ j => simp [AV.cells] at hj

def AV.isA : AV → Bool
  | .agg _ => true
  | _ => false

def astore (P : Program) (t : TypeId) (x : AV) (y : Operand) (st : St) (K : AV → St → Prop) : Prop :=
  match tyI P t with
  | some (n, _) => match x with
    | .ptr id sz i off => match st.hp[id]? with
      | some (sz', xs) => (sz' = sz ∧ i < xs.length ∧ off + n ≤ sz) ∧
        match y with
        | .tmp s => match st.get s with
          | .own z ys => n = 1 ∧ K .undef { (st.put s (.sl z ys)) with hp := st.hp.set id (sz', xs.set i (((xs[i]?).getD .undef).upd off [.own z ys])) }
          | v => (v.okc = true ∧ v.cells.length = n ∧ (((xs[i]?).getD .undef).isA || v.one) = true) ∧ K .undef { st with hp := st.hp.set id (sz', xs.set i (((xs[i]?).getD .undef).upd off v.cells)) }
        | y => ((st.ev y).okc = true ∧ (st.ev y).cells.length = n ∧ (((xs[i]?).getD .undef).isA || (st.ev y).one) = true) ∧ K .undef { st with hp := st.hp.set id (sz', xs.set i (((xs[i]?).getD .undef).upd off (st.ev y).cells)) }
      | none => False
    | _ => False
  | none => False

def aextract (x : Operand) (j : Nat) (st : St) (K : AV → St → Prop) : Prop :=
  match x with
  | .tmp s => match st.get s with
    | .tup vs => match vs[j]? with
      | some (.own sz xs) => K (.own sz xs) (st.put s (.tup (vs.set j (.sl sz xs))))
      | some v => K v st
      | none => False
    | _ => False
  | _ => False

section
variable {P : Program} {G : Gh} {B : Nat} {H0 : HV} {rest : List (AV × Value)} {st : St} {a : Act} {w : World} {dst : Option Nat} {K : AV → St → Prop}

theorem zeroI_inv {t : TypeId} {z : AV} (h : zeroI P t = some z) : ∃ i v, P.info? t = some i ∧ i.zero = some v ∧ z = ofV v := by
  unfold zeroI at h
  split at h
  · rename_i i hi
    simp only [Option.map_eq_some_iff] at h
    obtain ⟨v, hv, rfl⟩ := h
    exact ⟨i, v, hi, hv, rfl⟩
  · cases h

theorem alloc_sound (h : RelG G B H0 rest st a.tmps w) (hd : dstOk dst st.n = true) {t : TypeId} {z : AV} (hz : zeroI P t = some z) (h1 : z.okc = true)
    (hk : K (.ptr st.hp.length z.cells.length 0 0) { st with hp := st.hp ++ [(z.cells.length, [z])] }) :
    OpOk P B H0 rest st.n a w dst K (do pure (.value (← Instr.alloc t true (.tuple #[])))) := by
  obtain ⟨i, v, hi, hv, rfl⟩ := zeroI_inv hz
  have hr := (Rel0.imm (io := G.io) _ _ (ofV_rel G.H v)).cells h1
  obtain ⟨G', h2, hio, hH, hom⟩ := h.newBox v.cells t (ofV v).cells.length (ofV v) rfl (by rw [hr.1]; exact Nat.le_refl _) hr.2
  refine ⟨_, .pointer (some ⟨w.heap.size, 0, none⟩), w.alloc (.cells v.cells t), G', _, _, ?_, .inl rfl, (Below.refl _ _).alloc h.wf.low _, hk, rfl, h2.putO hd fun _ _ => RelV.of0 ?_⟩
  · simp [Instr.alloc, zeroValue, typeInfo, hi, hv, newVar, newRow]
  · have := Rel0.ptr (H := G'.H) (io := G'.io) st.hp.length (ofV v).cells.length 0 0 _ hio
    simpa using this

theorem box_sound (h : RelG G B H0 rest st a.tmps w) (hd : dstOk dst st.n = true) {t : TypeId} {x : Operand} (h1 : (st.ev x).okc = true)
    (hk : K (.ptr st.hp.length (st.ev x).cells.length 0 0) { st with hp := st.hp ++ [((st.ev x).cells.length, [(st.ev x).dem0])] }) :
    OpOk P B H0 rest st.n a w dst K (do pure (.value (← Instr.box t (a.eval x)))) := by
  have hx := ev_dem0 h x (fun vs e => by rw [e] at h1; cases h1)
  have hl : (st.ev x).dem0.cells.length = (st.ev x).cells.length := by cases st.ev x <;> rfl
  have hr := hx.cells (by revert h1; cases st.ev x <;> exact fun h => h)
  obtain ⟨G', h2, hio, hH, hom⟩ := h.newBox (a.eval x).cells t (st.ev x).cells.length (st.ev x).dem0 hl (by rw [← hl, hr.1]; exact Nat.le_refl _) hr.2
  refine ⟨_, .pointer (some ⟨w.heap.size, 0, none⟩), w.alloc (.cells (a.eval x).cells t), G', _, _, ?_, .inl rfl, (Below.refl _ _).alloc h.wf.low _, hk, rfl, h2.putO hd fun _ _ => RelV.of0 ?_⟩
  · simp [Instr.box, newVar, newRow]
  · have := Rel0.ptr (H := G'.H) (io := G'.io) st.hp.length (st.ev x).cells.length 0 0 _ hio
    simpa using this

theorem run_storeAt' {t : TypeId} {n : Nat} {g : Bool} (ht : tyI P t = some (n, g)) (gb o : Nat) (v : Value) (hn : v.cells.size = n) (C : Array Value) (e : TypeId) (hC : w.heap[gb]? = some (.cells C e (0, 0)))
    (hfit : o + v.cells.size ≤ C.size) (h1 : ∀ u ∈ v.cells, u.oneCell' = true) :
    (Instr.storeAt t (.pointer (some ⟨gb, o, none⟩)) v).run P w = .ok () (w.setRow gb (C.toList.take o ++ v.cells.toList ++ C.toList.drop (o + v.cells.toList.length)).toArray) := by
  have hst := run_storeCells_at P gb o e v.cells.toList 0 C w hC (by simpa using hfit) (fun u hu => h1 u (Array.mem_toList_iff.1 hu))
  simp only [Nat.add_zero] at hst
  simp only [Instr.storeAt, Instr.sureAddr, storeVar, Sem.run_bind, Sem.run_pure, Result.andThen_ok, run_sizeOf' ht]
  rw [if_neg (by simpa using hn)]
  simpa using hst

theorem store_plain (h : RelG G B H0 rest st a.tmps w) {t : TypeId} {n : Nat} {g : Bool} (ht : tyI P t = some (n, g)) {id sz i off : Nat} {xs : List AV} {vx : Value} (hx : Rel0 G.H G.io (.ptr id sz i off) vx)
    (hid : st.hp[id]? = some (sz, xs)) (hi : i < xs.length) (hl : off + n ≤ sz) {u : AV} {v : Value} (hv : Rel0 G.H G.io u v) (h1 : u.okc = true) (hn : u.cells.length = n) (hag0 : (((xs[i]?).getD .undef).isA || u.one) = true)
    (hk : K .undef { st with hp := st.hp.set id (sz, xs.set i (((xs[i]?).getD .undef).upd off u.cells)) }) (hd : dst = none) :
    OpOk P B H0 rest st.n a w dst K (do Instr.storeAt t vx v; pure .skip) := by
  subst hd
  obtain ⟨gb, hg, rfl⟩ := hx.ptr_inv
  have hxi : xs[i]? = some xs[i] := List.getElem?_eq_getElem hi
  rw [hxi, Option.getD_some] at hag0 hk
  have hag : (∃ cs, xs[i] = .agg cs) ∨ u.one = true := by
    rw [Bool.or_eq_true] at hag0
    refine hag0.imp (fun h => ?_) (fun h => h)
    revert h; cases xs[i] <;> intro h <;> first | exact ⟨_, rfl⟩ | cases h
  have hr := hv.cells h1
  obtain ⟨C, e, hC, hfit, h2⟩ := h.store hid hg hxi off u.cells v.cells.toList (by simpa using hr.1) (by omega) (by
      rcases hag with hag | hag
      · exact .inl hag
      · refine .inr ⟨u, ?_, ?_⟩ <;> (revert hag; cases u <;> intro hag <;> first | rfl | cases hag))
    (fun j c u' hj hu' => by
      obtain ⟨u2, h3, h4, h5⟩ := hr.2 j c hj
      have : u2 = u' := by rw [Array.getElem?_toList, h3] at hu'; cases hu'; rfl
      subst this
      exact ⟨h4, RelC.of0 h5⟩)
  refine ⟨.skip, Go.undef, _, G, .undef, _, ?_, .inr ⟨rfl, rfl⟩, ?_, hk, rfl, h2⟩
  · rw [Sem.run_bind, run_storeAt' ht gb (i * sz + off) v (by rw [← hr.1]; exact hn) C e hC (by simpa using hfit) (fun u hu => by
      obtain ⟨j, hj, rfl⟩ := Array.mem_iff_getElem.1 hu
      obtain ⟨u2, h3, h4, _⟩ := hr.2 j _ (List.getElem?_eq_getElem (by rw [hr.1]; exact hj))
      rw [Array.getElem?_eq_getElem hj] at h3
      cases h3; exact h4)]
    rfl
  · have := (h.wf.iolt id gb hg).1
    exact ⟨rfl, rfl, rfl, by simp [World.setRow], fun k hk => setRow_other w gb k _ (by omega)⟩

theorem astore_sound (h : RelG G B H0 rest st a.tmps w) (hd : dst = none) {t : TypeId} {x y : Operand} (hk : astore P t (st.ev x) y st K) :
    OpOk P B H0 rest st.n a w dst K (do Instr.storeAt t (a.eval x) (a.eval y); pure .skip) := by
  have hx := h.ev x
  unfold astore at hk
  split at hk
  · rename_i n g ht
    split at hk
    · rename_i id sz i off he
      rw [he] at hx
      split at hk
      · rename_i sz' xs hid
        obtain ⟨⟨rfl, hi, hl⟩, hk⟩ := hk
        split at hk
        · rename_i s
          have hy := h.ev (.tmp s)
          split at hk
          · rename_i z ys hown
            obtain ⟨rfl, hk⟩ := hk
            subst hd
            obtain ⟨gb, hg, hp⟩ := hx.ptr_inv
            have hxi : xs[i]? = some xs[i] := List.getElem?_eq_getElem hi
            rw [hxi, Option.getD_some] at hk
            obtain ⟨G', h1, ho, hH, hio⟩ := h.take hown [2, id, i, off]
            have hone : (a.eval (.tmp s)).oneCell' = true := by
              have : RelI G'.H (.sl z ys) (a.eval (.tmp s)) := ho.sl
              exact this.oneCell rfl
            have hcs : (a.eval (.tmp s)).cells = #[a.eval (.tmp s)] := by revert hone; cases a.eval (.tmp s) <;> intro hone <;> first | rfl | cases hone
            obtain ⟨C, e, hC, hfit, h2⟩ := h1.store (id := id) hid (by rw [hio]; exact hg) hxi off [.own z ys] [a.eval (.tmp s)] rfl (by simpa using hl) (.inr ⟨_, rfl, rfl⟩)
              (fun j c u hj hu => by
                cases j with
                | zero => simp at hj hu; subst hj; subst hu; exact ⟨hone, ho⟩
                | succ j => simp at hj)
            refine ⟨.skip, Go.undef, _, G', .undef, _, ?_, .inr ⟨rfl, rfl⟩, ?_, hk, rfl, h2⟩
            · rw [hp, Sem.run_bind, run_storeAt' ht gb (i * sz' + off) _ (by rw [hcs]; rfl) C e hC (by rw [hcs]; simpa using hfit) (by rw [hcs]; simpa using hone), hcs]
              rfl
            · have := (h.wf.iolt id gb hg).1
              exact ⟨rfl, rfl, rfl, by simp [World.setRow], fun k hk => setRow_other w gb k _ (by omega)⟩
          · rename_i v hno
            obtain ⟨⟨h1, h2, h3⟩, hk⟩ := hk
            have hdem : (st.ev (.tmp s)).dem = st.get s := by
              show (st.get s).dem = st.get s
              cases hv : st.get s <;> first | rfl | (exact (hno _ _ hv).elim) | (rw [hv] at h1; cases h1)
            rw [hdem] at hy
            exact store_plain h ht hx hid hi hl hy h1 h2 h3 hk hd
        · rename_i hno
          obtain ⟨⟨h1, h2, h3⟩, hk⟩ := hk
          have hy := h.ev y
          have hdem : (st.ev y).dem = st.ev y := by
            cases y with
            | tmp s => exact absurd rfl (hno s)
            | const v =>
              show (ofV v).dem = ofV v
              unfold ofV
              split
              · split <;> rfl
              · unfold ofV0; split <;> rfl
            | func f => rfl
            | global g => rfl
          rw [hdem] at hy
          exact store_plain h ht hx hid hi hl hy h1 h2 h3 hk hd
      · exact hk.elim
    · exact hk.elim
  · exact hk.elim

/-- A tuple's part is handed on. -/
theorem RelG.takeTup {tmps : Array Value} (h : RelG G B H0 rest st tmps w) {s : Nat} {vs : List AV} (hs : st.get s = .tup vs) {j sz : Nat} {xs : List AV} (hj : vs[j]? = some (.own sz xs)) (q : List Nat) :
    ∃ G' us v, tmps.getD s Go.undef = .tuple us ∧ us[j]? = some v ∧ RelG G' B H0 rest (st.put s (.tup (vs.set j (.sl sz xs)))) tmps w ∧ OwnRel G' B w q sz xs v := by
  have hv := h.slot s
  rw [hs] at hv
  obtain ⟨us, hu, hl, hc⟩ := hv
  have hjl : j < vs.length := (List.getElem?_eq_some_iff.1 hj).1
  have hju : us[j]? = some (us[j]'(by omega)) := Array.getElem?_eq_getElem (by omega)
  have ho : OwnRel G B w [0, s, j] sz xs (us[j]'(by omega)) := hc j _ _ hj hju
  have key : ∀ G' : Gh, G'.H = G.H → G'.io = G.io → Fwd G G' w w (fun r => r ≠ [0, s, j]) → GWf G' B H0 st.hp.length w → RelG G' B H0 rest (st.put s (.tup (vs.set j (.sl sz xs)))) tmps w := by
    intro G' hH hio f wf
    refine ⟨h.size, wf, fun k => ?_, fun k x v hx => (h.rest k x v hx).fwd f.res (by simp) (by simp), fun id sz xs hx => ?_⟩
    · rw [St.get_put]
      by_cases e : s = k
      · subst e
        rw [if_pos rfl, hu]
        refine ⟨us, rfl, by simpa using hl, fun j' c u hj' hu' => ?_⟩
        rw [List.getElem?_set] at hj'
        by_cases ej : j = j'
        · subst ej
          rw [if_pos rfl, if_pos hjl] at hj'
          cases hj'
          rw [hju] at hu'; cases hu'
          exact RelC.of0 (.imm _ _ (by rw [hH]; exact ho.sl))
        · rw [if_neg ej] at hj'
          exact (hc j' c u hj' hu').fwd f (by simp; omega)
      · rw [if_neg e]
        exact (h.slot k).fwd f (by simp) (by simp; omega)
    · rcases h.heap id sz xs hx with ⟨e1, e2⟩ | ⟨g', hg⟩
      · exact .inl ⟨e1, by rw [hio]; exact e2⟩
      obtain ⟨C, e, hC, hl, hc⟩ := hg.row
      exact .inr ⟨g', by rw [hio]; exact hg.io, ⟨C, e, hC, hl, fun i x j c hx hj => let ⟨v, a, o, b⟩ := hc i x j c hx hj; ⟨v, a, o, b.fwd f (by simp)⟩⟩, hg.one, hg.ne⟩
  rcases ho with ⟨e1, e2⟩ | ⟨g0, cap, hn, hob⟩
  · exact ⟨G, us, _, hu, hju, key G rfl rfl ⟨fun _ _ _ h => h, fun _ _ h => h, fun _ _ _ h => ⟨h, rfl, fun _ h => h⟩⟩ h.wf, .inl ⟨e1, e2⟩⟩
  · exact ⟨{ G with om := fun g' => if g' = g0 then some q else G.om g' }, us, _, hu, hju,
      key { G with om := fun g' => if g' = g0 then some q else G.om g' } rfl rfl (fwd_retag (w := w) (q := q) hob.om) (wf_retag h.wf hob.om), .inr ⟨g0, cap, hn, hob.retag⟩⟩

theorem aextract_sound (h : RelG G B H0 rest st a.tmps w) (hd : dstOk dst st.n = true) {x : Operand} {j : Nat} (hk : aextract x j st K) :
    OpOk P B H0 rest st.n a w dst K (do pure (.value (← Instr.extract (a.eval x) j))) := by
  unfold aextract at hk
  split at hk
  · rename_i s
    split at hk
    · rename_i vs hs
      split at hk
      · rename_i sz xs hj
        obtain ⟨G', us, v, hu, hju, h1, ho⟩ := h.takeTup hs hj [0, dst.getD 0]
        have hrun : (Instr.extract (a.eval (.tmp s)) j).run P w = .ok v w := by
          show (Instr.extract (a.tmps.getD s Go.undef) j).run P w = _
          rw [hu]; simp [Instr.extract, hju]
        refine ⟨_, v, w, G', .own sz xs, _, by rw [Sem.run_bind, hrun]; rfl, .inl rfl, Below.refl _ _, hk, rfl, ?_⟩
        cases dst with
        | none => exact h1
        | some d => exact h1.put (by simpa [dstOk, St.put] using hd) ho
      · rename_i v hno hj
        have hv := h.slot s
        rw [hs] at hv
        obtain ⟨us, hu, hl, hc⟩ := hv
        have hjl : j < vs.length := (List.getElem?_eq_some_iff.1 hj).1
        have hju : us[j]? = some (us[j]'(by omega)) := Array.getElem?_eq_getElem (by omega)
        have hr := (hc j _ _ hj hju).dem
        have hdem : v.dem0 = v := by cases v <;> first | rfl | exact (hno _ _ rfl).elim
        rw [hdem] at hr
        refine OpOk.val h hd (v := us[j]'(by omega)) ?_ hr hk
        rw [Sem.run_bind]
        show ((Instr.extract (a.tmps.getD s Go.undef) j).run P w).andThen _ = _
        rw [hu]; simp [Instr.extract, hju]
      · exact hk.elim
    · exact hk.elim
  · exact hk.elim
end
end AH
