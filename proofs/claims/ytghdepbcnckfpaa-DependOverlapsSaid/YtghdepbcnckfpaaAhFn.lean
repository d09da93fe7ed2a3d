/- From a walked body to the contract of a function. -/
import Derived.Test.YtghdepbcnckfpaaAhWp
namespace AH
open Go Go.RowKit

def argSl : Nat → List AV → List (Nat × AV)
  | _, [] => []
  | k, x :: xs => (k, x) :: argSl (k + 1) xs

theorem lk_argSl : ∀ (xs : List AV) (k j : Nat), lk (argSl k xs) j = if k ≤ j then (xs[j - k]?).getD .undef else .undef
  | [], k, j => by simp [argSl, lk]
  | x :: xs, k, j => by
    simp only [argSl, lk]
    by_cases h : k = j
    · subst h; simp
    · rw [if_neg h, lk_argSl xs (k + 1) j]
      by_cases h' : k ≤ j
      · rw [if_pos h', if_pos (by omega)]
        have : j - k = (j - (k + 1)) + 1 := by omega
        rw [this, List.getElem?_cons_succ]
      · rw [if_neg h', if_neg (by omega)]

/-- What a result variable holds. -/
def resAV (P : Program) (st : St) : ResultVar → Option AV
  | .tmp t => match st.get t with
    | .own sz xs => some (.own sz xs)
    | v => if v.imm = true then some v else none
  | .cell a t => match tyI P t with
    | some (n, g) => match st.get a with
      | .ptr id sz i off => match st.hp[id]? with
        | some (sz', xs) => if (sz' = sz ∧ i < xs.length ∧ off + (if g then n else 1) ≤ sz) ∧ (partD g n off ((xs[i]?).getD .undef).demc).imm = true then some (partD g n off ((xs[i]?).getD .undef).demc) else none
        | none => none
      | _ => none
    | none => none

def resAVs (P : Program) (st : St) : List ResultVar → Option (List AV)
  | [] => some []
  | x :: r => match resAV P st x with
    | some v => match resAVs P st r with
      | some vs => some (v :: vs)
      | none => none
    | none => none

/-- The results as one value. -/
def resOf (P : Program) (st : St) (l : List ResultVar) : Option AV :=
  match resAVs P st l with
  | some [v] => some v
  | some vs => some (.tup vs)
  | none => none

def resTmps : List ResultVar → List (Option Nat)
  | [] => []
  | .tmp t :: r => some t :: resTmps r
  | .cell _ _ :: r => none :: resTmps r

theorem resAVs_get {P : Program} {st : St} : ∀ {l : List ResultVar} {vs : List AV}, resAVs P st l = some vs → vs.length = l.length ∧ ∀ (j : Nat) (x : ResultVar), l[j]? = some x → ∃ v, vs[j]? = some v ∧ resAV P st x = some v
  | [], vs, h => by simp only [resAVs, Option.some.injEq] at h; subst h; exact ⟨rfl, fun j x hx => by simp at hx⟩
  | y :: l, vs, h => by
    simp only [resAVs] at h
    split at h
    · rename_i v hv
      split at h
      · rename_i us hus
        cases h
        obtain ⟨h1, h2⟩ := resAVs_get hus
        refine ⟨by simp [h1], fun j x hx => ?_⟩
        cases j with
        | zero => simp only [List.getElem?_cons_zero, Option.some.injEq] at hx; subst hx; exact ⟨v, rfl, hv⟩
        | succ j => exact h2 j x (by simpa using hx)
      · cases h
    · cases h

theorem mapM_run {P : Program} {w : World} {α β : Type} (f : α → Sem β) : ∀ (l : List α), (∀ x ∈ l, ∃ v, (f x).run P w = .ok v w) →
    ∃ vs : List β, (l.mapM f).run P w = .ok vs w ∧ vs.length = l.length ∧ ∀ (j : Nat) (x : α), l[j]? = some x → ∃ v, vs[j]? = some v ∧ (f x).run P w = .ok v w
  | [], _ => ⟨[], by simp, rfl, fun j x hx => by simp at hx⟩
  | y :: l, h => by
    obtain ⟨v, hv⟩ := h y (by simp)
    obtain ⟨vs, h1, h2, h3⟩ := mapM_run f l (fun x hx => h x (by simp [hx]))
    refine ⟨v :: vs, by simp [List.mapM_cons, hv, h1], by simp [h2], fun j x hx => ?_⟩
    cases j with
    | zero => simp only [List.getElem?_cons_zero, Option.some.injEq] at hx; subst hx; exact ⟨v, rfl, hv⟩
    | succ j => exact h3 j x (by simpa using hx)

section
variable {P : Program} {G : Gh} {B : Nat} {H0 : HV} {rest : List (AV × Value)} {st : St} {tmps : Array Value} {w : World}

/-- One result. -/
theorem res_one (h : RelG G B H0 rest st tmps w) {x : ResultVar} {r : AV} (hr : resAV P st x = some r) :
    ∃ v, (match x with | .tmp t => pure (tmps.getD t Go.undef) | .cell a t => do loadVar t (← asAddr (tmps.getD a Go.undef)) : Sem Value).run P w = .ok v w ∧
      ((∃ t sz xs, x = .tmp t ∧ r = .own sz xs ∧ OwnRel G B w [0, t] sz xs v) ∨ ((∀ sz xs, r ≠ .own sz xs) ∧ (∀ cs, r ≠ .tup cs) ∧ RelI G.H r v)) := by
  cases x with
  | tmp t =>
    refine ⟨tmps.getD t Go.undef, rfl, ?_⟩
    have hv := h.slot t
    simp only [resAV] at hr
    split at hr
    · rename_i sz xs hg
      cases hr
      rw [hg] at hv
      exact .inl ⟨t, sz, xs, rfl, rfl, hv⟩
    · rename_i hno
      split at hr
      · rename_i him
        cases hr
        have hd : (st.get t).dem = st.get t := by
          cases hg : st.get t <;> first | rfl | (exact absurd hg (hno _ _)) | (rw [hg] at him; cases him)
        have := hv.dem
        rw [hd] at this
        exact .inr ⟨hno, (fun cs e => by rw [e] at him; cases him), this.toI him⟩
      · cases hr
  | cell a t =>
    simp only [resAV] at hr
    split at hr
    · rename_i n g ht
      split at hr
      · rename_i id sz i off he
        split at hr
        · rename_i sz' xs hid
          by_cases hc : (sz' = sz ∧ i < xs.length ∧ off + (if g then n else 1) ≤ sz) ∧ (partD g n off ((xs[i]?).getD .undef).demc).imm = true
          · rw [if_pos hc] at hr
            obtain ⟨⟨rfl, hi, hl⟩, him⟩ := hc
            cases hr
            have hv := h.slot a
            rw [he] at hv
            have hv : Rel0 G.H G.io (.ptr id sz' i off) (tmps.getD a Go.undef) := hv
            obtain ⟨u, hu, hrel⟩ := load_ptr h ht hid hi hl hv
            obtain ⟨gb, hg, hp⟩ := hv.ptr_inv
            refine ⟨u, ?_, .inr ⟨(fun sz xs e => by rw [e] at him; cases him), (fun cs e => by rw [e] at him; cases him), hrel.toI him⟩⟩
            rw [hp] at hu
            show (do loadVar t (← asAddr (tmps.getD a Go.undef)) : Sem Value).run P w = .ok u w
            rw [hp]
            simpa [Instr.loadAt, Instr.sureAddr, asAddr] using hu
          · rw [if_neg hc] at hr; cases hr
        · cases hr
      · cases hr
    · cases hr

theorem ResOk.of (h : RelG G B H0 rest st tmps w) (φ : List Nat → Option (List Nat)) : ResOk { H := G.H, om := fun g => (G.om g).bind φ, io := fun _ => none } B H0 w where
  sat := h.wf.sat
  old := h.wf.old
  omlt g p hg := by
    cases ho : G.om g with
    | none => simp [ho] at hg
    | some q => exact h.wf.omlt g q ho
  io _ := rfl

theorem OwnRel.result {sz : Nat} {xs : List AV} {v : Value} {t : Nat} {q : List Nat} (h : OwnRel G B w [0, t] sz xs v) (φ : List Nat → Option (List Nat)) (hφ : φ [0, t] = some q) :
    OwnRel { H := G.H, om := fun g => (G.om g).bind φ, io := fun _ => none } B w q sz xs v := by
  rcases h with h | ⟨g, cap, hv, hb⟩
  · exact .inl h
  · exact .inr ⟨g, cap, hv, hb.low, by simp [hb.om, hφ], hb.row, hb.len, hb.max, hb.pos, hb.one, hb.cell, hb.free⟩

/-- The results of a frame. -/
theorem res_all (h : RelG G B H0 rest st tmps w) {fn : Func} {r : AV} (hr : resOf P st fn.results.toList = some r)
    (hnd : ∀ (i j t : Nat), fn.results.toList[i]? = some (.tmp t) → fn.results.toList[j]? = some (.tmp t) → i = j) :
    ∃ v G', (results fn tmps).run P w = .ok v w ∧ ResOk G' B H0 w ∧ RelV G' B w [] r v := by
  unfold resOf at hr
  obtain ⟨avs, ha⟩ : ∃ avs, resAVs P st fn.results.toList = some avs := by
    cases hx : resAVs P st fn.results.toList with
    | none => rw [hx] at hr; cases hr
    | some avs => exact ⟨avs, rfl⟩
  rw [ha] at hr
  obtain ⟨hl, hget⟩ := resAVs_get ha
  have hone : ∀ (j : Nat) (x : ResultVar), fn.results.toList[j]? = some x → ∃ r, avs[j]? = some r ∧ ∃ v, (match x with | .tmp t => pure (tmps.getD t Go.undef) | .cell a t => do loadVar t (← asAddr (tmps.getD a Go.undef)) : Sem Value).run P w = .ok v w ∧
      ((∃ t sz xs, x = .tmp t ∧ r = .own sz xs ∧ OwnRel G B w [0, t] sz xs v) ∨ ((∀ sz xs, r ≠ .own sz xs) ∧ (∀ cs, r ≠ .tup cs) ∧ RelI G.H r v)) := fun j x hx => by
    obtain ⟨r, h1, h2⟩ := hget j x hx
    exact ⟨r, h1, res_one h h2⟩
  obtain ⟨vs, hrun, hvl, hvg⟩ := mapM_run (P := P) (w := w) (fun x : ResultVar => (match x with | .tmp t => pure (tmps.getD t Go.undef) | .cell a t => do loadVar t (← asAddr (tmps.getD a Go.undef)) : Sem Value)) fn.results.toList
    (fun x hx => by
      obtain ⟨j, hj⟩ := List.getElem?_of_mem hx
      obtain ⟨_, _, v, hv, _⟩ := hone j x hj
      exact ⟨v, hv⟩)
  have hres : (results fn tmps).run P w = .ok (if h : vs.toArray.size = 1 then vs.toArray[0] else .tuple vs.toArray) w := by
    unfold results
    have hrun' : (fn.results.mapM (fun x : ResultVar => (match x with | .tmp t => pure (tmps.getD t Go.undef) | .cell a t => do loadVar t (← asAddr (tmps.getD a Go.undef)) : Sem Value))).run P w = .ok vs.toArray w := by
      rw [← Array.toArray_toList (xs := fn.results), List.mapM_toArray, Sem.run_map, hrun]
      rfl
    rw [Sem.run_bind]
    refine Eq.trans (congrArg (fun x => Result.andThen x _) hrun') ?_
    rfl
  by_cases h1 : avs.length = 1
  · obtain ⟨r', rfl⟩ := List.length_eq_one_iff.1 h1
    · simp only [Option.some.injEq] at hr
      subst hr
      obtain ⟨v, rfl⟩ := List.length_eq_one_iff.1 (by rw [hvl, ← hl]; rfl : vs.length = 1)
      ·
        have hx0 : ∃ x, fn.results.toList[0]? = some x := by
          cases hx : fn.results.toList[0]? with
          | none => rw [List.getElem?_eq_none_iff] at hx; rw [← hl] at hx; simp at hx
          | some x => exact ⟨x, rfl⟩
        obtain ⟨x, hx⟩ := hx0
        obtain ⟨r2, hr2, v2, hv2, hcase⟩ := hone 0 x hx
        simp only [List.getElem?_cons_zero, Option.some.injEq] at hr2
        subst hr2
        obtain ⟨v3, hv3, hv3r⟩ := hvg 0 x hx
        simp only [List.getElem?_cons_zero, Option.some.injEq] at hv3
        subst hv3
        have : v2 = v := by rw [hv2] at hv3r; cases hv3r; rfl
        subst this
        rcases hcase with ⟨t, sz, xs, rfl, rfl, ho⟩ | ⟨hno, hnt, hri⟩
        · exact ⟨v2, _, by rw [hres]; simp, ResOk.of h (fun p => if p = [0, t] then some [] else none), ho.result _ (by simp)⟩
        · exact ⟨v2, _, by rw [hres]; simp, ResOk.of h (fun _ => none), RelV.of0 (.imm _ _ hri)⟩
  · have hr' : r = .tup avs := by
      rcases avs with _ | ⟨x, _ | ⟨y, l⟩⟩
      · simpa using hr.symm
      · simp at h1
      · simpa using hr.symm
    subst hr'
    let φ : List Nat → Option (List Nat) := fun p => match p with
      | [0, t] => (fn.results.toList.findIdx? fun x => match x with | .tmp t' => t' == t | _ => false).map fun j => [j]
      | _ => none
    refine ⟨.tuple vs.toArray, _, by rw [hres, dif_neg (by simp; rw [hvl, ← hl]; exact h1)], ResOk.of h φ, vs.toArray, rfl, by simp; rw [hvl, hl], fun j c u hj hu => ?_⟩
    have hjl : j < fn.results.toList.length := by rw [← hl]; exact (List.getElem?_eq_some_iff.1 hj).1
    have hx : fn.results.toList[j]? = some fn.results.toList[j] := List.getElem?_eq_getElem hjl
    obtain ⟨r2, hr2, v2, hv2, hcase⟩ := hone j _ hx
    rw [hj] at hr2; cases hr2
    obtain ⟨v3, hv3, hv3r⟩ := hvg j _ hx
    simp only [List.getElem?_toArray] at hu
    rw [hu] at hv3; cases hv3
    have : v2 = u := by rw [hv2] at hv3r; cases hv3r; rfl
    subst this
    rcases hcase with ⟨t, sz, xs, hxt, rfl, ho⟩ | ⟨hno, hnt, hri⟩
    · rw [hxt] at hx
      refine ho.result φ ?_
      simp only [φ]
      have hfi : fn.results.toList.findIdx? (fun x => match x with | .tmp t' => t' == t | _ => false) = some j := by
        rw [List.findIdx?_eq_some_iff_getElem]
        refine ⟨hjl, ?_, fun i hi => ?_⟩
        · rw [List.getElem?_eq_getElem hjl] at hx; simp only [Option.some.injEq] at hx; rw [hx]; simp
        · have hil : i < fn.results.toList.length := by omega
          cases hxi : fn.results.toList[i] with
          | tmp t' =>
            simp only [beq_iff_eq]
            intro e
            subst e
            have := hnd i j t' (by rw [List.getElem?_eq_getElem hil, hxi]) hx
            omega
          | cell _ _ => simp
      simp [hfi]
    · exact RelC.of0 (.imm _ _ hri)
end

/-- No slot is a result twice. -/
def resNd : List ResultVar → Bool
  | [] => true
  | .tmp t :: r => (r.all fun x => match x with | .tmp t' => t' != t | _ => true) && resNd r
  | .cell _ _ :: r => resNd r

theorem resNd_spec : ∀ (l : List ResultVar), resNd l = true → ∀ (i j t : Nat), l[i]? = some (.tmp t) → l[j]? = some (.tmp t) → i = j
  | [], _, i, j, t, h, _ => by simp at h
  | x :: r, hn, i, j, t, hi, hj => by
    have ht : resNd r = true := by cases x <;> simp only [resNd, Bool.and_eq_true] at hn <;> first | exact hn.2 | exact hn
    cases i with
    | zero =>
      cases j with
      | zero => rfl
      | succ j =>
        simp only [List.getElem?_cons_zero, Option.some.injEq] at hi
        subst hi
        simp only [resNd, Bool.and_eq_true, List.all_eq_true] at hn
        have := hn.1 _ (List.mem_of_getElem? (by simpa using hj))
        simp at this
    | succ i =>
      cases j with
      | zero =>
        simp only [List.getElem?_cons_zero, Option.some.injEq] at hj
        subst hj
        simp only [resNd, Bool.and_eq_true, List.all_eq_true] at hn
        have := hn.1 _ (List.mem_of_getElem? (by simpa using hi))
        simp at this
      | succ j => rw [resNd_spec r ht i j t (by simpa using hi) (by simpa using hj)]

/-- A walked body gives the function's contract. -/
theorem PureOk.of_tri {P : Program} {f : FuncId} {fn : Func} {c : Code} {args : List AV} {r : AV} (hf : P.funcs[f]? = some fn) (hb : fn.body = some c) (hn : (fn.name == "runtime.NumGoroutine") = false)
    (hl : args.length ≤ fn.ntmps) (hnd : resNd fn.results.toList = true)
    (h : ATri P c { n := fn.ntmps, fl := 0, sl := argSl 0 args, hp := [] } fun ex st => (ex = .normal ∨ ex = .ret) ∧ resOf P st fn.results.toList = some r) : PureOk P f args r := by
  refine ⟨enters_of hf hn (by rw [hb]; rfl), fun w H0 vs hs hlen hrel => ?_⟩
  refine calls_of_wp hf hb ?_
  let G0 : Gh := { H := H0, om := fun _ => none, io := fun _ => none }
  have h0 : RelG G0 w.heap.size H0 [] { n := fn.ntmps, fl := 0, sl := argSl 0 args, hp := [] } (vs ++ Array.replicate (fn.ntmps - vs.size) Go.undef) w := by
    refine ⟨by simp; omega, ⟨hs, fun _ _ _ => rfl, (fun _ _ h => by cases h), (fun _ _ h => by cases h), (fun _ _ _ h => by cases h), (fun _ _ h => by cases h), Nat.le_refl _⟩, fun k => ?_, (fun k x v hx => by simp at hx), (fun id sz xs hx => by simp at hx)⟩
    show RelV G0 w.heap.size w [0, k] (lk (argSl 0 args) k) _
    rw [lk_argSl, if_pos (Nat.zero_le _), Nat.sub_zero]
    cases hx : args[k]? with
    | none => exact RelV.undef
    | some x =>
      have hk : k < vs.size := by rw [← hlen]; exact (List.getElem?_eq_some_iff.1 hx).1
      have hv : (vs ++ Array.replicate (fn.ntmps - vs.size) Go.undef).getD k Go.undef = vs[k] := by
        rw [Array.getD_eq_getD_getElem?, Array.getElem?_append_left hk, Array.getElem?_eq_getElem hk]; rfl
      rw [hv]
      exact RelV.of0 (.imm _ _ (hrel k x _ hx (Array.getElem?_eq_getElem hk)))
  refine Code.wp_mono (fun e a' w' hq => ?_) (h w.heap.size H0 [] G0 _ w rfl h0)
  obtain ⟨st', G', ⟨hex, hres⟩, hn', hd', hb', hr'⟩ := hq
  obtain ⟨v, G2, hrun, hok, hv⟩ := res_all hr' hres (resNd_spec _ hnd)
  rcases hex with rfl | rfl
  · exact ⟨hd', v, hrun, v, G2, rfl, hb', hok, hv⟩
  · exact ⟨hd', v, hrun, v, G2, rfl, hb', hok, hv⟩

/-- The same, with what stands behind hidden. -/
theorem PureOk.of_walk {P : Program} {f : FuncId} {fn : Func} {c : Code} {args : List AV} {r : AV} (hf : P.funcs[f]? = some fn) (hb : fn.body = some c) (hn : (fn.name == "runtime.NumGoroutine") = false)
    (hl : decide (args.length ≤ fn.ntmps) = true) (hnd : resNd fn.results.toList = true)
    (h : ∀ Q : Exit → St → Prop, (∀ st, resOf P st fn.results.toList = some r → Q .ret st) → (∀ st, resOf P st fn.results.toList = some r → Q .normal st) →
      awp P c { n := fn.ntmps, fl := 0, sl := argSl 0 args, hp := [] } (cont P [] Q)) : PureOk P f args r :=
  PureOk.of_tri hf hb hn (of_decide_eq_true hl) hnd (awp_sound _ _ _ (h _ (fun _ h => ⟨.inr rfl, h⟩) (fun _ h => ⟨.inl rfl, h⟩)))
end AH
