/- append onto a row of the call's own. -/
import Derived.Test.YtghdepbcnckfpaaAhExec
namespace AH
open Go Go.RowKit

/-- A slice type's element, fit to be made: cells, bytes. -/
def elG (P : Program) (t : TypeId) : Option (Nat × Nat) :=
  match P.underlying t with
  | some (.slice e) => match P.info? e with
    | some i => match i.zero with
      | some z => if z.cells.size = i.size ∧ 0 < i.size then some (i.size, i.bytes) else none
      | none => none
    | none => none
  | _ => none

theorem elG_inv {P : Program} {t : TypeId} {n by_ : Nat} (h : elG P t = some (n, by_)) :
    ∃ e i z, P.underlying t = some (.slice e) ∧ P.info? e = some i ∧ i.zero = some z ∧ z.cells.size = n ∧ 0 < n ∧ i.size = n ∧ i.bytes = by_ := by
  unfold elG at h
  split at h
  · rename_i e he
    split at h
    · rename_i i hi
      split at h
      · rename_i z hz
        split at h
        · rename_i hh
          simp only [Option.some.injEq, Prod.mk.injEq] at h
          obtain ⟨rfl, rfl⟩ := h
          exact ⟨e, i, z, he, hi, hz, hh.1, hh.2, rfl, rfl⟩
        · cases h
      · cases h
    · cases h
  · cases h

/-- The cells of a list of elements, laid in a row. -/
theorem row_cells (sz m : Nat) (val : Nat → Nat → Value) (i j : Nat) (hi : i < m) (hj : j < sz) :
    ((List.range (m * sz)).map fun k => val (k / sz) (k % sz))[i * sz + j]? = some (val i j) := by
  have hlt : i * sz + j < m * sz := by
    have : (i + 1) * sz ≤ m * sz := Nat.mul_le_mul_right _ hi
    rw [Nat.add_mul] at this
    omega
  have e1 : (i * sz + j) / sz = i := by
    rw [Nat.add_comm, Nat.add_mul_div_right _ _ (by omega), Nat.div_eq_of_lt hj]; omega
  have e2 : (i * sz + j) % sz = j := by
    rw [Nat.add_comm, Nat.add_mul_mod_self_right, Nat.mod_eq_of_lt hj]
  simp [hlt, e1, e2]

theorem split_row {sz m k : Nat} (hsz : 0 < sz) (hk : k < m * sz) : k / sz < m ∧ k % sz < sz ∧ k / sz * sz + k % sz = k := by
  refine ⟨Nat.div_lt_of_lt_mul (by rw [Nat.mul_comm]; exact hk), Nat.mod_lt _ hsz, ?_⟩
  rw [Nat.mul_comm]; exact Nat.div_add_mod k sz

section
variable {P : Program} {G : Gh} {B : Nat} {H0 : HV} {rest : List (AV × Value)} {st : St} {tmps : Array Value} {w : World}

/-- What a slice that reads as ys hands to append: its cells in a row. -/
theorem source_row {H : HV} (hs : HV.sat H w) {sz : Nat} {ys : List AV} {v : Value} (hv : RelI H (.sl sz ys) v) (hne : ys ≠ []) :
    ∃ (ad : Addr) (c : Nat) (vs : List Value), v = .slice (some ad) ys.length c ∧ vs.length = ys.length * sz ∧ (∀ (j : Nat) (u : Value), vs[j]? = some u → w.cell? (ad.add j) = some u) ∧ (∀ u ∈ vs, u.oneCell' = true) ∧
      (∀ (i : Nat) (x : AV), ys[i]? = some x → x.cells.length = sz) ∧
      ∀ (i : Nat) (x : AV) (j : Nat) (c : AV), ys[i]? = some x → x.cells[j]? = some c → ∃ v, vs[i * sz + j]? = some v ∧ v.oneCell' = true ∧ RelI H c v := by
  cases hv with
  | sl0 => exact absurd rfl hne
  | sl _ _ b o cap val h0 h1 h2 h3 h4 h5 =>
    have hget : ∀ k, k < ys.length * sz → ∃ c, (ys[k / sz]?).map (·.cells[k % sz]?) = some (some c) ∧ H b (o + k) = some (val (k / sz) (k % sz)) ∧ (val (k / sz) (k % sz)).oneCell' = true := fun k hk => by
      obtain ⟨ha, hb, hc⟩ := split_row h0 hk
      have hy : ys[k / sz]? = some ys[k / sz] := List.getElem?_eq_getElem ha
      have hl := h3 _ _ hy
      have hcj : ys[k / sz].cells[k % sz]? = some (ys[k / sz].cells[k % sz]'(by omega)) := List.getElem?_eq_getElem (by omega)
      have := h4 _ _ _ _ hy hcj
      rw [Nat.add_assoc, hc] at this
      exact ⟨_, by rw [hy, Option.map_some, hcj], this⟩
    refine ⟨⟨b, o, none⟩, cap, (List.range (ys.length * sz)).map fun k => val (k / sz) (k % sz), rfl, by simp, fun j u hu => ?_, fun u hu => ?_, h3, fun i x j c hx hj => ?_⟩
    · have hj : j < ys.length * sz := by have := (List.getElem?_eq_some_iff.1 hu).1; simpa using this
      simp [hj] at hu
      subst hu
      rw [add_none]
      obtain ⟨_, _, hH, _⟩ := hget j hj
      exact hs _ _ _ hH
    · simp only [List.mem_map, List.mem_range] at hu
      obtain ⟨k, hk, rfl⟩ := hu
      exact (hget k hk).choose_spec.2.2
    · have hil := (List.getElem?_eq_some_iff.1 hx).1
      have hjl : j < sz := by rw [← h3 i x hx]; exact (List.getElem?_eq_some_iff.1 hj).1
      exact ⟨val i j, row_cells sz ys.length val i j hil hjl, (h4 i x j c hx hj).2, h5 i x j c hx hj⟩

theorem run_append_room' (t ty e e' : TypeId) (i : TypeInfo) (ht : P.underlying t = some (.slice e)) (hi : P.info? e = some i)
    (g sLen sCap : Nat) (cur : Array Value) (hg : w.heap[g]? = some (.cells cur e' (0, 0)))
    (a : Addr) (m c : Nat) (news : List Value) (hl : news.length = m * i.size) (hnews : ∀ (j : Nat) (u : Value), news[j]? = some u → w.cell? (a.add j) = some u) (h1 : ∀ u ∈ news, u.oneCell' = true)
    (hroom : sLen + m ≤ sCap) (hfit : sLen * i.size + news.length ≤ cur.size) :
    (Builtin.append_ #[t, t] ty #[.slice (some ⟨g, 0, none⟩) sLen sCap, .slice (some a) m c]).run P w =
      .ok (.slice (some ⟨g, 0, none⟩) (sLen + m) sCap) (w.setRow g (cur.toList.take (sLen * i.size) ++ news ++ cur.toList.drop (sLen * i.size + news.length)).toArray) := by
  have hf := run_firstCells_some (P := P) w i.size m a m c news hl hnews
  have hst := run_storeCells_at P g (sLen * i.size) e' news 0 cur w hg (by simpa using hfit) h1
  simp only [Nat.add_zero] at hst
  simp [Builtin.append_, run_underlying ht, Go.sizeOf, typeInfo, hi, Builtin.lenOf, hf, hroom, add_none, hst]

theorem run_append_zero (t ty e : TypeId) (i : TypeInfo) (ht : P.underlying t = some (.slice e)) (hi : P.info? e = some i) (b : Option Addr) (n cap : Nat) (hn : n ≤ cap) (a : Option Addr) (c : Nat) :
    (Builtin.append_ #[t, t] ty #[.slice b n cap, .slice a 0 c]).run P w = .ok (.slice b n cap) w := by
  cases a with
  | none => cases b <;> simp [Builtin.append_, run_underlying ht, Go.sizeOf, typeInfo, hi, Builtin.lenOf, Builtin.firstCells, hn, storeCells]
  | some a => cases b <;> simp [Builtin.append_, run_underlying ht, Go.sizeOf, typeInfo, hi, Builtin.lenOf, Builtin.firstCells, hn, storeCells, loadCells, loadCellsFrom]

theorem size_zeroCells (z : Array Value) (n : Nat) : (Builtin.zeroCells z n).size = n * z.size := by simp [Builtin.zeroCells]

/-- append, whole. -/
theorem RelG.append (h : RelG G B H0 rest st tmps w) {t ty : TypeId} {sz by_ dd : Nat} (ht : elG P t = some (sz, by_)) {xs ys : List AV} {v u : Value} (hdd : st.get dd = .undef)
    (ho : OwnRel G B w [0, dd] sz xs v) (hy : RelI G.H (.sl sz ys) u) (hb : (xs.length + ys.length) * by_ ≤ 140737488355328) (hm : xs.length + ys.length ≤ maxLen) :
    ∃ v' w' G', (Builtin.append_ #[t, t] ty #[v, u]).run P w = .ok v' w' ∧ Below B w w' ∧ RelG G' B H0 rest st tmps w' ∧ OwnRel G' B w' [0, dd] sz (xs ++ ys) v' ∧ G'.io = G.io ∧ HV.le G.H G'.H := by
  obtain ⟨e, i, z, hte, hi, hz, hzs, hpos, hsize, hby⟩ := elG_inv ht
  subst hby
  by_cases hne : ys = []
  · subst hne
    obtain ⟨a, cap, rfl, _, _⟩ := hy.len_inv
    have hv : ∃ b n c, v = .slice b n c ∧ n ≤ c := by
      rcases ho with ⟨rfl, a, rfl⟩ | ⟨g, c, rfl, hob⟩
      · exact ⟨a, 0, 0, rfl, Nat.le_refl _⟩
      · exact ⟨_, _, c, rfl, hob.len⟩
    obtain ⟨b, n, c, rfl, hn⟩ := hv
    exact ⟨_, w, G, run_append_zero t ty e i hte hi b n c hn a cap, Below.refl _ _, h, by simpa using ho, rfl, fun _ _ _ h => h⟩
  · obtain ⟨ad, c, vs, rfl, hvl, hvs, hv1, hone, hcells⟩ := source_row h.wf.sat hy hne
    have hyl : 0 < ys.length := by cases ys with | nil => exact absurd rfl hne | cons _ _ => simp
    have h63 : ((xs.length + ys.length : Nat) : Int) ≤ 9223372036854775807 := by simp only [maxLen] at hm; omega
    -- the new row
    have grown : ∀ (w0 : World) (C0 : Array Value), w0 = w.drew → ∀ cap, xs.length + ys.length ≤ cap → cap ≤ maxLen → C0.size = cap * sz →
        (∀ (k : Nat) (x : AV) (j : Nat) (c : AV), (xs ++ ys)[k]? = some x → x.cells[j]? = some c → ∃ v, C0[k * sz + j]? = some v ∧ v.oneCell' = true ∧ RelI G.H c v) → (∀ (k : Nat) (x : AV), (xs ++ ys)[k]? = some x → x.cells.length = sz) →
        ∃ G', RelG G' B H0 rest st tmps (w0.alloc (.cells C0 e)) ∧ OwnRel G' B (w0.alloc (.cells C0 e)) [0, dd] sz (xs ++ ys) (.slice (some ⟨w.heap.size, 0, none⟩) (xs.length + ys.length) cap) ∧ G'.io = G.io ∧ HV.le G.H G'.H := by
      intro w0 C0 hw0 cap h1 h2 h3 h4 h5
      have hd : RelG G B H0 rest st tmps w0 := h.ext (by subst hw0; exact (Below.refl _ _).drew)
      obtain ⟨G', a, b, c, d⟩ := hd.newRow C0 e sz cap (xs ++ ys) [0, dd] hpos h3 (by simpa using h1) h2 h5 h4
      have hsz : w0.heap.size = w.heap.size := by subst hw0; rfl
      rw [hsz] at b
      exact ⟨G', a, by simpa using b, d, c⟩
    have hbelow : ∀ o, Below B w (w.drew.alloc o) := fun o => ((Below.refl B w).drew).alloc (by simpa using h.wf.low) o
    rcases ho with ⟨rfl, b, rfl⟩ | ⟨g, cap, rfl, hob⟩
    · -- empty, no room
      have hge := grownCap_ge w ys.length 0 e
      have hle := grownCap_le_maxLen w ys.length 0 e (by simpa using hm)
      have hcc : ∀ (k : Nat) (x : AV) (j : Nat) (c : AV), ([] ++ ys)[k]? = some x → x.cells[j]? = some c →
          ∃ v, (vs.toArray ++ Builtin.zeroCells z.cells (grownCap w ys.length 0 e - ys.length))[k * sz + j]? = some v ∧ v.oneCell' = true ∧ RelI G.H c v := fun k x j c hx hj => by
        obtain ⟨v, hv, h1, hr⟩ := hcells k x j c (by simpa using hx) hj
        have hlt := (List.getElem?_eq_some_iff.1 hv).1
        exact ⟨v, by rw [Array.getElem?_append_left (by simpa using hlt)]; simpa using hv, h1, hr⟩
      obtain ⟨G', a1, b1, c1, d1⟩ := grown w.drew (vs.toArray ++ Builtin.zeroCells z.cells (grownCap w ys.length 0 e - ys.length)) rfl (grownCap w ys.length 0 e) (by simpa using hge) hle
        (by rw [Array.size_append, size_zeroCells, List.size_toArray, hvl, hzs, ← Nat.add_mul]; congr 1; omega) hcc (by simpa using hone)
      have hrun : (Builtin.append_ #[t, t] ty #[.slice b 0 0, .slice (some ad) ys.length c]).run P w =
          .ok (.slice (some ⟨w.heap.size, 0, none⟩) ys.length (grownCap w ys.length 0 e)) (w.drew.alloc (.cells (vs.toArray ++ Builtin.zeroCells z.cells (grownCap w ys.length 0 e - ys.length)) e)) := by
        cases b with
        | none => exact run_append_nil w t ty e i z hte hi hz ad ys.length c vs (by rw [hsize]; exact hvl) hvs hyl (by simpa using h63) (by simp at hb; omega)
        | some b =>
          have := run_append_grow w t ty e i z hte hi hz b 0 0 [] (by simp) (by simp) ad ys.length c vs (by rw [hsize]; exact hvl) hvs (by omega) (by simpa using h63) (growslice_fits (by omega) (by simpa using hb))
          simpa using this
      exact ⟨_, _, G', hrun, hbelow _, a1, by simpa using b1, c1, d1⟩
    · by_cases hroom : xs.length + ys.length ≤ cap
      · obtain ⟨C, e', hC, hs, G', a1, b1, c1, d1⟩ := h.extend hdd hob ys vs hvl hroom hone hcells
        have hrun := run_append_room' (P := P) (w := w) t ty e e' i hte hi g xs.length cap C hC ad ys.length c vs (by rw [hsize]; exact hvl) hvs hv1 hroom (by rw [hsize, hvl, hs, ← Nat.add_mul]; exact Nat.mul_le_mul_right _ hroom)
        rw [hsize] at hrun
        refine ⟨_, _, G', hrun, ⟨rfl, rfl, rfl, by simp [World.setRow], fun k hk => setRow_other w g k _ (by have := hob.low; omega)⟩, a1, .inr ⟨g, cap, by simp, b1⟩, d1, c1⟩
      · have hold : ∀ (k : Nat), k < xs.length * sz → ∃ v, G.H g k = some v := fun k hk => by
          obtain ⟨ha, hb', hc⟩ := split_row hpos hk
          have hx : xs[k / sz]? = some xs[k / sz] := List.getElem?_eq_getElem ha
          have hl := hob.one _ _ hx
          have hcj : xs[k / sz].cells[k % sz]? = some (xs[k / sz].cells[k % sz]'(by omega)) := List.getElem?_eq_getElem (by omega)
          obtain ⟨v, hv, _⟩ := hob.cell _ _ _ _ hx hcj
          rw [hc] at hv
          exact ⟨v, hv⟩
        let olds : List Value := (List.range (xs.length * sz)).map fun k => (G.H g k).getD Go.undef
        have hold' : ∀ (j : Nat) (v : Value), olds[j]? = some v → w.cell? ((⟨g, 0, none⟩ : Addr).add j) = some v := fun j v hv => by
          have hj : j < xs.length * sz := by have := (List.getElem?_eq_some_iff.1 hv).1; simpa [olds] using this
          obtain ⟨u, hu⟩ := hold j hj
          simp [olds, hj, hu] at hv
          subst hv
          rw [add_none, Nat.zero_add]
          exact h.wf.sat _ _ _ hu
        have hge := grownCap_ge w (xs.length + ys.length) cap e
        have hle := grownCap_le_maxLen w (xs.length + ys.length) cap e hm
        have hcc : ∀ (k : Nat) (x : AV) (j : Nat) (c : AV), (xs ++ ys)[k]? = some x → x.cells[j]? = some c →
            ∃ v, (olds.toArray ++ vs.toArray ++ Builtin.zeroCells z.cells (grownCap w (xs.length + ys.length) cap e - (xs.length + ys.length)))[k * sz + j]? = some v ∧ v.oneCell' = true ∧ RelI G.H c v := fun k x j c hx hj => by
          rw [List.getElem?_append] at hx
          have hol : olds.length = xs.length * sz := by simp [olds]
          by_cases hk : k < xs.length
          · rw [if_pos hk] at hx
            obtain ⟨v, hv, h1, hr⟩ := hob.cell k x j c hx hj
            have hjl : j < sz := by rw [← hob.one k x hx]; exact (List.getElem?_eq_some_iff.1 hj).1
            have hlt : k * sz + j < xs.length * sz := by
              have : (k + 1) * sz ≤ xs.length * sz := Nat.mul_le_mul_right _ hk
              rw [Nat.add_mul] at this; omega
            refine ⟨v, ?_, h1, hr⟩
            rw [Array.getElem?_append_left (by simp; omega), Array.getElem?_append_left (by simp; omega)]
            simp [olds, hlt, hv]
          · rw [if_neg hk] at hx
            obtain ⟨v, hv, h1, hr⟩ := hcells _ x j c hx hj
            have hlt := (List.getElem?_eq_some_iff.1 hv).1
            have hkz : xs.length * sz ≤ k * sz := Nat.mul_le_mul_right _ (by omega)
            have e1 : k * sz + j - xs.length * sz = (k - xs.length) * sz + j := by rw [Nat.sub_mul]; omega
            refine ⟨v, ?_, h1, hr⟩
            rw [Array.getElem?_append_left (by simp; omega), Array.getElem?_append_right (by simp; omega)]
            simp only [List.size_toArray, hol, e1]
            simpa using hv
        obtain ⟨G', a1, b1, c1, d1⟩ := grown w.drew (olds.toArray ++ vs.toArray ++ Builtin.zeroCells z.cells (grownCap w (xs.length + ys.length) cap e - (xs.length + ys.length))) rfl (grownCap w (xs.length + ys.length) cap e) hge hle
          (by
            rw [Array.size_append, Array.size_append, size_zeroCells, List.size_toArray, List.size_toArray, hvl, hzs]
            simp only [olds, List.length_map, List.length_range]
            rw [← Nat.add_mul, ← Nat.add_mul]; congr 1; omega) hcc (fun k x hx => by
            rw [List.getElem?_append] at hx
            split at hx
            · exact hob.one k x hx
            · exact hone _ x hx)
        have hrun := run_append_grow (P := P) w t ty e i z hte hi hz ⟨g, 0, none⟩ xs.length cap olds (by rw [hsize]; simp [olds]) hold' ad ys.length c vs (by rw [hsize]; exact hvl) hvs (by omega) h63 (growslice_fits (by omega) hb)
        exact ⟨_, _, G', hrun, hbelow _, a1, b1, c1, d1⟩
end
end AH
