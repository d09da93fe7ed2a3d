/- Literals of slices, make, append. -/
import Derived.Test.YtcphiogbjdehhaaDoorHxHeap
namespace HX
open Go Go.RowKit

def xmakeSlice (P : Program) (bid : Nat) (t : TypeId) (l c : AV) : Option (AV × Option (Nat × Box)) :=
  match elG P t with
  | some (sz, by_, zs) => match l, c with
    | .int _ l, .int _ c => if 0 ≤ l ∧ l ≤ c ∧ c ≤ 16777216 ∧ by_ * c.toNat ≤ 140737488355328 then some (.bs bid 0 sz 0 l.toNat, some (bid, .cells 0 (zcells sz c.toNat zs))) else none
    | _, _ => none
  | none => none

section
variable {P : Program} {m : Nat → Lc} {H : HV} {B : Nat} {H0 : HV} {gl : Nat → AV} {rest : List (AV × Value)} {st : St} {a : Act} {w : World} {dst : Option Nat}

theorem zcells_rel {E : Env} {sz n : Nat} {z : Value} {zs : List AV} (hz : CellsRel (RV H E) zs z.cells.toList) (hs : z.cells.size = sz) (hpos : 0 < sz) :
    CellsRel (RV H E) (zcells sz n zs) ((Array.range (n * sz)).map (z.cells[· % z.cells.size]!)).toList := by
  refine ⟨by simp [zcells], fun j c hj => ?_⟩
  unfold zcells at hj
  simp only [List.getElem?_map, Option.map_eq_some_iff] at hj
  obtain ⟨k, hk, rfl⟩ := hj
  have hkj : k = j ∧ j < n * sz := by
    have hlt : j < n * sz := by have := (List.getElem?_eq_some_iff.1 hk).1; simpa using this
    rw [List.getElem?_range hlt] at hk
    cases hk; exact ⟨rfl, hlt⟩
  obtain ⟨rfl, hlt⟩ := hkj
  have hm : k % sz < zs.length := by rw [hz.1]; simp [hs]; exact Nat.mod_lt _ hpos
  obtain ⟨u, h1, h2, h3⟩ := hz.2 (k % sz) _ (List.getElem?_eq_getElem hm)
  refine ⟨u, ?_, h2, by rw [List.getElem?_eq_getElem hm]; exact h3⟩
  have hu : z.cells[k % sz]? = some u := by simpa using h1
  simp [hlt, hs, getElem!_def, hu]

theorem new_slice {ver : Nat} (h : RelS m H B H0 gl rest st a.tmps w) (hd : dstOk dst st.n = true) {bid : Nat} (hb : lkb st.hp bid = none) (hn : bid < st.nx) {sz len cap : Nat} (C : Array Value) (e : TypeId) (cs : List AV) (hC : CellsRel (RV H (st.env m)) cs (C.toList.take cs.length)) (hcl : cs.length ≤ C.size) (hlc : len ≤ cap) (hcm : cap ≤ maxLen) (hsz : cap * sz ≤ C.size)
    {s : Sem Next} {w1 : World} (hw1 : Below w.heap.size w w1) (hws : w1.heap.size = w.heap.size) (hs : s.run P w = .ok (.value (.slice (some ⟨w.heap.size, 0, none⟩) len cap)) (w1.alloc (.cells C e))) (hv : ver = 0 ∨ (ver = e + 1 ∧ e < 4000)) :
    OpOk P B H0 gl rest a w dst (st.eff dst (.bs bid ver sz 0 len, some (bid, .cells ver cs))) s := by
  have h1 : RelS m H B H0 gl rest st a.tmps w1 := ⟨h.heap.ext hw1, h.size, h.slot, h.rest⟩
  have hE := env_new (m := m) (hp := lkb st.hp) (b := .cells ver cs) (l := ⟨w1.heap.size, 0, C.size⟩) hb
  have hnew : ∀ o, H w1.heap.size o = none := fun o => by
    cases hh : H w1.heap.size o with
    | none => rfl
    | some v => have := sat_lt h1.heap.sat hh; omega
  have hh : RelH (updF m bid ⟨w1.heap.size, 0, C.size⟩) H B H0 gl (updF (lkb st.hp) bid (some (.cells ver cs))) st.nx (w1.alloc (.cells C e)) := by
    refine h1.heap.one (l := ⟨w1.heap.size, 0, C.size⟩) (fun k hk _ => heap_alloc_old w1 _ k hk) (by rw [heap_alloc_size]; omega) hE ⟨h1.heap.low, by rw [heap_alloc_size]; show w1.heap.size < _; omega, hnew⟩ (fun id' b' _ hid => by
      have := (h1.heap.sep id' b' hid).2.1; show (m id').g ≠ w1.heap.size; omega) hn (Nat.le_refl _) ?_ (fun v cs e => by cases e; exact tag_ty hv ⟨rfl, C, (0, 0), heap_alloc_new w1 _⟩)
    refine ⟨C, e, heap_alloc_new w1 _, rfl, by simpa using hcl, fun j c hj => ?_⟩
    obtain ⟨u, h1, h2, h3⟩ := hC.2 j c hj
    have hjl := (List.getElem?_eq_some_iff.1 hj).1
    rw [List.getElem?_take, if_pos hjl] at h1
    exact ⟨u, by simpa using h1, h2, h3.mono (.refl _) hE⟩
  refine OpOk.heap h hd hs (.inl rfl) ((hw1.mono h.heap.low).trans (below_alloc h1 _)) hh hE (.bs bid ver sz 0 len _ cap (al_new _ _ _ _ _) hlc hcm fun l hl => ?_)
  rw [loc_new] at hl
  cases hl
  exact ⟨by rw [hws], by simpa using hsz⟩

theorem xbuildSlice_ok (h : RelS m H B H0 gl rest st a.tmps w) (hd : dstOk dst st.n = true) {bid : Nat} (hb : lkb st.hp bid = none) (hn : bid < st.nx) {t : TypeId} {len : Nat} {avs : List (Nat × AV)} {parts : Array (Nat × Value)} {r : AV × Option (Nat × Box)}
    (hp : avs.length = parts.toList.length ∧ ∀ (k : Nat) (x : Nat × AV) (y : Nat × Value), avs[k]? = some x → parts.toList[k]? = some y → x.1 = y.1 ∧ RV H (st.env m) x.2 y.2) (hk : xbuildSlice P bid t len avs = some r) :
    OpOk P B H0 gl rest a w dst (st.eff dst r) (do pure (.value (← Instr.buildSlice t len parts))) := by
  unfold xbuildSlice at hk
  split at hk
  · rename_i sz by_ zs ht
    obtain ⟨e, i, z, hte, hi, hz, hzs, hpos, hsize, hby, hok, rfl⟩ := elG_inv ht
    split at hk
    · rename_i hbig
      have hbig := Nat.le_of_ble_eq_true hbig
      split at hk
      · rename_i cs hf
        cases hk
        have hzr : RV H (st.env m) (ofV z) z := .imm _ _ (ofV_rel H z)
        have hz0 := zcells_rel (n := len) (hzr.cellsRel hok) hzs hpos
        obtain ⟨vs', h3, h4⟩ := fill_rel (fun i => some (i * sz, sz)) avs parts.toList _ cs ((Array.range (len * sz)).map (z.cells[· % z.cells.size]!)) hp hz0 hf
        have hlen : cs.length = vs'.size := by simpa using h4.1
        have hvsz : len * sz ≤ vs'.size := by
          rw [← hlen]
          -- filling keeps the length
          have : ∀ (l : List (Nat × AV)) (c c' : List AV), afill (fun i => some (i * sz, sz)) c l = some c' → c'.length = c.length := by
            intro l
            induction l with
            | nil => intro c c' hh; simp only [afill, Option.some.injEq] at hh; rw [hh]
            | cons x l ih =>
              intro c c' hh
              obtain ⟨k, v⟩ := x
              simp only [afill] at hh
              split at hh
              · rename_i hcc
                rw [ih _ _ hh]
                simp
                omega
              · cases hh
          rw [this _ _ _ hf]
          simp [zcells]
        refine new_slice h hd hb hn (cap := len) vs' e cs (by rw [List.take_of_length_le (by simp [hlen])]; exact h4) (by omega) (Nat.le_refl _) ?_ hvsz (Below.refl _ _) rfl ?_ ?_
        · have : len ≤ len * sz := Nat.le_mul_of_pos_right _ hpos
          simp only [maxLen]; omega
        · rw [Sem.run_bind]
          simp only [Instr.buildSlice, Sem.run_bind, run_underlying hte, Result.andThen_ok, Go.sizeOf, typeInfo, run_program, hi, Sem.run_pure, hsize]
          rw [if_neg (by omega)]
          by_cases h0 : len * sz = 0
          · have e0 : (Array.range (len * sz)).map (fun x => (#[] : Array Value)[x % (#[] : Array Value).size]!) = (Array.range (len * sz)).map (z.cells[· % z.cells.size]!) := by simp [h0]
            rw [if_pos h0]
            simp only [Sem.run_bind, Sem.run_pure, Result.andThen_ok]
            rw [e0, h3]
            simp [newRow]
          · rw [if_neg h0]
            simp only [Sem.run_bind, Sem.run_pure, Result.andThen_ok, zeroValue, typeInfo, run_program, hi, hz]
            rw [h3]
            simp [newRow]
        · exact .inl rfl
      · cases hk
    · cases hk
  · cases hk

theorem run_askRoom (n : Nat) : (askRoom n).run P w = .ok () w := by
  unfold askRoom; split <;> rfl

theorem xmakeSlice_ok (h : RelS m H B H0 gl rest st a.tmps w) (hd : dstOk dst st.n = true) {bid : Nat} (hb : lkb st.hp bid = none) (hn : bid < st.nx) {t : TypeId} {l c : AV} {ul uc : Value} {r : AV × Option (Nat × Box)}
    (hl : RV H (st.env m) l ul) (hc : RV H (st.env m) c uc) (hk : xmakeSlice P bid t l c = some r) : OpOk P B H0 gl rest a w dst (st.eff dst r) (do pure (.value (← Instr.makeSlice t ul uc))) := by
  unfold xmakeSlice at hk
  split at hk
  · rename_i sz by_ zs ht
    obtain ⟨e, i, z, hte, hi, hz, hzs, hpos, hsize, hby, hok, rfl⟩ := elG_inv ht
    split at hk
    · rename_i k1 l k2 c
      rw [hl.int_inv, hc.int_inv]
      split at hk
      · rename_i hcond
        cases hk
        obtain ⟨h0, h1, h2, h3⟩ := hcond
        have hzr : RV H (st.env m) (ofV z) z := .imm _ _ (ofV_rel H z)
        have hz0 := zcells_rel (n := c.toNat) (hzr.cellsRel hok) hzs hpos
        have hcs : (zcells sz c.toNat (ofV z).cells).length = c.toNat * sz := by simp [zcells]
        refine new_slice h hd hb hn (cap := c.toNat) ((Array.range (c.toNat * sz)).map (z.cells[· % z.cells.size]!)) e _ (by rw [List.take_of_length_le (by simp [hcs])]; exact hz0) (by simp [hcs]) (by omega) (by simp only [maxLen]; omega) (by simp) (Below.refl _ _) rfl ?_ (.inl rfl)
        have wl : IntKind.i64.wrap l = l := IntWalk.i64_in _ (by omega)
        have wc : IntKind.i64.wrap c = c := IntWalk.i64_in _ (by omega)
        subst hby
        have hb3 : (i.bytes : Int) * c ≤ 140737488355328 := by
          have e1 : ((i.bytes * c.toNat : Nat) : Int) = (i.bytes : Int) * c := by rw [Int.natCast_mul, Int.toNat_of_nonneg (by omega)]
          omega
        rw [Sem.run_bind]
        simp only [Instr.makeSlice, asInt, asIntOf, Sem.run_bind, run_underlying hte, Result.andThen_ok, Sem.run_pure, typeInfo, run_program, hi, wl, wc]
        rw [if_neg (by simp; omega)]
        simp only [Sem.run_bind, Sem.run_pure, Result.andThen_ok, run_askRoom, Go.sizeOf, typeInfo, run_program, hi, hsize]
        by_cases hz : c.toNat * sz = 0
        · rw [if_pos hz]
          have e0 : (Array.range (c.toNat * sz)).map (fun x => (#[] : Array Value)[x % (#[] : Array Value).size]!) = (Array.range (c.toNat * sz)).map (z.cells[· % z.cells.size]!) := by rw [hz]; apply Array.ext' ; simp
          simp only [Sem.run_bind, Sem.run_pure, Result.andThen_ok]
          rw [e0]
          simp [newRow]
        · rw [if_neg hz]
          simp [newRow, zeroValue, typeInfo, hi, *]
      · cases hk
    · cases hk
  · cases hk

/-- What a slice hands to append: its cells in a row. -/
theorem xsrc_ok (h : RelH m H B H0 gl (lkb st.hp) st.nx w) {sz n : Nat} {x : AV} {u : Value} {ds : List AV} (hx : RV H (st.env m) x u) (hk : xsrc sz x (lkb st.hp) = some (n, ds)) (hpos : 0 < sz) :
    ∃ ad c vs, u = .slice ad n c ∧ CellsRel (RV H (st.env m)) ds vs ∧ ds.length = n * sz ∧ (n ≠ 0 → ∃ a, ad = some a ∧ ∀ (j : Nat) (v : Value), vs[j]? = some v → w.cell? (a.add j) = some v) := by
  unfold xsrc at hk
  split at hk
  · rename_i z ys
    split at hk
    · rename_i hz
      subst hz
      cases hk
      cases hx.sl_inv with
      | sl0 _ a cap _ => exact ⟨_, _, [], rfl, ⟨rfl, fun j c hj => by simp at hj⟩, by simp, fun hne => absurd rfl hne⟩
      | sl _ _ b o cap val h0 h1 h2 h3 h4 h5 =>
        have key : ∀ (zs : List AV) (k : Nat), (∀ i x, zs[i]? = some x → ys[k + i]? = some x) → CellsRel (RV H (st.env m)) (zs.flatMap AV.cells) ((List.range (zs.length * z)).map fun i => val (k + i / z) (i % z)) := by
          intro zs
          induction zs with
          | nil => intro k _; exact ⟨by simp, fun j c hj => by simp at hj⟩
          | cons y zs ih =>
            intro k hk
            have hy := hk 0 y rfl
            simp only [Nat.add_zero] at hy
            have hyl := h3 _ _ hy
            have ih := ih (k + 1) (fun i x hx => by have := hk (i + 1) x (by simpa using hx); rwa [show k + (i + 1) = k + 1 + i by omega] at this)
            have hr : (List.range ((y :: zs).length * z)).map (fun i => val (k + i / z) (i % z)) = (List.range z).map (fun i => val k i) ++ (List.range (zs.length * z)).map (fun i => val (k + 1 + i / z) (i % z)) := by
              rw [List.length_cons, Nat.add_mul, Nat.one_mul, Nat.add_comm, List.range_add, List.map_append, List.map_map]
              congr 1
              · refine List.map_congr_left fun i hi => ?_
                have hi : i < z := List.mem_range.1 hi
                rw [Nat.div_eq_of_lt hi, Nat.mod_eq_of_lt hi, Nat.add_zero]
              · refine List.map_congr_left fun i hi => ?_
                simp only [Function.comp]
                rw [Nat.add_div_left _ hpos, Nat.add_mod_left]
                congr 1; omega
            rw [hr, List.flatMap_cons]
            refine ⟨by have := ih.1; simp only [List.length_append, List.length_map, List.length_range] at this ⊢; omega, fun j c hj => ?_⟩
            rw [List.getElem?_append] at hj ⊢
            split at hj
            · rename_i hjl
              rw [if_pos (by simpa using by omega)]
              have := h4 k y j c hy hj
              exact ⟨val k j, by simp [show j < z by omega], this.2, .imm _ _ (h5 k y j c hy hj)⟩
            · rename_i hjl
              rw [if_neg (by simpa using by omega)]
              have := ih.2 _ c hj
              simpa [hyl] using this
        have k0 := key ys 0 (fun i x hx => by simpa using hx)
        refine ⟨_, _, _, rfl, k0, by rw [k0.1]; simp, fun _ => ⟨_, rfl, fun j v hv => ?_⟩⟩
        have hj : j < ys.length * z := by have := (List.getElem?_eq_some_iff.1 hv).1; simpa using this
        simp [hj] at hv
        subst hv
        have hd : j / z < ys.length := Nat.div_lt_of_lt_mul (by rw [Nat.mul_comm]; exact hj)
        have hmz : j % z < z := Nat.mod_lt _ hpos
        have hy : ys[j / z]? = some ys[j / z] := List.getElem?_eq_getElem hd
        have hyl := h3 _ _ hy
        have hc : ys[j / z].cells[j % z]? = some (ys[j / z].cells[j % z]'(by omega)) := List.getElem?_eq_getElem (by omega)
        have := (h4 _ _ _ _ hy hc).1
        rw [add_none]
        have e : o + j / z * z + j % z = o + j := by rw [Nat.add_assoc, Nat.mul_comm]; congr 1; exact Nat.div_add_mod j z
        rw [e] at this
        exact h.sat _ _ _ this
    · cases hk
  · rename_i id ver z off len
    split at hk
    · rename_i v cs hid
      split at hk
      · rename_i hc
        obtain ⟨rfl, rfl, hle⟩ := hc
        simp only [Option.some.injEq, Prod.mk.injEq] at hk
        obtain ⟨hlen0, rfl⟩ := hk
        obtain rfl : n = len := hlen0.symm
        clear hlen0
        generalize n = len at *
        obtain ⟨a, cap, rfl, _, hlc, hcm, hloc⟩ := hx.bs_inv
        obtain ⟨rfl, hfit⟩ := hloc _ (live_loc hid)
        obtain ⟨C, e, hC, hs, hle', hcs⟩ := h.box id _ hid
        have hlen : ((cs.drop off).take (len * z)).length = len * z := by simp; omega
        refine ⟨_, _, (List.range (len * z)).map fun j => (C[(m id).base + off + j]?).getD Go.undef, rfl, ⟨by rw [hlen]; simp, fun j c hj => ?_⟩, hlen, fun _ => ⟨_, rfl, fun j u hu => ?_⟩⟩
        · have hjl : j < len * z := by rw [← hlen]; exact (List.getElem?_eq_some_iff.1 hj).1
          rw [List.getElem?_take, if_pos hjl, List.getElem?_drop] at hj
          obtain ⟨u, a1, a2, a3⟩ := hcs _ c hj
          rw [← Nat.add_assoc] at a1
          exact ⟨u, by simp [hjl, a1], a2, a3⟩
        · have hjl : j < len * z := by have := (List.getElem?_eq_some_iff.1 hu).1; simpa using this
          have hj : cs[off + j]? = some (cs[off + j]'(by omega)) := List.getElem?_eq_getElem (by omega)
          obtain ⟨u', a1, a2, a3⟩ := hcs _ _ hj
          rw [← Nat.add_assoc] at a1
          simp [hjl, a1] at hu
          subst hu
          rw [add_none, cell_of_row _ _ _ _ _ _ hC]
          exact a1
      · cases hk
    · cases hk
  · cases hk; rw [hx.nil_inv]; exact ⟨_, _, [], rfl, ⟨rfl, fun j c hj => by simp at hj⟩, by simp, fun hne => absurd rfl hne⟩
  · cases hk; obtain ⟨a, ha⟩ := hx.emp_inv; rw [ha]; exact ⟨_, _, [], rfl, ⟨rfl, fun j c hj => by simp at hj⟩, by simp, fun hne => absurd rfl hne⟩
  · cases hk

theorem run_append_room' (t ty e e' : TypeId) (i : TypeInfo) (ht : P.underlying t = some (.slice e)) (hi : P.info? e = some i)
    (g o sLen sCap : Nat) (cur : Array Value) (hg : w.heap[g]? = some (.cells cur e' (0, 0)))
    (a : Addr) (m c : Nat) (news : List Value) (hl : news.length = m * i.size) (hnews : ∀ (j : Nat) (u : Value), news[j]? = some u → w.cell? (a.add j) = some u) (h1 : ∀ u ∈ news, u.oneCell' = true)
    (hroom : sLen + m ≤ sCap) (hfit : o + sLen * i.size + news.length ≤ cur.size) :
    (Builtin.append_ #[t, t] ty #[.slice (some ⟨g, o, none⟩) sLen sCap, .slice (some a) m c]).run P w =
      .ok (.slice (some ⟨g, o, none⟩) (sLen + m) sCap) (w.setRow g (cur.toList.take (o + sLen * i.size) ++ news ++ cur.toList.drop (o + sLen * i.size + news.length)).toArray) := by
  have hf := run_firstCells_some (P := P) w i.size m a m c news hl hnews
  have hst := run_storeCells_at P g (o + sLen * i.size) e' news 0 cur w hg (by simpa using hfit) h1
  simp only [Nat.add_zero] at hst
  simp [Builtin.append_, run_underlying ht, Go.sizeOf, typeInfo, hi, Builtin.lenOf, hf, hroom, add_none, hst]

theorem run_append_zero (t ty e : TypeId) (i : TypeInfo) (ht : P.underlying t = some (.slice e)) (hi : P.info? e = some i) (b : Option Addr) (n cap : Nat) (hn : n ≤ cap) (a : Option Addr) (c : Nat) :
    (Builtin.append_ #[t, t] ty #[.slice b n cap, .slice a 0 c]).run P w = .ok (.slice b n cap) w := by
  cases a with
  | none => cases b <;> simp [Builtin.append_, run_underlying ht, Go.sizeOf, typeInfo, hi, Builtin.lenOf, Builtin.firstCells, hn, storeCells]
  | some a => cases b <;> simp [Builtin.append_, run_underlying ht, Go.sizeOf, typeInfo, hi, Builtin.lenOf, Builtin.firstCells, hn, storeCells, loadCells, loadCellsFrom]

theorem size_zeroCells (z : Array Value) (n : Nat) : (Builtin.zeroCells z n).size = n * z.size := by simp [Builtin.zeroCells]

theorem CellsRel.mem {R : AV → Value → Prop} {ds : List AV} {vs : List Value} (h : CellsRel R ds vs) : ∀ u ∈ vs, u.oneCell' = true := by
  intro u hu
  obtain ⟨j, hj, rfl⟩ := List.mem_iff_getElem.1 hu
  obtain ⟨u', h1, h2, _⟩ := h.2 j _ (List.getElem?_eq_getElem (by rw [h.1]; exact hj))
  rw [List.getElem?_eq_getElem hj] at h1
  cases h1; exact h2

theorem CellsRel.append {R : AV → Value → Prop} {ds ds' : List AV} {vs vs' : List Value} (h : CellsRel R ds vs) (h' : CellsRel R ds' vs') : CellsRel R (ds ++ ds') (vs ++ vs') := by
  refine ⟨by simp [h.1, h'.1], fun j c hj => ?_⟩
  rw [List.getElem?_append] at hj ⊢
  have e := h.1
  split at hj
  · rw [if_pos (by omega)]; exact h.2 j c hj
  · rw [if_neg (by omega), ← e]; exact h'.2 _ c hj

theorem isSlc_inv {x : AV} {u : Value} {E : Env} (hx : RV H E x u) (h : isSlc x = true) : ∃ a n c, u = .slice a n c ∧ n ≤ c := by
  cases x <;> simp only [isSlc, reduceCtorEq] at h
  · rw [hx.nil_inv]; exact ⟨_, _, _, rfl, Nat.le_refl _⟩
  · obtain ⟨a, ha⟩ := hx.emp_inv; rw [ha]; exact ⟨_, _, _, rfl, Nat.le_refl _⟩
  · obtain ⟨a, c, e, h1, _⟩ := hx.sl_inv.len_inv; exact ⟨a, _, c, e, h1⟩
  · obtain ⟨a, c, e, _, h1, _⟩ := hx.bs_inv; exact ⟨_, _, c, e, h1⟩

/-- What is appended: n elements, of the cells vs. -/
structure AppSrc (P : Program) (w : World) (t tx ty e : TypeId) (i : TypeInfo) (z : Value) (v : Value) (n : Nat) (vs : List Value) : Prop where
  nil : n * i.bytes ≤ 140737488355328 → n ≤ 9223372036854775807 → (Builtin.append_ #[t, tx] ty #[.slice none 0 0, v]).run P w =
    .ok (.slice (some ⟨w.heap.size, 0, none⟩) n (grownCap w n 0 e)) (w.drew.alloc (.cells (vs.toArray ++ Builtin.zeroCells z.cells (grownCap w n 0 e - n)) e))
  grow : ∀ (b : Addr) (sLen sCap : Nat) (olds : List Value), olds.length = sLen * i.size → (∀ (j : Nat) (u : Value), olds[j]? = some u → w.cell? (b.add j) = some u) → sCap < sLen + n → ((sLen + n : Nat) : Int) ≤ 9223372036854775807 →
    Builtin.nextslicecap (sLen + n) sCap * i.bytes ≤ 281474976710656 → (Builtin.append_ #[t, tx] ty #[.slice (some b) sLen sCap, v]).run P w =
    .ok (.slice (some ⟨w.heap.size, 0, none⟩) (sLen + n) (grownCap w (sLen + n) sCap e)) (w.drew.alloc (.cells (olds.toArray ++ vs.toArray ++ Builtin.zeroCells z.cells (grownCap w (sLen + n) sCap e - (sLen + n))) e))
  room : ∀ (g o sLen sCap : Nat) (cur : Array Value) (e' : TypeId), w.heap[g]? = some (.cells cur e' (0, 0)) → sLen + n ≤ sCap → o + sLen * i.size + vs.length ≤ cur.size → (Builtin.append_ #[t, tx] ty #[.slice (some ⟨g, o, none⟩) sLen sCap, v]).run P w =
    .ok (.slice (some ⟨g, o, none⟩) (sLen + n) sCap) (w.setRow g (cur.toList.take (o + sLen * i.size) ++ vs ++ cur.toList.drop (o + sLen * i.size + vs.length)).toArray)

theorem xappT_ok (h : RelS m H B H0 gl rest st a.tmps w) (hd : dstOk dst st.n = true) {bid : Nat} (hb : lkb st.hp bid = none) (hn : bid < st.nx) {t tx ty e : TypeId} {i : TypeInfo} {z : Value} {sz n tg : Nat} {ds : List AV} {vs : List Value} {s : AV} {u v : Value} {r : AV × Option (Nat × Box)}
    (hsrc : AppSrc P w t tx ty e i z v n vs) (hzs : z.cells.size = sz) (hpos : 0 < sz) (hsize : i.size = sz) (hr : CellsRel (RV H (st.env m)) ds vs) (hdl : ds.length = n * sz) (hvl : vs.length = n * i.size) (hn0 : ¬ n = 0) (htg : tg = 0 ∨ (tg = e + 1 ∧ e < 4000))
    (hs : RV H (st.env m) s u) (hk : xappT bid e tg sz i.bytes n ds s (lkb st.hp) = some r) : OpOk P B H0 gl rest a w dst (st.eff dst r) (do pure (.value (← Builtin.append_ #[t, tx] ty #[u, v]))) := by
  unfold xappT at hk
  have empty : ∀ (b : Option Addr), u = .slice b 0 0 → n * i.bytes ≤ 140737488355328 → n ≤ 9223372036854775807 → OpOk P B H0 gl rest a w dst (st.eff dst (.bs bid tg sz 0 n, some (bid, .cells tg ds))) (do pure (.value (← Builtin.append_ #[t, tx] ty #[u, v]))) := by
    intro b hu h1 h2
    subst hu
    have hge := grownCap_ge w n 0 e
    have hle := grownCap_le_maxLen w n 0 e (by simp only [maxLen]; omega)
    have hrun : (Builtin.append_ #[t, tx] ty #[.slice b 0 0, v]).run P w =
        .ok (.slice (some ⟨w.heap.size, 0, none⟩) n (grownCap w n 0 e)) (w.drew.alloc (.cells (vs.toArray ++ Builtin.zeroCells z.cells (grownCap w n 0 e - n)) e)) := by
      cases b with
      | none => exact hsrc.nil h1 h2
      | some b =>
        have := hsrc.grow b 0 0 [] (by simp) (by simp) (by omega) (by simp; omega) (growslice_fits (by omega) (by simpa using h1))
        simpa using this
    refine new_slice h hd hb hn (cap := grownCap w n 0 e) (vs.toArray ++ Builtin.zeroCells z.cells (grownCap w n 0 e - n)) e ds ?_ ?_ hge hle ?_ (w1 := w.drew) ((Below.refl _ _).drew) rfl (by rw [Sem.run_bind, hrun]; rfl) htg
    · simp only [Array.toList_append]
      rw [List.take_append_of_le_length (by simp [hr.1]), List.take_of_length_le (by simp [hr.1])]
      exact hr
    · simp [hr.1]
    · rw [Array.size_append, size_zeroCells, List.size_toArray, hvl, hzs, hsize, ← Nat.add_mul]
      exact Nat.mul_le_mul_right _ (by omega)
  split at hk
  · split at hk
    · rename_i hc; cases hk; exact empty none hs.nil_inv hc.1 hc.2
    · cases hk
  · split at hk
    · rename_i hc; cases hk; obtain ⟨b, hb'⟩ := hs.emp_inv; exact empty b hb' hc.1 hc.2
    · cases hk
  · rename_i id ver z' off len
    split at hk
    · rename_i v' cs hid
      split at hk
      · rename_i hc
        obtain ⟨rfl, rfl, hle, h1, h2⟩ := hc
        cases hk
        obtain ⟨a1, cap, rfl, _, hlc, hcm, hloc⟩ := hs.bs_inv
        obtain ⟨rfl, hfit⟩ := hloc _ (live_loc hid)
        obtain ⟨C, e', hC, hsC, hle', hcs⟩ := h.heap.box id _ hid
        have hsep := h.heap.sep id _ hid
        have hidn : id < st.nx := by
          rcases Nat.lt_or_ge id st.nx with hlt | hge
          · exact hlt
          · have := h.heap.fresh id hge; rw [this] at hid; cases hid
        have hinj : ∀ id' b', id' ≠ id → lkb st.hp id' = some b' → (m id').g ≠ (m id).g := fun id' b' hne hb' e => hne (h.heap.inj id' id b' _ hb' hid e)
        have hold : CellsRel (RV H (st.env m)) ((cs.drop off).take (len * z')) ((List.range (len * z')).map fun j => (C[(m id).base + off + j]?).getD Go.undef) := by
          refine ⟨by simp; omega, fun j c hj => ?_⟩
          have hjl : j < len * z' := by
            have := (List.getElem?_eq_some_iff.1 hj).1
            simp at this; omega
          rw [List.getElem?_take, if_pos hjl, List.getElem?_drop] at hj
          obtain ⟨u, b1, b2, b3⟩ := hcs _ c hj
          rw [← Nat.add_assoc] at b1
          exact ⟨u, by simp [hjl, b1], b2, b3⟩
        have hol : ((cs.drop off).take (len * z')).length = len * z' := by simp; omega
        by_cases hroom : len + n ≤ cap
        · have hroom' : (len + n) * z' ≤ cap * z' := Nat.mul_le_mul_right _ hroom
          rw [Nat.add_mul] at hroom'
          have hfit2 : (m id).base + off + len * i.size + vs.length ≤ C.size := by rw [hvl, hsize, hsC]; omega
          have hrun := hsrc.room (m id).g ((m id).base + off) len cap C e' hC hroom hfit2
          have hE := env_next (ver' := nextV e off v') (m := m) (hp := lkb st.hp) (cs' := (cs.drop off).take (len * z') ++ ds) (l := ⟨(m id).g, (m id).base + off, (m id).size⟩) (nextV_lt _ _ _) hid
          have hh := h.heap.one (id := id) (b := .cells (nextV e off v') ((cs.drop off).take (len * z') ++ ds)) (l := ⟨(m id).g, (m id).base + off, (m id).size⟩)
            (w' := w.setRow (m id).g (C.toList.take ((m id).base + off + len * i.size) ++ vs ++ C.toList.drop ((m id).base + off + len * i.size + vs.length)).toArray)
            (fun k _ hk => setRow_other w _ k _ hk) (by simp [World.setRow]) hE ⟨hsep.1, by simp [World.setRow]; exact hsep.2.1, hsep.2.2⟩ hinj hidn (Nat.le_refl _) (by
              refine ⟨_, e', setRow_heap w _ C _ e' _ hC, ?_, ?_, fun j c hj => ?_⟩
              · simp; omega
              · simp; rw [hsize] at hfit2; rw [← hsize] at hol ⊢; have := hr.1; omega
              · show ∃ v, ((C.toList.take ((m id).base + off + len * i.size) ++ vs ++ C.toList.drop ((m id).base + off + len * i.size + vs.length)).toArray)[(m id).base + off + j]? = some v ∧ _
                rw [List.getElem?_append, hol] at hj
                simp only [List.getElem?_toArray, List.append_assoc, List.getElem?_append, List.length_take, List.getElem?_take, Array.length_toList, Array.getElem?_toList]
                have m2 : min ((m id).base + off + len * i.size) C.size = (m id).base + off + len * i.size := by omega
                rw [m2]
                split at hj
                · rename_i hjl
                  rw [hsize, if_pos (by omega), if_pos (by omega)]
                  obtain ⟨u, b1, b2, b3⟩ := hold.2 j c hj
                  simp only [List.getElem?_map, List.getElem?_range hjl, Option.map_some, Option.some.injEq] at b1
                  have hx : cs[off + j]? = some (cs[off + j]'(by omega)) := List.getElem?_eq_getElem (by omega)
                  obtain ⟨u2, c1, c2, c3⟩ := hcs _ _ hx
                  rw [← Nat.add_assoc] at c1
                  rw [c1] at b1 ⊢
                  simp only [Option.getD_some] at b1
                  subst b1
                  exact ⟨u2, rfl, b2, b3.mono (.refl _) hE⟩
                · rename_i hjl
                  rw [if_neg (by rw [hsize]; omega)]
                  obtain ⟨u, b1, b2, b3⟩ := hr.2 _ c hj
                  have hvl' := (List.getElem?_eq_some_iff.1 b1).1
                  rw [hsize, if_pos (by omega), show (m id).base + off + j - ((m id).base + off + len * z') = j - len * z' by omega]
                  exact ⟨u, b1, b2, b3.mono (.refl _) hE⟩) (fun ver cs2 e2 => by
                cases e2
                refine nextV_ty fun h0 h1 => ?_
                rcases h.heap.ty id _ _ hid with h2 | ⟨h2, C2, fr, h3⟩
                · omega
                · rw [hC] at h3; cases h3
                  have he := setRow_heap w (m id).g C (C.toList.take ((m id).base + off + len * i.size) ++ vs ++ C.toList.drop ((m id).base + off + len * i.size + vs.length)).toArray _ (0, 0) hC
                  rw [show v' % 4096 - 1 = e by omega] at he
                  exact ⟨by show (m id).base + off = 0; omega, _, _, he⟩)
          refine OpOk.heap h hd (by rw [Sem.run_bind, hrun]; rfl) (.inl rfl) (below_setRow h.heap hid _) hh hE (.bs id (nextV e off v') z' 0 (len + n) _ cap (al_new _ _ _ _ _) hroom hcm fun l hl => ?_)
          rw [loc_new] at hl
          cases hl
          exact ⟨rfl, by simpa using hfit⟩
        · have hge := grownCap_ge w (len + n) cap e
          have hle2 := grownCap_le_maxLen w (len + n) cap e (by simp only [maxLen]; omega)
          have hrun := hsrc.grow ⟨(m id).g, (m id).base + off, none⟩ len cap ((List.range (len * z')).map fun j => (C[(m id).base + off + j]?).getD Go.undef) (by rw [hsize]; simp) (fun j u hu => by
            have hjl : j < len * z' := by have := (List.getElem?_eq_some_iff.1 hu).1; simpa using this
            have hx : cs[off + j]? = some (cs[off + j]'(by omega)) := List.getElem?_eq_getElem (by omega)
            obtain ⟨u2, c1, c2, c3⟩ := hcs _ _ hx
            rw [← Nat.add_assoc] at c1
            simp [hjl, c1] at hu
            subst hu
            rw [add_none, cell_of_row _ _ _ _ _ _ hC]
            exact c1) (by omega) (by omega) (growslice_fits (by omega) h1)
          have h1' : RelH m H B H0 gl (lkb st.hp) st.nx w.drew := h.heap.ext (Below.refl _ _).drew
          have hws : w.drew.heap.size = w.heap.size := rfl
          have hnew : ∀ o, H w.heap.size o = none := fun o => by
            cases hh : H w.heap.size o with
            | none => rfl
            | some v => have := sat_lt h.heap.sat hh; omega
          generalize hC0 : (((List.range (len * z')).map fun j => (C[(m id).base + off + j]?).getD Go.undef).toArray ++ vs.toArray ++ Builtin.zeroCells z.cells (grownCap w (len + n) cap e - (len + n))) = C0 at hrun
          have hC0s : C0.size = grownCap w (len + n) cap e * z' := by
            rw [← hC0, Array.size_append, Array.size_append, size_zeroCells, List.size_toArray, List.size_toArray, hvl, hzs, hsize]
            simp only [List.length_map, List.length_range]
            rw [← Nat.add_mul, ← Nat.add_mul]; congr 1; omega
          have hcc := hold.append hr
          have hE := env_next (ver' := nextV e off v') (m := m) (hp := lkb st.hp) (cs' := (cs.drop off).take (len * z') ++ ds) (l := ⟨w.heap.size, 0, C0.size⟩) (nextV_lt _ _ _) hid
          have hh := h1'.one (id := id) (b := .cells (nextV e off v') ((cs.drop off).take (len * z') ++ ds)) (l := ⟨w.heap.size, 0, C0.size⟩) (w' := w.drew.alloc (.cells C0 e))
            (fun k hk _ => heap_alloc_old w.drew _ k hk) (by rw [heap_alloc_size]; omega) hE ⟨h.heap.low, by rw [heap_alloc_size, hws]; show w.heap.size < _; omega, hnew⟩ (fun id' b' _ hb' => by
              have := (h.heap.sep id' b' hb').2.1; show (m id').g ≠ w.heap.size; omega) hidn (Nat.le_refl _) (by
              refine ⟨C0, e, heap_alloc_new w.drew _, rfl, ?_, fun j c hj => ?_⟩
              · have hcl := hcc.1
                simp only [List.length_append, List.length_map, List.length_range] at hcl ⊢
                rw [hC0s]
                have : (len + n) * z' ≤ grownCap w (len + n) cap e * z' := Nat.mul_le_mul_right _ hge
                rw [Nat.add_mul] at this
                rw [hvl, hsize] at hcl
                show 0 + _ ≤ _
                omega
              · obtain ⟨u, b1, b2, b3⟩ := hcc.2 j c hj
                refine ⟨u, ?_, b2, b3.mono (.refl _) hE⟩
                have hlt := (List.getElem?_eq_some_iff.1 b1).1
                rw [← hC0]
                show (_ ++ _ ++ _ : Array Value)[0 + j]? = some u
                rw [Nat.zero_add, Array.getElem?_append_left (by simpa using hlt)]
                simpa using b1) (fun ver cs2 e2 => by cases e2; exact nextV_ty fun _ _ => ⟨rfl, _, _, heap_alloc_new w.drew _⟩)
          have hbl : Below B w (w.drew.alloc (.cells C0 e)) := ((Below.refl B w).drew).alloc (by simpa using h.heap.low) _
          refine OpOk.heap h hd (by rw [Sem.run_bind, hrun]; rfl) (.inl rfl) hbl hh hE (.bs id (nextV e off v') z' 0 (len + n) _ _ (al_new _ _ _ _ _) hge hle2 fun l hl => ?_)
          rw [loc_new] at hl
          cases hl
          exact ⟨rfl, by show 0 + 0 + _ ≤ C0.size; rw [hC0s]; omega⟩
      · cases hk
    · cases hk
  · cases hk

theorem xappend_ok (h : RelS m H B H0 gl rest st a.tmps w) (hd : dstOk dst st.n = true) {bid : Nat} (hb : lkb st.hp bid = none) (hn : bid < st.nx) {t t' ty : TypeId} {s x : AV} {u v : Value} {r : AV × Option (Nat × Box)}
    (hs : RV H (st.env m) s u) (hx : RV H (st.env m) x v) (hk : xappend P bid t t' s x (lkb st.hp) = some r) : OpOk P B H0 gl rest a w dst (st.eff dst r) (do pure (.value (← Builtin.append_ #[t, t'] ty #[u, v]))) := by
  unfold xappend at hk
  split at hk
  · rename_i sz by_ zs ht
    obtain ⟨e, i, z, hte, hi, hz, hzs, hpos, hsize, hby, hok, rfl⟩ := elG_inv ht
    subst hby
    split at hk
    · rename_i htt
      subst htt
      split at hk
      · rename_i n ds hsrc
        obtain ⟨ad, c, vs, rfl, hr, hdl, hcell⟩ := xsrc_ok h.heap hx hsrc hpos
        have hel : elT P t' = e := by unfold elT; rw [hte]
        rw [hel] at hk
        split at hk
        · rename_i hn0
          subst hn0
          split at hk
          · rename_i hsl
            cases hk
            obtain ⟨b, k, cp, rfl, hle⟩ := isSlc_inv hs hsl
            exact OpOk.val h hd (by rw [Sem.run_bind, run_append_zero t' ty e i hte hi b k cp hle ad c]; rfl) hs
          · cases hk
        · rename_i hn0
          obtain ⟨a0, rfl, hcells⟩ := hcell hn0
          have hvl : vs.length = n * i.size := by rw [hsize, ← hdl, hr.1]
          refine xappT_ok h hd hb hn (z := z) (i := i) ⟨fun h1 h2 => run_append_nil w t' ty e i z hte hi hz a0 n c vs hvl hcells (by omega) (by omega) (by omega), fun b sLen sCap olds h1 h2 h3 h4 h5 => run_append_grow w t' ty e i z hte hi hz b sLen sCap olds h1 h2 a0 n c vs hvl hcells h3 h4 h5,
            fun g o sLen sCap cur e' h1 h2 h3 => run_append_room' t' ty e e' i hte hi g o sLen sCap cur h1 a0 n c vs hvl hcells hr.mem h2 h3⟩ hzs hpos hsize hr hdl hvl hn0 (tagE_spec P e) hs hk
      · cases hk
    · cases hk
  · cases hk
end
end HX
