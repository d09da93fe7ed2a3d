/- Operations on the heap: new variables, loads, stores, literals of slices, append. -/
import Derived.Test.YtcphiogbjdehhaaDoorHxVal3
namespace HX
open Go Go.RowKit

/-- A slice type's element, fit to be made: cells, bytes. -/
def elG (P : Program) (t : TypeId) : Option (Nat × Nat × List AV) :=
  match P.underlying t with
  | some (.slice e) => match P.info? e with
    | some i => match i.zero with
      | some z => if z.cells.size = i.size ∧ 0 < i.size ∧ (ofV z).okc = true then some (i.size, i.bytes, (ofV z).cells) else none
      | none => none
    | none => none
  | _ => none

theorem elG_inv {P : Program} {t : TypeId} {n by_ : Nat} {zs : List AV} (h : elG P t = some (n, by_, zs)) :
    ∃ e i z, P.underlying t = some (.slice e) ∧ P.info? e = some i ∧ i.zero = some z ∧ z.cells.size = n ∧ 0 < n ∧ i.size = n ∧ i.bytes = by_ ∧ (ofV z).okc = true ∧ zs = (ofV z).cells := by
  unfold elG at h
  split at h
  · rename_i e he
    split at h
    · rename_i i hi
      split at h
      · rename_i z hz
        split at h
        · rename_i hh
          simp only [Option.some.injEq, Prod.mk.injEq] at h
          obtain ⟨rfl, rfl, rfl⟩ := h
          exact ⟨e, i, z, he, hi, hz, hh.1, hh.2.1, rfl, rfl, hh.2.2, rfl⟩
        · cases h
      · cases h
    · cases h
  · cases h

abbrev Hp := Nat → Option Box

def xnew (bid : Nat) (cs : List AV) : AV × Option (Nat × Box) := (.ptr bid 0 0, some (bid, .cells 0 cs))
def xnewT (ver bid : Nat) (cs : List AV) : AV × Option (Nat × Box) := (.ptr bid ver 0, some (bid, .cells ver cs))
/-- The type of a struct whose first field points to such a struct (strings.Builder): its boxes bear their type. -/
def isBld (P : Program) (t : TypeId) : Bool := match P.underlying t with
  | some (.struct fs) => match fs.toList with
    | [f, g] => match P.underlying f.type, P.underlying g.type with
      | some (.pointer u), some (.slice _) => Nat.beq u t
      | _, _ => false
    | _ => false
  | _ => false
def tagT (P : Program) (t : TypeId) : Nat := bif isBld P t && Nat.blt t 4000 then t + 1 else 0
/-- Rows of bytes bear their type. -/
def isU8 (P : Program) (e : TypeId) : Bool := match P.underlying e with
  | some (.int .u8) => true
  | _ => false
def tagE (P : Program) (e : TypeId) : Nat := bif isU8 P e && Nat.blt e 4000 then e + 1 else 0
def nextV (e off ver : Nat) : Nat := bif Nat.beq (ver % 4096) (e + 1) && Nat.beq off 0 then ver + 4096 else (ver / 4096 + 1) * 4096
theorem nextV_lt (e off ver : Nat) : ver < nextV e off ver := by
  unfold nextV
  cases (Nat.beq (ver % 4096) (e + 1) && Nat.beq off 0)
  · simp only [cond_false]; omega
  · simp only [cond_true]; omega
theorem nextV_ty {w : World} {l : Lc} {e off ver : Nat} (h : off = 0 → ver % 4096 = e + 1 → l.base = 0 ∧ ∃ C fr, w.heap[l.g]? = some (.cells C e fr)) : TyOk w l (nextV e off ver) := by
  unfold nextV
  cases hc : (Nat.beq (ver % 4096) (e + 1) && Nat.beq off 0)
  · simp only [cond_false]; left; omega
  · simp only [cond_true]
    rw [Bool.and_eq_true] at hc
    have h1 := Nat.eq_of_beq_eq_true hc.1
    have h2 := Nat.eq_of_beq_eq_true hc.2
    have : (ver + 4096) % 4096 - 1 = e := by omega
    right; rw [this]; exact h h2 h1
theorem tag_ty {w : World} {l : Lc} {e tg : Nat} (h : tg = 0 ∨ (tg = e + 1 ∧ e < 4000)) (h1 : l.base = 0 ∧ ∃ C fr, w.heap[l.g]? = some (.cells C e fr)) : TyOk w l tg := by
  rcases h with rfl | ⟨rfl, h2⟩
  · exact .inl rfl
  · have : (e + 1) % 4096 - 1 = e := by omega
    right; rw [this]; exact h1
theorem tagT_spec (P : Program) (t : TypeId) : tagT P t = 0 ∨ (tagT P t = t + 1 ∧ t < 4000) := by
  unfold tagT
  cases hc : (isBld P t && Nat.blt t 4000) with
  | false => exact .inl rfl
  | true => rw [Bool.and_eq_true] at hc; exact .inr ⟨rfl, Nat.le_of_ble_eq_true hc.2⟩
theorem tagE_spec (P : Program) (e : TypeId) : tagE P e = 0 ∨ (tagE P e = e + 1 ∧ e < 4000) := by
  unfold tagE
  cases hc : (isU8 P e && Nat.blt e 4000) with
  | false => exact .inl rfl
  | true => rw [Bool.and_eq_true] at hc; exact .inr ⟨rfl, Nat.le_of_ble_eq_true hc.2⟩
def elT (P : Program) (t : TypeId) : Nat := match P.underlying t with
  | some (.slice e) => e
  | _ => 0
def xload (P : Program) (t : TypeId) (x : AV) (hp : Hp) : Option AV :=
  match tyI P t with
  | some (n, g) => match x with
    | .ip sz xs i off => if Nat.ble (off + wd g n) sz then some (partD g n off ((xs[i]?).getD .undef).cells) else none
    | .ptr id ver off => match hp id with
      | some (.cells v cs) => if Nat.beq v ver && Nat.ble (off + wd g n) cs.length then some (partD g n off cs) else none
      | _ => none
    | _ => none
  | none => none
def xstore (P : Program) (t : TypeId) (x y : AV) (hp : Hp) : Option (AV × Option (Nat × Box)) :=
  match tyI P t with
  | some (n, _) => match x with
    | .ptr id ver off => match hp id with
      | some (.cells v cs) => if Nat.beq v ver && (Nat.ble (off + n) cs.length && (y.okc && Nat.beq y.cells.length n)) then some (.undef, some (id, .cells v (cs.take off ++ (y.cells ++ cs.drop (off + n))))) else none
      | _ => none
    | _ => none
  | none => none
def zcells (sz n : Nat) (zs : List AV) : List AV := (List.range (n * sz)).map fun i => (zs[i % sz]?).getD .undef
def xbuildSlice (P : Program) (bid : Nat) (t : TypeId) (len : Nat) (parts : List (Nat × AV)) : Option (AV × Option (Nat × Box)) :=
  match elG P t with
  | some (sz, _, zs) => if Nat.ble (len * sz) 16777216 then (match afill (fun i => some (i * sz, sz)) (zcells sz len zs) parts with
      | some cs => some (.bs bid 0 sz 0 len, some (bid, .cells 0 cs))
      | none => none) else none
  | none => none
/-- The cells of a slice, one behind the other, and how many elements they are. -/
def xsrc (sz : Nat) (x : AV) (hp : Hp) : Option (Nat × List AV) :=
  match x with
  | .sl z ys => if z = sz then some (ys.length, ys.flatMap AV.cells) else none
  | .bs id ver z off len => match hp id with
    | some (.cells v cs) => if z = sz ∧ v = ver ∧ off + len * sz ≤ cs.length then some (len, (cs.drop off).take (len * sz)) else none
    | _ => none
  | .nil => some (0, [])
  | .emp => some (0, [])
  | _ => none
def isSlc : AV → Bool
  | .sl .. | .bs .. | .nil | .emp => true
  | _ => false
/-- append of n elements (not none), whose cells are ds. -/
def xappT (bid e tg sz by_ n : Nat) (ds : List AV) (s : AV) (hp : Hp) : Option (AV × Option (Nat × Box)) :=
  match s with
  | .nil => if n * by_ ≤ 140737488355328 ∧ n ≤ 9223372036854775807 then some (.bs bid tg sz 0 n, some (bid, .cells tg ds)) else none
  | .emp => if n * by_ ≤ 140737488355328 ∧ n ≤ 9223372036854775807 then some (.bs bid tg sz 0 n, some (bid, .cells tg ds)) else none
  | .bs id ver z off len => match hp id with
    | some (.cells v cs) => if z = sz ∧ v = ver ∧ off + len * sz ≤ cs.length ∧ (len + n) * by_ ≤ 140737488355328 ∧ len + n ≤ 9223372036854775807 then some (.bs id (nextV e off ver) sz 0 (len + n), some (id, .cells (nextV e off ver) ((cs.drop off).take (len * sz) ++ ds))) else none
    | _ => none
  | _ => none
def xappend (P : Program) (bid : Nat) (t t' : TypeId) (s x : AV) (hp : Hp) : Option (AV × Option (Nat × Box)) :=
  match elG P t with
  | some (sz, by_, _) => if t' = t then (match xsrc sz x hp with
    | some (n, ds) => if n = 0 then (if isSlc s then some (s, none) else none) else xappT bid (elT P t) (tagE P (elT P t)) sz by_ n ds s hp
    | none => none) else none
  | none => none

section
variable {P : Program} {m : Nat → Lc} {H : HV} {B : Nat} {H0 : HV} {gl : Nat → AV} {rest : List (AV × Value)} {st : St} {a : Act} {w : World} {dst : Option Nat}

theorem heap_alloc_new (w : World) (o : Obj) : (w.alloc o).heap[w.heap.size]? = some o := by show (w.heap.push o)[w.heap.size]? = some o; simp
theorem heap_alloc_old (w : World) (o : Obj) (k : Nat) (h : k < w.heap.size) : (w.alloc o).heap[k]? = w.heap[k]? := Below.heap_alloc w _ k h
theorem heap_alloc_size (w : World) (o : Obj) : (w.alloc o).heap.size = w.heap.size + 1 := by simp

theorem cell_of_row (w : World) (g o : Nat) (C : Array Value) (e : TypeId) (fr : Nat × Nat) (h : w.heap[g]? = some (.cells C e fr)) : w.cell? ⟨g, o, none⟩ = C[o]? := by
  simp [World.cell?, h]

/-- A new row. -/
theorem RelS.newRow (h : RelS m H B H0 gl rest st a.tmps w) {ver bid : Nat} (hb : lkb st.hp bid = none) (hn : bid < st.nx) (C : Array Value) (e : TypeId) (cs : List AV) (hC : CellsRel (RV H (st.env m)) cs C.toList) (hv : ver = 0 ∨ (ver = e + 1 ∧ e < 4000)) :
    RelH (updF m bid ⟨w.heap.size, 0, C.size⟩) H B H0 gl (updF (lkb st.hp) bid (some (.cells ver cs))) st.nx (w.alloc (.cells C e)) ∧ Env.le (st.env m) (envOf (updF (lkb st.hp) bid (some (.cells ver cs))) (updF m bid ⟨w.heap.size, 0, C.size⟩)) := by
  have hE := env_new (m := m) (hp := lkb st.hp) (b := .cells ver cs) (l := ⟨w.heap.size, 0, C.size⟩) hb
  have hnew : ∀ o, H w.heap.size o = none := fun o => by
    cases hh : H w.heap.size o with
    | none => rfl
    | some v => have := sat_lt h.heap.sat hh; omega
  refine ⟨h.heap.one (l := ⟨w.heap.size, 0, C.size⟩) (fun k hk _ => heap_alloc_old w _ k hk) (by rw [heap_alloc_size]; omega) hE ⟨h.heap.low, by rw [heap_alloc_size]; show w.heap.size < _; omega, hnew⟩ (fun id' b' _ hid => by
    have := (h.heap.sep id' b' hid).2.1; show (m id').g ≠ w.heap.size; omega) hn (Nat.le_refl _) ?_ (fun v cs e => by cases e; exact tag_ty hv ⟨rfl, C, (0, 0), heap_alloc_new w _⟩), hE⟩
  refine ⟨C, e, heap_alloc_new w _, rfl, by have := hC.1; simp at this; simp; omega, fun j c hj => ?_⟩
  obtain ⟨u, h1, h2, h3⟩ := hC.2 j c hj
  exact ⟨u, by simpa using h1, h2, h3.mono (.refl _) hE⟩

theorem below_alloc (h : RelS m H B H0 gl rest st a.tmps w) (o : Obj) : Below B w (w.alloc o) := (Below.refl _ _).alloc h.heap.low _

theorem loc_new (hp : Hp) (m : Nat → Lc) (id : Nat) (l : Lc) (v : Nat) (cs : List AV) : (envOf (updF hp id (some (.cells v cs))) (updF m id l)).loc id v = some l := by
  simp [envOf, updF_same]
theorem al_new (hp : Hp) (m : Nat → Lc) (id : Nat) (v : Nat) (cs : List AV) : (envOf (updF hp id (some (.cells v cs))) m).al id v := ⟨_, updF_same _ _ _, Nat.le_refl _⟩

theorem new_okT (h : RelS m H B H0 gl rest st a.tmps w) (hd : dstOk dst st.n = true) {ver bid : Nat} (hb : lkb st.hp bid = none) (hn : bid < st.nx) {t : TypeId} {x : AV} {v : Value} (hx : RV H (st.env m) x v) (h1 : x.okc = true) (hv : ver = 0 ∨ (ver = t + 1 ∧ t < 4000)) {s : Sem Next} (hs : s.run P w = .ok (.value (.pointer (some ⟨w.heap.size, 0, none⟩))) (w.alloc (.cells v.cells t))) :
    OpOk P B H0 gl rest a w dst (st.eff dst (xnewT ver bid x.cells)) s := by
  obtain ⟨hh, hE⟩ := h.newRow hb hn v.cells t x.cells (hx.cellsRel h1) hv
  refine OpOk.heap h hd hs (.inl rfl) (below_alloc h _) hh hE (.ptr bid ver 0 _ (al_new _ _ _ _ _) fun l hl => ?_)
  rw [loc_new] at hl
  cases hl; rfl
theorem new_ok (h : RelS m H B H0 gl rest st a.tmps w) (hd : dstOk dst st.n = true) {bid : Nat} (hb : lkb st.hp bid = none) (hn : bid < st.nx) {t : TypeId} {x : AV} {v : Value} (hx : RV H (st.env m) x v) (h1 : x.okc = true) {s : Sem Next} (hs : s.run P w = .ok (.value (.pointer (some ⟨w.heap.size, 0, none⟩))) (w.alloc (.cells v.cells t))) :
    OpOk P B H0 gl rest a w dst (st.eff dst (xnew bid x.cells)) s := new_okT (ver := 0) h hd hb hn hx h1 (.inl rfl) hs

theorem load_ip {t : TypeId} {n : Nat} {g : Bool} {E : Env} (h : tyI P t = some (n, g)) (hs : HV.sat H w) {sz : Nat} {xs : List AV} {i off : Nat} {v : Value} (hv : RelI H (.ip sz xs i off) v)
    (hl : off + wd g n ≤ sz) : ∃ u, (Instr.loadAt t v).run P w = .ok u w ∧ RV H E (partD g n off ((xs[i]?).getD .undef).cells) u := by
  cases hv with
  | ip _ _ b o _ _ val h0 h1 h2 h3 h4 =>
    have hx : xs[i]? = some xs[i] := List.getElem?_eq_getElem h1
    have hlen := h2 i _ hx
    have hwd : (if g then n else 1) = wd g n := by cases g <;> rfl
    have := run_loadAt' (w := w) h b (o + i * sz + off) (fun j => val i (off + j)) (fun j hj => by
      rw [hwd] at hj
      have hj' : off + j < (xs[i]).cells.length := by omega
      have := h3 i _ (off + j) _ hx (List.getElem?_eq_getElem hj')
      rw [show o + i * sz + off + j = o + i * sz + (off + j) by omega]
      exact hs _ _ _ this.1)
    refine ⟨_, this, ?_⟩
    simp only [hx, Option.getD_some]
    exact partD_rel (val := val i) (by omega) (fun j c hc => .imm _ _ (h4 i _ j c hx hc)) fun j c hc => (h3 i _ j c hx hc).2

theorem live_loc {hp : Hp} {m : Nat → Lc} {id v : Nat} {cs : List AV} (h : hp id = some (.cells v cs)) : (envOf hp m).loc id v = some (m id) := by simp [envOf, h]

theorem xload_ok (h : RelH m H B H0 gl (lkb st.hp) st.nx w) {t : TypeId} {x : AV} {u : Value} {av : AV} (hx : RV H (st.env m) x u) (hk : xload P t x (lkb st.hp) = some av) : ∃ v, (Instr.loadAt t u).run P w = .ok v w ∧ RV H (st.env m) av v := by
  unfold xload at hk
  split at hk
  · rename_i n g ht
    split at hk
    · rename_i sz xs i off
      split at hk
      · rename_i hl
        cases hk
        exact load_ip ht h.sat hx.ip_inv (Nat.le_of_ble_eq_true hl)
      · cases hk
    · rename_i id ver off
      split at hk
      · rename_i v cs hid
        split at hk
        · rename_i hc
          cases hk
          simp only [Bool.and_eq_true] at hc
          obtain ⟨hv, hl⟩ := hc
          have hv := Nat.eq_of_beq_eq_true hv
          have hl := Nat.le_of_ble_eq_true hl
          subst hv
          obtain ⟨ad, rfl, _, hloc⟩ := hx.ptr_inv
          have := hloc _ (live_loc hid)
          subst this
          obtain ⟨C, e, hC, hs, hle, hcs⟩ := h.box id _ hid
          have hwd : (if g then n else 1) = wd g n := by cases g <;> rfl
          have hget : ∀ j, j < cs.length → ∃ v, C[(m id).base + j]? = some v ∧ v.oneCell' = true ∧ RV H (st.env m) (cs[j]?.getD .undef) v := fun j hj => by
            have hx : cs[j]? = some cs[j] := List.getElem?_eq_getElem hj
            obtain ⟨v, a1, a2, a3⟩ := hcs j _ hx
            exact ⟨v, a1, a2, by rw [hx]; exact a3⟩
          let val : Nat → Value := fun j => (C[(m id).base + j]?).getD Go.undef
          have hval : ∀ j, j < cs.length → C[(m id).base + j]? = some (val j) := fun j hj => by
            obtain ⟨v, a1, _⟩ := hget j hj
            simp [val, a1]
          refine ⟨_, run_loadAt' ht (m id).g ((m id).base + off) (fun j => val (off + j)) (fun j hj => ?_), ?_⟩
          · rw [hwd] at hj
            rw [cell_of_row _ _ _ _ _ _ hC, Nat.add_assoc]
            exact hval _ (by omega)
          · refine partD_rel (val := val) hl (fun j c hj => ?_) (fun j c hj => ?_)
            · have hjl := (List.getElem?_eq_some_iff.1 hj).1
              obtain ⟨v, a1, a2, a3⟩ := hcs j c hj
              rw [hval j hjl] at a1; cases a1; exact a3
            · have hjl := (List.getElem?_eq_some_iff.1 hj).1
              obtain ⟨v, a1, a2, a3⟩ := hcs j c hj
              rw [hval j hjl] at a1; cases a1; exact a2
        · cases hk
      · cases hk
    · cases hk
  · cases hk

theorem run_storeAt' {t : TypeId} {n : Nat} {g : Bool} (ht : tyI P t = some (n, g)) (gb o : Nat) (v : Value) (hn : v.cells.size = n) (C : Array Value) (e : TypeId) (hC : w.heap[gb]? = some (.cells C e (0, 0)))
    (hfit : o + v.cells.size ≤ C.size) (h1 : ∀ u ∈ v.cells, u.oneCell' = true) :
    (Instr.storeAt t (.pointer (some ⟨gb, o, none⟩)) v).run P w = .ok () (w.setRow gb (C.toList.take o ++ v.cells.toList ++ C.toList.drop (o + v.cells.toList.length)).toArray) := by
  have hst := run_storeCells_at P gb o e v.cells.toList 0 C w hC (by simpa using hfit) (fun u hu => h1 u (Array.mem_toList_iff.1 hu))
  simp only [Nat.add_zero] at hst
  simp only [Instr.storeAt, Instr.sureAddr, storeVar, Sem.run_bind, Sem.run_pure, Result.andThen_ok, run_sizeOf' ht]
  rw [if_neg (by simpa using hn)]
  simpa using hst

/-- The cells of a row that is written to. -/
theorem row_put {E : Env} {cs ds : List AV} {C : Array Value} {vs : List Value} {base off : Nat} (hle : base + cs.length ≤ C.size) (hcs : ∀ j c, cs[j]? = some c → ∃ v, C[base + j]? = some v ∧ v.oneCell' = true ∧ RV H E c v) (hd : CellsRel (RV H E) ds vs) (hoff : off ≤ cs.length) (hfit : base + off + ds.length ≤ C.size) :
    ∀ j c, (cs.take off ++ (ds ++ cs.drop (off + ds.length)))[j]? = some c → ∃ v, ((C.toList.take (base + off) ++ vs ++ C.toList.drop (base + off + vs.length)).toArray)[base + j]? = some v ∧ v.oneCell' = true ∧ RV H E c v := by
  intro j c hj
  have e2 := hd.1
  simp only [List.getElem?_append, List.length_take, List.getElem?_take, List.getElem?_drop] at hj
  simp only [List.getElem?_toArray, List.append_assoc, List.getElem?_append, List.length_take, List.getElem?_take, List.getElem?_drop, Array.length_toList, Array.getElem?_toList]
  have m1 : min off cs.length = off := by omega
  have m2 : min (base + off) C.size = base + off := by omega
  rw [m1] at hj; rw [m2]
  by_cases c1 : j < off
  · rw [if_pos c1, if_pos c1] at hj
    rw [if_pos (by omega), if_pos (by omega)]
    exact hcs j c hj
  · rw [if_neg c1] at hj
    rw [if_neg (by omega)]
    by_cases c2 : j - off < ds.length
    · rw [if_pos c2] at hj
      rw [if_pos (by omega), show base + j - (base + off) = j - off by omega]
      exact hd.2 _ c hj
    · rw [if_neg c2] at hj
      rw [if_neg (by omega)]
      obtain ⟨v, a1, a2, a3⟩ := hcs _ c hj
      exact ⟨v, by rw [← a1]; congr 1; omega, a2, a3⟩

theorem below_setRow (h : RelH m H B H0 gl (lkb st.hp) st.nx w) {id : Nat} {b : Box} (hid : lkb st.hp id = some b) (cs : Array Value) : Below B w (w.setRow (m id).g cs) := by
  have := (h.sep id b hid).1
  exact ⟨rfl, rfl, rfl, by simp [World.setRow], fun k hk => setRow_other w _ k _ (by omega)⟩

theorem xstore_ok (h : RelS m H B H0 gl rest st a.tmps w) (hd : dst = none) {t : TypeId} {x y : AV} {u v : Value} {r : AV × Option (Nat × Box)} (hx : RV H (st.env m) x u) (hy : RV H (st.env m) y v) (hk : xstore P t x y (lkb st.hp) = some r) :
    OpOk P B H0 gl rest a w dst (st.eff dst r) (do Instr.storeAt t u v; pure .skip) := by
  subst hd
  unfold xstore at hk
  split at hk
  · rename_i n g ht
    split at hk
    · rename_i id ver off
      split at hk
      · rename_i v' cs hid
        split at hk
        · rename_i hc
          cases hk
          simp only [Bool.and_eq_true] at hc
          obtain ⟨hv, hl, hok, hn⟩ := hc
          have hv := Nat.eq_of_beq_eq_true hv
          have hl := Nat.le_of_ble_eq_true hl
          have hn := Nat.eq_of_beq_eq_true hn
          subst hv
          obtain ⟨ad, rfl, _, hloc⟩ := hx.ptr_inv
          have := hloc _ (live_loc hid)
          subst this
          obtain ⟨C, e, hC, hs, hle, hcs⟩ := h.heap.box id _ hid
          have hyc := hy.cellsRel hok
          have hvn : v.cells.size = n := by rw [← hn, hyc.1]; simp
          have hvl : v.cells.toList.length = y.cells.length := by rw [hyc.1]
          have hE := env_same (m := m) (hp := lkb st.hp) (cs' := cs.take off ++ (y.cells ++ cs.drop (off + n))) (l := m id) hid rfl
          have hsep := h.heap.sep id _ hid
          have hrow := row_put (base := (m id).base) (off := off) hle hcs hyc (by omega) (by omega)
          have hh := h.heap.one (id := id) (b := .cells v' (cs.take off ++ (y.cells ++ cs.drop (off + n)))) (l := m id) (w' := w.setRow (m id).g (C.toList.take ((m id).base + off) ++ v.cells.toList ++ C.toList.drop ((m id).base + off + v.cells.toList.length)).toArray)
            (fun k _ hk => setRow_other w _ k _ hk) (by simp [World.setRow]) hE ⟨hsep.1, by simp [World.setRow]; exact hsep.2.1, hsep.2.2⟩ (fun id' b' hne hb' e => hne (h.heap.inj id' id b' _ hb' hid e)) (by
              rcases Nat.lt_or_ge id st.nx with hlt | hge
              · exact hlt
              · have := h.heap.fresh id hge; rw [this] at hid; cases hid) (Nat.le_refl _) (by
              refine ⟨_, e, setRow_heap w _ C _ e _ hC, ?_, ?_, fun j c hj => ?_⟩
              · simp; omega
              · simp; omega
              · rw [← hn] at hj
                obtain ⟨v2, a1, a2, a3⟩ := hrow j c hj
                exact ⟨v2, a1, a2, a3.mono (.refl _) hE⟩) (fun ver cs2 e2 => by
              cases e2
              rcases h.heap.ty id _ _ hid with h0 | ⟨h1, C2, fr, h2⟩
              · exact .inl h0
              · rw [hC] at h2; cases h2
                exact .inr ⟨h1, _, _, setRow_heap w _ C _ _ _ hC⟩)
          have hm : updF m id (m id) = m := by funext k; simp only [updF]; split <;> simp [*]
          refine OpOk.heap (v := Go.undef) h rfl ?_ (.inr ⟨rfl, rfl⟩) (below_setRow h.heap hid _) hh hE (.imm _ _ (.undef _))
          rw [Sem.run_bind, run_storeAt' ht (m id).g ((m id).base + off) v hvn C e hC (by omega) (fun u hu => by
            obtain ⟨j, hj, rfl⟩ := Array.mem_iff_getElem.1 hu
            obtain ⟨u2, h3, h4, _⟩ := hyc.2 j _ (List.getElem?_eq_getElem (by rw [hyc.1]; simpa using hj))
            rw [Array.getElem?_toList, Array.getElem?_eq_getElem hj] at h3
            cases h3; exact h4)]
          rfl
        · cases hk
      · cases hk
    · cases hk
  · cases hk
end
end HX
