/- A walk whose conditions the kernel works out: states made smaller; code; loops; functions. -/
import Derived.Test.YtcphiogbjdehhaaDoorHxWp2
namespace HX
open Go Go.RowKit

/- A state made smaller: some slots, some boxes, numbered anew. -/
def refId : AV → Option Nat
  | .ptr id _ _ => some id
  | .bs id _ _ _ _ => some id
  | _ => none
def follow (hp : Hp) : AV → List Nat → Option Nat
  | v, [] => refId v
  | v, i :: p => match refId v with
    | some id => match hp id with
      | some (.cells _ cs) => match cs[i]? with
        | some c => follow hp c p
        | none => none
      | _ => none
    | none => none
def kbIds (st : St) : List KB → List (Nat × Bool)
  | [] => []
  | ⟨s, p, q⟩ :: r => match follow (lkb st.hp) (st.get s) p with
    | some id => (id, q) :: kbIds st r
    | none => kbIds st r
def idxN : List (Nat × Bool) → Nat → Option Nat
  | [], _ => none
  | (k, _) :: r, id => match Nat.beq k id with
    | true => some 0
    | false => match idxN r id with
      | some j => some (j + 1)
      | none => none
def nodN : List (Nat × Bool) → Bool
  | [] => true
  | (k, _) :: r => match idxN r k with
    | some _ => false
    | none => nodN r
def curV (hp : Hp) (id ver : Nat) : Bool := match hp id with
  | some (.cells v _) => Nat.beq v ver
  | _ => false
def ren (hp : Hp) (ids : List (Nat × Bool)) : Nat → AV → AV
  | 0, _ => .undef
  | k + 1, v => match v with
    | .ptr id ver off => match idxN ids id with
      | some j => match curV hp id ver with
        | true => .ptr j (ver % 4096) off
        | false => .undef
      | none => .undef
    | .bs id ver sz off len => match idxN ids id with
      | some j => match curV hp id ver with
        | true => .bs j (ver % 4096) sz off len
        | false => .undef
      | none => .undef
    | .yld _ => .undef
    | .agg cs => .agg (cs.map (ren hp ids k))
    | .tup cs => .tup (cs.map (ren hp ids k))
    | .fn f cs => .fn f (cs.map (ren hp ids k))
    | v => v

/-- Holds no reference to a box. -/
def Imm (c : AV) : Prop := ∀ H E v, RV H E c v → RelI H c v
structure AllImm (cs : List AV) : Prop where
  ok : ∀ c ∈ cs, Imm c

def wbs (hp : Hp) (all : List (Nat × Bool)) : List (Nat × Bool) → (List Bx → Prop) → Prop
  | [], K => K []
  | (id, q) :: r, K => match hp id with
    | some (.cells ver cs) => match q with
      | true => AllImm cs ∧ wbs hp all r (fun l => K ((ver % 4096, cs) :: l))
      | false => wbs hp all r (fun l => K ((ver % 4096, cs.map (ren hp all 12)) :: l))
    | _ => False
def wweak (ks : List Nat) (kb : List KB) (st : St) (K : List AV → List Bx → Prop) : Prop :=
  match nodN (kbIds st kb) with
  | true => wbs (lkb st.hp) (kbIds st kb) (kbIds st kb) (fun bs => K (ks.map fun k => ren (lkb st.hp) (kbIds st kb) 12 (st.get k)) bs)
  | false => False

def slOf : List Nat → List AV → Tr AV
  | k :: ks, v :: vs => pt (slOf ks vs) k v
  | _, _ => .nil
def hpOf : Nat → List Bx → Tr Box
  | _, [] => .nil
  | j, (tg, cs) :: r => pt (hpOf (j + 1) r) j (.cells tg cs)
def headSt (n : Nat) (ks : List Nat) (vs : List AV) (bs : List Bx) : St := ⟨n, slOf ks vs, hpOf 0 bs, bs.length⟩

theorem lk_nil {α : Type} (d : α) (k : Nat) : lk d .nil k = d := by unfold lk; cases path k <;> rfl

theorem lkb_hpOf : ∀ (bs : List Bx) (j k : Nat), lkb (hpOf j bs) k = if j ≤ k then (bs[k - j]?).map (fun b => .cells b.1 b.2) else none
  | [], j, k => by simp [hpOf, lkb_nil]
  | (tg, cs) :: r, j, k => by
    simp only [hpOf]
    rw [lkb_pt]
    by_cases h : k = j
    · subst h; simp [updF_same]
    · rw [updF_ne _ _ h, lkb_hpOf r (j + 1) k]
      by_cases h' : j ≤ k
      · rw [if_pos h', if_pos (by omega)]
        have : k - j = (k - (j + 1)) + 1 := by omega
        rw [this, List.getElem?_cons_succ]
      · rw [if_neg h', if_neg (by omega)]

theorem idxN_some : ∀ {ids : List (Nat × Bool)} {id j : Nat}, idxN ids id = some j → ∃ q, ids[j]? = some (id, q)
  | (k, q) :: r, id, j, h => by
    simp only [idxN] at h
    split at h
    · rename_i hk; cases h; obtain rfl := Nat.eq_of_beq_eq_true hk; exact ⟨q, rfl⟩
    · split at h
      · rename_i j' hj; cases h; obtain ⟨q', h'⟩ := idxN_some hj; exact ⟨q', by simpa using h'⟩
      · cases h
theorem idxN_none : ∀ {ids : List (Nat × Bool)} {id : Nat}, idxN ids id = none → ∀ (j : Nat) (q : Bool), ids[j]? ≠ some (id, q)
  | [], id, _, j, q => by simp
  | (k, q0) :: r, id, h, j, q => by
    simp only [idxN] at h
    split at h
    · cases h
    · rename_i hk
      split at h
      · cases h
      · rename_i hn
        cases j with
        | zero =>
          simp only [List.getElem?_cons_zero, ne_eq, Option.some.injEq, Prod.mk.injEq, not_and]
          intro e; subst e
          have : Nat.beq k k = true := Nat.beq_refl k
          rw [this] at hk; cases hk
        | succ j => rw [List.getElem?_cons_succ]; exact idxN_none hn j q
theorem nodN_inj : ∀ {ids : List (Nat × Bool)}, nodN ids = true → ∀ {i j id : Nat} {q q' : Bool}, ids[i]? = some (id, q) → ids[j]? = some (id, q') → i = j
  | [], _, i, j, id, q, q', hi, _ => by simp at hi
  | (k, q0) :: r, h, i, j, id, q, q', hi, hj => by
    simp only [nodN] at h
    split at h
    · cases h
    · rename_i hn
      cases i with
      | zero =>
        simp only [List.getElem?_cons_zero, Option.some.injEq, Prod.mk.injEq] at hi
        cases j with
        | zero => rfl
        | succ j => rw [List.getElem?_cons_succ, ← hi.1] at hj; exact absurd hj (idxN_none hn j q')
      | succ i =>
        cases j with
        | zero =>
          simp only [List.getElem?_cons_zero, Option.some.injEq, Prod.mk.injEq] at hj
          rw [List.getElem?_cons_succ, ← hj.1] at hi; exact absurd hi (idxN_none hn i q)
        | succ j =>
          rw [List.getElem?_cons_succ] at hi hj
          rw [nodN_inj h hi hj]

section
variable {hp : Hp} {ids : List (Nat × Bool)} {m : Nat → Lc} {H : HV} {hp' : Hp}

theorem curV_ok {id ver : Nat} (h : curV hp id ver = true) : ∃ cs, hp id = some (.cells ver cs) := by
  unfold curV at h
  split at h
  · rename_i v cs hh; rw [← Nat.eq_of_beq_eq_true h]; exact ⟨cs, hh⟩
  · cases h

theorem ren_ok (hhp : ∀ (j id : Nat) (q : Bool) (ver : Nat) (cs : List AV), ids[j]? = some (id, q) → hp id = some (.cells ver cs) → ∃ cs, hp' j = some (.cells (ver % 4096) cs)) : ∀ (k : Nat) (v : AV) (u : Value), RV H (envOf hp m) v u → RV H (envOf hp' fun j => m ((ids[j]?).map (·.1) |>.getD 0)) (ren hp ids k v) u
  | 0, _, _, _ => .imm _ _ (.undef _)
  | k + 1, v, u, h => by
    have ih := ren_ok hhp k
    have href : ∀ id ver j, idxN ids id = some j → curV hp id ver = true → (envOf hp' fun j => m ((ids[j]?).map (·.1) |>.getD 0)).al j (ver % 4096) ∧ (∀ l, (envOf hp' fun j => m ((ids[j]?).map (·.1) |>.getD 0)).loc j (ver % 4096) = some l → (envOf hp m).loc id ver = some l) := by
      intro id ver j hj hc
      obtain ⟨q, hq⟩ := idxN_some hj
      obtain ⟨cs0, hcs0⟩ := curV_ok hc
      obtain ⟨cs, hcs⟩ := hhp j id q ver cs0 hq hcs0
      refine ⟨⟨_, hcs, Nat.le_refl _⟩, fun l hl => ?_⟩
      simp only [envOf, hcs, if_true, hq, Option.map_some, Option.getD_some] at hl
      simp only [envOf, hcs0, if_true]
      exact hl
    cases v with
    | ptr id ver off =>
      simp only [ren]
      split
      · rename_i j hj
        split
        · rename_i hc
          obtain ⟨a, rfl, _, hloc⟩ := h.ptr_inv
          obtain ⟨h1, h2⟩ := href id ver j hj hc
          exact .ptr _ _ _ _ h1 fun l hl => hloc l (h2 l hl)
        · exact .imm _ _ (.undef _)
      · exact .imm _ _ (.undef _)
    | bs id ver sz off len =>
      simp only [ren]
      split
      · rename_i j hj
        split
        · rename_i hc
          obtain ⟨a, cap, rfl, _, hl, hm, hloc⟩ := h.bs_inv
          obtain ⟨h1, h2⟩ := href id ver j hj hc
          exact .bs _ _ _ _ _ _ _ h1 hl hm fun l hl => hloc l (h2 l hl)
        · exact .imm _ _ (.undef _)
      · exact .imm _ _ (.undef _)
    | yld id => exact .imm _ _ (.undef _)
    | agg cs =>
      obtain ⟨vs, rfl, hl, h1, hc⟩ := h.agg_inv
      refine .agg _ vs (by simpa using hl) h1 fun j c v hj hv => ?_
      rw [List.getElem?_map, Option.map_eq_some_iff] at hj
      obtain ⟨c0, hc0, rfl⟩ := hj
      exact ih c0 v (hc j c0 v hc0 hv)
    | tup cs =>
      obtain ⟨vs, rfl, hl, hc⟩ := h.tup_inv
      refine .tup _ vs (by simpa using hl) fun j c v hj hv => ?_
      rw [List.getElem?_map, Option.map_eq_some_iff] at hj
      obtain ⟨c0, hc0, rfl⟩ := hj
      exact ih c0 v (hc j c0 v hc0 hv)
    | fn f cs =>
      obtain ⟨vs, rfl, hl, hc⟩ := h.fn_inv
      refine .fn f _ vs (by simpa using hl) fun j c v hj hv => ?_
      rw [List.getElem?_map, Option.map_eq_some_iff] at hj
      obtain ⟨c0, hc0, rfl⟩ := hj
      exact ih c0 v (hc j c0 v hc0 hv)
    | _ => cases h with | imm _ _ h => exact .imm _ _ h
end

section
variable {m : Nat → Lc} {H : HV} {B : Nat} {H0 : HV} {gl : Nat → AV} {st : St} {tmps : Array Value} {w : World}

theorem wbs_inv {hp : Hp} {all : List (Nat × Bool)} : ∀ {ids : List (Nat × Bool)} {K : List Bx → Prop}, wbs hp all ids K → ∃ bs, K bs ∧ bs.length = ids.length ∧
    ∀ (j id : Nat) (q : Bool), ids[j]? = some (id, q) → ∃ ver cs cs', hp id = some (.cells ver cs) ∧ bs[j]? = some (ver % 4096, cs') ∧ ((q = true ∧ cs' = cs ∧ AllImm cs) ∨ cs' = cs.map (ren hp all 12))
  | [], K, h => ⟨[], h, rfl, fun j id q hj => by simp at hj⟩
  | (id0, q0) :: r, K, h => by
    simp only [wbs] at h
    split at h
    · rename_i ver cs hid
      have go : ∀ cs' : List AV, ((q0 = true ∧ cs' = cs ∧ AllImm cs) ∨ cs' = cs.map (ren hp all 12)) → wbs hp all r (fun l => K ((ver % 4096, cs') :: l)) → ∃ bs, K bs ∧ bs.length = ((id0, q0) :: r).length ∧
          ∀ (j id : Nat) (q : Bool), ((id0, q0) :: r)[j]? = some (id, q) → ∃ ver cs cs', hp id = some (.cells ver cs) ∧ bs[j]? = some (ver % 4096, cs') ∧ ((q = true ∧ cs' = cs ∧ AllImm cs) ∨ cs' = cs.map (ren hp all 12)) := fun cs' hcs' hw => by
        obtain ⟨bs, h1, h2, h3⟩ := wbs_inv hw
        refine ⟨(ver % 4096, cs') :: bs, h1, by simp [h2], fun j id q hj => ?_⟩
        cases j with
        | zero => simp only [List.getElem?_cons_zero, Option.some.injEq, Prod.mk.injEq] at hj; obtain ⟨rfl, rfl⟩ := hj; exact ⟨ver, cs, cs', hid, rfl, hcs'⟩
        | succ j => simpa using h3 j id q (by simpa using hj)
      split at h
      · exact go cs (.inl ⟨rfl, rfl, h.1⟩) h.2
      · exact go _ (.inr rfl) h
    · cases h

theorem slOf_get : ∀ (ks : List Nat) (f : Nat → AV) (k : Nat), lk .undef (slOf ks (ks.map f)) k = .undef ∨ lk .undef (slOf ks (ks.map f)) k = f k
  | [], f, k => .inl (lk_nil _ _)
  | a :: ks, f, k => by
    simp only [List.map_cons, slOf]
    rw [lk_pt]
    by_cases h : a = k
    · subst h; simp
    · rw [if_neg h]; exact slOf_get ks f k

theorem wweak_ok {ks : List Nat} {kb : List KB} {K : List AV → List Bx → Prop} (h : RelS m H B H0 gl [] st tmps w) (hw : wweak ks kb st K) : ∃ vs bs m', K vs bs ∧ RelS m' H B H0 gl [] (headSt st.n ks vs bs) tmps w := by
  unfold wweak at hw
  split at hw
  · rename_i hnod
    obtain ⟨bs, hK, hlen, hbs⟩ := wbs_inv hw
    generalize kbIds st kb = ids at *
    have hget : ∀ j, (lkb (hpOf 0 bs)) j = (bs[j]?).map (fun b => .cells b.1 b.2) := fun j => by rw [lkb_hpOf]; simp
    have hhp : ∀ (j id : Nat) (q : Bool) (ver : Nat) (cs : List AV), ids[j]? = some (id, q) → lkb st.hp id = some (.cells ver cs) → ∃ cs, lkb (hpOf 0 bs) j = some (.cells (ver % 4096) cs) := fun j id q ver cs hj hid => by
      obtain ⟨ver', cs0, cs', h1, h2, _⟩ := hbs j id q hj
      rw [hid] at h1; cases h1
      exact ⟨cs', by rw [hget, h2]; rfl⟩
    have hren := fun k v u hv => ren_ok (H := H) (m := m) (hp := lkb st.hp) hhp k v u hv
    have hinv : ∀ j b, lkb (hpOf 0 bs) j = some b → ∃ id q ver cs cs', ids[j]? = some (id, q) ∧ b = .cells (ver % 4096) cs' ∧ lkb st.hp id = some (.cells ver cs) ∧ ((q = true ∧ cs' = cs ∧ AllImm cs) ∨ cs' = cs.map (ren (lkb st.hp) ids 12)) := fun j b hb => by
      rw [hget, Option.map_eq_some_iff] at hb
      obtain ⟨⟨tg, cs'⟩, hcs', rfl⟩ := hb
      have hj : j < ids.length := by rw [← hlen]; exact (List.getElem?_eq_some_iff.1 hcs').1
      obtain ⟨ver, cs, cs2, a1, a2, a3⟩ := hbs j ids[j].1 ids[j].2 (List.getElem?_eq_getElem hj)
      rw [hcs'] at a2; cases a2
      exact ⟨_, _, ver, cs, _, List.getElem?_eq_getElem hj, rfl, a1, a3⟩
    have hm : ∀ (j id : Nat) (q : Bool), ids[j]? = some (id, q) → m ((ids[j]?).map (·.1) |>.getD 0) = m id := fun j id q hj => by rw [hj]; rfl
    refine ⟨_, bs, fun j => m ((ids[j]?).map (·.1) |>.getD 0), hK, ⟨⟨h.heap.sat, h.heap.old, h.heap.low, fun id hid => ?_, fun j b hb => ?_, fun j b hb => ?_, fun i j b b' hi hj he => ?_, h.heap.gv, h.heap.gl, fun j v2 cs2 hb => ?_⟩, h.size, fun k => ?_, fun p hp => by simp at hp⟩⟩
    · show lkb (hpOf 0 bs) id = none
      have : bs.length ≤ id := hid
      rw [hget, List.getElem?_eq_none this]; rfl
    · obtain ⟨id, q, ver, cs, cs', hj, rfl, hid, hcs⟩ := hinv j b hb
      show BoxOk H _ (.cells (ver % 4096) cs') (m ((ids[j]?).map (·.1) |>.getD 0)) w
      rw [hm j id q hj]
      obtain ⟨C, e, c1, c2, c3, c4⟩ := h.heap.box id _ hid
      rcases hcs with ⟨_, rfl, himm⟩ | rfl
      · refine ⟨C, e, c1, c2, c3, fun i c hc => ?_⟩
        obtain ⟨v, b1, b2, b3⟩ := c4 i c hc
        exact ⟨v, b1, b2, .imm _ _ (himm.ok c (List.mem_of_getElem? hc) _ _ _ b3)⟩
      · refine ⟨C, e, c1, c2, by simpa using c3, fun i c hc => ?_⟩
        rw [List.getElem?_map, Option.map_eq_some_iff] at hc
        obtain ⟨c0, hc0, rfl⟩ := hc
        obtain ⟨v, b1, b2, b3⟩ := c4 i c0 hc0
        exact ⟨v, b1, b2, hren 12 c0 v b3⟩
    · obtain ⟨id, q, ver, cs, cs', hj, rfl, hid, hcs⟩ := hinv j b hb
      show B ≤ (m ((ids[j]?).map (·.1) |>.getD 0)).g ∧ _
      rw [hm j id q hj]
      exact h.heap.sep id _ hid
    · obtain ⟨id, q, ver, cs, cs', hi', _, hid, _⟩ := hinv i b hi
      obtain ⟨id2, q2, ver2, cs2, cs2', hj', _, hid2, _⟩ := hinv j b' hj
      rw [hm i id q hi', hm j id2 q2 hj'] at he
      have := h.heap.inj id id2 _ _ hid hid2 he
      subst this
      exact nodN_inj hnod hi' hj'
    · obtain ⟨id, q, ver, cs, cs', hj, hbe, hid, hcs⟩ := hinv j _ hb
      cases hbe
      show TyOk w (m ((ids[j]?).map (·.1) |>.getD 0)) _
      rw [hm j id q hj]
      have := h.heap.ty id _ _ hid
      unfold TyOk at this ⊢
      rw [Nat.mod_mod]; exact this
    · show RV H _ (lk .undef (slOf ks (ks.map fun k => ren (lkb st.hp) ids 12 (st.get k))) k) _
      rcases slOf_get ks (fun k => ren (lkb st.hp) ids 12 (st.get k)) k with e | e
      · rw [e]; exact .imm _ _ (.undef _)
      · rw [e]; exact hren 12 _ _ (h.slot k)
  · cases hw
end

/- code -/
/-- From every world that a state tells of the code comes to an exit and a state that K allows. -/
def Wk (P : Program) (gl : Nat → AV) (top : Bool) (c : Code) (st : St) (K : Exit → St → Prop) : Prop :=
  ∀ (B : Nat) (H0 : HV) (rest : List (AV × Value)) (m : Nat → Lc) (H : HV) (a : Act) (w : World), (top = true → rest = []) → RelS m H B H0 gl rest st a.tmps w →
    c.wpIn (FW none) 0 P (fun e a' w' => ∃ st' m' H', K e st' ∧ a'.defers = a.defers ∧ Below B w w' ∧ RelS m' H' B H0 gl rest st' a'.tmps w') a w

structure LoopOk (P : Program) (gl : Nat → AV) (n : Nat) (c : Code) (ks : List Nat) (vs : List AV) (bs : List Bx) (kx : List Nat) (alts : List Alt) : Prop where
  ok : Wk P gl true (.loop c) (headSt n ks vs bs) (fun e s => ∃ alt ∈ alts, alt.φ ∧ e = alt.ex ∧ s = headSt n kx alt.vs alt.bs)

def wAlts : List Alt → (Exit → List AV → List Bx → Prop) → Prop
  | [], _ => True
  | [a], K => a.φ → K a.ex a.vs a.bs
  | a :: b :: r, K => (a.φ → K a.ex a.vs a.bs) ∧ wAlts (b :: r) K

theorem wAlts_ok : ∀ {l : List Alt} {K : Exit → List AV → List Bx → Prop}, wAlts l K → ∀ a ∈ l, a.φ → K a.ex a.vs a.bs
  | [], K, _, a, ha, _ => by simp at ha
  | [b], K, h, a, ha, hp => by simp at ha; subst ha; exact h hp
  | b :: c :: r, K, h, a, ha, hp => by
    rcases List.mem_cons.1 ha with rfl | ha
    · exact h.1 hp
    · exact wAlts_ok (l := c :: r) h.2 a ha hp

def regId : Code → Nat
  | .region id _ _ => id + 1
  | .seq a b => match regId a with
    | 0 => regId b
    | k + 1 => k + 1
  | .cond _ a b => match regId a with
    | 0 => regId b
    | k + 1 => k + 1
  | .block _ c => regId c
  | .loop c => regId c
  | _ => 0
def exNorm (e : Exit) : Bool := match e with | .normal => true | _ => false
def exIs (e : Exit) (id : Nat) : Bool := match e with | .exit i => Nat.beq i id | _ => false

def wcode (P : Program) (gl : Nat → AV) (ch0 : CallH) (wf : WF) (hs : Hints) (top : Bool) : Nat → Code → St → (Exit → St → Prop) → Prop
  | 0, _, _, _ => False
  | k + 1, c, st, K => match c with
    | .skip => K .normal st
    | .label _ => K .normal st
    | .exit id => K (.exit id) st
    | .ret => K .ret st
    | .region _ ops draw => match draw with
      | true => match barrier ops.toList with
        | some o => wrunD P gl ch0 hs ops.toList st.nx (List.range (ops.toList.length - 1)) (st.bump ops.toList.length) (fun s => match dstOk o.dst s.n with
          | true => wseqO P gl ch0 wf hs o s (K .normal)
          | false => False)
        | none => wrunD P gl ch0 hs ops.toList st.nx (List.range ops.toList.length) (st.bump ops.toList.length) (K .normal)
      | false => wseq P gl ch0 wf hs ops.toList ops.toList st (K .normal)
    | .seq a b => wcode P gl ch0 wf hs top k a st (fun e s => match exNorm e with
      | true => wcode P gl ch0 wf hs top k b s K
      | false => K e s)
    | .cond c a b => match st.ev gl c with
      | .bool t => match t with
        | true => wcode P gl ch0 wf hs top k a st K
        | false => wcode P gl ch0 wf hs top k b st K
      | _ => False
    | .block id c => wcode P gl ch0 wf hs top k c st (fun e s => match exIs e id with
      | true => K .normal s
      | false => K e s)
    | .loop c => match lkH hs (3000000 + regId c) with
      | some (.l ks kb kx _ alts) => match top with
        | true => wweak ks kb st (fun vs bs => LoopOk P gl st.n c ks vs bs kx alts ∧ wAlts alts (fun e vs' bs' => K e (headSt st.n kx vs' bs')))
        | false => False
      | _ => wcode P gl ch0 wf hs top k c st (fun e s => match exNorm e with
        | true => wcode P gl ch0 wf hs top k (.loop c) s K
        | false => K e s)
    | _ => False

section
variable {P : Program} {gl : Nat → AV} {ch0 : CallH} {wf : WF} {hs : Hints}

theorem Wk.mono {top : Bool} {c : Code} {st : St} {K K' : Exit → St → Prop} (h : Wk P gl top c st K) (hq : ∀ e s, K e s → K' e s) : Wk P gl top c st K' := fun B H0 rest m H a w ht hr =>
  wpIn_mono (h B H0 rest m H a w ht hr) fun _ _ _ ⟨s, m', H', q, d, b, r⟩ => ⟨s, m', H', hq _ _ q, d, b, r⟩

theorem exNorm_t {e : Exit} (h : exNorm e = true) : e = .normal := by cases e <;> first | rfl | cases h
theorem exNorm_f {e : Exit} (h : exNorm e = false) : e ≠ .normal := fun he => by subst he; cases h
theorem exIs_t {e : Exit} {id : Nat} (h : exIs e id = true) : e = .exit id := by
  cases e with
  | exit i => rw [Nat.eq_of_beq_eq_true h]
  | _ => cases h
theorem exIs_f {i id : Nat} (h : exIs (.exit i) id = false) : i ≠ id := fun e => by
  subst e
  have : Nat.beq i i = true := Nat.beq_refl i
  simp only [exIs, this] at h; cases h

theorem wcode_ok (h0 : ch0.Ok P gl) (hwf : WF.Ok P gl wf) (hmix : P.follows .mixedOrders = true) (top : Bool) : ∀ (J k : Nat), k ≤ J → ∀ (c : Code) (st : St) (K : Exit → St → Prop), okCode c = true → wcode P gl ch0 wf hs top k c st K → Wk P gl top c st K
  | _, 0, _, _, _, _, _, h => h.elim
  | 0, k + 1, hJ, _, _, _, _, _ => by omega
  | J + 1, k + 1, hJ, c, st, K, hok, h => by
    have ihS := wcode_ok h0 hwf hmix top J
    have ih := ihS k (by omega)
    intro B H0 rest m H a w htop hr
    cases c with
    | skip => exact wpIn_skip ⟨st, m, H, h, rfl, Below.refl _ _, hr⟩
    | label l => exact wpIn_label ⟨st, m, H, h, rfl, Below.refl _ _, hr⟩
    | exit id => exact wpIn_exit ⟨st, m, H, h, rfl, Below.refl _ _, hr⟩
    | ret => exact wpIn_ret ⟨st, m, H, h, rfl, Below.refl _ _, hr⟩
    | region id ops draw =>
      simp only [wcode] at h
      cases draw with
      | true =>
        simp only [okCode, Bool.not_true, Bool.false_or, Bool.and_eq_true] at hok
        simp only at h
        split at h
        · rename_i o ho
          obtain ⟨hol, hg⟩ := barrier_inv ho
          have hbar : barOk ops.toList = true := by have := hok.2; rw [ho] at this; exact this
          obtain ⟨cb, s, hcb, hK, hrun⟩ := wrunD_ok h0 _ _ List.nodup_range h
          split at hK
          · rename_i hdst
            have := region_draw_bar hcb hmix hok.1 hbar hol hg (id := id) (ro := none) (n := 0) (Q := fun e a' w' => ∃ st' m' H', K e st' ∧ a'.defers = a.defers ∧ Below B w w' ∧ RelS m' H' B H0 gl rest st' a'.tmps w') hr (hrun cb fun _ _ => rfl) fun a' w' m' H' K2 hd hb hr' hK2 => ?_
            · simpa using this
            · exact wseqO_ok h0 hwf hr' hdst hK none 0 K2 _ fun a2 w2 m2 H2 s2 hs2 hd2 hb2 hr2 => hK2 _ _ ⟨s2, m2, H2, hs2, hd2.trans hd, hb.trans hb2, hr2⟩
          · cases hK
        · obtain ⟨cb, s, hcb, hK, hrun⟩ := wrunD_ok h0 _ _ List.nodup_range h
          have := region_draw hcb hmix hok.1 (id := id) (ro := none) (n := 0) (Q := fun e a' w' => ∃ st' m' H', K e st' ∧ a'.defers = a.defers ∧ Below B w w' ∧ RelS m' H' B H0 gl rest st' a'.tmps w') hr (hrun cb fun _ _ => rfl) fun a' w' m' H' hd hb hr' => ⟨s, m', H', hK, hd, hb, hr'⟩
          simpa using this
      | false =>
        refine wpIn_region ?_
        have := wseq_ok h0 hwf (all := ops.toList) (ro := none) (n := 0) (d0 := a.defers) (w0 := w) (Q := fun e a' w' => ∃ st' m' H', K e st' ∧ a'.defers = a.defers ∧ Below B w w' ∧ RelS m' H' B H0 gl rest st' a'.tmps w') (fun s a' w' m' H' hk hd hb hr' => ⟨s, m', H', hk, hd, hb, hr'⟩) [] ops.toList st a w m H rfl h rfl (Below.refl _ _) hr
        simpa [List.range_eq_range'] using this
    | seq x y =>
      simp only [wcode] at h
      simp only [okCode, Bool.and_eq_true] at hok
      refine wpIn_seq (wpIn_mono (ih x st _ hok.1 h B H0 rest m H a w htop hr) fun e a' w' hp => ?_)
      obtain ⟨s, m', H', hq, hd, hb, hr'⟩ := hp
      split at hq
      · rename_i he
        obtain rfl := exNorm_t he
        refine wpIn_mono (ih y s K hok.2 hq B H0 rest m' H' a' w' htop hr') fun e a2 w2 hp2 => ?_
        obtain ⟨s2, m2, H2, hq2, hd2, hb2, hr2⟩ := hp2
        exact ⟨s2, m2, H2, hq2, hd2.trans hd, hb.trans hb2, hr2⟩
      · rename_i he
        have := exNorm_f he
        cases e with
        | normal => exact absurd rfl this
        | _ => exact ⟨s, m', H', hq, hd, hb, hr'⟩
    | cond c x y =>
      simp only [wcode] at h
      simp only [okCode, Bool.and_eq_true] at hok
      split at h
      · rename_i t ht
        have hv := hr.ev c
        rw [ht] at hv
        cases t with
        | true => exact wpIn_cond hv.bool_inv (ih x st K hok.1 h B H0 rest m H a w htop hr)
        | false => exact wpIn_cond hv.bool_inv (ih y st K hok.2 h B H0 rest m H a w htop hr)
      · cases h
    | block id c =>
      simp only [wcode] at h
      simp only [okCode] at hok
      refine wpIn_block (wpIn_mono (ih c st _ hok h B H0 rest m H a w htop hr) fun e a' w' hp => ?_)
      obtain ⟨s, m', H', hq, hd, hb, hr'⟩ := hp
      split at hq
      · rename_i he
        obtain rfl := exIs_t he
        simp only [Exit.inBlock, if_true]
        exact ⟨s, m', H', hq, hd, hb, hr'⟩
      · rename_i he
        cases e with
        | exit i =>
          simp only [Exit.inBlock, if_neg (exIs_f he)]
          exact ⟨s, m', H', hq, hd, hb, hr'⟩
        | _ => exact ⟨s, m', H', hq, hd, hb, hr'⟩
    | loop c =>
      have hok' := hok
      simp only [okCode] at hok
      -- a loop that is unrolled
      have unroll : ∀ j, j ≤ k + 1 → ∀ (s : St) (m1 : Nat → Lc) (H1 : HV) (a1 : Act) (w1 : World), a1.defers = a.defers → Below B w w1 → RelS m1 H1 B H0 gl rest s a1.tmps w1 →
          (∃ ks kb kx kbx alts, lkH hs (3000000 + regId c) = some (.l ks kb kx kbx alts)) ∨ (wcode P gl ch0 wf hs top j (.loop c) s K → (Code.loop c).wpIn (FW none) 0 P (fun e a' w' => ∃ st' m' H', K e st' ∧ a'.defers = a.defers ∧ Below B w w' ∧ RelS m' H' B H0 gl rest st' a'.tmps w') a1 w1) := by
        intro j hj s m1 H1 a1 w1 hd1 hb1 hr1
        by_cases hl : ∃ ks kb kx kbx alts, lkH hs (3000000 + regId c) = some (.l ks kb kx kbx alts)
        · exact .inl hl
        refine .inr fun h => ?_
        refine wpIn_loop_n (j := j) (fun i a' w' => i ≤ k + 1 ∧ ∃ st1 m1 H1, wcode P gl ch0 wf hs top i (.loop c) st1 K ∧ a'.defers = a.defers ∧ Below B w w' ∧ RelS m1 H1 B H0 gl rest st1 a'.tmps w') (fun i a1 w1 hI => ?_) ⟨hj, s, m1, H1, h, hd1, hb1, hr1⟩
        obtain ⟨hi, st1, m1, H1, hx, hd1, hb1, hr1⟩ := hI
        cases i with
        | zero => exact hx.elim
        | succ i =>
          simp only [wcode] at hx
          split at hx
          · rename_i hh; exact absurd ⟨_, _, _, _, _, hh⟩ hl
          · refine wpIn_mono (ihS i (by omega) c st1 _ hok hx B H0 rest m1 H1 a1 w1 htop hr1) fun e a2 w2 hp => ?_
            obtain ⟨s2, m2, H2, hq, hd2, hb2, hr2⟩ := hp
            split at hq
            · rename_i he
              obtain rfl := exNorm_t he
              exact ⟨i, Nat.lt_succ_self _, by omega, s2, m2, H2, hq, hd2.trans hd1, hb1.trans hb2, hr2⟩
            · rename_i he
              have := exNorm_f he
              cases e with
              | normal => exact absurd rfl this
              | _ => exact ⟨s2, m2, H2, hq, hd2.trans hd1, hb1.trans hb2, hr2⟩
      rcases unroll (k + 1) (Nat.le_refl _) st m H a w rfl (Below.refl _ _) hr with ⟨ks, kb, kx, kbx, alts, hl⟩ | hgo
      · simp only [wcode, hl] at h
        split at h
        · have := htop rfl
          subst this
          obtain ⟨vs, bs, m', hq, hr'⟩ := wweak_ok hr h
          refine wpIn_mono (hq.1.ok B H0 [] m' H a w (fun _ => rfl) hr') fun e a' w' hp => ?_
          obtain ⟨s, m2, H2, ⟨alt, hal, hφ, rfl, rfl⟩, hd, hb, hr2⟩ := hp
          exact ⟨_, m2, H2, wAlts_ok hq.2 alt hal hφ, hd, hb, hr2⟩
        · cases h
      · exact hgo h
    | _ => exact h.elim
end

/-- One of these ends. -/
structure Out (alts : List Alt) (e : Exit) (vs : List AV) (bs : List Bx) : Prop where
  ok : ∃ alt ∈ alts, alt.φ ∧ e = alt.ex ∧ vs = alt.vs ∧ bs = alt.bs
theorem Out.here {φ : Prop} {e : Exit} {vs : List AV} {bs : List Bx} {r : List Alt} (h : φ) : Out (⟨φ, e, vs, bs⟩ :: r) e vs bs := ⟨⟨_, List.mem_cons_self, h, rfl, rfl, rfl⟩⟩
theorem Out.next {a : Alt} {r : List Alt} {e : Exit} {vs : List AV} {bs : List Bx} (h : Out r e vs bs) : Out (a :: r) e vs bs := by
  obtain ⟨alt, h1, h2⟩ := h.ok
  exact ⟨alt, List.mem_cons_of_mem _ h1, h2⟩

/-- One round of a loop. -/
def wround (P : Program) (gl : Nat → AV) (ch0 : CallH) (wf : WF) (hs : Hints) (k n : Nat) (c : Code) (ks : List Nat) (kb : List KB) (kx : List Nat) (kbx : List KB) (alts : List Alt) (vs : List AV) (bs : List Bx) (N : List AV → List Bx → Prop) : Prop :=
  wcode P gl ch0 wf hs true k c (headSt n ks vs bs) (fun e s => match Nat.beq s.n n with
    | true => match exNorm e with
      | true => wweak ks kb s N
      | false => wweak kx kbx s (Out alts e)
    | false => False)

section
variable {P : Program} {gl : Nat → AV} {ch0 : CallH} {wf : WF} {hs : Hints}

theorem wcode_n {top : Bool} (h0 : ch0.Ok P gl) (hwf : WF.Ok P gl wf) (hmix : P.follows .mixedOrders = true) {k : Nat} {c : Code} {st : St} {K : Exit → St → Prop} (hok : okCode c = true) (h : wcode P gl ch0 wf hs top k c st K) : Wk P gl top c st K :=
  wcode_ok h0 hwf hmix top k k (Nat.le_refl _) c st K hok h

theorem LoopOk.intro {P : Program} {gl : Nat → AV} {ch0 : CallH} {wf : WF} (h0 : ch0.Ok P gl) (hwf : WF.Ok P gl wf) (hmix : P.follows .mixedOrders = true) {n : Nat} {c : Code} {ks : List Nat} {kb : List KB} {kx : List Nat} {kbx : List KB} {alts : List Alt} (hok : okCode c = true) (k : Nat)
    (I : Nat → List AV → List Bx → Prop) (h : ∀ j vs bs, I j vs bs → ∃ hs, wround P gl ch0 wf hs k n c ks kb kx kbx alts vs bs (fun vs' bs' => ∃ i, i < j ∧ I i vs' bs')) {j : Nat} {vs : List AV} {bs : List Bx} (hI : I j vs bs) : LoopOk P gl n c ks vs bs kx alts := by
  refine ⟨fun B H0 rest m H a w htop hr => ?_⟩
  have := htop rfl
  subst this
  refine wpIn_loop_n (j := j) (fun j a' w' => ∃ vs bs m1 H1, I j vs bs ∧ a'.defers = a.defers ∧ Below B w w' ∧ RelS m1 H1 B H0 gl [] (headSt n ks vs bs) a'.tmps w') (fun j a1 w1 hI => ?_) ⟨vs, bs, m, H, hI, rfl, Below.refl _ _, hr⟩
  obtain ⟨vs, bs, m1, H1, hI, hd1, hb1, hr1⟩ := hI
  obtain ⟨hs, hw⟩ := h j vs bs hI
  refine wpIn_mono (wcode_n h0 hwf hmix hok hw B H0 [] m1 H1 a1 w1 (fun _ => rfl) hr1) fun e a2 w2 hp => ?_
  obtain ⟨s, m2, H2, hq, hd2, hb2, hr2⟩ := hp
  split at hq
  · rename_i hn
    have hn := Nat.eq_of_beq_eq_true hn
    split at hq
    · rename_i he
      obtain rfl := exNorm_t he
      obtain ⟨vs', bs', m3, ⟨i, hi, hI'⟩, hr3⟩ := wweak_ok hr2 hq
      rw [hn] at hr3
      exact ⟨i, hi, vs', bs', m3, H2, hI', hd2.trans hd1, hb1.trans hb2, hr3⟩
    · rename_i he
      have := exNorm_f he
      obtain ⟨vs', bs', m3, ho, hr3⟩ := wweak_ok hr2 hq
      rw [hn] at hr3
      obtain ⟨alt, h1, h2, rfl, rfl, rfl⟩ := ho.ok
      cases e' : alt.ex with
      | normal => exact absurd e' this
      | _ => exact ⟨_, m3, H2, ⟨alt, h1, h2, e'.symm, rfl⟩, hd2.trans hd1, hb1.trans hb2, hr3⟩
  · cases hq
end
end HX
