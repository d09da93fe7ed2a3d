/- Code as a program on abstract states, and that it is sound. -/
import Derived.Test.YtcphiogbjdehhaaDoorHxDraw4
import Derived.RangeFuncRecord
namespace HX
open Go Go.RowKit

abbrev RoundH := Nat → List AV → Tr Box → Nat → Option (AV × Tr Box × Nat)

/-- A round of a loop over a function, by contract. -/
def RoundOk (P : Program) (gl : Nat → AV) (id : Nat) (args : List AV) (hp : Tr Box) (nx : Nat) (r : AV) (hp' : Tr Box) (nx' : Nat) : Prop :=
  ∀ (m : Nat → Lc) (H : HV) (B : Nat) (H0 : HV) (rest : List (AV × Value)) (w : World) (vs : Array Value) (l : Nat), RelH m H B H0 gl (lkb hp) nx w → (envOf (lkb hp) m).lp id = some l → args.length = vs.size →
    (∀ (j : Nat) (x : AV) (v : Value), args[j]? = some x → vs[j]? = some v → RV H (envOf (lkb hp) m) x v) → (∀ p ∈ rest, RV H (envOf (lkb hp) m) p.1 p.2) →
    ∃ fn tmps as bd, (Instr.yield l vs).run P w = .ok (.round l fn tmps as bd) w ∧ ∀ ro n, RoundIn (FW ro) n P l fn tmps as bd w fun e w' =>
      ∃ v m' H', e = .returned v ∧ Below B w w' ∧ RelH m' H' B H0 gl (lkb hp') nx' w' ∧ RV H' (envOf (lkb hp') m') r v ∧ ∀ p ∈ rest, RV H' (envOf (lkb hp') m') p.1 p.2
def RoundH.Ok (P : Program) (gl : Nat → AV) (rd : RoundH) : Prop := ∀ id args hp nx r hp' nx', rd id args hp nx = some (r, hp', nx') → RoundOk P gl id args hp nx r hp' nx'

/-- A call of yield. -/
def yield? (ev : Operand → AV) (op : Op) : Option (Nat × List AV) :=
  match op with
  | .call c => match c.callee with
    | .value x => match ev x with
      | .yld id => some (id, c.args.toList.map ev)
      | _ => none
    | _ => none
  | _ => none

/-- An inlined call. -/
def xinl (ch : CallH) (rd : RoundH) (ev : Operand → AV) (op : Op) (dst : Option Nat) (st : St) : Option St :=
  match callee? ev op with
  | some (f, args) => match ch f args st.hp st.nx with
    | some (r, hp', nx') => some ((st.setHp hp' nx').putO dst r)
    | none => none
  | none => match yield? ev op with
    | some (id, args) => match rd id args st.hp st.nx with
      | some (r, hp', nx') => some ((st.setHp hp' nx').putO dst r)
      | none => none
    | none => none
/-- One operation where nothing is drawn. -/
def xseqO (P : Program) (gl : Nat → AV) (ch : CallH) (rd : RoundH) (o : Oper) (st : St) : Option St :=
  if isCall o.op then xinl ch rd (st.ev gl) o.op o.dst st
  else match xop P st.nx o.dst o.op (st.ev gl) (lkb st.hp) with
    | some r => match r.2 with
      | some _ => some ((st.bump 1).eff o.dst r)
      | none => some (st.putO o.dst r.1)
    | none => none
def xseq (P : Program) (gl : Nat → AV) (ch : CallH) (rd : RoundH) (all : List Oper) : List Oper → St → Option St
  | [], st => some st
  | o :: l, st => if dstOk o.dst st.n then (match o.guard with
    | none => match xseqO P gl ch rd o st with
      | some s => xseq P gl ch rd all l s
      | none => none
    | some (j, want) => match gslot all j with
      | some g => match gwant (st.get g) want with
        | some true => match xseqO P gl ch rd o st with
          | some s => xseq P gl ch rd all l s
          | none => none
        | some false => xseq P gl ch rd all l (st.putO o.dst (.tup []))
        | none => none
      | none => none) else none

/-- The last operation of a region that draws, if it is a call of a function value. -/
def barrier (l : List Oper) : Option Oper :=
  match l[l.length - 1]? with
  | some o => match o.op with
    | .call c => match c.callee with
      | .value (.tmp _) => match o.guard with
        | none => some o
        | _ => none
      | _ => none
    | _ => none
  | none => none

/-- Regions that draw: checked once for all. -/
def okCode : Code → Bool
  | .region _ ops draw => !draw || (drawOk ops.toList && (match barrier ops.toList with | some _ => barOk ops.toList | none => true))
  | .seq a b => okCode a && okCode b
  | .cond _ a b => okCode a && okCode b
  | .block _ c => okCode c
  | .loop c => okCode c
  | .rangeFunc _ _ a b => okCode a && okCode b
  | _ => true

def xregD (P : Program) (gl : Nat → AV) (ch : CallH) (rd : RoundH) (l : List Oper) (st : St) : Option St :=
  match barrier l with
  | some o => match runI P gl (fun _ => ch) l st.nx (List.range (l.length - 1)) (st.bump l.length) with
    | some s => if dstOk o.dst s.n then xinl ch rd (s.ev gl) o.op o.dst s else none
    | none => none
  | none => runI P gl (fun _ => ch) l st.nx (List.range l.length) (st.bump l.length)

def lift (o : Option St) : Option (Exit × St × List Nat) := match o with | some s => some (.normal, s, []) | none => none

/-- The function has a body (what the machine itself gives is never ranged over). -/
def bodied (P : Program) (f : Nat) : Bool := match P.funcs[f]? with
  | some fn => (fn.name != "runtime.NumGoroutine") && fn.body.isSome
  | none => false
theorem bodied_enters {P : Program} {f : Nat} (h : bodied P f = true) : Enters P f := by
  unfold bodied at h
  split at h
  · rename_i fn hf
    simp only [Bool.and_eq_true, bne_iff_ne] at h
    exact enters_of hf (by simpa using h.1) h.2
  · cases h
/-- A range over a function, where the frame is a function's own. -/
def xrange (P : Program) (gl : Nat → AV) (ch : CallH) (g : Operand) (ps : Array Tmp) (as bd : Code) (st : St) : Option (Exit × St × List Nat) :=
  match st.ev gl g with
  | .fn f caps => bif bodied P f then match ch f (.yld (st.nx + 1) :: caps) (pt (pt st.hp st.nx (.defb true)) (st.nx + 1) (.loop .ready none st.n st.sl ps as bd st.nx)) (st.nx + 2) with
    | some (_, hp', nx') => match lkb hp' (st.nx + 1) with
      | some (.loop s3 pend n3 sl3 ps3 as3 bd3 d3) => if s3 = .busy then none else match pend with
        | none => some (.normal, st.setHp (pt hp' (st.nx + 1) (.loop .exhausted pend n3 sl3 ps3 as3 bd3 d3)) nx', [st.nx])
        | some .ret => some (.ret, st.setHp (pt hp' (st.nx + 1) (.loop .exhausted pend n3 sl3 ps3 as3 bd3 d3)) nx', [st.nx])
        | some (.exit i) => some (.exit i, st.setHp (pt hp' (st.nx + 1) (.loop .exhausted pend n3 sl3 ps3 as3 bd3 d3)) nx', [st.nx])
        | _ => none
      | _ => none
    | none => none
    else none
  | _ => none

def xcode (P : Program) (gl : Nat → AV) (ch : CallH) (rd : RoundH) (top : Bool) : Nat → Code → St → Option (Exit × St × List Nat)
  | 0, _, _ => none
  | k + 1, c, st => match c with
    | .skip => some (.normal, st, [])
    | .label _ => some (.normal, st, [])
    | .exit id => some (.exit id, st, [])
    | .ret => some (.ret, st, [])
    | .region _ ops draw => bif draw then lift (xregD P gl ch rd ops.toList st) else lift (xseq P gl ch rd ops.toList ops.toList st)
    | .seq a b => match xcode P gl ch rd top k a st with
      | some (.normal, s, d) => match xcode P gl ch rd top k b s with
        | some (e, s', d') => some (e, s', d' ++ d)
        | none => none
      | r => r
    | .cond c a b => match st.ev gl c with
      | .bool t => bif t then xcode P gl ch rd top k a st else xcode P gl ch rd top k b st
      | _ => none
    | .block id c => match xcode P gl ch rd top k c st with
      | some (.exit i, s, d) => if i = id then some (.normal, s, d) else some (.exit i, s, d)
      | r => r
    | .loop c => match xcode P gl ch rd top k c st with
      | some (.normal, s, d) => match xcode P gl ch rd top k (.loop c) s with
        | some (e, s', d') => some (e, s', d' ++ d)
        | none => none
      | r => r
    | .rangeFunc g ps as bd => bif top then xrange P gl ch g ps as bd st else none
    | _ => none

def marks (D : List (Nat × Nat)) : List Deferred := D.map fun p => { target := .collected p.2, args := #[] }

/-- What holds behind code: the marks that it has left are those of boxes. -/
def CPost (gl : Nat → AV) (B : Nat) (H0 : HV) (rest : List (AV × Value)) (a : Act) (w : World) (st' : St) (ds : List Nat) (a' : Act) (w' : World) : Prop :=
  ∃ m' H' D, D.map (·.1) = ds ∧ a'.defers = marks D ++ a.defers ∧ (∀ p ∈ D, (st'.env m').lp p.1 = some p.2) ∧ Below B w w' ∧ RelS m' H' B H0 gl rest st' a'.tmps w'

def CodeOk (P : Program) (gl : Nat → AV) (ro : Option Nat) (n : Nat) (c : Code) (st : St) (ex : Exit) (st' : St) (ds : List Nat) : Prop :=
  ∀ (B : Nat) (H0 : HV) (rest : List (AV × Value)) (m : Nat → Lc) (H : HV) (a : Act) (w : World), RelS m H B H0 gl rest st a.tmps w → c.wpIn (FW ro) n P (fun e a' w' => e = ex ∧ CPost gl B H0 rest a w st' ds a' w') a w

section
variable {P : Program} {m : Nat → Lc} {H : HV} {B : Nat} {H0 : HV} {gl : Nat → AV} {rest : List (AV × Value)} {st : St} {a : Act} {w : World} {ch : CallH} {rd : RoundH}

/-- What stands for nothing stands for it in every world. -/
theorem undef_any {H' : HV} {E E' : Env} {x : AV} (h : RV H E x Go.undef) : RV H' E' x Go.undef := by
  unfold Go.undef at h ⊢
  cases h with
  | imm _ _ h =>
    cases h with
    | undef => exact .imm _ _ (.undef _)
    | tup cs _ hl _ =>
      have : cs = [] := List.eq_nil_of_length_eq_zero (by simpa using hl)
      subst this
      exact .tup [] #[] rfl (fun j c v hj => by simp at hj)
  | tup cs _ hl _ =>
    have : cs = [] := List.eq_nil_of_length_eq_zero (by simpa using hl)
    subst this
    exact .tup [] #[] rfl (fun j c v hj => by simp at hj)

/-- What a contract on the caller's heap hands back, taken up by the caller. -/
theorem RelS.taken (h : RelS m H B H0 gl rest st a.tmps w) {dst : Option Nat} (hd : dstOk dst st.n = true) {hp' : Tr Box} {nx' : Nat} {r : AV} {v : Value} {m' : Nat → Lc} {H' : HV} {w' : World} (hh : RelH m' H' B H0 gl (lkb hp') nx' w') (hrv : RV H' (envOf (lkb hp') m') r v)
    (hrest : ∀ p ∈ (List.range st.n).map (fun k => (st.get k, a.tmps.getD k Go.undef)) ++ rest, RV H' (envOf (lkb hp') m') p.1 p.2) : RelS m' H' B H0 gl rest ((st.setHp hp' nx').putO dst r) (a.put dst v).tmps w' := by
  have h1 : RelS m' H' B H0 gl rest (st.setHp hp' nx') a.tmps w' := by
    refine ⟨hh, h.size, fun k => ?_, fun p hp => hrest p (List.mem_append_right _ hp)⟩
    rcases Nat.lt_or_ge k st.n with hlt | hge
    · exact hrest (st.get k, a.tmps.getD k Go.undef) (List.mem_append_left _ (List.mem_map.2 ⟨k, List.mem_range.2 hlt, rfl⟩))
    · have hu : a.tmps.getD k Go.undef = Go.undef := by rw [Array.getD_eq_getD_getElem?, Array.getElem?_eq_none (by rw [h.size]; exact hge)]; rfl
      have := h.slot k
      rw [hu] at this ⊢
      exact undef_any this
  exact h1.putO hd hrv

theorem RelS.hold (h : RelS m H B H0 gl rest st a.tmps w) : ∀ p ∈ (List.range st.n).map (fun k => (st.get k, a.tmps.getD k Go.undef)) ++ rest, RV H (st.env m) p.1 p.2 := fun p hp => by
  rw [List.mem_append, List.mem_map] at hp
  rcases hp with ⟨q, _, rfl⟩ | hp
  · exact h.slot _
  · exact h.rest p hp

theorem yield_inv {ev : Operand → AV} {op : Op} {id : Nat} {args : List AV} (h : yield? ev op = some (id, args)) : ∃ c x, op = .call c ∧ c.callee = .value x ∧ ev x = .yld id ∧ args = c.args.toList.map ev := by
  unfold yield? at h
  split at h
  · rename_i c
    split at h
    · rename_i x hx
      split at h
      · rename_i id' hf
        cases h
        exact ⟨c, x, rfl, hx, hf, rfl⟩
      · cases h
    · cases h
  · cases h

/-- A call on the heap that the caller has, too. -/
theorem inl_ok (hch : ch.Ok P gl) (hrd : rd.Ok P gl) (h : RelS m H B H0 gl rest st a.tmps w) {o : Oper} (hd : dstOk o.dst st.n = true) {st' : St} (hk : xinl ch rd (st.ev gl) o.op o.dst st = some st') (ro : Option Nat) (n : Nat) : StepOk P ro n B H0 gl rest a w o st' := by
  unfold xinl at hk
  split at hk
  · rename_i f args hc
    split at hk
    · rename_i r hp' nx' hr
      cases hk
      have hcall := hch _ _ _ _ _ _ _ hr
      refine step_of_calls h hc ro n fun vs hl hv => ?_
      refine (hcall m H B H0 _ w vs h.heap hl hv h.hold).mono fun e w' hpost => ?_
      obtain ⟨v, m', H', rfl, hb, hh, hrv, hrest⟩ := hpost
      exact ⟨v, m', H', rfl, hb, h.taken hd hh hrv hrest⟩
    · cases hk
  · split at hk
    · rename_i id args hy
      split at hk
      · rename_i r hp' nx' hr
        cases hk
        obtain ⟨c, x, ho, hx, hid, rfl⟩ := yield_inv hy
        have hxv := h.ev x
        rw [hid] at hxv
        obtain ⟨l, hl, hlp⟩ := hxv.yld_inv
        have hargs := list_rel h c.args.toList
        obtain ⟨fn, tmps, as, bd, hrun, hround⟩ := hrd _ _ _ _ _ _ _ hr m H B H0 _ w (c.args.map a.eval) l h.heap hlp (by simp) (fun j y v hy hv => hargs.2 j y v hy (by simpa using hv)) h.hold
        intro next Q hn
        refine ⟨fun _ _ => trivial, ?_⟩
        have hexec : (execOp a.eval o).run P w = .ok (.round l fn tmps as bd) w := by
          unfold execOp
          simp only [ho, resolve, hx, Sem.run_bind, hl, Deferred.ofValue, Sem.run_pure, Result.andThen_ok, invoke, Array.empty_append]
          exact hrun
        rw [Oper.semAt_eq _ _ _ (fun c e => by rw [ho] at e; cases e), hexec]
        refine ⟨(fun hh => by simp [FW] at hh), (hround ro (n - 1)).mono fun e w' hpost => ?_⟩
        obtain ⟨v, m', H', rfl, hb, hh, hrv, hrest⟩ := hpost
        exact hn _ _ _ _ (put_defers' _ _ _) hb (h.taken hd hh hrv hrest)
      · cases hk
    · cases hk

theorem RelS.bump (h : RelS m H B H0 gl rest st a.tmps w) (k : Nat) : RelS m H B H0 gl rest (st.bump k) a.tmps w :=
  ⟨{ h.heap with fresh := fun id hid => h.heap.fresh id (Nat.le_trans (Nat.le_add_right _ _) hid) }, h.size, h.slot, h.rest⟩

/-- An operation that makes no box: its number does not matter. -/
theorem xop_ok0 (h : RelS m H B H0 gl rest st a.tmps w) {o : Oper} (hd : dstOk o.dst st.n = true) {r : AV × Option (Nat × Box)} (hk : xop P st.nx o.dst o.op (st.ev gl) (lkb st.hp) = some r) (hn : r.2 = none) :
    OpOk P B H0 gl rest a w o.dst (st.putO o.dst r.1) (execOp a.eval o) := by
  have h1 := xop_ok (P := P) (st := st.bump 1) (h.bump 1) hd (h.heap.fresh _ (Nat.le_refl _)) (Nat.lt_succ_self _) hk
  obtain ⟨v, b⟩ := r
  cases hn
  obtain ⟨nx, u, w', m', H', h2, h3, h4, h5⟩ := h1
  refine ⟨nx, u, w', m', H', h2, h3, h4, ?_⟩
  have hhp : ((st.bump 1).eff o.dst (v, none)).hp = st.hp := by show ((st.bump 1).putO o.dst v).hp = st.hp; rw [putO_hp]; rfl
  have hget : ∀ k, ((st.bump 1).eff o.dst (v, none)).get k = (st.putO o.dst v).get k := fun k => by cases o.dst <;> rfl
  refine ⟨?_, ?_, fun k => ?_, fun p hp => ?_⟩
  · have hh := h5.heap
    rw [hhp] at hh
    rw [putO_hp, putO_nx]
    exact { hh with fresh := h.heap.fresh }
  · rw [putO_n]; have := h5.size; rw [eff_n] at this; exact this
  · have := h5.slot k
    rw [hget] at this
    show RV H' (envOf (lkb (st.putO o.dst v).hp) m') _ _
    rw [putO_hp]
    unfold St.env at this
    rw [hhp] at this
    exact this
  · have := h5.rest p hp
    show RV H' (envOf (lkb (st.putO o.dst v).hp) m') _ _
    rw [putO_hp]
    unfold St.env at this
    rw [hhp] at this
    exact this

theorem xseqO_ok (hch : ch.Ok P gl) (hrd : rd.Ok P gl) (h : RelS m H B H0 gl rest st a.tmps w) {o : Oper} (hd : dstOk o.dst st.n = true) {st' : St} (hk : xseqO P gl ch rd o st = some st') (ro : Option Nat) (n : Nat) : StepOk P ro n B H0 gl rest a w o st' := by
  unfold xseqO at hk
  split at hk
  · exact inl_ok hch hrd h hd hk ro n
  · split at hk
    · rename_i r hr
      have h1 := (xop_ok (st := st.bump 1) (h.bump 1) hd (h.heap.fresh _ (Nat.le_refl _)) (Nat.lt_succ_self _) hr).step (ro := ro) (n := n) (xop_nodefer hr)
      split at hk
      · cases hk; exact h1
      · rename_i hn
        cases hk
        have h2 := (xop_ok0 h hd hr hn).step (ro := ro) (n := n) (xop_nodefer hr)
        exact h2
    · cases hk

theorem xseqO_n {o : Oper} {st st' : St} (hk : xseqO P gl ch rd o st = some st') : st'.n = st.n := by
  unfold xseqO at hk
  split at hk
  · unfold xinl at hk
    split at hk
    · split at hk
      · cases hk; rw [putO_n]; rfl
      · cases hk
    · split at hk
      · split at hk
        · cases hk; rw [putO_n]; rfl
        · cases hk
      · cases hk
  · split at hk
    · split at hk
      · cases hk; rw [eff_n]; rfl
      · cases hk; rw [putO_n]
    · cases hk

/-- The operations of a region one behind the other. -/
theorem xseq_ok (hch : ch.Ok P gl) (hrd : rd.Ok P gl) {all : List Oper} {ro : Option Nat} {n : Nat} {d0 : List Deferred} {w0 : World} {sF : St} {Q : Exit → Act → World → Prop}
    (hQ : ∀ (a : Act) (w : World) (m : Nat → Lc) (H : HV), a.defers = d0 → Below B w0 w → RelS m H B H0 gl rest sF a.tmps w → Q .normal a w) :
    ∀ (pre l : List Oper) (st : St) (a : Act) (w : World) (m : Nat → Lc) (H : HV), all = pre ++ l → xseq P gl ch rd all l st = some sF → a.defers = d0 → Below B w0 w → RelS m H B H0 gl rest st a.tmps w → wpOpsIn (FW ro) n P all.toArray Q (List.range' pre.length l.length) a w
  | pre, [], st, a, w, m, H, _, hk, hd, hb, hr => by
    simp only [xseq, Option.some.injEq] at hk
    subst hk
    exact hQ a w m H hd hb hr
  | pre, o :: l, st, a, w, m, H, he, hk, hd, hb, hr => by
    simp only [List.length_cons, List.range'_succ, wpOpsIn]
    have ho : all.toArray[pre.length]? = some o := by rw [List.getElem?_toArray, he, List.getElem?_append_right (Nat.le_refl _)]; simp
    simp only [ho]
    have ih := xseq_ok hch hrd (all := all) (ro := ro) (n := n) hQ (pre ++ [o]) l
    simp only [List.length_append, List.length_cons, List.length_nil, Nat.zero_add, List.append_assoc, List.singleton_append] at ih
    simp only [xseq] at hk
    split at hk
    · rename_i hdst
      have go : ∀ s, xseqO P gl ch rd o st = some s → xseq P gl ch rd all l s = some sF → o.wpIn (FW ro) n P a w (wpOpsIn (FW ro) n P all.toArray Q (List.range' (pre.length + 1) l.length)) Q := fun s hs hk =>
        xseqO_ok hch hrd hr hdst hs ro n _ _ fun a' w' m' H' hd' hb' hr' => ih s a' w' m' H' he hk (hd'.trans hd) (hb.trans hb') hr'
      split at hk
      · rename_i hg
        rw [if_pos (by simp [Region.wanted, hg])]
        split at hk
        · rename_i s hs; exact go s hs hk
        · cases hk
      · rename_i j want hg
        split at hk
        · rename_i g hgs
          split at hk
          · rename_i ht
            rw [if_pos (wanted_of hg hgs ht (hr.slot g))]
            split at hk
            · rename_i s hs; exact go s hs hk
            · cases hk
          · rename_i ht
            rw [if_neg (by rw [wanted_of hg hgs ht (hr.slot g)]; simp)]
            exact ⟨fun _ _ => trivial, ih _ _ w m H he hk ((put_defers' _ _ _).trans hd) hb (hr.putO hdst (.tup [] #[] rfl (fun j c v hj => by simp at hj)))⟩
          · cases hk
        · cases hk
    · cases hk

/-- A loop: an invariant with a number that goes down. -/
theorem wpIn_loop_n {F : Fence} {n : Nat} {Q : Exit → Act → World → Prop} {c : Code} (I : Nat → Act → World → Prop)
    (round : ∀ j a w, I j a w → c.wpIn F n P (Exit.then (fun a' w' => ∃ i, i < j ∧ I i a' w') Q) a w) {j : Nat} {a : Act} {w : World} (h₀ : I j a w) : (Code.loop c).wpIn F n P Q a w := by
  intro b k cs hro hb hr
  have key : ∀ j a w, I j a w → ∃ e a' w', Q e a' w' ∧ ArrivesIn (Machine.fenced P F) P (lone (b.atR a (.code c :: .inLoop c :: k)) cs w) b k cs e a' w' := by
    intro j
    induction j using Nat.strongRecOn with
    | _ j ih =>
      intro a w hI
      obtain ⟨e, a₁, w₁, hq, harr⟩ := round j a w hI b (.inLoop c :: k) cs hro hb hr
      cases e with
      | normal =>
        obtain ⟨i, hlt, hI₁⟩ := hq
        obtain ⟨e₂, a₂, w₂, hq₂, harr₂⟩ := ih i hlt a₁ w₁ hI₁
        exact ⟨e₂, a₂, w₂, hq₂, .of_steps (StepsIn.trans harr (.one (fenced_calm hb hr rfl) stepR_inLoop)) harr₂⟩
      | exit id => exact ⟨_, a₁, w₁, hq, .pass (x := .inLoop c) rfl (fun _ _ => .inl (by simp)) harr⟩
      | goto l => exact ⟨_, a₁, w₁, hq, .pass (x := .inLoop c) rfl (fun _ _ => .inl (by simp)) harr⟩
      | ret => exact ⟨_, a₁, w₁, hq, .pass (x := .inLoop c) rfl (fun _ _ => .inl (by simp)) harr⟩
      | panic ch => exact ⟨_, a₁, w₁, hq, .pass (x := .inLoop c) rfl (fun _ _ => .inl (by simp)) harr⟩
      | outgrown => exact ⟨_, a₁, w₁, hq, .pass (x := .inLoop c) rfl (fun _ _ => .inl (by simp)) harr⟩
  obtain ⟨e, a', w', hq, harr⟩ := key j a w h₀
  exact ⟨e, a', w', hq, .of_steps (.one (fenced_calm hb hr rfl) stepR_loop) harr⟩

theorem CPost.nil {B : Nat} {st' : St} {a' : Act} {w' : World} {m' : Nat → Lc} {H' : HV} (hd : a'.defers = a.defers) (hb : Below B w w') (hr : RelS m' H' B H0 gl rest st' a'.tmps w') : CPost gl B H0 rest a w st' [] a' w' :=
  ⟨m', H', [], rfl, by simpa [marks] using hd, (fun p hp => by simp at hp), hb, hr⟩

def pairsOf (D : List (Nat × Nat)) : List (AV × Value) := D.map fun p => (.yld p.1, .func (.yield p.2) #[] #[])

theorem RelS.more (h : RelS m H B H0 gl rest st a.tmps w) {D : List (Nat × Nat)} (hD : ∀ p ∈ D, (st.env m).lp p.1 = some p.2) : RelS m H B H0 gl (pairsOf D ++ rest) st a.tmps w :=
  ⟨h.heap, h.size, h.slot, fun p hp => by
    rw [List.mem_append] at hp
    rcases hp with hp | hp
    · unfold pairsOf at hp
      rw [List.mem_map] at hp
      obtain ⟨q, hq, rfl⟩ := hp
      exact .yld _ _ (hD q hq)
    · exact h.rest p hp⟩

/-- One piece of code behind another. -/
theorem CPost.then {B : Nat} {s1 st' : St} {d1 d2 : List Nat} {a1 a2 : Act} {w1 w2 : World} {D : List (Nat × Nat)} (hD : D.map (·.1) = d1) (hd1 : a1.defers = marks D ++ a.defers) (hb : Below B w w1) (h2 : CPost gl B H0 (pairsOf D ++ rest) a1 w1 st' d2 a2 w2) : CPost gl B H0 rest a w st' (d2 ++ d1) a2 w2 := by
  obtain ⟨m2, H2, D2, e1, e2, e3, e4, e5⟩ := h2
  refine ⟨m2, H2, D2 ++ D, by simp [e1, hD], by rw [e2, hd1, ← List.append_assoc]; simp [marks], fun p hp => ?_, hb.trans e4, ⟨e5.heap, e5.size, e5.slot, fun p hp => e5.rest p (List.mem_append_right _ hp)⟩⟩
  rw [List.mem_append] at hp
  rcases hp with hp | hp
  · exact e3 p hp
  · have := e5.rest (.yld p.1, .func (.yield p.2) #[] #[]) (List.mem_append_left _ (List.mem_map.2 ⟨p, hp, rfl⟩))
    obtain ⟨l, k1, k2⟩ := this.yld_inv
    cases k1; exact k2

theorem lift_inv {o : Option St} {ex : Exit} {st' : St} {ds : List Nat} (h : lift o = some (ex, st', ds)) : o = some st' ∧ ex = .normal ∧ ds = [] := by
  cases o with
  | none => cases h
  | some s => cases h; exact ⟨rfl, rfl, rfl⟩

theorem barrier_inv {l : List Oper} {o : Oper} (h : barrier l = some o) : l[l.length - 1]? = some o ∧ o.guard = none := by
  unfold barrier at h
  split at h
  · rename_i o' ho
    split at h
    · split at h
      · split at h
        · rename_i hg; cases h; exact ⟨ho, hg⟩
        · cases h
      · cases h
    · cases h
  · cases h

theorem xregD_ok (hch : ch.Ok P gl) (hrd : rd.Ok P gl) (hmix : P.follows .mixedOrders = true) {l : List Oper} (hok : (drawOk l && (match barrier l with | some _ => barOk l | none => true)) = true) (ro : Option Nat) (n id : Nat) (h : RelS m H B H0 gl rest st a.tmps w) {st' : St} (hk : xregD P gl ch rd l st = some st') :
    (Code.region id l.toArray true).wpIn (FW ro) n P (fun e a' w' => e = .normal ∧ CPost gl B H0 rest a w st' [] a' w') a w := by
  rw [Bool.and_eq_true] at hok
  unfold xregD at hk
  split at hk
  · rename_i o ho
    obtain ⟨hol, hg⟩ := barrier_inv ho
    have hbar : barOk l = true := by have := hok.2; rw [ho] at this; exact this
    split at hk
    · rename_i s hs
      split at hk
      · rename_i hdst
        refine region_draw_bar (constB_ok hch) hmix hok.1 hbar hol hg h hs fun a' w' m' H' K hd hb hr hK => ?_
        exact inl_ok hch hrd hr hdst hk ro n K _ fun a2 w2 m2 H2 hd2 hb2 hr2 => hK _ _ ⟨rfl, CPost.nil (hd2.trans hd) (hb.trans hb2) hr2⟩
      · cases hk
    · cases hk
  · exact region_draw (constB_ok hch) hmix hok.1 h hk fun a' w' m' H' hd hb hr => ⟨rfl, CPost.nil hd hb hr⟩
end
end HX
