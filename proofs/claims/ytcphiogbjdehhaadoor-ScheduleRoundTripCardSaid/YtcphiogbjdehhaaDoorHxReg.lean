/- One operation of a region, calls by contract; that it stands on its own. -/
import Derived.Test.YtcphiogbjdehhaaDoorHxCall
namespace HX
open Go Go.RowKit

/-- What a call operation calls: a function's number and all its arguments. -/
def callee? (ev : Operand → AV) (op : Op) : Option (Nat × List AV) :=
  match op with
  | .call c => match c.callee with
    | .value x => match ev x with
      | .fn f caps => some (f, c.args.toList.map ev ++ caps)
      | _ => none
    | _ => none
  | _ => none
def isCall (op : Op) : Bool :=
  match op with
  | .call c => match c.callee with
    | .builtin _ => false
    | _ => true
  | _ => false

/-- Calls by contract, for each operation of a region one. -/
abbrev CallB := Nat → CallH
def CallB.Ok (P : Program) (gl : Nat → AV) (cb : CallB) : Prop := ∀ b f ts r hp' nx', cb b f ts .nil 0 = some (r, hp', nx') → CallOk0 P gl f ts r hp' nx'
theorem constB_ok {P : Program} {gl : Nat → AV} {ch : CallH} (h : ch.Ok P gl) : CallB.Ok P gl (fun _ => ch) := fun _ _ _ _ _ _ hk => (h _ _ _ _ _ _ _ hk).zero

/-- One operation that the region's order does not bind to all others: a call by contract, or plain. -/
def xo (P : Program) (ch : CallB) (bid : Nat) (dst : Option Nat) (op : Op) (ev : Operand → AV) (hp : Hp) : Option (AV × Option (Nat × Box)) :=
  if isCall op then (match callee? ev op with
    | some (f, args) => xpure (ch bid) hp bid f args
    | none => none) else xop P bid dst op ev hp

def gslot (all : List Oper) (j : Nat) : Option Nat :=
  match all[j]? with
  | some o => o.dst
  | none => none

/-- Whether a guard asks for the operation; what was passed over yields nothing. -/
def gwant (x : AV) (want : Bool) : Option Bool :=
  match x with
  | .bool t => some (bif t then want else !want)
  | .tup [] => some false
  | _ => none

/-- One operation, its guard looked at. -/
def xstepO (P : Program) (gl : Nat → AV) (ch : CallB) (all : List Oper) (bid : Nat) (o : Oper) (st : St) : Option St :=
  if dstOk o.dst st.n && (lkb st.hp bid).isNone && Nat.blt bid st.nx then match o.guard with
    | none => match xo P ch bid o.dst o.op (st.ev gl) (lkb st.hp) with
      | some r => some (st.eff o.dst r)
      | none => none
    | some (j, want) => match gslot all j with
      | some g => match gwant (st.get g) want with
        | some true => match xo P ch bid o.dst o.op (st.ev gl) (lkb st.hp) with
          | some r => some (st.eff o.dst r)
          | none => none
        | some false => some (st.eff o.dst (.tup [], none))
        | none => none
      | none => none
  else none

/-- What an operation asks of what stands behind it. -/
def StepOk (P : Program) (r : Option Nat) (n : Nat) (B : Nat) (H0 : HV) (gl : Nat → AV) (rest : List (AV × Value)) (a : Act) (w : World) (o : Oper) (st' : St) : Prop :=
  ∀ (next : Act → World → Prop) (Q : Exit → Act → World → Prop),
    (∀ a' w' m' H', a'.defers = a.defers → Below B w w' → RelS m' H' B H0 gl rest st' a'.tmps w' → next a' w') → o.wpIn (FW r) n P a w next Q

theorem put_defers' (a : Act) (d : Option Tmp) (v : Value) : (a.put d v).defers = a.defers := by cases d <;> rfl

def isDefer (op : Op) : Bool := match op with | .defer _ => true | _ => false

theorem xop_nodefer {P : Program} {bid : Nat} {dst : Option Nat} {op : Op} {ev : Operand → AV} {hp : Hp} {r : AV × Option (Nat × Box)} (h : xop P bid dst op ev hp = some r) : ∀ c, op ≠ .defer c := by
  intro c e; subst e; simp [xop, xop0, xopX] at h

section
variable {P : Program} {m : Nat → Lc} {H : HV} {B : Nat} {H0 : HV} {gl : Nat → AV} {rest : List (AV × Value)} {st : St} {a : Act} {w : World}

theorem OpOk.step {ro : Option Nat} {n : Nat} {o : Oper} {st' : St} (h : OpOk P B H0 gl rest a w o.dst st' (execOp a.eval o)) (hnd : ∀ c, o.op ≠ .defer c) : StepOk P ro n B H0 gl rest a w o st' := by
  intro next Q hn
  obtain ⟨nx, v, w', m', H', hr, hx, hb, hrel⟩ := h
  refine ⟨fun _ _ => trivial, ?_⟩
  rw [Oper.semAt_eq _ _ _ hnd, hr]
  rcases hx with rfl | ⟨rfl, rfl⟩
  · exact hn _ _ _ _ (put_defers' _ _ _) hb hrel
  · exact hn _ _ _ _ (put_defers' _ _ _) hb hrel

theorem callee_inv {ev : Operand → AV} {op : Op} {f : Nat} {args : List AV} (h : callee? ev op = some (f, args)) : ∃ c x caps, op = .call c ∧ c.callee = .value x ∧ ev x = .fn f caps ∧ args = c.args.toList.map ev ++ caps := by
  unfold callee? at h
  split at h
  · rename_i c
    split at h
    · rename_i x hx
      split at h
      · rename_i f' caps hf
        cases h
        exact ⟨c, x, caps, rfl, hx, hf, rfl⟩
      · cases h
    · cases h
  · cases h

/-- A call operation, carried out: the function is entered with these arguments. -/
theorem call_run (h : RelS m H B H0 gl rest st a.tmps w) {o : Oper} {f : Nat} {args : List AV} (hc : callee? (st.ev gl) o.op = some (f, args)) :
    ∃ vs : Array Value, (execOp a.eval o).run P w = (callFunc f vs).run P w ∧ args.length = vs.size ∧ ∀ (j : Nat) (x : AV) (v : Value), args[j]? = some x → vs[j]? = some v → RV H (st.env m) x v := by
  obtain ⟨c, x, caps, ho, hx, hf, rfl⟩ := callee_inv hc
  have hfx := h.ev x
  rw [hf] at hfx
  obtain ⟨us, hu, hul, hur⟩ := hfx.fn_inv
  have hl := list_rel h c.args.toList
  refine ⟨c.args.map a.eval ++ us, ?_, by simp [hul], fun j y v hy hv => ?_⟩
  · unfold execOp
    simp only [ho, resolve, hx, Sem.run_bind, hu, Deferred.ofValue, Sem.run_pure, Result.andThen_ok, invoke, Array.empty_append]
  · rw [List.getElem?_append] at hy
    rw [Array.getElem?_append] at hv
    simp only [List.length_map, Array.length_toList, Array.size_map] at hy hv
    split at hy
    · rename_i hj
      rw [if_pos hj] at hv
      exact hl.2 j y v hy (by simpa using hv)
    · rename_i hj
      rw [if_neg hj] at hv
      exact hur _ y v hy hv

/-- A call operation by a contract that says how it returns. -/
theorem step_of_calls (h : RelS m H B H0 gl rest st a.tmps w) {o : Oper} {f : Nat} {args : List AV} (hc : callee? (st.ev gl) o.op = some (f, args)) {st' : St} (ro : Option Nat) (n : Nat)
    (hcalls : ∀ vs : Array Value, args.length = vs.size → (∀ (j : Nat) (x : AV) (v : Value), args[j]? = some x → vs[j]? = some v → RV H (st.env m) x v) →
      Ans P f vs w fun e w' => ∃ v m' H', e = .returned v ∧ Below B w w' ∧ RelS m' H' B H0 gl rest st' (a.put o.dst v).tmps w') : StepOk P ro n B H0 gl rest a w o st' := by
  intro next Q hn
  obtain ⟨vs, hrun, hl, hr⟩ := call_run h hc
  obtain ⟨c, x, caps, ho, _⟩ := callee_inv hc
  refine ⟨fun _ _ => trivial, ?_⟩
  rw [Oper.semAt_eq _ _ _ (fun c e => by rw [ho] at e; cases e), hrun]
  rcases hcalls vs hl hr with ⟨hent, hcs⟩ | ⟨v, w', hv, hq⟩
  · rw [hent vs w]
    refine ⟨(fun hh => by simp [FW] at hh), callsIn_FW (hcs.mono fun e w' hp => ?_)⟩
    obtain ⟨v, m', H', rfl, hb, hrel⟩ := hp
    exact hn _ _ _ _ (put_defers' _ _ _) hb hrel
  · rw [hv]
    obtain ⟨v', m', H', he, hb, hrel⟩ := hq
    cases he
    exact hn _ _ _ _ (put_defers' _ _ _) hb hrel

theorem xo_ok {ch : CallB} (hch : ch.Ok P gl) (h : RelS m H B H0 gl rest st a.tmps w) {o : Oper} (hd : dstOk o.dst st.n = true) {bid : Nat} (hb : lkb st.hp bid = none) (hn : bid < st.nx) {r : AV × Option (Nat × Box)} (hk : xo P ch bid o.dst o.op (st.ev gl) (lkb st.hp) = some r) (ro : Option Nat) (n : Nat) :
    StepOk P ro n B H0 gl rest a w o (st.eff o.dst r) := by
  unfold xo at hk
  split at hk
  · split at hk
    · rename_i f args hc
      exact step_of_calls h hc ro n fun vs hl hr => xpure_ok0 (fun _ _ _ _ _ hk => hch _ _ _ _ _ _ hk) h hd hb hn hl hr hk
    · cases hk
  · exact (xop_ok h hd hb hn hk).step (xop_nodefer hk)

theorem yielded_bool {l : List Oper} {j g : Nat} {t : Bool} (hg : gslot l j = some g) (ht : a.tmps.getD g Go.undef = .bool t) : yielded l.toArray a.tmps j = some t := by
  have hlt : g < a.tmps.size := by
    rcases Nat.lt_or_ge g a.tmps.size with h | h
    · exact h
    · rw [Array.getD_eq_getD_getElem?, Array.getElem?_eq_none h] at ht; cases ht
  have hgo : ((l.toArray[j]?).bind (·.dst)) = some g := by
    unfold gslot at hg
    simp only [List.getElem?_toArray]
    split at hg
    · rename_i o ho; rw [ho]; exact hg
    · cases hg
  rw [Array.getD_eq_getD_getElem?, Array.getElem?_eq_getElem hlt, Option.getD_some] at ht
  simp only [yielded, hgo, Option.bind_some, Array.getElem?_eq_getElem hlt, ht]

theorem yielded_tup {l : List Oper} {j g : Nat} (hg : gslot l j = some g) (ht : a.tmps.getD g Go.undef = .tuple #[]) : yielded l.toArray a.tmps j = none := by
  have hgo : ((l.toArray[j]?).bind (·.dst)) = some g := by
    unfold gslot at hg
    simp only [List.getElem?_toArray]
    split at hg
    · rename_i o ho; rw [ho]; exact hg
    · cases hg
  rcases Nat.lt_or_ge g a.tmps.size with hlt | hge
  · rw [Array.getD_eq_getD_getElem?, Array.getElem?_eq_getElem hlt, Option.getD_some] at ht
    simp only [yielded, hgo, Option.bind_some, Array.getElem?_eq_getElem hlt, ht]
  · simp only [yielded, hgo, Option.bind_some, Array.getElem?_eq_none hge]

theorem wanted_of {H : HV} {E : Env} {l : List Oper} {o : Oper} {j g : Nat} {want b : Bool} {x : AV} (ho : o.guard = some (j, want)) (hg : gslot l j = some g) (hw : gwant x want = some b) (hv : RV H E x (a.tmps.getD g Go.undef)) : Region.wanted o (yielded l.toArray a.tmps) = b := by
  unfold gwant at hw
  split at hw
  · rename_i t
    have hy := yielded_bool hg hv.bool_inv
    cases hw
    simp only [Region.wanted, ho, hy]
    cases t <;> cases want <;> rfl
  · cases hw
    obtain ⟨vs, h1, h2, _⟩ := hv.tup_inv
    have : vs = #[] := Array.eq_empty_of_size_eq_zero (by simpa using h2.symm)
    subst this
    simp only [Region.wanted, ho, yielded_tup hg h1]
    rfl
  · cases hw

/-- One operation of a region, whatever the guard says. -/
theorem xstepO_ok {ch : CallB} (hch : ch.Ok P gl) (h : RelS m H B H0 gl rest st a.tmps w) {all : List Oper} {o : Oper} {bid : Nat} {st' : St} (hk : xstepO P gl ch all bid o st = some st') (ro : Option Nat) (n : Nat)
    (next : Act → World → Prop) (Q : Exit → Act → World → Prop) (hn : ∀ a' w' m' H', a'.defers = a.defers → Below B w w' → RelS m' H' B H0 gl rest st' a'.tmps w' → next a' w') :
    if Region.wanted o (yielded all.toArray a.tmps) then o.wpIn (FW ro) n P a w next Q else (∀ f, o.about P w a.eval = some f → (FW ro).fn f) ∧ next (a.put o.dst Go.undef) w := by
  unfold xstepO at hk
  split at hk
  · rename_i hc
    simp only [Bool.and_eq_true, Option.isNone_iff_eq_none] at hc
    obtain ⟨⟨hd, hb⟩, hbn⟩ := hc
    have hbn : bid < st.nx := Nat.le_of_ble_eq_true hbn
    have go : ∀ r, xo P ch bid o.dst o.op (st.ev gl) (lkb st.hp) = some r → some (st.eff o.dst r) = some st' → o.wpIn (FW ro) n P a w next Q := fun r hr he => by
      cases he
      exact xo_ok hch h hd hb hbn hr ro n next Q hn
    split at hk
    · rename_i hg
      rw [if_pos (by simp [Region.wanted, hg])]
      split at hk
      · rename_i r hr; exact go r hr hk
      · cases hk
    · rename_i j want hg
      split at hk
      · rename_i g hgs
        split at hk
        · rename_i ht
          rw [if_pos (wanted_of hg hgs ht (h.slot g))]
          split at hk
          · rename_i r hr; exact go r hr hk
          · cases hk
        · rename_i ht
          rw [if_neg (by rw [wanted_of hg hgs ht (h.slot g)]; simp)]
          cases hk
          exact ⟨fun _ _ => trivial, hn _ _ _ _ (put_defers' _ _ _) (Below.refl _ _) (h.putO hd (.tup [] #[] rfl (fun j c v hj => by simp at hj)))⟩
        · cases hk
      · cases hk
  · cases hk
end
end HX
