/- The executor with guessed truth values: what it gives holds where the guesses are right. And calls by contract on any heap. -/
import Derived.Test.YthgcadgcecbicaaGreatDoorHxFn
namespace HX
open Go Go.RowKit

/-- Guesses still to come, and those that were made. -/
structure Sy where
  hints : List Bool
  obs : List (Bool × Bool)
def Sy.Holds (s : Sy) : Prop := ∀ p ∈ s.obs, p.1 = p.2

def guessed (op : Op) : Bool := match op with
  | .binOp .. | .call _ => true
  | _ => false
def conc (op : Op) (v : AV) (sy : Sy) : Option (AV × Sy) :=
  match guessed op with
  | false => some (v, sy)
  | true => match v with
    | .bool t => match sy with
      | ⟨h :: hs, os⟩ => some (.bool h, ⟨hs, (t, h) :: os⟩)
      | ⟨[], _⟩ => none
    | v => some (v, sy)
theorem conc_ok {op : Op} {v v' : AV} {sy sy' : Sy} (h : conc op v sy = some (v', sy')) (hh : sy'.Holds) : v' = v ∧ sy.Holds := by
  unfold conc at h
  split at h
  · cases h; exact ⟨rfl, hh⟩
  · split at h
    · split at h
      · cases h
        have e := hh _ List.mem_cons_self
        simp only at e
        subst e
        exact ⟨rfl, fun p hp => hh p (List.mem_cons_of_mem _ hp)⟩
      · cases h
    · cases h; exact ⟨rfl, hh⟩

def xstepOS (P : Program) (gl : Nat → AV) (ch : CallH) (all : List Oper) (bid : Nat) (o : Oper) (st : St) (sy : Sy) : Option (St × Sy) :=
  match dstOk o.dst st.n && (lkb st.hp bid).isNone && Nat.blt bid st.nx with
  | true => match xcore P ch bid o (gval all o st) (st.ev gl) (lkb st.hp) with
    | some (v, b) => match conc o.op v sy with
      | some (v', sy') => some (st.eff o.dst (v', b), sy')
      | none => none
    | none => none
  | false => none
def runIS (P : Program) (gl : Nat → AV) (ch : CallH) (all : List Oper) (base : Nat) : List Nat → St → Sy → Option (St × Sy)
  | [], st, sy => some (st, sy)
  | i :: l, st, sy => match all[i]? with
    | some o => match xstepOS P gl ch all (base + i) o st sy with
      | some (s, sy') => runIS P gl ch all base l s sy'
      | none => none
    | none => none
def xseqOS (P : Program) (gl : Nat → AV) (ch : CallH) (o : Oper) (st : St) (sy : Sy) : Option (St × Sy) :=
  match isCall o.op with
  | true => match callee? (st.ev gl) o.op with
    | some (f, args) => match ch f args st.hp st.nx with
      | some (r, hp', nx') => match conc o.op r sy with
        | some (r', sy') => some ((st.setHp hp' nx').putO o.dst r', sy')
        | none => none
      | none => none
    | none => none
  | false => match xop P st.nx o.dst o.op (st.ev gl) (lkb st.hp) with
    | some (v, b) => match conc o.op v sy with
      | some (v', sy') => match b with
        | some x => some ((st.bump 1).eff o.dst (v', some x), sy')
        | none => some (st.putO o.dst v', sy')
      | none => none
    | none => none
def xseqS (P : Program) (gl : Nat → AV) (ch : CallH) (all : List Oper) : List Oper → St → Sy → Option (St × Sy)
  | [], st, sy => some (st, sy)
  | o :: l, st, sy => match dstOk o.dst st.n with
    | true => match o.guard with
      | none => match xseqOS P gl ch o st sy with
        | some (s, sy') => xseqS P gl ch all l s sy'
        | none => none
      | some (j, want) => match gslot all j with
        | some g => match gwant (st.get g) want with
          | some true => match xseqOS P gl ch o st sy with
            | some (s, sy') => xseqS P gl ch all l s sy'
            | none => none
          | some false => xseqS P gl ch all l (st.putO o.dst (.tup [])) sy
          | none => none
        | none => none
    | false => none
def liftS (o : Option (St × Sy)) : Option (Exit × St × Sy) := match o with | some (s, sy) => some (.normal, s, sy) | none => none
def xcodeS (P : Program) (gl : Nat → AV) (ch : CallH) : Nat → Code → St → Sy → Option (Exit × St × Sy)
  | 0, _, _, _ => none
  | k + 1, c, st, sy => match c with
    | .skip => some (.normal, st, sy)
    | .label _ => some (.normal, st, sy)
    | .exit id => some (.exit id, st, sy)
    | .ret => some (.ret, st, sy)
    | .region _ ops draw => match draw with
      | true => match barrier ops.toList with
        | some _ => none
        | none => liftS (runIS P gl ch ops.toList st.nx (List.range ops.toList.length) (st.bump ops.toList.length) sy)
      | false => liftS (xseqS P gl ch ops.toList ops.toList st sy)
    | .seq a b => match xcodeS P gl ch k a st sy with
      | some (.normal, s, sy') => xcodeS P gl ch k b s sy'
      | r => r
    | .cond c a b => match st.ev gl c with
      | .bool t => match t with
        | true => xcodeS P gl ch k a st sy
        | false => xcodeS P gl ch k b st sy
      | _ => none
    | .block id c => match xcodeS P gl ch k c st sy with
      | some (.exit i, s, sy') => if i = id then some (.normal, s, sy') else some (.exit i, s, sy')
      | r => r
    | .loop c => match xcodeS P gl ch k c st sy with
      | some (.normal, s, sy') => xcodeS P gl ch k (.loop c) s sy'
      | r => r
    | _ => none

section
variable {P : Program} {gl : Nat → AV} {ch : CallH} {rd : RoundH}

theorem runIS_ok {all : List Oper} {base : Nat} : ∀ (l : List Nat) (st : St) (sy : Sy) (s : St) (sy' : Sy), runIS P gl ch all base l st sy = some (s, sy') → sy'.Holds → runI P gl ch all base l st = some s ∧ sy.Holds
  | [], st, sy, s, sy', h, hh => by cases h; exact ⟨rfl, hh⟩
  | i :: l, st, sy, s, sy', h, hh => by
    simp only [runIS] at h
    simp only [runI]
    split at h
    · rename_i o ho
      rw [ho]
      simp only
      split at h
      · rename_i s1 sy1 h1
        obtain ⟨h2, h3⟩ := runIS_ok l s1 sy1 s sy' h hh
        unfold xstepOS at h1
        rw [xstepO_eq]
        split at h1
        · rename_i hc
          rw [if_pos hc]
          split at h1
          · rename_i v b hx
            rw [hx]
            split at h1
            · rename_i v' sy2 hv
              cases h1
              obtain ⟨rfl, h5⟩ := conc_ok hv h3
              exact ⟨h2, h5⟩
            · cases h1
          · cases h1
        · cases h1
      · cases h
    · cases h

theorem xseqOS_ok {o : Oper} {st s : St} {sy sy' : Sy} (h : xseqOS P gl ch o st sy = some (s, sy')) (hh : sy'.Holds) : xseqO P gl ch rd o st = some s ∧ sy.Holds := by
  unfold xseqOS at h
  unfold xseqO
  split at h
  · rename_i hc
    rw [if_pos hc]
    unfold xinl
    split at h
    · rename_i f args hcal
      rw [hcal]
      simp only
      split at h
      · rename_i r hp' nx' hr
        rw [hr]
        split at h
        · rename_i r' sy2 hv
          cases h
          obtain ⟨rfl, h5⟩ := conc_ok hv hh
          exact ⟨rfl, h5⟩
        · cases h
      · cases h
    · cases h
  · rename_i hc
    rw [if_neg (by rw [hc]; simp)]
    split at h
    · rename_i v b hx
      rw [hx]
      split at h
      · rename_i v' sy2 hv
        split at h
        · cases h
          obtain ⟨rfl, h5⟩ := conc_ok hv hh
          exact ⟨rfl, h5⟩
        · cases h
          obtain ⟨rfl, h5⟩ := conc_ok hv hh
          exact ⟨rfl, h5⟩
      · cases h
    · cases h

theorem xseqS_ok {all : List Oper} : ∀ (l : List Oper) (st : St) (sy : Sy) (s : St) (sy' : Sy), xseqS P gl ch all l st sy = some (s, sy') → sy'.Holds → xseq P gl ch rd all l st = some s ∧ sy.Holds
  | [], st, sy, s, sy', h, hh => by cases h; exact ⟨rfl, hh⟩
  | o :: l, st, sy, s, sy', h, hh => by
    simp only [xseqS] at h
    simp only [xseq]
    split at h
    · rename_i hd
      rw [if_pos hd]
      split at h
      · rename_i hg
        rw [hg]
        simp only
        split at h
        · rename_i s1 sy1 h1
          obtain ⟨h2, h3⟩ := xseqS_ok l s1 sy1 s sy' h hh
          obtain ⟨h4, h5⟩ := xseqOS_ok (rd := rd) h1 h3
          rw [h4]
          exact ⟨h2, h5⟩
        · cases h
      · rename_i j want hg
        rw [hg]
        simp only
        split at h
        · rename_i g hgs
          rw [hgs]
          simp only
          split at h
          · rename_i hw
            rw [hw]
            simp only
            split at h
            · rename_i s1 sy1 h1
              obtain ⟨h2, h3⟩ := xseqS_ok l s1 sy1 s sy' h hh
              obtain ⟨h4, h5⟩ := xseqOS_ok (rd := rd) h1 h3
              rw [h4]
              exact ⟨h2, h5⟩
            · cases h
          · rename_i hw
            rw [hw]
            exact xseqS_ok l _ sy s sy' h hh
          · cases h
        · cases h
    · cases h

theorem liftS_inv {o : Option (St × Sy)} {ex : Exit} {s : St} {sy : Sy} (h : liftS o = some (ex, s, sy)) : o = some (s, sy) ∧ ex = .normal := by
  cases o with
  | none => cases h
  | some x => cases h; exact ⟨rfl, rfl⟩

theorem xcodeS_ok {top : Bool} : ∀ (k : Nat) (c : Code) (st : St) (sy : Sy) (ex : Exit) (s : St) (sy' : Sy), xcodeS P gl ch k c st sy = some (ex, s, sy') → sy'.Holds → xcode P gl ch rd top k c st = some (ex, s, []) ∧ sy.Holds
  | 0, _, _, _, _, _, _, h, _ => by cases h
  | k + 1, c, st, sy, ex, s, sy', h, hh => by
    have ih := xcodeS_ok (top := top) k
    cases c with
    | skip => cases h; exact ⟨rfl, hh⟩
    | label l => cases h; exact ⟨rfl, hh⟩
    | exit id => cases h; exact ⟨rfl, hh⟩
    | ret => cases h; exact ⟨rfl, hh⟩
    | region id ops draw =>
      cases draw with
      | true =>
        simp only [xcodeS] at h
        split at h
        · cases h
        · rename_i hb
          obtain ⟨h1, rfl⟩ := liftS_inv h
          obtain ⟨h2, h3⟩ := runIS_ok _ _ _ _ _ h1 hh
          simp only [xcode, cond_true, xregD, hb, h2]
          exact ⟨rfl, h3⟩
      | false =>
        simp only [xcodeS] at h
        obtain ⟨h1, rfl⟩ := liftS_inv h
        obtain ⟨h2, h3⟩ := xseqS_ok (rd := rd) _ _ _ _ _ h1 hh
        simp only [xcode, cond_false, h2]
        exact ⟨rfl, h3⟩
    | seq a b =>
      simp only [xcodeS] at h
      simp only [xcode]
      split at h
      · rename_i s1 sy1 h1
        obtain ⟨h2, h3⟩ := ih b s1 sy1 ex s sy' h hh
        obtain ⟨h4, h5⟩ := ih a st sy .normal s1 sy1 h1 h3
        rw [h4]
        simp only [h2]
        exact ⟨rfl, h5⟩
      · rename_i hno
        obtain ⟨h4, h5⟩ := ih a st sy ex s sy' h hh
        rw [h4]
        cases ex with
        | normal => exact absurd h (hno _ _)
        | _ => exact ⟨rfl, h5⟩
    | cond c a b =>
      simp only [xcodeS] at h
      simp only [xcode]
      split at h
      · rename_i t ht
        rw [ht]
        cases t with
        | true => exact ih a st sy ex s sy' h hh
        | false => exact ih b st sy ex s sy' h hh
      · cases h
    | block id c =>
      simp only [xcodeS] at h
      simp only [xcode]
      split at h
      · rename_i i s1 sy1 h1
        have hsy : sy1 = sy' := by split at h <;> cases h <;> rfl
        subst hsy
        obtain ⟨h4, h5⟩ := ih c st sy (.exit i) s1 sy1 h1 hh
        rw [h4]
        simp only
        split at h
        · rename_i hi; cases h; rw [if_pos hi]; exact ⟨rfl, h5⟩
        · rename_i hi; cases h; rw [if_neg hi]; exact ⟨rfl, h5⟩
      · rename_i hno
        obtain ⟨h4, h5⟩ := ih c st sy ex s sy' h hh
        rw [h4]
        cases ex with
        | exit i => exact absurd h (hno _ _ _)
        | _ => exact ⟨rfl, h5⟩
    | loop c =>
      simp only [xcodeS] at h
      simp only [xcode]
      split at h
      · rename_i s1 sy1 h1
        obtain ⟨h2, h3⟩ := ih (.loop c) s1 sy1 ex s sy' h hh
        obtain ⟨h4, h5⟩ := ih c st sy .normal s1 sy1 h1 h3
        rw [h4]
        simp only [h2]
        exact ⟨rfl, h5⟩
      · rename_i hno
        obtain ⟨h4, h5⟩ := ih c st sy ex s sy' h hh
        rw [h4]
        cases ex with
        | normal => exact absurd h (hno _ _)
        | _ => exact ⟨rfl, h5⟩
    | _ => cases h
end

/-- A function's body run with guesses, on an empty heap; what it hands back must be a tree. -/
def xfunS (P : Program) (gl : Nat → AV) (fl : Nat) (ch : CallH) (f : Nat) (args : List AV) (hints : List Bool) : Option (AV × List (Bool × Bool)) :=
  match P.funcs[f]? with
  | some fn => match fn.body with
    | some c => match Nat.ble args.length fn.ntmps with
      | true => match xcodeS P gl ch fl c ⟨fn.ntmps, argSl 0 args, .nil, 0⟩ ⟨hints, []⟩ with
        | some (ex, s, sy) => match endsFn ex with
          | true => match resOf P s fn.results.toList with
            | some r => match tree (lkb s.hp) false 12 r with
              | some r' => some (r', sy.obs)
              | none => none
            | none => none
          | false => none
        | none => none
      | false => none
    | none => none
  | none => none

/-- A contract on any heap, which leaves the boxes alone. -/
def PureOk (P : Program) (gl : Nat → AV) (f : Nat) (args : List AV) (r : AV) : Prop := ∀ hp nx, CallOk P gl f args hp nx r hp nx
abbrev PureH := Nat → List AV → Option AV
def PureH.Ok (P : Program) (gl : Nat → AV) (c : PureH) : Prop := ∀ f args r, c f args = some r → PureOk P gl f args r
def chOf (c : PureH) : CallH := fun f args hp nx => match c f args with
  | some r => some (r, hp, nx)
  | none => none
theorem chOf_ok {P : Program} {gl : Nat → AV} {c : PureH} (h : c.Ok P gl) : CallH.Ok P gl (chOf c) := by
  intro f args hp nx r hp' nx' hk
  unfold chOf at hk
  split at hk
  · rename_i r' hr; cases hk; exact h f args r hr hp nx
  · cases hk
def noRound : RoundH := fun _ _ _ _ => none
theorem noRound_ok {P : Program} {gl : Nat → AV} : RoundH.Ok P gl noRound := fun _ _ _ _ _ _ _ h => by cases h

def notBs : AV → Bool
  | .bs .. => false
  | _ => true
def isTrees (args : List AV) : Prop := optL (tree (fun _ => none) false 12) args = some args

theorem tree_bs {hp : Hp} {strict : Bool} {k id ver sz off len : Nat} {r : AV} (h : tree hp strict (k + 1) (.bs id ver sz off len) = some r) : ∃ sz xs, r = .sl sz xs := by
  simp only [tree] at h
  split at h
  · split at h
    · split at h
      · cases h; exact ⟨_, _, rfl⟩
      · cases h
    · cases h
  · cases h

/-- From an empty heap to any. -/
theorem pure_of {P : Program} {gl : Nat → AV} {f : Nat} {args : List AV} {r0 r : AV} {hp' : Tr Box} {nx' : Nat} (h : CallOk P gl f args .nil 0 r0 hp' nx') (ha : isTrees args) (hn : notBs r0 = true) (ht : tree (lkb hp') false 12 r0 = some r) : PureOk P gl f args r := by
  intro hp nx
  refine ⟨h.1, fun m H B H0 rest w vs hh hl hv hrest => ?_⟩
  classical
  have hch : CallH.Ok P gl (fun f' a' h' n' => if f' = f ∧ a' = args ∧ h' = .nil ∧ n' = 0 then some (r0, hp', nx') else none) := by
    intro f' a' h' n' r' h2 n2 hk
    by_cases e : f' = f ∧ a' = args ∧ h' = .nil ∧ n' = 0
    · simp only [e, and_self, if_true] at hk
      obtain ⟨rfl, rfl, rfl, rfl⟩ := e
      cases hk; exact h
    · simp only [e, if_false] at hk; cases hk
  have hr : RelS m H B H0 gl rest ⟨1, .nil, hp, nx + 1⟩ (Act.mk #[Go.undef] []).tmps w := by
    refine ⟨{ hh with fresh := fun id hid => hh.fresh id (by show nx ≤ id; have : nx + 1 ≤ id := hid; omega) }, rfl, fun k => ?_, hrest⟩
    have : St.get ⟨1, .nil, hp, nx + 1⟩ k = AV.undef := by show lk AV.undef .nil k = AV.undef; unfold lk; cases path k <;> rfl
    rw [this]; exact .imm _ _ (.undef _)
  have hx : xpure (fun f' a' h' n' => if f' = f ∧ a' = args ∧ h' = .nil ∧ n' = 0 then some (r0, hp', nx') else none) (lkb hp) nx f args = some (r, none) := by
    unfold xpure
    rw [ha]
    simp only [and_self, if_true]
    have e : xpureR false nx (some (r0, hp', nx')) = xv (tree (lkb hp') false 12 r0) := by cases r0 <;> first | rfl | cases hn
    rw [e, ht]; rfl
  have := xpure_ok (dst := some 0) hch hr rfl (bid := nx) (hh.fresh nx (Nat.le_refl _)) (Nat.lt_succ_self _) hl hv hx
  refine this.2.mono fun e w' hpost => ?_
  obtain ⟨v, m', H', he, hb, hr'⟩ := hpost
  refine ⟨v, m', H', he, hb, { hr'.heap with fresh := hh.fresh }, ?_, hr'.rest⟩
  have := hr'.slot 0
  have e1 : St.get ((⟨1, .nil, hp, nx + 1⟩ : St).eff (some 0) (r, none)) 0 = r := by
    show lk .undef (pt .nil 0 r) 0 = r
    rw [lk_pt]; simp
  rw [e1] at this
  exact this

theorem symOk {P : Program} {gl : Nat → AV} {gd : Nat → Bool} {fl : Nat} {c : PureH} (hp : ProgOk P gd) (hc : c.Ok P gl) {f : Nat} (hg : gd f = true) {args : List AV} {hints : List Bool} {r : AV} {obs : List (Bool × Bool)} (ha : isTrees args) (h : xfunS P gl fl (chOf c) f args hints = some (r, obs)) (ho : ∀ p ∈ obs, p.1 = p.2) (hn : notBs r = true) (hsl : ∀ sz xs, r ≠ .sl sz xs) : PureOk P gl f args r := by
  unfold xfunS at h
  split at h
  · rename_i fn hf
    split at h
    · rename_i code hb
      split at h
      · rename_i hle
        split at h
        · rename_i ex s sy hx
          split at h
          · rename_i hex
            split at h
            · rename_i r0 hr0
              split at h
              · rename_i r' ht
                cases h
                obtain ⟨h1, _⟩ := xcodeS_ok (rd := noRound) (top := true) _ _ _ _ _ _ _ hx ho
                have hcall : xfun P gl gd fl (chOf c) noRound f args .nil 0 = some (r0, s.hp, s.nx) := by
                  unfold xfun
                  rw [hg, hf]
                  simp only [cond_true, hb, hle, h1, hex, shut]
                  have : s.setHp s.hp s.nx = s := by cases s; rfl
                  rw [this, hr0]
                have hn0 : notBs r0 = true := by
                  cases r0 <;> first | rfl | skip
                  rename_i id ver sz off len
                  obtain ⟨sz', xs, e⟩ := tree_bs ht
                  exact absurd e (hsl _ _)
                exact pure_of (xfun_ok hp (chOf_ok hc) noRound_ok _ _ _ _ _ _ _ hcall) ha hn0 ht
              · cases h
            · cases h
          · cases h
        · cases h
      · cases h
    · cases h
  · cases h

/-- A run with nothing unknown. -/
theorem runOk {P : Program} {gl : Nat → AV} {gd : Nat → Bool} {fl k : Nat} (hp : ProgOk P gd) {f : Nat} {args : List AV} {r0 r : AV} {hp' : Tr Box} {nx' : Nat} (ha : isTrees args) (h : xcall P gl gd fl k f args .nil 0 = some (r0, hp', nx')) (hn : notBs r0 = true) (ht : tree (lkb hp') false 12 r0 = some r) : PureOk P gl f args r :=
  pure_of (xcall_ok hp k _ _ _ _ _ _ _ h) ha hn ht
end HX
