/- Contracts of functions whose answers are trees. -/
import Derived.Test.YtcphiogbjdehhaaDoorHxFn
namespace HX
open Go Go.RowKit

/-- A contract on any heap, which leaves the boxes alone. -/
def PureOk (P : Program) (gl : Nat → AV) (f : Nat) (args : List AV) (r : AV) : Prop := ∀ hp nx, CallOk P gl f args hp nx r hp nx
abbrev PureH := Nat → List AV → Option AV
def PureH.Ok (P : Program) (gl : Nat → AV) (c : PureH) : Prop := ∀ f args r, c f args = some r → PureOk P gl f args r
def chOf (c : PureH) : CallH := fun f args hp nx => match c f args with
  | some r => some (r, hp, nx)
  | none => none
theorem chOf_ok {P : Program} {gl : Nat → AV} {c : PureH} (h : c.Ok P gl) : CallH.Ok P gl (chOf c) := by
  intro f args hp nx r hp' nx' hk
  unfold chOf at hk
  split at hk
  · rename_i r' hr; cases hk; exact h f args r hr hp nx
  · cases hk
def noRound : RoundH := fun _ _ _ _ => none
theorem noRound_ok {P : Program} {gl : Nat → AV} : RoundH.Ok P gl noRound := fun _ _ _ _ _ _ _ h => by cases h

def notBs : AV → Bool
  | .bs .. => false
  | _ => true
def isTrees (args : List AV) : Prop := optL (tree (fun _ => none) false 12) args = some args

theorem tree_bs {hp : Hp} {strict : Bool} {k id ver sz off len : Nat} {r : AV} (h : tree hp strict (k + 1) (.bs id ver sz off len) = some r) : ∃ sz xs, r = .sl sz xs := by
  simp only [tree] at h
  split at h
  · split at h
    · split at h
      · cases h; exact ⟨_, _, rfl⟩
      · cases h
    · cases h
  · cases h

/-- From an empty heap to any. -/
theorem pure_of {P : Program} {gl : Nat → AV} {f : Nat} {args : List AV} {r0 r : AV} {hp' : Tr Box} {nx' : Nat} (h : CallOk0 P gl f args r0 hp' nx') (ha : isTrees args) (hn : notBs r0 = true) (ht : tree (lkb hp') false 12 r0 = some r) : PureOk P gl f args r := by
  intro hp nx
  intro m H B H0 rest w vs hh hl hv hrest
  classical
  have hch : ∀ f' a' r' h2 n2, (fun f' a' h' n' => if f' = f ∧ a' = args ∧ h' = .nil ∧ n' = 0 then some (r0, hp', nx') else none : CallH) f' a' .nil 0 = some (r', h2, n2) → CallOk0 P gl f' a' r' h2 n2 := by
    intro f' a' r' h2 n2 hk
    by_cases e : f' = f ∧ a' = args
    · obtain ⟨rfl, rfl⟩ := e
      simp only [and_self, if_true] at hk
      cases hk; exact h
    · have e' : ¬ (f' = f ∧ a' = args ∧ (Tr.nil : Tr Box) = .nil ∧ 0 = 0) := fun h => e ⟨h.1, h.2.1⟩
      dsimp only at hk
      rw [if_neg e'] at hk; cases hk
  have hr : RelS m H B H0 gl rest ⟨1, .nil, hp, nx + 1⟩ (Act.mk #[Go.undef] []).tmps w := by
    refine ⟨{ hh with fresh := fun id hid => hh.fresh id (by show nx ≤ id; have : nx + 1 ≤ id := hid; omega) }, rfl, fun k => ?_, hrest⟩
    have : St.get ⟨1, .nil, hp, nx + 1⟩ k = AV.undef := by show lk AV.undef .nil k = AV.undef; unfold lk; cases path k <;> rfl
    rw [this]; exact .imm _ _ (.undef _)
  have hx : xpure (fun f' a' h' n' => if f' = f ∧ a' = args ∧ h' = .nil ∧ n' = 0 then some (r0, hp', nx') else none) (lkb hp) nx f args = some (r, none) := by
    unfold xpure
    rw [ha]
    simp only [and_self, if_true]
    have e : xpureR false nx (some (r0, hp', nx')) = xv (tree (lkb hp') false 12 r0) := by cases r0 <;> first | rfl | cases hn
    rw [e, ht]; rfl
  have := xpure_ok0 (dst := some 0) hch hr rfl (bid := nx) (hh.fresh nx (Nat.le_refl _)) (Nat.lt_succ_self _) hl hv hx
  refine this.mono fun e w' hpost => ?_
  obtain ⟨v, m', H', he, hb, hr'⟩ := hpost
  refine ⟨v, m', H', he, hb, { hr'.heap with fresh := hh.fresh }, ?_, hr'.rest⟩
  have := hr'.slot 0
  have e1 : St.get ((⟨1, .nil, hp, nx + 1⟩ : St).eff (some 0) (r, none)) 0 = r := by
    show lk .undef (pt .nil 0 r) 0 = r
    rw [lk_pt]; simp
  rw [e1] at this
  exact this

/-- A run with nothing unknown. -/
theorem runOk {P : Program} {gl : Nat → AV} {gd : Nat → Bool} {fl k : Nat} (hp : ProgOk P gd) {f : Nat} {args : List AV} {r0 r : AV} {hp' : Tr Box} {nx' : Nat} (ha : isTrees args) (h : xcall P gl gd fl k f args .nil 0 = some (r0, hp', nx')) (hn : notBs r0 = true) (ht : tree (lkb hp') false 12 r0 = some r) : PureOk P gl f args r :=
  pure_of (xcall_ok hp k _ _ _ _ _ _ _ h).zero ha hn ht
end HX
