/- Proved in the last of these texts: for every input the law returns true and its arguments read afterwards as they read before. This text: a part of the proof. -/
import Derived.Test.YtkgphhemcglgnaaGreatDoorP2
import Derived.ChangeArms
import Derived.RangeFuncRecord
set_option linter.unusedVariables false
set_option linter.unusedSimpArgs false
set_option linter.unusedSectionVars false
section
namespace HY
open Go Go.RowKit
def optJ {α : Type} (f : α → Option (List Nat)) : List α → Option (List Nat)
 | [] => some []
 | x :: xs => match f x with
  | some l => match optJ f xs with
   | some r => some (l ++ r)
   | none => none
  | none => none
theorem WX {α : Type} {f : α → Option (List Nat)} : ∀ {xs : List α} {l : List Nat}, optJ f xs = some l → ∀ x ∈ xs, ∃ r, f x = some r ∧ ∀ i ∈ r, i ∈ l
 | [], _, _, x, hx => by cases hx
 | y :: ys, l, h, x, hx => by
  simp only [optJ] at h
  split at h
  ·rename_i a ha
   split at h
   ·rename_i b hb
    cases h
    rcases List.mem_cons.1 hx with rfl | hx
    ·simp_all
    ·obtain ⟨r, h1, h2⟩ := WX hb x hx
     simp_all
   ·cases h
  ·cases h
theorem UY {α : Type} {f : α → Option (List Nat)} : ∀ {xs : List α} {l : List Nat}, optJ f xs = some l → ∀ i ∈ l, ∃ x ∈ xs, ∃ r, f x = some r ∧ i ∈ r
 | [], l, h, i, hi => by cases h; cases hi
 | y :: ys, l, h, i, hi => by
  simp only [optJ] at h
  split at h
  ·rename_i a ha
   split at h
   ·rename_i b hb
    cases h
    rcases List.mem_append.1 hi with hi | hi
    ·simp_all
    ·obtain ⟨x, h1, h2⟩ := UY hb i hi
     grind
   ·cases h
  ·cases h
def XI : Nat → AV → Option (List Nat)
 | 0, _ => none
 | k + 1, x => match x with
  | .ptr id _ _ => some [id]
  | .bs id _ _ _ _ => some [id]
  | .ow id _ _ _ => some [id]
  | .oe id _ _ _ _ => some [id]
  | .yld id => some [id]
  | .mp id => some [id]
  | .fn _ cs => optJ (XI k) cs
  | .agg cs => optJ (XI k) cs
  | .tup cs => optJ (XI k) cs
  | _ => some []
def GM : Box → Option (List Nat)
 | .cells _ cs => optJ (XI 12) cs
 | .map es => optJ (fun e => XI 12 e.2) es
 | .mapI _ => some []
 | _ => none
structure RQ (E E' : Env) (id : Nat) : Prop where
 al : ∀ ver, E.al id ver → E'.al id ver
 loc : ∀ ver l, E'.loc id ver = some l → E.loc id ver = some l
 lp : ∀ l, E.lp id = some l → E'.lp id = some l
theorem RV.agree {H : HV} {E E' : Env} : ∀ (k : Nat) {x : AV} {v : Value} {l : List Nat}, XI k x = some l → (∀ id ∈ l, RQ E E' id) → RV H E x v → RV H E' x v
 | 0, _, _, _, h, _, _ => by cases h
 | k + 1, x, v, l, h, he, hx => by
  have ih := fun (x : AV) (v : Value) (l : List Nat) => RV.agree (H := H) (E := E) (E' := E') k (x := x) (v := v) (l := l)
  have hlist : ∀ (cs : List AV) (vs : Array Value), optJ (XI k) cs = some l → (∀ (j : Nat) (c : AV) (v : Value), cs[j]? = some c → vs[j]? = some v → RV H E c v) → ∀ (j : Nat) (c : AV) (v : Value), cs[j]? = some c → vs[j]? = some v → RV H E' c v := fun cs vs hj hc j c v h1 h2 => by
   obtain ⟨r, hr, hs⟩ := WX hj c (List.mem_of_getElem? h1)
   grind
  cases hx with
  | imm _ _ hi => exact .imm _ _ hi
  | ptr id ver off a h1 h2 =>
   simp only [XI, Option.some.injEq] at h
   subst h
   have e := he id (by simp)
   exact .ptr id ver off a (e.al _ h1) fun l hl => h2 l (e.loc _ _ hl)
  | bs id ver sz off len a cap h1 h2 h3 h4 =>
   simp only [XI, Option.some.injEq] at h
   subst h
   have e := he id (by simp)
   exact .bs id ver sz off len a cap (e.al _ h1) h2 h3 fun l hl => h4 l (e.loc _ _ hl)
  | ow id ver sz len a cap h1 h2 h3 h5 h4 =>
   simp only [XI, Option.some.injEq] at h
   subst h
   have e := he id (by simp)
   exact .ow id ver sz len a cap (e.al _ h1) h2 h3 h5 fun l hl => h4 l (e.loc _ _ hl)
  | oe id ver sz i off a h1 h2 =>
   simp only [XI, Option.some.injEq] at h
   subst h
   have e := he id (by simp)
   exact .oe id ver sz i off a (e.al _ h1) fun l hl => h2 l (e.loc _ _ hl)
  | yld id l' h1 =>
   simp only [XI, Option.some.injEq] at h
   subst h
   exact .yld id l' ((he id (by simp)).lp _ h1)
  | mp id l' h1 =>
   simp only [XI, Option.some.injEq] at h
   subst h
   exact .mp id l' ((he id (by simp)).lp _ h1)
  | fn f cs vs hl hc =>
   simp only [XI] at h
   exact .fn f cs vs hl (hlist cs vs h hc)
  | agg cs vs hl h1 hc =>
   simp only [XI] at h
   exact .agg cs vs hl h1 (hlist cs vs h hc)
  | tup cs vs hl hc =>
   simp only [XI] at h
   exact .tup cs vs hl (hlist cs vs h hc)
theorem Y1.agree {H : HV} {E E' : Env} {b : Box} {lc : Lc} {w : World} {l : List Nat} (h : GM b = some l) (he : ∀ id ∈ l, RQ E E' id) (hb : Y1 H E b lc w) : Y1 H E' b lc w := by
 cases b with
 | cells ver cs =>
  obtain ⟨C, e, h1, h2, h3, h4⟩ := hb
  refine ⟨C, e, h1, h2, h3, fun j c hj => ?_⟩
  obtain ⟨v, a, b, d⟩ := h4 j c hj
  obtain ⟨r, hr, hs⟩ := WX h c (List.mem_of_getElem? hj)
  exact ⟨v, a, b, d.agree 12 hr fun id hid => he id (hs id hid)⟩
 | map es =>
  obtain ⟨A, c, h1, h2, h3⟩ := hb
  refine ⟨A, c, h1, h2, fun j k x e hj hA => ?_⟩
  obtain ⟨a, d⟩ := h3 j k x e hj hA
  obtain ⟨r, hr, hs⟩ := WX h (k, x) (List.mem_of_getElem? hj)
  exact ⟨a, d.agree 12 hr fun id hid => he id (hs id hid)⟩
 | mapI es =>
  obtain ⟨A, c, h1, h2, h3⟩ := hb
  refine ⟨A, c, h1, h2, fun j k x e hj hA => ?_⟩
  obtain ⟨a, d⟩ := h3 j k x e hj hA
  obtain ⟨p, _, hp⟩ := List.mem_map.1 (List.mem_of_getElem? hj)
  cases hp
  exact ⟨a, d.agree 12 (l := []) rfl fun id hid => by cases hid⟩
 | _ => cases h
def VV {α : Type} (f : α → α → Bool) : List α → List α → Bool
 | [], [] => true
 | x :: xs, y :: ys => f x y && VV f xs ys
 | _, _ => false
theorem Kp {α : Type} {f : α → α → Bool} (hf : ∀ x y, f x y = true → x = y) : ∀ {xs ys : List α}, VV f xs ys = true → xs = ys
 | [], [], _ => rfl
 | x :: xs, y :: ys, h => by
  simp only [VV, Bool.and_eq_true] at h
  rw [hf x y h.1, Kp hf h.2]
 | [], _ :: _, h => by cases h
 | _ :: _, [], h => by cases h
def HM (a b : UInt8) : Bool := Nat.beq a.toNat b.toNat
theorem LA (a b : UInt8) (h : HM a b = true) : a = b := UInt8.toNat_inj.1 (Nat.eq_of_beq_eq_true h)
def avEq : Nat → AV → AV → Bool
 | 0, _, _ => false
 | k + 1, x, y => match x, y with
  | .undef, .undef => true
  | .bool a, .bool b => match a, b with | true, true => true | false, false => true | _, _ => false
  | .int s n, .int t m => decide (s = t) && decide (n = m)
  | .str a, .str b => VV HM a b
  | .nil, .nil => true
  | .emp, .emp => true
  | .sl s xs, .sl t ys => Nat.beq s t && VV (avEq k) xs ys
  | .ip s xs i o, .ip t ys j p => Nat.beq s t && (Nat.beq i j && (Nat.beq o p && VV (avEq k) xs ys))
  | .ptr a b c, .ptr d e f => Nat.beq a d && (Nat.beq b e && Nat.beq c f)
  | .bs a b c d e, .bs a' b' c' d' e' => Nat.beq a a' && (Nat.beq b b' && (Nat.beq c c' && (Nat.beq d d' && Nat.beq e e')))
  | .ow a b c d, .ow a' b' c' d' => Nat.beq a a' && (Nat.beq b b' && (Nat.beq c c' && Nat.beq d d'))
  | .oe a b c d e, .oe a' b' c' d' e' => Nat.beq a a' && (Nat.beq b b' && (Nat.beq c c' && (Nat.beq d d' && Nat.beq e e')))
  | .nilp, .nilp => true
  | .nilfn, .nilfn => true
  | .fn f cs, .fn g ds => Nat.beq f g && VV (avEq k) cs ds
  | .yld a, .yld b => Nat.beq a b
  | .mp a, .mp b => Nat.beq a b
  | .val v, .val u => E3 v && E3 u
  | .agg cs, .agg ds => VV (avEq k) cs ds
  | .tup cs, .tup ds => VV (avEq k) cs ds
  | _, _ => false
theorem Fh {v : Value} (h : E3 v = true) : v = .map none := by
 grind [E3]
theorem M2 : ∀ (k : Nat) (x y : AV), avEq k x y = true → x = y
 | 0, _, _, h => by cases h
 | k + 1, x, y, h => by
  have ih := M2 k
  unfold avEq at h
  split at h <;> first | rfl | cases h | skip
  ·grind
  ·simp_all
  ·rw [Kp LA h]
  ·simp only [Bool.and_eq_true] at h
   grind [Nat.eq_of_beq_eq_true, Kp]
  ·simp only [Bool.and_eq_true] at h
   grind [Nat.eq_of_beq_eq_true, Kp]
  ·simp_all
  ·simp_all
  ·simp_all
  ·simp_all
  ·simp only [Bool.and_eq_true] at h
   grind [Nat.eq_of_beq_eq_true, Kp]
  ·simp_all
  ·simp_all
  ·simp only [Bool.and_eq_true] at h
   grind [Fh]
  ·rw [Kp ih h]
  ·rw [Kp ih h]
def boxEq : Box → Box → Bool
 | .cells v cs, .cells u ds => Nat.beq v u && VV (avEq 12) cs ds
 | .map es, .map fs => VV (fun x y => VV HM x.1 y.1 && avEq 12 x.2 y.2) es fs
 | .mapI es, .mapI fs => VV (fun x y => VV HM x.1 y.1 && avEq 12 (.int .i64 x.2) (.int .i64 y.2)) es fs
 | _, _ => false
theorem FS {a b : Box} (h : boxEq a b = true) : a = b := by
 unfold boxEq at h
 split at h
 ·simp only [Bool.and_eq_true] at h
  grind [Nat.eq_of_beq_eq_true, Kp, M2]
 ·rw [Kp (fun x y hxy => ?_) h]
  rw [Bool.and_eq_true] at hxy
  grind [Prod.ext, Kp, LA, M2]
 ·rw [Kp (fun x y hxy => ?_) h]
  rw [Bool.and_eq_true] at hxy
  grind [Prod.ext, Kp, LA, M2]
 ·cases h
def memT (t : Tr Unit) (id : Nat) : Bool := match t.get (path id) with | some _ => true | none => false
theorem memT_pt {t : Tr Unit} {id k : Nat} (h : memT (pt t id ()) k = true) : k = id ∨ memT t k = true := by
 unfold memT pt at h
 rw [Tr.get_set] at h
 by_cases e : path id = path k
 ·simp_all [Hi]
 ·rw [if_neg e] at h; exact .inr h
theorem MD {k : Nat} : memT .nil k = false := by
 unfold memT; cases path k <;> rfl
def Gi (hp : Hp) : Nat → List Nat → Tr Unit → List Nat → Option (Tr Unit × List Nat)
 | 0, _, _, _ => none
 | k + 1, todo, seen, acc => match todo with
  | [] => some (seen, acc)
  | id :: r => bif memT seen id then Gi hp k r seen acc else match hp id with
   | some b => match GM b with
    | some l => Gi hp k (l ++ r) (pt seen id ()) (id :: acc)
    | none => none
   | none => none
theorem Gj {hp : Hp} {S0 : Nat → Prop} : ∀ (k : Nat) (todo : List Nat) (seen : Tr Unit) (acc : List Nat) (seen' : Tr Unit) (acc' : List Nat), Gi hp k todo seen acc = some (seen', acc') →
  (∀ id, memT seen id = true → id ∈ acc ∨ S0 id) → (∀ id ∈ acc, ∃ b l, hp id = some b ∧ GM b = some l ∧ ∀ j ∈ l, j ∈ acc ∨ S0 j ∨ j ∈ todo) →
  (∀ id, memT seen' id = true → id ∈ acc' ∨ S0 id) ∧ (∀ id ∈ acc', ∃ b l, hp id = some b ∧ GM b = some l ∧ ∀ j ∈ l, j ∈ acc' ∨ S0 j) ∧ (∀ j ∈ todo, j ∈ acc' ∨ S0 j) ∧ ∀ id ∈ acc, id ∈ acc'
 | 0, _, _, _, _, _, h, _, _ => by cases h
 | k + 1, [], seen, acc, seen', acc', h, h1, h2 => by
  simp only [Gi, Option.some.injEq, Prod.mk.injEq] at h
  simp_all
 | k + 1, id :: r, seen, acc, seen', acc', h, h1, h2 => by
  simp only [Gi] at h
  cases hm : memT seen id with
  | true =>
   rw [hm, cond_true] at h
   obtain ⟨e1, e2, e3, e4⟩ := Gj k r seen acc seen' acc' h h1 fun i hi => by
    grind
   grind
  | false =>
   rw [hm, cond_false] at h
   split at h
   ·rename_i b hb
    split at h
    ·rename_i l hl
     obtain ⟨e1, e2, e3, e4⟩ := Gj k (l ++ r) _ _ seen' acc' h (fun i hi => by
      rcases memT_pt hi with rfl | hi
      ·simp_all
      ·rcases h1 i hi with h | h
       ·simp_all
       ·exact .inr h) fun i hi => by
      grind
     simp_all
    ·cases h
   ·cases h
theorem LR {hp hp' : Hp} (he : Ext hp hp') (hb : ∀ id b l, hp id = some b → GM b = some l → ∀ j ∈ l, ∃ b', hp j = some b') : ∀ (k : Nat) (todo : List Nat) (seen : Tr Unit) (acc : List Nat), (∀ j ∈ todo, ∃ b, hp j = some b) → Gi hp' k todo seen acc = Gi hp k todo seen acc
 | 0, _, _, _, _ => rfl
 | k + 1, [], _, _, _ => rfl
 | k + 1, id :: r, seen, acc, ht => by
  obtain ⟨b, hid⟩ := ht id (by simp)
  simp only [Gi, he _ _ hid, hid]
  rw [LR he hb k r seen acc fun j hj => ht j (by simp [hj])]
  cases hl : GM b with
  | none => rfl
  | some l =>
   simp only
   rw [LR he hb k (l ++ r) _ _ fun j hj => ?_]
   grind
def VE (hp : Hp) : List Nat → Tr Box
 | [] => .nil
 | id :: r => match hp id with
  | some b => pt (VE hp r) id b
  | none => VE hp r
theorem SX {hp : Hp} : ∀ (l : List Nat) (k : Nat), lkb (VE hp l) k = if k ∈ l then hp k else none
 | [], k => by rw [show VE hp [] = .nil from rfl, Zm]; simp
 | id :: r, k => by
  unfold VE
  have ih := SX (hp := hp) r
  cases hid : hp id with
  | none =>
   grind
  | some b =>
   simp only
   rw [Z1]
   grind [id, Qk, Qo]
def X6 (t : Tr Box) : List (Nat × Box) → Tr Box
 | [] => t
 | x :: r => X6 (pt t x.1 x.2) r
def pick (hp : Hp) : List Nat → List (Nat × Box)
 | [] => []
 | id :: r => match hp id with
  | some b => (id, b) :: pick hp r
  | none => pick hp r
theorem Vq {hp : Hp} : ∀ (l : List Nat) (t : Tr Box) (k : Nat), lkb (X6 t (pick hp l)) k = if k ∈ l ∧ (hp k).isSome = true then hp k else lkb t k
 | [], t, k => by simp [pick, X6]
 | id :: r, t, k => by
  unfold pick
  cases hid : hp id with
  | none =>
   simp only
   rw [Vq r t k]
   grind
  | some b =>
   simp only [X6]
   rw [Vq r _ k, Z1]
   grind [id, Qk, Qo]
def Md (hp hp' : Hp) (id : Nat) : Bool := match hp id, hp' id with
 | some a, some b => boxEq a b
 | _, _ => false
def GS (ch : Ql) (hp : Hp) (nx f : Nat) (args : List AV) : Option (AV × List (Nat × Box) × Nat × Bool) :=
 match optJ (XI 12) args with
 | some ids => match Gi hp 100000 ids .nil [] with
  | some (seen, S) => match ch f args (VE hp S) nx with
   | some (r, hp', nx') => match XI 12 r with
    | some rid => match Gi (lkb hp') 100000 (S ++ rid) .nil [] with
     | some (_, N) => match N.all (fun id => Nat.ble nx id || memT seen id) && Nat.ble nx nx' with
      | true => some (r, pick (lkb hp') N, nx', !S.all (Md hp (lkb hp')))
      | false => none
     | none => none
    | none => none
   | none => none
  | none => none
 | none => none
section
variable {P : Program} {m : Nat → Lc} {H : HV} {B : Nat → Prop} {H0 : HV} {gl : Nat → AV} {rest : List (AV × Value)} {st : St} {a : Act} {w : World} {ch : Ql}
theorem I3 {hp : Hp} {E : Env} (hE : E = Q5 hp m) : ∀ (k : Nat) {x : AV} {v : Value} {l : List Nat}, XI k x = some l → RV H E x v → ∀ j ∈ l, ∃ b, hp j = some b
 | 0, _, _, _, h, _, _, _ => by cases h
 | k + 1, x, v, l, h, hx, j, hj => by
  subst hE
  have ih := fun (x : AV) (v : Value) (l : List Nat) => I3 (hp := hp) (E := Q5 hp m) rfl k (x := x) (v := v) (l := l)
  have hlp : ∀ id l', (Q5 hp m).lp id = some l' → ∃ b, hp id = some b := fun id l' h => by
   cases hid : hp id with
   | some b => simp_all
   | none => simp_all [Q5]
  cases x with
  | ptr id ver off => simp only [XI, Option.some.injEq] at h; subst h; simp at hj; subst hj; exact YG (Mc hx)
  | bs id ver sz off len => simp only [XI, Option.some.injEq] at h; subst h; simp at hj; subst hj; exact YG (Mu hx)
  | ow id ver sz len => simp only [XI, Option.some.injEq] at h; subst h; simp at hj; subst hj; exact YG (ow_al hx)
  | oe id ver sz i off => simp only [XI, Option.some.injEq] at h; subst h; simp at hj; subst hj; exact YG (oe_al hx)
  | yld id => simp only [XI, Option.some.injEq] at h; subst h; simp at hj; subst hj; obtain ⟨l', _, h⟩ := hx.yld_inv; simp_all
  | mp id => simp only [XI, Option.some.injEq] at h; subst h; simp at hj; subst hj; obtain ⟨l', _, h⟩ := hx.mp_inv; simp_all
  | fn f cs =>
   simp only [XI] at h
   obtain ⟨c, hc, r, hr, hjr⟩ := UY h j hj
   obtain ⟨vs, rfl, hl, hcs⟩ := hx.fn_inv
   obtain ⟨i, hi⟩ := List.getElem?_of_mem hc
   exact ih c _ r hr (hcs i c _ hi (Array.getElem?_eq_getElem (by grind))) j hjr
  | agg cs =>
   simp only [XI] at h
   obtain ⟨c, hc, r, hr, hjr⟩ := UY h j hj
   obtain ⟨vs, rfl, hl, _, hcs⟩ := hx.agg_inv
   obtain ⟨i, hi⟩ := List.getElem?_of_mem hc
   exact ih c _ r hr (hcs i c _ hi (Array.getElem?_eq_getElem (by grind))) j hjr
  | tup cs =>
   simp only [XI] at h
   obtain ⟨c, hc, r, hr, hjr⟩ := UY h j hj
   obtain ⟨vs, rfl, hl, hcs⟩ := hx.tup_inv
   obtain ⟨i, hi⟩ := List.getElem?_of_mem hc
   exact ih c _ r hr (hcs i c _ hi (Array.getElem?_eq_getElem (by grind))) j hjr
  | _ => simp_all [XI, Option.some.injEq]
theorem box_dom {hp : Hp} {E : Env} (hE : E = Q5 hp m) {b : Box} {lc : Lc} {l : List Nat} (h : GM b = some l) (hb : Y1 H E b lc w) : ∀ j ∈ l, ∃ b', hp j = some b' := fun j hj => by
 cases b with
 | cells ver cs =>
  obtain ⟨C, e, h1, h2, h3, h4⟩ := hb
  obtain ⟨c, hc, r, hr, hjr⟩ := UY h j hj
  grind [List.getElem?_of_mem, I3]
 | map es =>
  obtain ⟨A, c, h1, h2, h3⟩ := hb
  obtain ⟨⟨k, x⟩, hc, r, hr, hjr⟩ := UY h j hj
  obtain ⟨i, hi⟩ := List.getElem?_of_mem hc
  have hiA : i < A.size := by grind
  obtain ⟨_, d⟩ := h3 i k x (A[i]'hiA) hi (Array.getElem?_eq_getElem hiA)
  grind [I3]
 | mapI es => cases h; cases hj
 | _ => cases h
theorem Eu (h : RelS m H B H0 gl rest st a.tmps w) {hp' : Hp} (he : Ext (lkb st.hp) hp') {nx f : Nat} {args : List AV} (hargs : ∀ x ∈ args, ∃ v, RV H (st.env m) x v) : GS ch hp' nx f args = GS ch (lkb st.hp) nx f args := by
 unfold GS
 cases hids : optJ (XI 12) args with
 | none => rfl
 | some ids =>
  simp only
  have hd : ∀ j ∈ ids, ∃ b, lkb st.hp j = some b := fun j hj => by
   obtain ⟨x, hx, r, hr, hjr⟩ := UY hids j hj
   obtain ⟨v, hv⟩ := hargs x hx
   exact I3 rfl 12 hr hv j hjr
  have hre := LR he (fun id b l hid hl j hj => box_dom (w := w) rfl hl (h.heap.box id b hid) j hj) 100000 ids .nil [] hd
  rw [hre]
  cases hS : Gi (lkb st.hp) 100000 ids .nil [] with
  | none => rfl
  | some p =>
   obtain ⟨seen, S⟩ := p
   simp only
   obtain ⟨_, e2, _, _⟩ := Gj (S0 := fun _ => False) _ _ _ _ _ _ hS (fun id hm => by simp_all [MD]) (fun id hid => by cases hid)
   have hsub : VE hp' S = VE (lkb st.hp) S := by
    have : ∀ l : List Nat, (∀ id ∈ l, id ∈ S) → VE hp' l = VE (lkb st.hp) l := fun l => by
     induction l with
     | nil => intro _; rfl
     | cons x l ih =>
      intro hl
      obtain ⟨b, _, hb, _⟩ := e2 x (hl x (by simp))
      simp only [VE, he _ _ hb, hb]
      simp_all
    simp_all
   rw [hsub]
   cases hc : ch f args (VE (lkb st.hp) S) nx with
   | none => rfl
   | some q =>
    obtain ⟨r, hq, nx'⟩ := q
    simp only
    have hall : S.all (Md hp' (lkb hq)) = S.all (Md (lkb st.hp) (lkb hq)) := by
     rw [Bool.eq_iff_iff, List.all_eq_true, List.all_eq_true]
     refine forall_congr' fun id => forall_congr' fun hid => ?_
     obtain ⟨b, _, hb, _⟩ := e2 id hid
     simp only [Md, he _ _ hb, hb]
    rw [hall]
end
end HY
end
section
namespace HY
open Go Go.RowKit
section
variable {P : Program} {m : Nat → Lc} {H : HV} {B : Nat → Prop} {H0 : HV} {gl : Nat → AV} {rest : List (AV × Value)} {st : St} {a : Act} {w : World} {ch : Ql}
def Nw (hp : Hp) (m : Nat → Lc) (id : Nat) : AV × Value := match hp id with
  | some (.cells ver _) => (.ptr id ver 0, .pointer (some ⟨(m id).g, (m id).base + 0, none⟩))
  | some (.map _) => (.mp id, .map (some (m id).g))
  | some (.mapI _) => (.mp id, .map (some (m id).g))
  | _ => (.nilp, .pointer none)
theorem pin_ok {hp : Hp} (id : Nat) : RV H (Q5 hp m) (Nw hp m id).1 (Nw hp m id).2 := by
  unfold Nw
  split
  · rename_i ver cs hid
    refine .ptr id ver 0 _ ⟨_, hid, fun v hv => by cases hv; omega⟩ fun l hl => ?_
    simp_all [Ye]
  · rename_i es hid
    exact .mp id _ (by simp [Q5, hid])
  · rename_i es hid
    exact .mp id _ (by simp [Q5, hid])
  · exact .imm _ _ .nilp
theorem Ev {hp : Hp} {nx f : Nat} {args : List AV} {r : AV} {nb : List (Nat × Box)} {nx' : Nat} {chg : Bool} (h : GS ch hp nx f args = some (r, nb, nx', chg)) :
    ∃ ids seen S hp' rid seen' N, optJ (XI 12) args = some ids ∧ Gi hp 100000 ids .nil [] = some (seen, S) ∧ ch f args (VE hp S) nx = some (r, hp', nx') ∧ XI 12 r = some rid ∧
      Gi (lkb hp') 100000 (S ++ rid) .nil [] = some (seen', N) ∧ (∀ id ∈ N, nx ≤ id ∨ memT seen id = true) ∧ nx ≤ nx' ∧ nb = pick (lkb hp') N ∧ chg = !S.all (Md hp (lkb hp')) := by
  unfold GS at h
  split at h
  · rename_i ids hids
    split at h
    · rename_i seen S hS
      split at h
      · rename_i r' hp' nx2 hc
        split at h
        · rename_i rid hrid
          split at h
          · rename_i seen' N hN
            split at h
            · rename_i hb
              cases h
              rw [Bool.and_eq_true, List.all_eq_true] at hb
              refine ⟨ids, seen, S, hp', rid, seen', N, hids, hS, hc, hrid, hN, fun id hid => ?_, Nat.le_of_ble_eq_true hb.2, rfl, rfl⟩
              simp_all
            · cases h
          · cases h
        · cases h
      · cases h
    · cases h
  · cases h
theorem Td {b : Box} {l : List Nat} (h : GM b = some l) : b.elder = true := by cases b <;> first | rfl | cases h
theorem Ew {hp : Hp} {nx f : Nat} {args : List AV} {r : AV} {nb : List (Nat × Box)} {nx' : Nat} {chg : Bool} (h : GS ch hp nx f args = some (r, nb, nx', chg)) :
    ∃ (hp' : Hp) (N : List Nat), nb = pick hp' N ∧ nx ≤ nx' ∧ (∀ id ∈ N, nx ≤ id ∨ ∃ b, hp id = some b ∧ (chg = false → hp' id = some b)) := by
  obtain ⟨ids, seen, S, hp', rid, seen', N, hids, hS, hc, hrid, hN, hlo, hnx, rfl, rfl⟩ := Ev h
  obtain ⟨s1, s2, _, _⟩ := Gj (S0 := fun _ => False) _ _ _ _ _ _ hS (fun id hm => by simp_all [MD]) (fun id hid => by cases hid)
  refine ⟨_, N, rfl, hnx, fun id hid => (hlo id hid).imp (fun h => h) fun hm => ?_⟩
  grind [id, Md, lkb, List.all_eq_true, FS]
theorem P4 (hch : ch.Ok P gl) (h : RelS m H B H0 gl rest st a.tmps w) {f : Nat} {args : List AV} {vs : Array Value} {r : AV} {nb : List (Nat × Box)} {nx' : Nat} {chg : Bool} (hl : args.length = vs.size)
    (hr : ∀ (j : Nat) (x : AV) (v : Value), args[j]? = some x → vs[j]? = some v → RV H (st.env m) x v) (hk : GS ch (lkb st.hp) st.nx f args = some (r, nb, nx', chg)) :
    Ans P f vs w fun e w' => ∃ v m' H', e = .returned v ∧ Q8 B w w' ∧ RelS m' H' B H0 gl rest ⟨st.n, st.sl, X6 st.hp nb, nx'⟩ a.tmps w' ∧ RV H' (Q5 (lkb (X6 st.hp nb)) m') r v := by
  classical
  obtain ⟨ids, seen, S, hp', rid, seen', N, hids, hS, hc, hrid, hN, hNlo, hnx, rfl, _⟩ := Ev hk
  obtain ⟨s1, s2, s3, _⟩ := Gj (S0 := fun _ => False) _ _ _ _ _ _ hS (fun id hm => by simp_all [MD]) (fun id hid => by cases hid)
  have s1 : ∀ id, memT seen id = true → id ∈ S := fun id hm => (s1 id hm).elim (fun h => h) fun h => h.elim
  have s3 : ∀ j ∈ ids, j ∈ S := fun j hj => (s3 j hj).elim (fun h => h) fun h => h.elim
  have s2 : ∀ id ∈ S, ∃ b l, lkb st.hp id = some b ∧ GM b = some l ∧ ∀ j ∈ l, j ∈ S := fun id hid => by
    simp_all
  obtain ⟨_, n2, n3, _⟩ := Gj (S0 := fun _ => False) _ _ _ _ _ _ hN (fun id hm => by simp_all [MD]) (fun id hid => by cases hid)
  have n3 : ∀ j ∈ S ++ rid, j ∈ N := fun j hj => (n3 j hj).elim (fun h => h) fun h => h.elim
  have hSN : ∀ id ∈ S, id ∈ N := fun id hid => n3 id (List.mem_append_left _ hid)
  have hNdom : ∀ id ∈ N, ∃ b l, lkb hp' id = some b ∧ GM b = some l ∧ ∀ j ∈ l, j ∈ N := fun id hid => by
    simp_all
  have hNS : ∀ id ∈ N, st.nx ≤ id ∨ id ∈ S := fun id hid => (hNlo id hid).imp (fun h => h) (s1 id)
  have hpS : ∀ k, lkb (VE (lkb st.hp) S) k = if k ∈ S then lkb st.hp k else none := SX S
  let B' : Nat → Prop := fun k => k < w.heap.size ∧ ∀ id ∈ S, (m id).g ≠ k
  have hreal : ∀ id ∈ S, ∀ b, lkb st.hp id = some b → Real b (m id) := fun id hid b hb => by
    grind [id, Box.elder_real, Td]
  have hBB : ∀ k, B k → B' k := fun k hk => ⟨h.heap.low k hk, fun id hid e => by
    obtain ⟨b, l, hb, _⟩ := s2 id hid
    exact (h.heap.sepR id b hb (hreal id hid b hb)).1 (e ▸ hk)⟩
  have hE0 : ∀ id ∈ S, RQ (st.env m) (Q5 (lkb (VE (lkb st.hp) S)) m) id := fun id hid => by
    have e : lkb (VE (lkb st.hp) S) id = lkb st.hp id := by rw [hpS, if_pos hid]
    refine ⟨fun ver ⟨b, hb, hv⟩ => ⟨b, by grind, hv⟩, fun ver l hl => ?_, fun l hl => ?_⟩
    · simp only [Q5, e] at hl ⊢; exact hl
    grind [Q5]
  have hargs : ∀ (j : Nat) (x : AV) (v : Value), args[j]? = some x → vs[j]? = some v → RV H (Q5 (lkb (VE (lkb st.hp) S)) m) x v := fun j x v hx hv => by
    obtain ⟨q, hq, hs⟩ := WX hids x (List.mem_of_getElem? hx)
    exact (hr j x v hx hv).agree 12 hq fun id hid => hE0 id (s3 id (hs id hid))
  have h0 : RelH m H B' H gl (lkb (VE (lkb st.hp) S)) st.nx w :=
    { sat := h.heap.sat, old := fun _ _ _ => rfl, low := fun _ hk => hk.1,
      fresh := fun id hid => by rw [hpS, h.heap.fresh id hid]; split <;> rfl,
      box := fun id b hb => by
        rw [hpS] at hb
        split at hb
        · rename_i hid
          obtain ⟨b', l, hb', hl', hcl⟩ := s2 id hid
          rw [hb] at hb'; cases hb'
          exact (h.heap.box id b hb).agree hl' fun j hj => hE0 j (hcl j hj)
        · cases hb
      sepR := fun id b hb hre => by
        rw [hpS] at hb
        split at hb
        · rename_i hid
          obtain ⟨q1, q2, q3⟩ := h.heap.sepR id b hb hre
          exact ⟨fun hk => hk.2 id hid rfl, q2, q3⟩
        · cases hb
      injR := fun id id' b b' hb hb' h1 h2 e => by
        rw [hpS] at hb hb'
        split at hb
        · split at hb'
          · exact h.heap.injR id id' b b' hb hb' h1 h2 e
          · cases hb'
        · cases hb
      gv := fun g sz cs hg => let ⟨q1, q2⟩ := h.heap.gv g sz cs hg; ⟨hBB g q1, q2⟩
      gl := h.heap.gl
      ty := fun id ver cs hb => by
        rw [hpS] at hb
        split at hb
        · exact h.heap.ty id ver cs hb
        · cases hb }
  refine (hch _ _ _ _ _ _ _ hc m H B' H (S.map (Nw (lkb st.hp) m)) w vs h0 hl hargs fun p hp => ?_).mono fun e w1 hpost => ?_
  · obtain ⟨id, hid, rfl⟩ := List.mem_map.1 hp
    have e : Nw (lkb st.hp) m id = Nw (lkb (VE (lkb st.hp) S)) m id := by
      unfold Nw; rw [hpS, if_pos hid]
    rw [e]; exact pin_ok id
  · obtain ⟨v, m1, H1, rfl, hbl, hH, hrv, hrest⟩ := hpost
    let m2 : Nat → Lc := fun id => if id ∈ N then m1 id else m id
    have hm2N : ∀ id ∈ N, m2 id = m1 id := fun id hid => if_pos hid
    have hm2O : ∀ id, id ∉ N → m2 id = m id := fun id hid => if_neg hid
    have hpN : ∀ k, lkb (X6 st.hp (pick (lkb hp') N)) k = if k ∈ N then lkb hp' k else lkb st.hp k := fun k => by
      rw [Vq]
      by_cases hk : k ∈ N
      · obtain ⟨b, l, hb, _⟩ := hNdom k hk
        simp [hk, hb]
      · simp [hk]
    have hE1 : ∀ id ∈ N, RQ (Q5 (lkb hp') m1) (Q5 (lkb (X6 st.hp (pick (lkb hp') N))) m2) id := fun id hid => by
      have e : lkb (X6 st.hp (pick (lkb hp') N)) id = lkb hp' id := by rw [hpN, if_pos hid]
      have em := hm2N id hid
      exact ⟨fun ver ⟨b, hb, hv⟩ => ⟨b, by rw [e]; exact hb, hv⟩, fun ver l hl => by simp only [Q5, e, em] at hl ⊢; exact hl, fun l hl => by simp only [Q5, e, em] at hl ⊢; exact hl⟩
    have hE2 : Env.le (st.env m) (Q5 (lkb (X6 st.hp (pick (lkb hp') N))) m2) := by
      have atS : ∀ id ∈ S, (∀ ver, (st.env m).al id ver → (Q5 (lkb hp') m1).al id ver) ∧ (∀ ver l, (st.env m).al id ver → (Q5 (lkb hp') m1).loc id ver = some l → (st.env m).loc id ver = some l) ∧ (∀ l, (st.env m).lp id = some l → (Q5 (lkb hp') m1).lp id = some l) := fun id hid => by
        obtain ⟨b, l, hb, hl', _⟩ := s2 id hid
        obtain ⟨b1, l1, hb1, hl1, _⟩ := hNdom id (hSN id hid)
        have hpr := hrest _ (List.mem_map.2 ⟨id, hid, rfl⟩)
        unfold Nw at hpr
        rw [hb] at hpr
        cases b with
        | cells ver cs =>
          simp only at hpr
          obtain ⟨ad, e1, hal, e2⟩ := hpr.ptr_inv
          cases e1
          obtain ⟨b2, hb2, hv2⟩ := hal
          rw [hb1] at hb2; cases hb2
          have hver : ∀ v0, (st.env m).al id v0 → v0 ≤ ver := fun v0 ⟨b, hb', hv⟩ => by rw [hb] at hb'; cases hb'; exact hv ver rfl
          refine ⟨fun v0 h0 => ⟨b1, hb1, fun v hv => Nat.le_trans (hver v0 h0) (hv2 v hv)⟩, fun v0 l h0 hl => ?_, fun l hl => by simp [Q5, hb] at hl⟩
          have h1 := hver v0 h0
          simp only [Q5, hb1] at hl
          split at hl
          · rename_i v hv
            split at hl
            · rename_i hvv
              subst hvv
              cases hl
              have h2 := hv2 v hv
              obtain rfl : v = ver := by omega
              have e3 := e2 (m1 id) (by simp only [Q5, hb1, hv, if_true])
              simp only [Addr.mk.injEq, Nat.add_zero, and_true] at e3
              cases b1 with
              | cells v' cs1 =>
                obtain ⟨C, te, q1, q2, _, _⟩ := h.heap.box id _ hb
                obtain ⟨C1, te1, p1, p2, _, _⟩ := hH.box id _ hb1
                obtain ⟨C2, fr2, p3, p4⟩ := hbl.rows _ _ _ _ q1
                rw [← e3.1] at p1
                rw [p1] at p3
                cases p3
                have hz : (m1 id).size = (m id).size := by omega
                have : m1 id = m id := by
                  cases hm1 : m1 id with | mk g1 b1 z1 =>
                  cases hm : m id with | mk g0 b0 z0 =>
                  rw [hm1, hm] at e3 hz
                  simp at e3 hz
                  rw [e3.1, e3.2, hz]
                rw [this, Ye hb]
              | map es => cases hv
              | mapI es => cases hv
              | _ => cases hl1
            · cases hl
          · cases hl
        | map es =>
          simp only at hpr
          obtain ⟨l0, e1, e2⟩ := hpr.mp_inv
          cases e1
          refine ⟨fun v0 _ => ⟨b1, hb1, fun v hv => ?_⟩, fun v0 l h0 hl => ?_, fun l hl => ?_⟩
          · simp only [Q5, hb1] at e2
            cases b1 <;> first | (cases e2; done) | (cases hv; done)
          · simp only [Q5, hb1] at e2 hl
            cases b1 <;> first | (cases e2; done) | (cases hl; done)
          · simp only [Q5, hb, Option.some.injEq] at hl
            subst hl; exact e2
        | mapI es =>
          simp only at hpr
          obtain ⟨l0, e1, e2⟩ := hpr.mp_inv
          cases e1
          refine ⟨fun v0 _ => ⟨b1, hb1, fun v hv => ?_⟩, fun v0 l h0 hl => ?_, fun l hl => ?_⟩
          · simp only [Q5, hb1] at e2
            cases b1 <;> first | (cases e2; done) | (cases hv; done)
          · simp only [Q5, hb1] at e2 hl
            cases b1 <;> first | (cases e2; done) | (cases hl; done)
          · simp only [Q5, hb, Option.some.injEq] at hl
            subst hl; exact e2
        | _ => cases hl'
      have old : ∀ id b, lkb st.hp id = some b → id ∉ S → lkb (X6 st.hp (pick (lkb hp') N)) id = some b ∧ m2 id = m id := fun id b hb hs => by
        have hn : id ∉ N := fun hn => by
          rcases hNS id hn with hge | hs'
          · rw [h.heap.fresh id hge] at hb; cases hb
          · exact hs hs'
        exact ⟨by rw [hpN, if_neg hn]; exact hb, hm2O id hn⟩
      refine ⟨fun id ver hal => ?_, fun id ver l hal hl => ?_, fun id l hl => ?_⟩
      · by_cases hs : id ∈ S
        · exact (hE1 id (hSN id hs)).al ver ((atS id hs).1 ver hal)
        · obtain ⟨b, hb, hv⟩ := hal
          exact ⟨b, (old id b hb hs).1, hv⟩
      · by_cases hs : id ∈ S
        · refine (atS id hs).2.1 ver l hal ?_
          have e : lkb (X6 st.hp (pick (lkb hp') N)) id = lkb hp' id := by rw [hpN, if_pos (hSN id hs)]
          have em := hm2N id (hSN id hs)
          simp only [Q5, e, em] at hl ⊢; exact hl
        · obtain ⟨b, hb, hv⟩ := hal
          obtain ⟨e1, e2⟩ := old id b hb hs
          simp only [Q5, e1, e2] at hl
          simp only [Q5, hb]
          exact hl
      · by_cases hs : id ∈ S
        · exact (hE1 id (hSN id hs)).lp l ((atS id hs).2.2 l hl)
        · cases hb : lkb st.hp id with
          | none => simp [Q5, hb] at hl
          | some b =>
            obtain ⟨e1, e2⟩ := old id b hb hs
            simp only [Q5, hb] at hl
            simp only [Q5, e1, e2]
            exact hl
    have hle : HV.le H H1 := fun b o u hu => by
      have hlt := Vx h.heap.sat hu
      have : B' b := ⟨hlt, fun id hid e => by
        obtain ⟨bx, l, hb, _⟩ := s2 id hid
        have := (h.heap.sepR id bx hb (hreal id hid bx hb)).2.2 o
        rw [e, hu] at this; cases this⟩
      rw [hH.old b o this]; exact hu
    have hblk : ∀ id b, lkb st.hp id = some b → Real b (m id) → id ∉ S → B' (m id).g := fun id b hb hre hns => by
      refine ⟨(h.heap.sepR id b hb hre).2.1, fun id' hid' e => ?_⟩
      obtain ⟨b', l, hb', _⟩ := s2 id' hid'
      have := h.heap.injR id' id b' b hb' hb (hreal id' hid' b' hb') hre e
      subst this; exact hns hid'
    have hOS : ∀ id, id ∉ N → id ∉ S := fun id hn hs => hn (hSN id hs)
    have hheap : RelH m2 H1 B H0 gl (lkb (X6 st.hp (pick (lkb hp') N))) nx' w1 :=
      { sat := hH.sat
        old := fun b o hb => by rw [hH.old b o (hBB b hb)]; exact h.heap.old b o hb
        low := fun b hb => Nat.lt_of_lt_of_le (h.heap.low b hb) hbl.size
        fresh := fun id hid => by
          rw [hpN]
          split
          · exact hH.fresh id hid
          · exact h.heap.fresh id (Nat.le_trans hnx hid)
        box := fun id b hb => by
          rw [hpN] at hb
          split at hb
          · rename_i hn
            obtain ⟨b', l, hb', hl', hcl⟩ := hNdom id hn
            rw [hb] at hb'; cases hb'
            rw [hm2N id hn]
            exact (hH.box id b hb).agree hl' fun j hj => hE1 j (hcl j hj)
          · rename_i hn
            rw [hm2O id hn]
            exact (h.heap.box id b hb).mono' hle hE2 fun hre => hbl.block _ (hblk id b hb hre (hOS id hn))
        sepR := fun id b hb hre => by
          rw [hpN] at hb
          split at hb
          · rename_i hn
            rw [hm2N id hn] at hre ⊢
            obtain ⟨q1, q2, q3⟩ := hH.sepR id b hb hre
            exact ⟨fun hk => q1 (hBB _ hk), q2, q3⟩
          · rename_i hn
            rw [hm2O id hn] at hre ⊢
            obtain ⟨q1, q2, q3⟩ := h.heap.sepR id b hb hre
            refine ⟨q1, Nat.lt_of_lt_of_le q2 hbl.size, fun o => ?_⟩
            rw [hH.old _ o (hblk id b hb hre (hOS id hn))]; exact q3 o
        injR := fun id id' b b' hb hb' hre hre' e => by
          have cross : ∀ i j bi bj, lkb hp' i = some bi → j ∉ N → lkb st.hp j = some bj → Real bi (m1 i) → Real bj (m j) → (m1 i).g ≠ (m j).g := fun i j bi bj hbi hj hbj hri hrj e =>
            (hH.sepR i bi hbi hri).1 (e ▸ hblk j bj hbj hrj (hOS j hj))
          rw [hpN] at hb hb'
          split at hb
          · rename_i hn
            rw [hm2N id hn] at hre e
            split at hb'
            · rename_i hn'
              rw [hm2N id' hn'] at hre' e
              exact hH.injR id id' b b' hb hb' hre hre' e
            · rename_i hn'
              rw [hm2O id' hn'] at hre' e
              exact absurd e (cross id id' b b' hb hn' hb' hre hre')
          · rename_i hn
            rw [hm2O id hn] at hre e
            split at hb'
            · rename_i hn'
              rw [hm2N id' hn'] at hre' e
              exact absurd e.symm (cross id' id b' b hb' hn hb hre' hre)
            · rename_i hn'
              rw [hm2O id' hn'] at hre' e
              exact h.heap.injR id id' b b' hb hb' hre hre' e
        gv := (fun g sz cs hg => let ⟨q1, C, te, fr, q2, q3⟩ := h.heap.gv g sz cs hg; ⟨q1, C, te, fr, by rw [hbl.block g (hBB g q1)]; exact q2, q3⟩)
        gl := fun g => (h.heap.gl g).mono hle
        ty := fun id ver cs hb => by
          rw [hpN] at hb
          split at hb
          · rename_i hn
            rw [hm2N id hn]; exact hH.ty id ver cs hb
          · rename_i hn
            rw [hm2O id hn]
            exact (h.heap.ty id ver cs hb).mono (hbl.block _ (hblk id _ hb trivial (hOS id hn))) }
    refine ⟨v, m2, H1, rfl, hbl.mono hBB, ⟨hheap, h.size, fun k => (h.slot k).mono hle hE2, fun p hp => (h.rest p hp).mono hle hE2⟩, ?_⟩
    exact hrv.agree 12 hrid fun id hid => hE1 id (n3 id (List.mem_append_right _ hid))
end
end HY
end
section
namespace HY
open Go Go.RowKit
def Gp (gl : Nat → AV) (ch : Ql) (top : Nat) (o : Oper) (st : St) : Option (St × Bool) :=
 match o.guard with
 | none => match QV o.dst st.n && Nat.ble top st.nx with
  | true => match Y7 (st.ev gl) o.op with
   | some (f, args) => match GS ch (lkb st.hp) st.nx f args with
    | some (r, nb, nx', chg) => some ((⟨st.n, st.sl, X6 st.hp nb, nx'⟩ : St).putO o.dst r, chg)
    | none => none
   | none => none
  | false => none
 | some _ => none
def J6 (gl : Nat → AV) (ch : Ql) (top : Nat) (al : Bool) (o : Oper) (st : St) : Option St := match Gp gl ch top o st with
 | some (s, chg) => match chg && !al with
  | true => none
  | false => some s
 | none => none
def stpH (P : Program) (gl : Nat → AV) (ch : Ql) (all : List Oper) (base : Nat) (hv hc : List Nat) (i : Nat) (o : Oper) (st : St) : Option St :=
 match hv.any (Nat.beq i) with
 | true => J6 gl ch (base + all.length) (hc.any (Nat.beq i)) o st
 | false => X4 P gl (fun _ => ch) false (fun _ => none) all (base + i) o st
def hvOk (all : List Oper) (hv : List Nat) : Prop := ∀ j i, j < i → j ∈ hv → i ∈ hv → ((Zj all []).getD i 0).testBit j = true
def M7 (all : List Oper) (i : Nat) : Bool := (List.range all.length).all fun j => Nat.beq j i || match all[j]? with
 | some o => Nat.beq (hk o.op) 0 || (match Nat.blt j i with
  | true => ((Zj all []).getD i 0).testBit j
  | false => ((Zj all []).getD j 0).testBit i)
 | none => true
def refsO (gl : Nat → AV) (o : Oper) (st : St) : Bool := match Y7 (st.ev gl) o.op with
 | some (_, args) => match optJ (XI 12) args with
  | some (_ :: _) => true
  | _ => false
 | none => false
def runH (P : Program) (gl : Nat → AV) (ch : Ql) (all : List Oper) (base : Nat) : List Nat → List Nat → List Nat → St → Option (St × List Nat × List Nat)
 | [], hv, hc, st => some (st, hv, hc)
 | i :: l, hv, hc, st => match all[i]? with
  | some o => match (match refsO gl o st with | true => Gp gl ch (base + all.length) o st | false => none) with
   | some (s, chg) => match hv.all (fun j => ((Zj all []).getD i 0).testBit j) with
    | true => match chg with
     | true => match M7 all i with
      | true => runH P gl ch all base l (i :: hv) (i :: hc) s
      | false => none
     | false => runH P gl ch all base l (i :: hv) hc s
    | false => none
   | none => match X4 P gl (fun _ => ch) false (fun _ => none) all (base + i) o st with
    | some s => runH P gl ch all base l hv hc s
    | none => none
  | none => none
section
variable {P : Program} {m : Nat → Lc} {H : HV} {B : Nat → Prop} {H0 : HV} {gl : Nat → AV} {rest : List (AV × Value)} {st : St} {a : Act} {w : World} {ch : Ql} {all : List Oper}
theorem GU {top : Nat} {o : Oper} {st' : St} {chg : Bool} (h : Gp gl ch top o st = some (st', chg)) :
  ∃ f args r hp' N nx', o.guard = none ∧ QV o.dst st.n = true ∧ top ≤ st.nx ∧ Y7 (st.ev gl) o.op = some (f, args) ∧ GS ch (lkb st.hp) st.nx f args = some (r, pick hp' N, nx', chg) ∧ (∀ id ∈ N, st.nx ≤ id ∨ ∃ b, lkb st.hp id = some b ∧ (chg = false → hp' id = some b)) ∧ st.nx ≤ nx' ∧
   st' = (⟨st.n, st.sl, X6 st.hp (pick hp' N), nx'⟩ : St).putO o.dst r := by
 unfold Gp at h
 split at h
 ·rename_i hg
  split at h
  ·rename_i hd
   rw [Bool.and_eq_true] at hd
   split at h
   ·rename_i f args hc
    split at h
    ·rename_i r nb nx' chg' hx
     cases h
     obtain ⟨hp', N, rfl, q2, q1⟩ := Ew hx
     exact ⟨f, args, r, hp', N, nx', hg, hd.1, Nat.le_of_ble_eq_true hd.2, hc, hx, q1, q2, rfl⟩
    ·cases h
   ·cases h
  ·cases h
 ·cases h
theorem G1 {top : Nat} {al : Bool} {o : Oper} {st' : St} (h : J6 gl ch top al o st = some st') : ∃ chg, Gp gl ch top o st = some (st', chg) ∧ (chg = true → al = true) := by
 grind [J6]
theorem DW {top : Nat} {al chg : Bool} {o : Oper} {st' : St} (h : Gp gl ch top o st = some (st', chg)) (hal : chg = true → al = true) : J6 gl ch top al o st = some st' := by
 unfold J6
 grind
theorem L3 {top : Nat} {o : Oper} {f : Nat} {args : List AV} {r : AV} {nb : List (Nat × Box)} {nx' : Nat} {chg : Bool} (hg : o.guard = none) (hd : QV o.dst st.n = true) (ht : top ≤ st.nx) (hc : Y7 (st.ev gl) o.op = some (f, args)) (hx : GS ch (lkb st.hp) st.nx f args = some (r, nb, nx', chg)) :
  Gp gl ch top o st = some ((⟨st.n, st.sl, X6 st.hp nb, nx'⟩ : St).putO o.dst r, chg) := by
 simp_all [Gp, QV, Nat.ble, Bool.and_eq_true, Nat.ble_eq_true_of_le]
theorem AW (hch : ch.Ok P gl) (h : RelS m H B H0 gl rest st a.tmps w) {top : Nat} {al : Bool} {o : Oper} {st' : St} (hk : J6 gl ch top al o st = some st') (ro : Option Nat) (n : Nat) : VS P ro n B H0 gl rest a w o st' := by
 obtain ⟨chg, hk, _⟩ := G1 hk
 obtain ⟨f, args, r, hp', N, nx', hg, hd, ht, hc, hx, hN, hnx, rfl⟩ := GU hk
 refine We h hc ro n fun vs hl hr => ?_
 refine (P4 hch h hl hr hx).mono fun e w' ⟨v, m', H', he, hb, hrel, hrv⟩ => ⟨v, m', H', he, hb, ?_⟩
 exact hrel.putO (dst := o.dst) hd hrv
theorem IG (h : RelS m H B H0 gl rest st a.tmps w) {op : Op} {f : Nat} {args : List AV} (hc : Y7 (st.ev gl) op = some (f, args)) : ∀ x ∈ args, ∃ v, RV H (st.env m) x v := fun y hy => by
 obtain ⟨c, x, caps, ho, hx, hf, rfl⟩ := Ub hc
 rw [List.mem_append, List.mem_map] at hy
 rcases hy with ⟨z, _, rfl⟩ | hy
 ·exact ⟨_, h.ev z⟩
 ·have hfx := h.ev x
  rw [hf] at hfx
  obtain ⟨us, _, hul, hur⟩ := hfx.fn_inv
  obtain ⟨j, hj⟩ := List.getElem?_of_mem hy
  exact ⟨_, hur j y _ hj (Array.getElem?_eq_getElem (by grind))⟩
theorem R3 {op : Op} {f : Nat} {args : List AV} {ev : Operand → AV} (hc : Y7 ev op = some (f, args)) : hk op = 1 := by
 obtain ⟨c, x, caps, rfl, hx, _⟩ := Ub hc
 simp [hk, hx]
theorem lkb_new {hp hp' : Hp} {N : List Nat} {t : Tr Box} {nx k : Nat} {C : Nat → Box → Prop} (hN : ∀ id ∈ N, nx ≤ id ∨ ∃ b, hp id = some b ∧ C id b) (hk : k < nx) (h0 : hp k = none) : lkb (X6 t (pick hp' N)) k = lkb t k := by
 rw [Vq, if_neg]
 grind
theorem ST {hp' : Hp} {N : List Nat} {nx : Nat} (hN : ∀ id ∈ N, nx ≤ id ∨ ∃ b, lkb st.hp id = some b ∧ (false = false → hp' id = some b)) (hf : ∀ id, nx ≤ id → lkb st.hp id = none) : Ext (lkb st.hp) (lkb (X6 st.hp (pick hp' N))) := fun id b hb => by
 rw [Vq]
 grind
theorem AR {x y : St} {top : Nat} {al : Bool} {o : Oper} {s : St} (h : StEq x y) (hk : J6 gl ch top al o x = some s) : ∃ s', J6 gl ch top al o y = some s' ∧ StEq s s' := by
 obtain ⟨chg, hk, hal⟩ := G1 hk
 obtain ⟨f, args, r, hp', N, nx', hg, hd, ht, hc, hx, hN, hnx, rfl⟩ := GU hk
 refine ⟨(⟨y.n, y.sl, X6 y.hp (pick hp' N), nx'⟩ : St).putO o.dst r, ?_, ?_⟩
 ·refine DW (L3 hg (by rw [← h.n]; exact hd) (by rw [← h.nx]; exact ht) (by rw [← h.ev]; exact hc) (by rw [← h.hp, ← h.nx]; exact hx)) hal
 ·refine ⟨by rw [CW, CW]; exact h.n, by grind [Cq], fun k => ?_, ?_⟩
  ·have := KI (⟨x.n, x.sl, X6 x.hp (pick hp' N), nx'⟩ : St) o.dst (r, none) k
   have h2 := KI (⟨y.n, y.sl, X6 y.hp (pick hp' N), nx'⟩ : St) o.dst (r, none) k
   show St.get (St.eff _ o.dst (r, none)) k = St.get (St.eff _ o.dst (r, none)) k
   rw [this, h2]
   split
   ·rfl
   ·exact h.get k
  ·rw [V1, V1]
   funext k
   rw [Vq, Vq, h.hp]
theorem swapSH (h : RelS m H B H0 gl rest st a.tmps w) {oj oi : Oper} {bj top : Nat} {al : Bool} (hc : M4 all oj oi = false) (hcl : hkCl (hk oj.op) (hk oi.op) = false) (hal : al = true → hk oj.op = 0) {s1 s2 : St} (h1 : X4 P gl (fun _ => ch) false (fun _ => none) all bj oj st = some s1) (h2 : J6 gl ch top al oi s1 = some s2) :
  ∃ t1 t2, J6 gl ch top al oi st = some t1 ∧ X4 P gl (fun _ => ch) false (fun _ => none) all bj oj t1 = some t2 ∧ StEq t2 s2 := by
 obtain ⟨c1, c2, c3⟩ := WP hc
 rw [Kq] at h1
 split at h1
 ·rename_i k1
  simp only [Bool.and_eq_true, Option.isNone_iff_eq_none] at k1
  obtain ⟨⟨hdj, hbj⟩, hnj⟩ := k1
  have hnj' : bj < st.nx := Nat.le_of_ble_eq_true hnj
  split at h1
  ·rename_i rj hrj
   cases h1
   obtain ⟨chg, h2, hca'⟩ := G1 h2
   obtain ⟨f, args, r, hp', N, nx', hg, hd, ht, hca, hx, hN, hnx, rfl⟩ := GU h2
   rw [CE] at hd
   rw [UV] at ht hx hN hnx
   obtain ⟨e1, e2⟩ := Dn (st := st) (gl := gl) (all := all) (o := oi) rj c1
   rw [DK e1] at hca
   have hki := R3 hca
   have hid : ∀ id b, rj.2 = some (id, b) → id = bj := fun id b hb => by
    have hrj' : Jo P (fun _ => ch) false (fun _ => none) all bj oj (gval all oj st) (st.ev gl) (lkb st.hp) = some (rj.1, some (id, b)) := by grind
    rcases W3 (fun _ => rfl) hrj' with h | ⟨hk2, _⟩
    ·exact h
    ·rw [hk2, hki] at hcl; cases hcl
   have hext : Ext (lkb st.hp) (lkb (st.eff oj.dst rj).hp) := by
    rw [Vw]
    split
    ·rename_i id b hb
     obtain rfl := hid id b hb
     exact I0 hbj
    ·exact fun _ _ h => h
   rw [Eu h hext (IG h hca)] at hx
   obtain ⟨hp2, N2, hpk, hnx2, hN2⟩ := Ew hx
   have hpk2 : ∀ t, X6 t (pick hp' N) = X6 t (pick hp2 N2) := fun t => by rw [hpk]
   simp only [hpk] at hx
   have hfr : ∀ id, st.nx ≤ id → lkb st.hp id = none := fun id hid => h.heap.fresh id hid
   let st' : St := ⟨st.n, st.sl, X6 st.hp (pick hp2 N2), nx'⟩
   have hev : st'.ev gl = st.ev gl := by funext x; cases x <;> rfl
   have hgv : gval all oj st' = gval all oj st := by unfold gval; split <;> first | rfl | omega
   obtain ⟨f1, f2⟩ := Dn (st := st') (gl := gl) (all := all) (o := oj) (r, none) c3
   have hcore : Jo P (fun _ => ch) false (fun _ => none) all bj oj (gval all oj (st'.putO oi.dst r)) ((st'.putO oi.dst r).ev gl) (lkb (st'.putO oi.dst r).hp) = some rj := by
    rw [← hrj]
    refine CJ (f2.trans hgv) (fun x hx => (f1 x hx).trans (congrFun hev x)) ?_
    rw [V1]
    cases chg with
    | false => exact Im h (ST hN2 hfr)
    | true => exact In (hal (hca' rfl))
   rw [hpk2]
   refine ⟨st'.putO oi.dst r, (st'.putO oi.dst r).eff oj.dst rj, DW (L3 hg hd ht hca hx) hca', ?_, ?_⟩
   ·rw [Kq, if_pos, hcore]
    simp only [Bool.and_eq_true, Option.isNone_iff_eq_none, CW, V1, Cq]
    exact ⟨⟨hdj, by show lkb (X6 st.hp (pick hp2 N2)) bj = none; rw [lkb_new hN2 hnj' hbj]; exact hbj⟩, Nat.ble_eq_true_of_le (Nat.lt_of_lt_of_le hnj' hnx)⟩
   ·refine ⟨by grind [CE, CW], by grind [UV, Cq], fun k => ?_, ?_⟩
    ·rw [KI]
     have q1 := KI st' oi.dst (r, none) k
     have q2 := KI (⟨(st.eff oj.dst rj).n, (st.eff oj.dst rj).sl, X6 (st.eff oj.dst rj).hp (pick hp2 N2), nx'⟩ : St) oi.dst (r, none) k
     have q3 := KI st oj.dst rj k
     rw [show (st'.putO oi.dst r).get k = _ from q1]
     refine Eq.trans ?_ (Eq.symm q2)
     have q4 : St.get (⟨(st.eff oj.dst rj).n, (st.eff oj.dst rj).sl, X6 (st.eff oj.dst rj).hp (pick hp2 N2), nx'⟩ : St) k = (st.eff oj.dst rj).get k := rfl
     rw [q4, q3]
     by_cases k1 : oj.dst = some k <;> by_cases k2 : oi.dst = some k <;> simp only [k1, k2, if_true, if_false]
     ·grind [absurd, GP]
     all_goals rfl
    ·rw [Vw, V1, V1]
     funext k
     show (match rj.2 with | some (id, b) => updF (lkb (X6 st.hp (pick hp2 N2))) id (some b) | none => lkb (X6 st.hp (pick hp2 N2))) k = lkb (X6 (st.eff oj.dst rj).hp (pick hp2 N2)) k
     rw [Vq (hp := hp2) N2 (st.eff oj.dst rj).hp, Vw]
     cases hb : rj.2 with
     | some x =>
      obtain ⟨id, b⟩ := x
      obtain rfl := hid id b hb
      by_cases e : k = id
      ·subst e
       simp only [Qk]
       grind
      simp_all [Qo, Vq]
     | none => simp only [Vq]
  ·cases h1
 ·cases h1
theorem swapHS (h : RelS m H B H0 gl rest st a.tmps w) {oj oi : Oper} {bi top : Nat} {al : Bool} (hbt : bi < top) (hc : M4 all oj oi = false) (hcl : hkCl (hk oj.op) (hk oi.op) = false) (hal : al = true → hk oi.op = 0) {s1 s2 : St} (h1 : J6 gl ch top al oj st = some s1) (h2 : X4 P gl (fun _ => ch) false (fun _ => none) all bi oi s1 = some s2) :
  ∃ t1 t2, X4 P gl (fun _ => ch) false (fun _ => none) all bi oi st = some t1 ∧ J6 gl ch top al oj t1 = some t2 ∧ StEq t2 s2 := by
 obtain ⟨c1, c2, c3⟩ := WP hc
 obtain ⟨chg, h1, hca'⟩ := G1 h1
 obtain ⟨f, args, r, hp', N, nx', hg, hd, ht, hca, hx, hN, hnx, rfl⟩ := GU h1
 have hkj := R3 hca
 rw [Kq] at h2
 split at h2
 ·rename_i k1
  simp only [Bool.and_eq_true, Option.isNone_iff_eq_none, CW, V1, Cq] at k1
  obtain ⟨⟨hdi, hbi⟩, hni⟩ := k1
  have hbin : bi < st.nx := Nat.lt_of_lt_of_le hbt ht
  have hbi : lkb st.hp bi = none := by
   grind [Vq]
  split at h2
  ·rename_i ri hri
   cases h2
   have hfr : ∀ id, st.nx ≤ id → lkb st.hp id = none := fun id hid => h.heap.fresh id hid
   let st' : St := ⟨st.n, st.sl, X6 st.hp (pick hp' N), nx'⟩
   have hev : st'.ev gl = st.ev gl := by funext x; cases x <;> rfl
   have hgv : gval all oi st' = gval all oi st := by unfold gval; split <;> first | rfl | omega
   obtain ⟨f1, f2⟩ := Dn (st := st') (gl := gl) (all := all) (o := oi) (r, none) c1
   have hcore : Jo P (fun _ => ch) false (fun _ => none) all bi oi (gval all oi st) (st.ev gl) (lkb st.hp) = some ri := by
    rw [← hri]
    refine (CJ (f2.trans hgv) (fun x hx => (f1 x hx).trans (congrFun hev x)) ?_).symm
    rw [V1]
    cases chg with
    | false => exact Im h (ST hN hfr)
    | true => exact In (hal (hca' rfl))
   have hid : ∀ id b, ri.2 = some (id, b) → id = bi := fun id b hb => by
    have hri' : Jo P (fun _ => ch) false (fun _ => none) all bi oi (gval all oi st) (st.ev gl) (lkb st.hp) = some (ri.1, some (id, b)) := by grind
    rcases W3 (fun _ => rfl) hri' with h | ⟨hk2, _⟩
    ·exact h
    ·rw [hk2, hkj] at hcl; cases hcl
   obtain ⟨g1, g2⟩ := Dn (st := st) (gl := gl) (all := all) (o := oj) ri c3
   have hext : Ext (lkb st.hp) (lkb (st.eff oi.dst ri).hp) := by
    rw [Vw]
    split
    ·rename_i id b hb
     obtain rfl := hid id b hb
     exact I0 hbi
    ·exact fun _ _ h => h
   refine ⟨st.eff oi.dst ri, (⟨(st.eff oi.dst ri).n, (st.eff oi.dst ri).sl, X6 (st.eff oi.dst ri).hp (pick hp' N), nx'⟩ : St).putO oj.dst r, ?_, ?_, ?_⟩
   ·simp_all [Kq, if_pos, Bool.and_eq_true, Option.isNone_iff_eq_none, Nat.ble_eq_true_of_le]
   ·exact DW (L3 hg (by grind [CE]) (by grind [UV]) (by rw [DK g1]; exact hca) (by grind [Eu, IG, UV])) hca'
   ·refine ⟨by simp only [CE, CW], by simp only [UV, Cq], fun k => ?_, ?_⟩
    ·rw [KI]
     have q1 := KI st' oj.dst (r, none) k
     have q2 := KI (⟨(st.eff oi.dst ri).n, (st.eff oi.dst ri).sl, X6 (st.eff oi.dst ri).hp (pick hp' N), nx'⟩ : St) oj.dst (r, none) k
     have q3 := KI st oi.dst ri k
     rw [show (st'.putO oj.dst r).get k = _ from q1]
     refine Eq.trans q2 ?_
     have q4 : St.get (⟨(st.eff oi.dst ri).n, (st.eff oi.dst ri).sl, X6 (st.eff oi.dst ri).hp (pick hp' N), nx'⟩ : St) k = (st.eff oi.dst ri).get k := rfl
     rw [q4, q3]
     by_cases k1 : oj.dst = some k <;> by_cases k2 : oi.dst = some k <;> simp only [k1, k2, if_true, if_false]
     ·grind [absurd, GP]
     all_goals rfl
    ·rw [Vw, V1, V1]
     funext k
     show lkb (X6 (st.eff oi.dst ri).hp (pick hp' N)) k = (match ri.2 with | some (id, b) => updF (lkb (X6 st.hp (pick hp' N))) id (some b) | none => lkb (X6 st.hp (pick hp' N))) k
     rw [Vq (hp := hp') N (st.eff oi.dst ri).hp, Vw]
     cases hb : ri.2 with
     | some x =>
      obtain ⟨id, b⟩ := x
      obtain rfl := hid id b hb
      by_cases e : k = id
      ·subst e
       simp only [Qk]
       grind
      simp_all [Qo, Vq]
     | none => simp only [Vq]
  ·cases h2
 ·cases h2
theorem CO {hv : List Nat} {i : Nat} : hv.any (Nat.beq i) = true ↔ i ∈ hv := by
 simp_all
theorem IL {i j : Nat} {oj : Oper} (h : M7 all i = true) (hj : all[j]? = some oj) (hne : j ≠ i) : hk oj.op = 0 ∨ (j < i ∧ ((Zj all []).getD i 0).testBit j = true) ∨ (i < j ∧ ((Zj all []).getD j 0).testBit i = true) := by
 have := List.all_eq_true.1 h j (List.mem_range.2 (List.getElem?_eq_some_iff.1 hj).1)
 rw [HK hne, hj] at this
 simp only [Bool.false_or, Bool.or_eq_true] at this
 grind [Nat.eq_of_beq_eq_true, Nat.le_of_ble_eq_true, Nat.blt, Nat.ble_eq_true_of_le]
theorem Ad (hch : ch.Ok P gl) (hok : KT all = true) (hmd : mdR all = false) {base : Nat} {hv hc : List Nat} (hhv : hvOk all hv) (hhc : ∀ i ∈ hc, M7 all i = true) : Np P B H0 gl rest all (stpH P gl ch all base hv hc) where
 sound := fun {i o st s a w m H} h hk ro n next Q hn => by
  unfold stpH at hk
  split at hk
  ·obtain ⟨_, hk', _⟩ := G1 hk
   obtain ⟨_, _, _, _, _, _, hg, _⟩ := GU hk'
   rw [if_pos (by simp [Region.wanted, hg])]
   exact AW hch h hk ro n next Q hn
  ·exact Dq (CP hch) h hk ro n next Q hn
 eq := fun {i o x y s} h hk => by
  unfold stpH at hk ⊢
  split at hk
  ·grind [AR, hk]
  ·rename_i hi
   exact h.stepO hk
 swap := fun {j i oj oi st s1 s2 a w m H} hji hoj hoi hbit h h1 h2 => by
  have hcf : DM (mdR all) all oj oi = false := by
   cases hcf : DM (mdR all) all oj oi with
   | false => rfl
   | true => have := (XR hok i oi hoi).pair j oj hji hoj hcf; simp_all
  rw [hmd] at hcf
  simp only [DM, Bool.or_eq_false_iff, Bool.not_false, Bool.true_and] at hcf
  have hil : i < all.length := (List.getElem?_eq_some_iff.1 hoi).1
  unfold stpH at h1 h2 ⊢
  cases hj : hv.any (Nat.beq j) with
  | true =>
   simp only [hj] at h1 ⊢
   cases hi : hv.any (Nat.beq i) with
   | true =>
    have := hhv j i hji (CO.1 hj) (CO.1 hi)
    simp_all
   | false =>
    simp only [hi] at h2
    refine swapHS h (by omega) hcf.1 hcf.2 (fun hal => ?_) h1 h2
    grind [IL, CO]
  | false =>
   simp only [hj] at h1 ⊢
   cases hi : hv.any (Nat.beq i) with
   | true =>
    simp only [hi] at h2
    grind [swapSH, IL, CO]
   | false =>
    simp only [hi] at h2
    exact swap h (by omega) ⟨hcf.1, .inl hcf.2⟩ h1 h2
theorem Ie {base : Nat} : ∀ (n k : Nat) (hv hc hv' hc' : List Nat) (st s : St), runH P gl ch all base (List.range' k n) hv hc st = some (s, hv', hc') → (∀ j ∈ hv, j < k) → (∀ j ∈ hc, j < k) → hvOk all hv → (∀ i ∈ hc, M7 all i = true) →
  hvOk all hv' ∧ (∀ i ∈ hc', M7 all i = true) ∧ (∀ j, j < k → (j ∈ hv' ↔ j ∈ hv)) ∧ (∀ j, j < k → (j ∈ hc' ↔ j ∈ hc)) ∧ runG (stpH P gl ch all base hv' hc') all (List.range' k n) st = some s
 | 0, k, hv, hc, hv', hc', st, s, h, h1, h1c, h2, h3 => by
  simp only [List.range'_zero, runH, Option.some.injEq, Prod.mk.injEq] at h
  obtain ⟨rfl, rfl, rfl⟩ := h
  exact ⟨h2, h3, fun j _ => Iff.rfl, fun j _ => Iff.rfl, rfl⟩
 | n + 1, k, hv, hc, hv', hc', st, s, h, h1, h1c, h2, h3 => by
  simp only [List.range'_succ, runH] at h
  split at h
  ·rename_i o ho
   split at h
   ·rename_i s1 chg hs1
    have hs1 : Gp gl ch (base + all.length) o st = some (s1, chg) := by
     grind
    split at h
    ·rename_i hall
     have h2' : hvOk all (k :: hv) := fun j i hji hj hi => by
      rcases List.mem_cons.1 hi with e | hi
      ·grind
      ·rcases List.mem_cons.1 hj with e | hj
       ·grind
       ·exact h2 j i hji hj hi
     have h1' : ∀ j ∈ k :: hv, j < k + 1 := fun j hj => by
      grind
     have hlow : ∀ l : List Nat, ∀ j, j < k → (j ∈ k :: l ↔ j ∈ l) := fun l j hj => ⟨fun h => by
      grind, fun h => by simp [h]⟩
     split at h
     ·split at h
      ·rename_i hlone
       obtain ⟨q1, q2, q3, q4, q5⟩ := Ie n (k + 1) (k :: hv) (k :: hc) hv' hc' s1 s h h1' (fun j hj => by
        grind) h2' (fun i hi => by
        grind)
       refine ⟨q1, q2, fun j hj => (q3 j (by omega)).trans (hlow hv j hj), fun j hj => (q4 j (by omega)).trans (hlow hc j hj), ?_⟩
       have hk : hv'.any (Nat.beq k) = true := CO.2 ((q3 k (by omega)).2 (by simp))
       have hkc : hc'.any (Nat.beq k) = true := CO.2 ((q4 k (by omega)).2 (by simp))
       simp only [List.range'_succ, runG, ho, stpH, hk, hkc, DW hs1 (fun _ => rfl)]
       exact q5
      ·cases h
     ·obtain ⟨q1, q2, q3, q4, q5⟩ := Ie n (k + 1) (k :: hv) hc hv' hc' s1 s h h1' (fun j hj => by grind) h2' h3
      refine ⟨q1, q2, fun j hj => (q3 j (by omega)).trans (hlow hv j hj), fun j hj => q4 j (by omega), ?_⟩
      have hk : hv'.any (Nat.beq k) = true := CO.2 ((q3 k (by omega)).2 (by simp))
      simp only [List.range'_succ, runG, ho, stpH, hk, DW hs1 (al := hc'.any (Nat.beq k)) (fun e => by cases e)]
      exact q5
    ·cases h
   ·split at h
    ·rename_i s1 hs1
     obtain ⟨q1, q2, q3, q4, q5⟩ := Ie n (k + 1) hv hc hv' hc' s1 s h (fun j hj => by grind) (fun j hj => by grind) h2 h3
     grind [hk, Nat.beq, CO, List.range'_succ, runG, stpH]
    ·cases h
  ·cases h
end
end HY
end
section
namespace HY
open Go Go.RowKit
abbrev XO := Nat → List AV → Tr Box → Nat → Option (AV × Tr Box × Nat)
def RoundOk (P : Program) (gl : Nat → AV) (id : Nat) (args : List AV) (hp : Tr Box) (nx : Nat) (r : AV) (hp' : Tr Box) (nx' : Nat) : Prop :=
 ∀ (m : Nat → Lc) (H : HV) (B : Nat → Prop) (H0 : HV) (rest : List (AV × Value)) (w : World) (vs : Array Value) (l : Nat), RelH m H B H0 gl (lkb hp) nx w → (Q5 (lkb hp) m).lp id = some l → args.length = vs.size →
  (∀ (j : Nat) (x : AV) (v : Value), args[j]? = some x → vs[j]? = some v → RV H (Q5 (lkb hp) m) x v) → (∀ p ∈ rest, RV H (Q5 (lkb hp) m) p.1 p.2) →
  ∃ fn tmps azz bd, (Instr.yield l vs).run P w = .ok (.round l fn tmps azz bd) w ∧ ∀ ro n, RoundIn (FW ro) n P l fn tmps azz bd w fun e w' =>
   ∃ v m' H', e = .returned v ∧ Q8 B w w' ∧ RelH m' H' B H0 gl (lkb hp') nx' w' ∧ RV H' (Q5 (lkb hp') m') r v ∧ ∀ p ∈ rest, RV H' (Q5 (lkb hp') m') p.1 p.2
def XO.Ok (P : Program) (gl : Nat → AV) (rd : XO) : Prop := ∀ id args hp nx r hp' nx', rd id args hp nx = some (r, hp', nx') → RoundOk P gl id args hp nx r hp' nx'
def Sl (ev : Operand → AV) (op : Op) : Option (Nat × List AV) :=
 match op with
 | .call c => match c.callee with
  | .value x => match ev x with
   | .yld id => some (id, c.args.toList.map ev)
   | _ => none
  | _ => none
 | _ => none
def xinl (ch : Ql) (rd : XO) (ev : Operand → AV) (op : Op) (dst : Option Nat) (st : St) : Option St :=
 match Y7 ev op with
 | some (f, args) => match ch f args st.hp st.nx with
  | some (r, hp', nx') => some ((st.setHp hp' nx').putO dst r)
  | none => none
 | none => match Sl ev op with
  | some (id, args) => match rd id args st.hp st.nx with
   | some (r, hp', nx') => some ((st.setHp hp' nx').putO dst r)
   | none => none
  | none => none
def NC (P : Program) (gl : Nat → AV) (ch : Ql) (rd : XO) (o : Oper) (st : St) : Option St :=
 if Vi o.op then xinl ch rd (st.ev gl) o.op o.dst st
 else match xop P st.nx o.dst o.op (st.ev gl) (lkb st.hp) with
  | some r => match r.2 with
   | some _ => some ((st.bump 1).eff o.dst r)
   | none => some (st.putO o.dst r.1)
  | none => match xopM P st.nx o.dst o.op (st.ev gl) (lkb st.hp) with
   | some r => some ((st.bump 1).eff o.dst r)
   | none => none
def xseq (P : Program) (gl : Nat → AV) (ch : Ql) (rd : XO) (all : List Oper) : List Oper → St → Option St
 | [], st => some st
 | o :: l, st => if QV o.dst st.n then (match o.guard with
  | none => match NC P gl ch rd o st with
   | some s => xseq P gl ch rd all l s
   | none => none
  | some (j, want) => match DN all j with
   | some g => match Wo (st.get g) want with
    | some true => match NC P gl ch rd o st with
     | some s => xseq P gl ch rd all l s
     | none => none
    | some false => xseq P gl ch rd all l (st.putO o.dst (.tup []))
    | none => none
   | none => none) else none
def M3 (l : List Oper) : Option Oper :=
 match l[l.length - 1]? with
 | some o => match o.op with
  | .mapUpdate .. => match o.guard with
   | none => some o
   | _ => none
  | .call c => match c.callee with
   | .value (.tmp _) => match o.guard with
    | none => some o
    | _ => none
   | .builtin .copy => match o.guard with
    | none => some o
    | _ => none
   | _ => none
  | _ => none
 | none => none
def QB : Code → Bool
 | .region _ ops draw => !draw || (KT ops.toList && (match M3 ops.toList with | some _ => Mt ops.toList | none => true))
 | .seq a b => QB a && QB b
 | .cond _ a b => QB a && QB b
 | .block _ c => QB c
 | .loop c => QB c
 | .scope c => QB c
 | .rangeFunc _ _ a b => QB a && QB b
 | _ => true
def T0 (P : Program) (gl : Nat → AV) (ch : Ql) (l : List Oper) (base : Nat) (n : Nat) (st : St) : Option St := match mdR l with
 | true => runF P gl (fun _ => ch) l base (List.range n) (fun _ => none) st
 | false => match runH P gl ch l base (List.range n) [] [] st with
  | some (s, _, _) => some s
  | none => none
theorem TT {P : Program} {gl : Nat → AV} {ch : Ql} {l : List Oper} {base n : Nat} {st s : St} (h : T0 P gl ch l base n st = some s) :
  (∃ F, runI P gl (fun _ => ch) (mdR l) F l base (List.range n) st = some s ∧ (mdR l = true → No F l base n)) ∨ (mdR l = false ∧ ∃ hv hc, hvOk l hv ∧ (∀ i ∈ hc, M7 l i = true) ∧ runG (stpH P gl ch l base hv hc) l (List.range n) st = some s) := by
 unfold T0 at h
 cases hm : mdR l with
 | true => simp_all [Fs]
 | false =>
  rw [hm] at h
  simp only at h
  split at h
  ·rename_i hv hc hs
   cases h
   rw [List.range_eq_range'] at hs
   obtain ⟨q2, q3, _, _, q4⟩ := Ie n 0 [] [] hv hc st s hs (fun j hj => by cases hj) (fun j hj => by cases hj) (fun j i _ hj => by cases hj) (fun i hi => by cases hi)
   rw [← List.range_eq_range'] at q4
   grind
  ·cases h
def xregD (P : Program) (gl : Nat → AV) (ch : Ql) (rd : XO) (l : List Oper) (st : St) : Option St :=
 match M3 l with
 | some o => match T0 P gl ch l st.nx (l.length - 1) (st.bump l.length) with
  | some s => if QV o.dst s.n then (match xopM P s.nx o.dst o.op (s.ev gl) (lkb s.hp) with
   | some r => some ((s.bump 1).eff o.dst r)
   | none => xinl ch rd (s.ev gl) o.op o.dst s) else none
  | none => none
 | none => T0 P gl ch l st.nx l.length (st.bump l.length)
def lift (o : Option St) : Option (Exit × St × List Nat) := match o with | some s => some (.normal, s, []) | none => none
def Lz (P : Program) (f : Nat) : Bool := match P.funcs[f]? with
 | some fn => (fn.name != "runtime.NumGoroutine") && fn.body.isSome
 | none => false
theorem J4 {P : Program} {f : Nat} (h : Lz P f = true) : Wz P f := by
 unfold Lz at h
 split at h
 ·simp_all [Bool.and_eq_true, bne_iff_ne, U0]
 ·cases h
def Sg (P : Program) (gl : Nat → AV) (ch : Ql) (g : Operand) (ps : Array Tmp) (azz bd : Code) (st : St) : Option (Exit × St × List Nat) :=
 match st.ev gl g with
 | .fn f caps => bif Lz P f then match ch f (.yld (st.nx + 1) :: caps) (pt (pt st.hp st.nx (.defb true)) (st.nx + 1) (.loop .ready none st.n st.sl ps azz bd st.nx)) (st.nx + 2) with
  | some (_, hp', nx') => match lkb hp' (st.nx + 1) with
   | some (.loop s3 pend n3 sl3 ps3 as3 bd3 d3) => if s3 = .busy then none else match pend with
    | none => some (.normal, st.setHp (pt hp' (st.nx + 1) (.loop .exhausted pend n3 sl3 ps3 as3 bd3 d3)) nx', [st.nx])
    | some .ret => some (.ret, st.setHp (pt hp' (st.nx + 1) (.loop .exhausted pend n3 sl3 ps3 as3 bd3 d3)) nx', [st.nx])
    | some (.exit i) => some (.exit i, st.setHp (pt hp' (st.nx + 1) (.loop .exhausted pend n3 sl3 ps3 as3 bd3 d3)) nx', [st.nx])
    | _ => none
   | _ => none
  | none => none
  else none
 | _ => none
def KE (P : Program) (gl : Nat → AV) (ch : Ql) (rd : XO) (top : Bool) : Nat → Code → St → Option (Exit × St × List Nat)
 | 0, _, _ => none
 | k + 1, c, st => match c with
  | .skip => some (.normal, st, [])
  | .label _ => some (.normal, st, [])
  | .exit id => some (.exit id, st, [])
  | .ret => some (.ret, st, [])
  | .region _ ops draw => bif draw then lift (xregD P gl ch rd ops.toList st) else lift (xseq P gl ch rd ops.toList ops.toList st)
  | .seq a b => match KE P gl ch rd top k a st with
   | some (.normal, s, d) => match KE P gl ch rd top k b s with
    | some (e, s', d') => some (e, s', d' ++ d)
    | none => none
   | r => r
  | .cond c a b => match st.ev gl c with
   | .bool t => bif t then KE P gl ch rd top k a st else KE P gl ch rd top k b st
   | _ => none
  | .block id c => match KE P gl ch rd top k c st with
   | some (.exit i, s, d) => if i = id then some (.normal, s, d) else some (.exit i, s, d)
   | r => r
  | .loop c => match KE P gl ch rd top k c st with
   | some (.normal, s, d) => match KE P gl ch rd top k (.loop c) s with
    | some (e, s', d') => some (e, s', d' ++ d)
    | none => none
   | r => r
  | .rangeFunc g ps azz bd => bif top then Sg P gl ch g ps azz bd st else none
  | .scope c => match KE P gl ch rd top k c st with
   | some (.goto _, _, _) => none
   | r => r
  | _ => none
def Nt (D : List (Nat × Nat)) : List Deferred := D.map fun p => { target := .collected p.2, args := #[] }
def Vn (gl : Nat → AV) (B : Nat → Prop) (H0 : HV) (rest : List (AV × Value)) (a : Act) (w : World) (st' : St) (ds : List Nat) (a' : Act) (w' : World) : Prop :=
 ∃ m' H' D, D.map (·.1) = ds ∧ a'.defers = Nt D ++ a.defers ∧ (∀ p ∈ D, (st'.env m').lp p.1 = some p.2) ∧ Q8 B w w' ∧ RelS m' H' B H0 gl rest st' a'.tmps w'
def T5 (P : Program) (gl : Nat → AV) (ro : Option Nat) (n : Nat) (c : Code) (st : St) (ex : Exit) (st' : St) (ds : List Nat) : Prop :=
 ∀ (B : Nat → Prop) (H0 : HV) (rest : List (AV × Value)) (m : Nat → Lc) (H : HV) (a : Act) (w : World), RelS m H B H0 gl rest st a.tmps w → c.wpIn (FW ro) n P (fun e a' w' => e = ex ∧ Vn gl B H0 rest a w st' ds a' w') a w
section
variable {P : Program} {m : Nat → Lc} {H : HV} {B : Nat → Prop} {H0 : HV} {gl : Nat → AV} {rest : List (AV × Value)} {st : St} {a : Act} {w : World} {ch : Ql} {rd : XO}
theorem LV {H' : HV} {E E' : Env} {x : AV} (h : RV H E x Go.undef) : RV H' E' x Go.undef := by
 unfold Go.undef at h ⊢
 cases h with
 | imm _ _ h =>
  cases h with
  | undef => exact .imm _ _ (.undef _)
  | val => exact .imm _ _ (.val _)
  | tup cs _ hl _ =>
   have : cs = [] := List.eq_nil_of_length_eq_zero (by omega)
   subst this
   exact .tup [] #[] rfl (fun j c v hj => by simp at hj)
 | tup cs _ hl _ =>
  have : cs = [] := List.eq_nil_of_length_eq_zero (by omega)
  subst this
  exact .tup [] #[] rfl (fun j c v hj => by simp at hj)
theorem RelS.taken (h : RelS m H B H0 gl rest st a.tmps w) {dst : Option Nat} (hd : QV dst st.n = true) {hp' : Tr Box} {nx' : Nat} {r : AV} {v : Value} {m' : Nat → Lc} {H' : HV} {w' : World} (hh : RelH m' H' B H0 gl (lkb hp') nx' w') (hrv : RV H' (Q5 (lkb hp') m') r v)
  (hrest : ∀ p ∈ (List.range st.n).map (fun k => (st.get k, a.tmps.getD k Go.undef)) ++ rest, RV H' (Q5 (lkb hp') m') p.1 p.2) : RelS m' H' B H0 gl rest ((st.setHp hp' nx').putO dst r) (a.put dst v).tmps w' := by
 have h1 : RelS m' H' B H0 gl rest (st.setHp hp' nx') a.tmps w' := by
  refine ⟨hh, h.size, fun k => ?_, fun p hp => hrest p (List.mem_append_right _ hp)⟩
  rcases Nat.lt_or_ge k st.n with hlt | hge
  ·exact hrest (st.get k, a.tmps.getD k Go.undef) (List.mem_append_left _ (List.mem_map.2 ⟨k, List.mem_range.2 hlt, rfl⟩))
  ·have hu : a.tmps.getD k Go.undef = Go.undef := by rw [Array.getD_eq_getD_getElem?, Array.getElem?_eq_none (by rw [h.size]; exact hge)]; rfl
   have := h.slot k
   rw [hu] at this ⊢
   exact LV this
 exact h1.putO hd hrv
theorem RelS.hold (h : RelS m H B H0 gl rest st a.tmps w) : ∀ p ∈ (List.range st.n).map (fun k => (st.get k, a.tmps.getD k Go.undef)) ++ rest, RV H (st.env m) p.1 p.2 := fun p hp => by
 rw [List.mem_append, List.mem_map] at hp
 rcases hp with ⟨q, _, rfl⟩ | hp
 ·exact h.slot _
 ·exact h.rest p hp
theorem FP {ev : Operand → AV} {op : Op} {id : Nat} {args : List AV} (h : Sl ev op = some (id, args)) : ∃ c x, op = .call c ∧ c.callee = .value x ∧ ev x = .yld id ∧ args = c.args.toList.map ev := by
 unfold Sl at h
 grind
theorem To (hch : ch.Ok P gl) (hrd : rd.Ok P gl) (h : RelS m H B H0 gl rest st a.tmps w) {o : Oper} (hd : QV o.dst st.n = true) {st' : St} (hk : xinl ch rd (st.ev gl) o.op o.dst st = some st') (ro : Option Nat) (n : Nat) : VS P ro n B H0 gl rest a w o st' := by
 unfold xinl at hk
 split at hk
 ·rename_i f args hc
  split at hk
  ·rename_i r hp' nx' hr
   cases hk
   have hcall := hch _ _ _ _ _ _ _ hr
   refine We h hc ro n fun vs hl hv => ?_
   refine (hcall m H B H0 _ w vs h.heap hl hv h.hold).mono fun e w' hpost => ?_
   obtain ⟨v, m', H', rfl, hb, hh, hrv, hrest⟩ := hpost
   exact ⟨v, m', H', rfl, hb, h.taken hd hh hrv hrest⟩
  ·cases hk
 ·split at hk
  ·rename_i id args hy
   split at hk
   ·rename_i r hp' nx' hr
    cases hk
    obtain ⟨c, x, ho, hx, hid, rfl⟩ := FP hy
    have hxv := h.ev x
    rw [hid] at hxv
    obtain ⟨l, hl, hlp⟩ := hxv.yld_inv
    have hargs := WW h c.args.toList
    obtain ⟨fn, tmps, azz, bd, hrun, hround⟩ := hrd _ _ _ _ _ _ _ hr m H B H0 _ w (c.args.map a.eval) l h.heap hlp (by simp) (fun j y v hy hv => hargs.2 j y v hy (by simp_all)) h.hold
    intro next Q hn
    refine ⟨fun _ _ => trivial, ?_⟩
    have hexec : (execOp a.eval o).run P w = .ok (.round l fn tmps azz bd) w := by
     unfold execOp
     simp only [ho, resolve, hx, Sem.run_bind, hl, Deferred.ofValue, Sem.run_pure, Result.andThen_ok, invoke, Array.empty_append]
     exact hrun
    rw [Oper.semAt_eq _ _ _ (fun c e => by simp_all), hexec]
    refine ⟨(fun hh => by grind [FW]), (hround ro (n - 1)).mono fun e w' hpost => ?_⟩
    obtain ⟨v, m', H', rfl, hb, hh, hrv, hrest⟩ := hpost
    exact hn _ _ _ _ (Xx _ _ _) hb (h.taken hd hh hrv hrest)
   ·cases hk
  ·cases hk
theorem RelS.bump (h : RelS m H B H0 gl rest st a.tmps w) (k : Nat) : RelS m H B H0 gl rest (st.bump k) a.tmps w :=
 ⟨{ h.heap with fresh := fun id hid => h.heap.fresh id (Nat.le_trans (Nat.le_add_right _ _) hid) }, h.size, h.slot, h.rest⟩
theorem xop_ok0 (h : RelS m H B H0 gl rest st a.tmps w) {o : Oper} (hd : QV o.dst st.n = true) {r : AV × Option (Nat × Box)} (hk : xop P st.nx o.dst o.op (st.ev gl) (lkb st.hp) = some r) (hn : r.2 = none) :
  OpOk P B H0 gl rest a w o.dst (st.putO o.dst r.1) (execOp a.eval o) := by
 have h1 := Sf (P := P) (st := st.bump 1) (h.bump 1) hd (h.heap.fresh _ (Nat.le_refl _)) (Nat.lt_succ_self _) hk
 obtain ⟨v, b⟩ := r
 cases hn
 obtain ⟨nx, u, w', m', H', h2, h3, h4, h5⟩ := h1
 refine ⟨nx, u, w', m', H', h2, h3, h4, ?_⟩
 have hhp : ((st.bump 1).eff o.dst (v, none)).hp = st.hp := by show ((st.bump 1).putO o.dst v).hp = st.hp; rw [V1]; rfl
 have hget : ∀ k, ((st.bump 1).eff o.dst (v, none)).get k = (st.putO o.dst v).get k := fun k => by cases o.dst <;> rfl
 refine ⟨?_, ?_, fun k => ?_, fun p hp => ?_⟩
 ·have hh := h5.heap
  rw [hhp] at hh
  rw [V1, Cq]
  exact { hh with fresh := h.heap.fresh }
 ·rw [CW]; have := h5.size; rw [CE] at this; exact this
 ·have := h5.slot k
  simp_all [Q5, lkb, V1, St.env]
 ·have := h5.rest p hp
  simp_all [Q5, lkb, V1, St.env]
theorem L4 (hch : ch.Ok P gl) (hrd : rd.Ok P gl) (h : RelS m H B H0 gl rest st a.tmps w) {o : Oper} (hd : QV o.dst st.n = true) {st' : St} (hk : NC P gl ch rd o st = some st') (ro : Option Nat) (n : Nat) : VS P ro n B H0 gl rest a w o st' := by
 unfold NC at hk
 split at hk
 ·grind [To, hk]
 ·split at hk
  ·rename_i r hr
   have h1 := (Sf (st := st.bump 1) (h.bump 1) hd (h.heap.fresh _ (Nat.le_refl _)) (Nat.lt_succ_self _) hr).step (ro := ro) (n := n) (NT hr)
   split at hk
   ·simp_all
   ·rename_i hn
    cases hk
    have h2 := (xop_ok0 h hd hr hn).step (ro := ro) (n := n) (NT hr)
    exact h2
  ·split at hk
   ·rename_i r hr
    cases hk
    exact (R1 (st := st.bump 1) (h.bump 1) hd (h.heap.fresh _ (Nat.le_refl _)) (Nat.lt_succ_self _) hr).step (ro := ro) (n := n) (Nb hr)
   ·cases hk
theorem Aw (hch : ch.Ok P gl) (hrd : rd.Ok P gl) {all : List Oper} {ro : Option Nat} {n : Nat} {d0 : List Deferred} {w0 : World} {sF : St} {Q : Exit → Act → World → Prop}
  (hQ : ∀ (a : Act) (w : World) (m : Nat → Lc) (H : HV), a.defers = d0 → Q8 B w0 w → RelS m H B H0 gl rest sF a.tmps w → Q .normal a w) :
  ∀ (pre l : List Oper) (st : St) (a : Act) (w : World) (m : Nat → Lc) (H : HV), all = pre ++ l → xseq P gl ch rd all l st = some sF → a.defers = d0 → Q8 B w0 w → RelS m H B H0 gl rest st a.tmps w → wpOpsIn (FW ro) n P all.toArray Q (List.range' pre.length l.length) a w
 | pre, [], st, a, w, m, H, _, hk, hd, hb, hr => by
  simp only [xseq, Option.some.injEq] at hk
  subst hk
  exact hQ a w m H hd hb hr
 | pre, o :: l, st, a, w, m, H, he, hk, hd, hb, hr => by
  simp only [List.length_cons, List.range'_succ, wpOpsIn]
  have ho : all.toArray[pre.length]? = some o := by simp_all
  simp only [ho]
  have ih := Aw hch hrd (all := all) (ro := ro) (n := n) hQ (pre ++ [o]) l
  simp only [List.length_append, List.length_cons, List.length_nil, Nat.zero_add, List.append_assoc, List.singleton_append] at ih
  simp only [xseq] at hk
  split at hk
  ·rename_i hdst
   have go : ∀ s, NC P gl ch rd o st = some s → xseq P gl ch rd all l s = some sF → o.wpIn (FW ro) n P a w (wpOpsIn (FW ro) n P all.toArray Q (List.range' (pre.length + 1) l.length)) Q := fun s hs hk =>
    L4 hch hrd hr hdst hs ro n _ _ fun a' w' m' H' hd' hb' hr' => ih s a' w' m' H' he hk (hd'.trans hd) (hb.trans hb') hr'
   split at hk
   ·rename_i hg
    rw [if_pos (by simp [Region.wanted, hg])]
    grind
   ·rename_i j want hg
    split at hk
    ·rename_i g hgs
     split at hk
     ·rename_i ht
      rw [if_pos (W1 hg hgs ht (hr.slot g))]
      grind
     ·rename_i ht
      rw [if_neg (by rw [W1 hg hgs ht (hr.slot g)]; simp)]
      exact ⟨fun _ _ => trivial, ih _ _ w m H he hk ((Xx _ _ _).trans hd) hb (hr.putO hdst (.tup [] #[] rfl (fun j c v hj => by simp at hj)))⟩
     ·cases hk
    ·cases hk
  ·cases hk
theorem IU {F : Fence} {n : Nat} {Q : Exit → Act → World → Prop} {c : Code} (I : Nat → Act → World → Prop)
  (round : ∀ j a w, I j a w → c.wpIn F n P (Exit.then (fun a' w' => ∃ i, i < j ∧ I i a' w') Q) a w) {j : Nat} {a : Act} {w : World} (h₀ : I j a w) : (Code.loop c).wpIn F n P Q a w := by
 intro b k cs hro hb hr
 have key : ∀ j a w, I j a w → ∃ e a' w', Q e a' w' ∧ ArrivesIn (Machine.fenced P F) P (lone (b.atR a (.code c :: .inLoop c :: k)) cs w) b k cs e a' w' := by
  intro j
  induction j using Nat.strongRecOn with
  | _ j ih =>
   intro a w hI
   obtain ⟨e, a₁, w₁, hq, harr⟩ := round j a w hI b (.inLoop c :: k) cs hro hb hr
   cases e with
   | normal =>
    obtain ⟨i, hlt, hI₁⟩ := hq
    obtain ⟨e₂, a₂, w₂, hq₂, harr₂⟩ := ih i hlt a₁ w₁ hI₁
    exact ⟨e₂, a₂, w₂, hq₂, .of_steps (StepsIn.trans harr (.one (fenced_calm hb hr rfl) stepR_inLoop)) harr₂⟩
   | exit id => exact ⟨_, a₁, w₁, hq, .pass (x := .inLoop c) rfl (fun _ _ => .inl (by simp)) harr⟩
   | goto l => exact ⟨_, a₁, w₁, hq, .pass (x := .inLoop c) rfl (fun _ _ => .inl (by simp)) harr⟩
   | ret => exact ⟨_, a₁, w₁, hq, .pass (x := .inLoop c) rfl (fun _ _ => .inl (by simp)) harr⟩
   | panic ch => exact ⟨_, a₁, w₁, hq, .pass (x := .inLoop c) rfl (fun _ _ => .inl (by simp)) harr⟩
   | outgrown => exact ⟨_, a₁, w₁, hq, .pass (x := .inLoop c) rfl (fun _ _ => .inl (by simp)) harr⟩
 obtain ⟨e, a', w', hq, harr⟩ := key j a w h₀
 exact ⟨e, a', w', hq, .of_steps (.one (fenced_calm hb hr rfl) stepR_loop) harr⟩
theorem Vn.nil {B : Nat → Prop} {st' : St} {a' : Act} {w' : World} {m' : Nat → Lc} {H' : HV} (hd : a'.defers = a.defers) (hb : Q8 B w w') (hr : RelS m' H' B H0 gl rest st' a'.tmps w') : Vn gl B H0 rest a w st' [] a' w' :=
 ⟨m', H', [], rfl, by simp_all [Nt], (fun p hp => by simp at hp), hb, hr⟩
def Cp (D : List (Nat × Nat)) : List (AV × Value) := D.map fun p => (.yld p.1, .func (.yield p.2) #[] #[])
theorem RelS.more (h : RelS m H B H0 gl rest st a.tmps w) {D : List (Nat × Nat)} (hD : ∀ p ∈ D, (st.env m).lp p.1 = some p.2) : RelS m H B H0 gl (Cp D ++ rest) st a.tmps w :=
 ⟨h.heap, h.size, h.slot, fun p hp => by
  rw [List.mem_append] at hp
  rcases hp with hp | hp
  ·unfold Cp at hp
   rw [List.mem_map] at hp
   obtain ⟨q, hq, rfl⟩ := hp
   exact .yld _ _ (hD q hq)
  ·exact h.rest p hp⟩
theorem Vn.then {B : Nat → Prop} {s1 st' : St} {d1 d2 : List Nat} {a1 a2 : Act} {w1 w2 : World} {D : List (Nat × Nat)} (hD : D.map (·.1) = d1) (hd1 : a1.defers = Nt D ++ a.defers) (hb : Q8 B w w1) (h2 : Vn gl B H0 (Cp D ++ rest) a1 w1 st' d2 a2 w2) : Vn gl B H0 rest a w st' (d2 ++ d1) a2 w2 := by
 obtain ⟨m2, H2, D2, e1, e2, e3, e4, e5⟩ := h2
 refine ⟨m2, H2, D2 ++ D, by simp_all, by simp_all [List.append_assoc, Nt], fun p hp => ?_, hb.trans e4, ⟨e5.heap, e5.size, e5.slot, fun p hp => e5.rest p (List.mem_append_right _ hp)⟩⟩
 rw [List.mem_append] at hp
 rcases hp with hp | hp
 ·grind
 ·have := e5.rest (.yld p.1, .func (.yield p.2) #[] #[]) (List.mem_append_left _ (List.mem_map.2 ⟨p, hp, rfl⟩))
  obtain ⟨l, k1, k2⟩ := this.yld_inv
  simp_all
theorem Tq {o : Option St} {ex : Exit} {st' : St} {ds : List Nat} (h : lift o = some (ex, st', ds)) : o = some st' ∧ ex = .normal ∧ ds = [] := by
 cases o with
 | none => cases h
 | some s => cases h; simp_all
theorem Sv {l : List Oper} {o : Oper} (h : M3 l = some o) : l[l.length - 1]? = some o ∧ o.guard = none := by
 grind [M3]
theorem PY (hch : ch.Ok P gl) (hrd : rd.Ok P gl) (hmix : P.follows .mixedOrders = true) {l : List Oper} (hok : (KT l && (match M3 l with | some _ => Mt l | none => true)) = true) (ro : Option Nat) (n id : Nat) (h : RelS m H B H0 gl rest st a.tmps w) {st' : St} (hk : xregD P gl ch rd l st = some st') :
  (Code.region id l.toArray true).wpIn (FW ro) n P (fun e a' w' => e = .normal ∧ Vn gl B H0 rest a w st' [] a' w') a w := by
 rw [Bool.and_eq_true] at hok
 unfold xregD at hk
 split at hk
 ·rename_i o ho
  obtain ⟨hol, hg⟩ := Sv ho
  have hbar : Mt l = true := by simp_all
  split at hk
  ·rename_i s hs
   split at hk
   ·rename_i hdst
    have fin : ∀ (a' : Act) (w' : World) (m' : Nat → Lc) (H' : HV) (K : Act → World → Prop), a'.defers = a.defers → Q8 B w w' → RelS m' H' B H0 gl rest s a'.tmps w' →
      (∀ a2 w2, (fun e a' w' => e = Exit.normal ∧ Vn gl B H0 rest a w st' [] a' w') .normal a2 w2 → K a2 w2) → o.wpIn (FW ro) n P a' w' K (fun e a' w' => e = .normal ∧ Vn gl B H0 rest a w st' [] a' w') := fun a' w' m' H' K hd hb hr hK => by
     split at hk
     ·rename_i r hrr
      cases hk
      exact ((R1 (st := s.bump 1) (hr.bump 1) hdst (hr.heap.fresh _ (Nat.le_refl _)) (Nat.lt_succ_self _) hrr).step (ro := ro) (n := n) (Nb hrr)) K _ fun a2 w2 m2 H2 hd2 hb2 hr2 => hK _ _ ⟨rfl, Vn.nil (hd2.trans hd) (hb.trans hb2) hr2⟩
     ·exact To hch hrd hr hdst hk ro n K _ fun a2 w2 m2 H2 hd2 hb2 hr2 => hK _ _ ⟨rfl, Vn.nil (hd2.trans hd) (hb.trans hb2) hr2⟩
    rcases TT hs with ⟨F, hs, hF⟩ | ⟨hmd, hv, hc, hhv, hhc, hs⟩
    ·exact E7 (CP hch) hmix hok.1 hbar hol hg h hs hF fin
    ·exact Hn (Ad hch hok.1 hmd hhv hhc) hmix hok.1 hbar hol hg h hs fin
   ·cases hk
  ·cases hk
 ·rcases TT hk with ⟨F, hk, hF⟩ | ⟨hmd, hv, hc, hhv, hhc, hk⟩
  ·exact SE (CP hch) hmix hok.1 h hk hF fun a' w' m' H' hd hb hr => ⟨rfl, Vn.nil hd hb hr⟩
  ·exact TQ (Ad hch hok.1 hmd hhv hhc) hmix hok.1 h hk fun a' w' m' H' hd hb hr => ⟨rfl, Vn.nil hd hb hr⟩
end
end HY
end
section
namespace HY
open Go Go.RowKit
section
variable {P : Program} {m : Nat → Lc} {H : HV} {B : Nat → Prop} {H0 : HV} {gl : Nat → AV} {rest : List (AV × Value)} {st : St} {a : Act} {w : World} {ch : Ql} {rd : XO}
theorem I8 {hp : Hp} {id : Nat} {s : LoopState} {pend : Option Code} {n : Nat} {sl : Tr AV} {ps : Array Tmp} {azz bd : Code} {d : Nat} (h : hp id = some (.loop s pend n sl ps azz bd d)) : (Q5 hp m).lp id = some (m id).g := by simp [Q5, h]
set_option maxHeartbeats 1000000 in
theorem FI (hch : ch.Ok P gl) {g : Operand} {ps : Array Tmp} {azz bd : Code} {ex : Exit} {st' : St} {ds : List Nat} (hk : Sg P gl ch g ps azz bd st = some (ex, st', ds)) (n : Nat) : T5 P gl none n (.rangeFunc g ps azz bd) st ex st' ds := by
 intro B H0 rest m H a w hr
 unfold Sg at hk
 split at hk
 ·rename_i f caps hg
  cases hbd : Lz P f with
  | false => rw [hbd] at hk; cases hk
  | true =>
  rw [hbd] at hk
  simp only [cond_true] at hk
  have hent := J4 hbd
  split at hk
  ·rename_i rv hp' nx' hc
   have hcall := hch _ _ _ _ _ _ _ hc
   have hgv := hr.ev g
   rw [hg] at hgv
   obtain ⟨us, hu, hul, hur⟩ := hgv.fn_inv
   refine wpIn_rangeFunc fun fn _ => ?_
   have hb1 : Y1 H (Q5 (updF (lkb st.hp) st.nx (some (.defb true))) (updF m st.nx ⟨w.heap.size, 0, 0⟩)) (.defb true) ⟨w.heap.size, 0, 0⟩ (w.alloc (.deferred (some []))) := X2 w _
   obtain ⟨r1, E1⟩ := hr.heap.newObj (nx' := st.nx + 2) (hr.heap.fresh _ (Nat.le_refl _)) (by omega) (by omega) _ _ rfl hb1
   have hb2 : Y1 H (Q5 (updF (updF (lkb st.hp) st.nx (some (.defb true))) (st.nx + 1) (some (.loop .ready none st.n st.sl ps azz bd st.nx))) (updF (updF m st.nx ⟨w.heap.size, 0, 0⟩) (st.nx + 1) ⟨(w.alloc (.deferred (some []))).heap.size, 0, 0⟩)) (.loop .ready none st.n st.sl ps azz bd st.nx) ⟨(w.alloc (.deferred (some []))).heap.size, 0, 0⟩
     ((w.alloc (.deferred (some []))).alloc (.loop { state := .ready, pending := none, fn := fn, tmps := a.tmps, params := ps, assign := azz, body := bd, defers := w.heap.size })) := by
    refine ⟨fn, a.tmps, w.heap.size, X2 _ _, hr.size, fun k => ?_, ?_⟩
    ·have hE2 := Ci (m := updF m st.nx ⟨w.heap.size, 0, 0⟩) (hp := updF (lkb st.hp) st.nx (some (.defb true))) (id := st.nx + 1) (b := .loop .ready none st.n st.sl ps azz bd st.nx) (l := ⟨(w.alloc (.deferred (some []))).heap.size, 0, 0⟩) (by rw [Qo _ _ (by omega)]; exact hr.heap.fresh _ (by omega))
     exact ((hr.slot k).mono (.refl _) E1).mono (.refl _) hE2
    ·simp [Q5, Qo (lkb st.hp |> fun f => updF f st.nx (some (.defb true))) _ (show st.nx ≠ st.nx + 1 by omega), Qk, Qo (updF m st.nx ⟨w.heap.size, 0, 0⟩) _ (show st.nx ≠ st.nx + 1 by omega)]
   obtain ⟨r2, E2⟩ := r1.newObj (id := st.nx + 1) (nx' := st.nx + 2) (by rw [Qo _ _ (by omega)]; exact hr.heap.fresh _ (by omega)) (by omega) (by omega) _ _ rfl hb2
   have hws : (w.alloc (.deferred (some []))).heap.size = w.heap.size + 1 := by simp
   have hlp1 : (Q5 (updF (updF (lkb st.hp) st.nx (some (.defb true))) (st.nx + 1) (some (.loop .ready none st.n st.sl ps azz bd st.nx))) (updF (updF m st.nx ⟨w.heap.size, 0, 0⟩) (st.nx + 1) ⟨(w.alloc (.deferred (some []))).heap.size, 0, 0⟩)).lp (st.nx + 1) = some (w.heap.size + 1) := by
    simp [Q5, Qk]
   have hlp0 : (Q5 (updF (updF (lkb st.hp) st.nx (some (.defb true))) (st.nx + 1) (some (.loop .ready none st.n st.sl ps azz bd st.nx))) (updF (updF m st.nx ⟨w.heap.size, 0, 0⟩) (st.nx + 1) ⟨(w.alloc (.deferred (some []))).heap.size, 0, 0⟩)).lp st.nx = some w.heap.size := by
    have e1 : updF (updF (lkb st.hp) st.nx (some (.defb true))) (st.nx + 1) (some (.loop .ready none st.n st.sl ps azz bd st.nx)) st.nx = some (.defb true) := by rw [Qo _ _ (by omega), Qk]
    have e2 : updF (updF m st.nx ⟨w.heap.size, 0, 0⟩) (st.nx + 1) ⟨(w.alloc (.deferred (some []))).heap.size, 0, 0⟩ st.nx = ⟨w.heap.size, 0, 0⟩ := by rw [Qo _ _ (by omega), Qk]
    simp only [Q5, e1, e2]
   have hE12 := E1.trans E2
   rw [← Z1, ← Z1] at r2 hlp1 hlp0 hE12
   have hbel : Q8 B w ((w.alloc (.deferred (some []))).alloc (.loop { state := .ready, pending := none, fn := fn, tmps := a.tmps, params := ps, assign := azz, body := bd, defers := w.heap.size })) :=
    ((Q8.refl B w).alloc hr.heap.low _).alloc (fun k hk => by have := hr.heap.low k hk; simp; omega) _
   have henter : (Instr.enterLoop fn a.tmps ps azz bd (FW none).round).run P w = .ok (w.heap.size + 1, [{ target := .collected w.heap.size, args := #[] }]) ((w.alloc (.deferred (some []))).alloc (.loop { state := .ready, pending := none, fn := fn, tmps := a.tmps, params := ps, assign := azz, body := bd, defers := w.heap.size })) := run_enterLoop_outer fn a.tmps ps azz bd
   generalize ((w.alloc (.deferred (some []))).alloc (.loop { state := .ready, pending := none, fn := fn, tmps := a.tmps, params := ps, assign := azz, body := bd, defers := w.heap.size })) = W2 at r2 hbel henter
   generalize (updF (updF m st.nx ⟨w.heap.size, 0, 0⟩) (st.nx + 1) ⟨(w.alloc (.deferred (some []))).heap.size, 0, 0⟩) = m2 at r2 hlp1 hlp0 hE12
   have hres : (resolve a.eval (rangeCall g (w.heap.size + 1)) 0).run P W2 = .ok { target := .fn (.func f) us, args := #[.func (.yield (w.heap.size + 1)) #[] #[]] } W2 := by
    have : a.eval g = .func (.func f) #[] us := hu
    show (Deferred.ofValue (a.eval g) (#[Operand.const (.func (.yield (w.heap.size + 1)) #[] #[])].map a.eval)).run P W2 = _
    rw [this]
    simp [Deferred.ofValue, Act.eval]
   have hinv : (invoke (.fn (.func f) us) #[.func (.yield (w.heap.size + 1)) #[] #[]]).run P W2 = .ok (.enter f (#[.func (.yield (w.heap.size + 1)) #[] #[]] ++ us)) W2 := by
    simp only [invoke]
    exact hent _ _
   have hcall' := Ans.calls (he := hent) <| hcall m2 H B H0 ((List.range st.n).map (fun k => (st.get k, a.tmps.getD k Go.undef)) ++ (Cp [(st.nx, w.heap.size), (st.nx + 1, w.heap.size + 1)] ++ rest)) _ (#[.func (.yield (w.heap.size + 1)) #[] #[]] ++ us) r2 (by simp; omega) (fun j x v hx hv => by
     cases j with
     | zero =>
      simp only [List.getElem?_cons_zero, Option.some.injEq] at hx
      subst hx
      have : v = .func (.yield (w.heap.size + 1)) #[] #[] := by rw [Array.getElem?_append_left (by simp)] at hv; simpa using hv.symm
      subst this
      exact .yld _ _ hlp1
     | succ j =>
      rw [List.getElem?_cons_succ] at hx
      refine (hur j x v hx ?_).mono (.refl _) hE12
      rw [Array.getElem?_append_right (by simp)] at hv
      simpa using hv) (fun p hp => by
     rw [List.mem_append, List.mem_map, List.mem_append] at hp
     rcases hp with ⟨q, _, rfl⟩ | hp | hp
     ·exact (hr.slot _).mono (.refl _) hE12
     ·simp only [Cp, List.map_cons, List.map_nil, List.mem_cons, List.not_mem_nil, or_false] at hp
      rcases hp with rfl | rfl
      ·exact .yld _ _ hlp0
      ·exact .yld _ _ hlp1
     ·exact (hr.rest p hp).mono (.refl _) hE12)
   refine ⟨_, _, _, _, _, _, _, _, henter, hres, fun _ _ => trivial, hinv, (fun hh => by simp [FW] at hh), DL (hcall'.mono fun e w3 hpost => ?_)⟩
   ·obtain ⟨v, m', H', rfl, hb3, hh3, _, hrest3⟩ := hpost
    split at hk
    ·rename_i s3 pend n3 sl3 ps3 as3 bd3 d3 hid
     split at hk
     ·cases hk
     ·rename_i hbusy
      have hy1 := hrest3 (.yld (st.nx + 1), .func (.yield (w.heap.size + 1)) #[] #[]) (by simp [Cp])
      obtain ⟨l1, q1, q2⟩ := hy1.yld_inv
      cases q1
      have hl1 : (m' (st.nx + 1)).g = w.heap.size + 1 := by
       rw [I8 hid] at q2; simpa using q2
      have hbx := hh3.box _ _ hid
      obtain ⟨fn3, t3, dg3, hobj, hsz3, hsl3, hd3⟩ := hbx
      rw [hl1] at hobj
      have hend := run_endLoop (P := P) hobj hbusy
      have hput := hh3.putObj hid rfl (b' := .loop .exhausted pend n3 sl3 ps3 as3 bd3 d3) rfl (.loop { state := .exhausted, pending := pend, fn := fn3, tmps := t3, params := ps3, assign := as3, body := bd3, defers := dg3 }) (fun C e fr q => by rw [hl1, hobj] at q; cases q) (fun E' hE' => ⟨fn3, t3, dg3, by rw [World.putObj_heap_same (hh3.sep _ _ hid).2.1], hsz3, fun k => (hsl3 k).mono (.refl _) hE', hE'.lp _ _ hd3⟩)
      obtain ⟨hh4, hE4, hb4⟩ := hput
      rw [← Z1] at hh4 hE4
      rw [hl1] at hh4 hb4
      have hfin : Vn gl B H0 rest a w (st.setHp (pt hp' (st.nx + 1) (.loop .exhausted pend n3 sl3 ps3 as3 bd3 d3)) nx') [st.nx] { a with defers := [{ target := .collected w.heap.size, args := #[] }] ++ a.defers } (w3.putObj (w.heap.size + 1) (.loop { state := .exhausted, pending := pend, fn := fn3, tmps := t3, params := ps3, assign := as3, body := bd3, defers := dg3 })) := by
       refine ⟨m', H', [(st.nx, w.heap.size)], rfl, rfl, fun p hp => ?_, (hbel.trans hb3).trans hb4, ?_⟩
       ·simp only [List.mem_singleton] at hp
        subst hp
        have hy0 := (hrest3 (.yld st.nx, .func (.yield w.heap.size) #[] #[]) (by simp [Cp])).mono (.refl _) hE4
        obtain ⟨l0, q3, q4⟩ := hy0.yld_inv
        cases q3; exact q4
       ·have := RelS.taken (dst := none) hr rfl (r := .undef) (v := Go.undef) hh4 (.imm _ _ (.undef _)) (fun p hp => by
         refine (hrest3 p ?_).mono (.refl _) hE4
         rw [List.mem_append] at hp ⊢
         rcases hp with hp | hp
         ·exact .inl hp
         ·exact .inr (List.mem_append_right _ hp))
        exact this
      refine ⟨pend, _, hend, ?_⟩
      split at hk
      ·cases hk; exact ⟨rfl, hfin⟩
      ·cases hk; exact wpIn_ret ⟨rfl, hfin⟩
      ·cases hk; exact wpIn_exit ⟨rfl, hfin⟩
      ·cases hk
    ·cases hk
  ·cases hk
 ·cases hk
end
end HY
end
section
namespace HY
open Go Go.RowKit
section
variable {F : Fence} {n : Nat} {P : Program} {b : Frame} {a : Act} {k : List Item} {cs : List Frame} {w : World} {Q : Exit → Act → World → Prop}
theorem Ur {c : Code} : step P (lone (b.atR a (.code (.scope c) :: k)) cs w) = .next (lone (b.atR a (.code c :: .inScope c :: k)) cs w) :=
 step_lone_go (by simp [stepG, stepG.exec, Frame.atR])
theorem RM {c : Code} : step P (lone (b.atR a (.inScope c :: k)) cs w) = .next (lone (b.atR a k) cs w) :=
 step_lone_go (by simp [stepG, stepG.exec, Frame.atR])
theorem Ej {c : Code} (h : c.wpIn F n P (Exit.noGoto Q) a w) : (Code.scope c).wpIn F n P Q a w := by
 intro b k cs hro hb hr
 have h0 : (lone (b.atR a (.code (.scope c) :: k)) cs w).fenced P F := fenced_calm hb hr rfl
 obtain ⟨e, a₁, w₁, hq, harr⟩ := h b (.inScope c :: k) cs hro hb hr
 cases e with
 | normal => exact ⟨.normal, a₁, w₁, hq, .head h0 Ur (StepsIn.trans harr (.one (fenced_calm hb hr rfl) RM))⟩
 | exit id =>
  have hx : exitTo id (.inScope c :: k) = exitTo id k := by simp [exitTo]
  exact ⟨.exit id, a₁, w₁, hq, fun k' hk => .head h0 Ur (harr.1 k' (by rw [hx]; exact hk)),
   fun hr' hk => let ⟨k₁, h1, h2⟩ := harr.2 hr' (by rw [hx]; exact hk); ⟨k₁, h1, .head h0 Ur h2⟩⟩
 | goto l => exact hq.elim
 | ret => exact ⟨_, a₁, w₁, hq, .of_steps (.one h0 Ur) harr⟩
 | panic ch => exact ⟨_, a₁, w₁, hq, .of_steps (.one h0 Ur) harr⟩
 | outgrown => exact ⟨_, a₁, w₁, hq, .of_steps (.one h0 Ur) harr⟩
end
section
variable {P : Program} {gl : Nat → AV} {ch : Ql} {rd : XO}
theorem Ru (hch : ch.Ok P gl) (hrd : rd.Ok P gl) (hmix : P.follows .mixedOrders = true) (top : Bool) (ro : Option Nat) (htop : top = true → ro = none) (n : Nat) : ∀ (K k : Nat), k ≤ K → ∀ (c : Code) (st : St) (ex : Exit) (st' : St) (ds : List Nat), QB c = true → KE P gl ch rd top k c st = some (ex, st', ds) → T5 P gl ro n c st ex st' ds
 | _, 0, _, _, _, _, _, _, _, h => by cases h
 | 0, k + 1, hK, _, _, _, _, _, _, _ => by omega
 | K + 1, k + 1, hK, c, st, ex, st', ds, hok, h => by
  have ihS := Ru hch hrd hmix top ro htop n K
  have ih := ihS k (by omega)
  intro B H0 rest m H a w hr
  cases c with
  | skip => cases h; exact wpIn_skip ⟨rfl, .nil rfl (Q8.refl _ _) hr⟩
  | label l => cases h; exact wpIn_label ⟨rfl, .nil rfl (Q8.refl _ _) hr⟩
  | exit id => cases h; exact wpIn_exit ⟨rfl, .nil rfl (Q8.refl _ _) hr⟩
  | ret => cases h; exact wpIn_ret ⟨rfl, .nil rfl (Q8.refl _ _) hr⟩
  | region id ops draw =>
   simp only [KE] at h
   cases draw with
   | true =>
    simp only [cond_true] at h
    obtain ⟨hs, rfl, rfl⟩ := Tq h
    simp only [QB, Bool.not_true, Bool.false_or] at hok
    have := PY hch hrd hmix hok ro n id hr hs
    simpa using this
   | false =>
    simp only [cond_false] at h
    obtain ⟨hs, rfl, rfl⟩ := Tq h
    refine wpIn_region ?_
    have := Aw hch hrd (all := ops.toList) (ro := ro) (n := n) (d0 := a.defers) (w0 := w) (Q := fun e a' w' => e = .normal ∧ Vn gl B H0 rest a w st' [] a' w') (fun a' w' m' H' hd hb hr' => ⟨rfl, .nil hd hb hr'⟩) [] ops.toList st a w m H rfl hs rfl (Q8.refl _ _) hr
    simpa [List.range_eq_range'] using this
  | seq x y =>
   simp only [KE] at h
   simp only [QB, Bool.and_eq_true] at hok
   split at h
   ·rename_i s d hs
    split at h
    ·rename_i e2 s2 d2 hs2
     cases h
     refine wpIn_seq (wpIn_mono (ih x st .normal s d hok.1 hs B H0 rest m H a w hr) fun e a' w' hq => ?_)
     obtain ⟨rfl, m', H', D, hD, hd, hlp, hb, hr'⟩ := hq
     refine wpIn_mono (ih y s ex st' d2 hok.2 hs2 B H0 _ m' H' a' w' (hr'.more hlp)) fun e a2 w2 hq => ?_
     obtain ⟨rfl, hq⟩ := hq
     exact ⟨rfl, Vn.then (s1 := s) hD hd hb hq⟩
    ·cases h
   ·rename_i hno
    refine wpIn_seq (wpIn_mono (ih x st ex st' ds hok.1 h B H0 rest m H a w hr) fun e a' w' hq => ?_)
    obtain ⟨rfl, hq⟩ := hq
    cases e with
    | normal => exact absurd h (hno _ _)
    | _ => exact ⟨rfl, hq⟩
  | cond c x y =>
   simp only [KE] at h
   simp only [QB, Bool.and_eq_true] at hok
   split at h
   ·rename_i t ht
    have hv := hr.ev c
    rw [ht] at hv
    cases t with
    | true => exact wpIn_cond hv.bool_inv (ih x st ex st' ds hok.1 h B H0 rest m H a w hr)
    | false => exact wpIn_cond hv.bool_inv (ih y st ex st' ds hok.2 h B H0 rest m H a w hr)
   ·cases h
  | block id c =>
   simp only [KE] at h
   simp only [QB] at hok
   split at h
   ·rename_i i s d hs
    refine wpIn_block (wpIn_mono (ih c st (.exit i) s d hok hs B H0 rest m H a w hr) fun e a' w' hq => ?_)
    obtain ⟨rfl, hq⟩ := hq
    split at h
    ·rename_i hi
     cases h
     simp only [Exit.inBlock, hi, if_true]
     exact ⟨trivial, hq⟩
    ·rename_i hi
     cases h
     simp only [Exit.inBlock, hi, if_false]
     exact ⟨trivial, hq⟩
   ·rename_i hno
    refine wpIn_block (wpIn_mono (ih c st ex st' ds hok h B H0 rest m H a w hr) fun e a' w' hq => ?_)
    obtain ⟨rfl, hq⟩ := hq
    cases e with
    | exit i => exact absurd h (hno _ _ _)
    | _ => exact ⟨rfl, hq⟩
  | loop c =>
   have hok' := hok
   simp only [QB] at hok
   refine IU (j := k + 1) (fun j a' w' => j ≤ k + 1 ∧ ∃ st1 m1 H1 D ds1, KE P gl ch rd top j (.loop c) st1 = some (ex, st', ds1) ∧ ds1 ++ D.map (·.1) = ds ∧ a'.defers = Nt D ++ a.defers ∧ (∀ p ∈ D, (st1.env m1).lp p.1 = some p.2) ∧ Q8 B w w' ∧ RelS m1 H1 B H0 gl rest st1 a'.tmps w') (fun j a1 w1 hI => ?_) ⟨Nat.le_refl _, st, m, H, [], ds, h, by simp, by simp [Nt], by simp, Q8.refl _ _, hr⟩
   obtain ⟨hj, st1, m1, H1, D, ds1, hx, hD, hd1, hlp, hb1, hr1⟩ := hI
   cases j with
   | zero => cases hx
   | succ j =>
    simp only [KE] at hx
    split at hx
    ·rename_i s d hs
     split at hx
     ·rename_i e2 s2 d2 hs2
      cases hx
      refine wpIn_mono (ihS j (by omega) c st1 .normal s d hok hs B H0 _ m1 H1 a1 w1 (hr1.more hlp)) fun e a2 w2 hq => ?_
      obtain ⟨rfl, hq⟩ := hq
      obtain ⟨m2, H2, D2, e1, e2, e3, e4, e5⟩ := Vn.then (a := a) (s1 := st1) rfl hd1 hb1 hq
      exact ⟨j, Nat.lt_succ_self _, by omega, s, m2, H2, D2, d2, hs2, by rw [e1, ← List.append_assoc]; exact hD, e2, e3, e4, e5⟩
     ·cases hx
    ·rename_i hno
     refine wpIn_mono (ihS j (by omega) c st1 ex st' ds1 hok hx B H0 _ m1 H1 a1 w1 (hr1.more hlp)) fun e a2 w2 hq => ?_
     obtain ⟨rfl, hq⟩ := hq
     have hq' := Vn.then (a := a) (s1 := st1) rfl hd1 hb1 hq
     rw [hD] at hq'
     cases e with
     | normal => exact absurd hx (hno _ _)
     | _ => exact ⟨rfl, hq'⟩
  | rangeFunc g ps azz bd =>
   cases top with
   | true =>
    have := htop rfl
    subst this
    exact FI hch h n B H0 rest m H a w hr
   | false => cases h
  | scope c =>
   simp only [KE] at h
   simp only [QB] at hok
   split at h
   ·cases h
   ·rename_i hno
    refine Ej (wpIn_mono (ih c st ex st' ds hok h B H0 rest m H a w hr) fun e a' w' hq => ?_)
    obtain ⟨rfl, hq⟩ := hq
    cases e with
    | goto l => exact absurd h (hno _ _ _)
    | _ => exact ⟨rfl, hq⟩
  | _ => cases h
theorem Cv (hch : ch.Ok P gl) (hrd : rd.Ok P gl) (hmix : P.follows .mixedOrders = true) (top : Bool) (ro : Option Nat) (htop : top = true → ro = none) (n k : Nat) (c : Code) (st : St) (ex : Exit) (st' : St) (ds : List Nat) (hok : QB c = true) (h : KE P gl ch rd top k c st = some (ex, st', ds)) : T5 P gl ro n c st ex st' ds :=
 Ru hch hrd hmix top ro htop n k k (Nat.le_refl _) c st ex st' ds hok h
end
end HY
end
section
namespace HY
open Go Go.RowKit
def Id : List Nat → List AV → St → Option St
 | [], [], st => some st
 | p :: ps, x :: xs, st => if QV (some p) st.n then Id ps xs (st.putO (some p) x) else none
 | _, _, _ => none
def MU (ex : Exit) : Option (Option Code) := match ex with
 | .normal => some none
 | .ret => some (some .ret)
 | .exit i => some (some (.exit i))
 | _ => none
def Sh (P : Program) (gl : Nat → AV) (fl : Nat) (ch : Ql) (rd : XO) : XO := fun id args hp nx =>
 match lkb hp id with
 | some (.loop _ _ n sl ps azz bd _) => bif QB azz && QB bd then (match Id ps.toList args ⟨n, sl, hp, nx⟩ with
  | some s0 => match KE P gl ch rd false fl azz s0 with
   | some (.normal, s1, []) => match lkb s1.hp id with
    | some (.loop .ready pend1 n1 sl1 ps1 as1 bd1 d1) => match KE P gl ch rd false fl bd (s1.setHp (pt s1.hp id (.loop .busy pend1 n1 sl1 ps1 as1 bd1 d1)) s1.nx) with
     | some (ex, s2, []) => match lkb s2.hp id with
      | some (.loop _ _ n2 sl2 ps2 as2 bd2 d2) => match MU ex with
       | some j => some (.bool j.isNone, pt s2.hp id (.loop (if j.isNone then .ready else .done) j n2 sl2 ps2 as2 bd2 d2), s2.nx)
       | none => none
      | _ => none
     | _ => none
    | _ => none
   | _ => none
  | none => none) else none
 | _ => none
section
variable {P : Program} {m : Nat → Lc} {H : HV} {B : Nat → Prop} {H0 : HV} {gl : Nat → AV} {rest : List (AV × Value)} {st : St} {a : Act} {w : World} {ch : Ql} {rd : XO}
theorem Hm : ∀ (ps : List Nat) (xs : List AV) (vs : List Value) (st : St) (tmps : Array Value) (s0 : St), RelS m H B H0 gl rest st tmps w → Id ps xs st = some s0 → xs.length = vs.length → (∀ (j : Nat) (x : AV) (v : Value), xs[j]? = some x → vs[j]? = some v → RV H (st.env m) x v) →
  ps.length = vs.length ∧ RelS m H B H0 gl rest s0 ((ps.zip vs).foldl (fun tmps (q : Nat × Value) => tmps.setIfInBounds q.1 q.2) tmps) w ∧ s0.hp = st.hp ∧ s0.nx = st.nx
 | [], [], vs, st, tmps, s0, h, hk, hl, _ => by
  have : vs = [] := List.eq_nil_of_length_eq_zero (by simpa using hl.symm)
  subst this
  cases hk
  exact ⟨rfl, h, rfl, rfl⟩
 | p :: ps, x :: xs, vs, st, tmps, s0, h, hk, hl, hv => by
  cases vs with
  | nil => simp at hl
  | cons v vs =>
   simp only [Id] at hk
   split at hk
   ·rename_i hd
    have h1 := RelS.putO (a := { tmps := tmps, defers := [] }) (dst := some p) h hd (hv 0 x v rfl rfl)
    obtain ⟨e1, e2, e3, e4⟩ := Hm ps xs vs (st.putO (some p) x) _ s0 h1 hk (by simpa using hl) (fun j y u hy hu => hv (j + 1) y u (by simpa using hy) (by simpa using hu))
    exact ⟨by simp [e1], e2, by rw [e3]; rfl, by rw [e4]; rfl⟩
   ·cases hk
 | [], _ :: _, _, _, _, _, _, hk, _, _ => by cases hk
 | _ :: _, [], _, _, _, _, _, hk, _, _ => by cases hk
theorem SZ {E : Env} {id l : Nat} {v : AV × Value} (hv : v = (.yld id, .func (.yield l) #[] #[])) (h : RV H E v.1 v.2) : E.lp id = some l := by
 subst hv
 obtain ⟨l', q1, q2⟩ := h.yld_inv
 cases q1; exact q2
set_option maxHeartbeats 1000000 in
theorem FJ (hch : ch.Ok P gl) (hrd : rd.Ok P gl) (hmix : P.follows .mixedOrders = true) (fl : Nat) : XO.Ok P gl (Sh P gl fl ch rd) := by
 intro id args hp nx r hp' nx' hk m H B H0 rest w vs l hh hlp hl hargs hrest
 unfold Sh at hk
 split at hk
 ·rename_i s pend n sl ps azz bd d hid
  cases hok : (QB azz && QB bd) with
  | false => rw [hok] at hk; cases hk
  | true =>
   rw [hok] at hk
   simp only [cond_true] at hk
   rw [Bool.and_eq_true] at hok
   split at hk
   ·rename_i s0 hs0
    split at hk
    ·rename_i s1 hs1
     split at hk
     ·rename_i pend1 n1 sl1 ps1 as1 bd1 d1 hid1
      split at hk
      ·rename_i ex s2 hs2
       split at hk
       ·rename_i st2 pend2 n2 sl2 ps2 as2 bd2 d2 hid2
        split at hk
        ·rename_i j hj
         cases hk
         have hlm : (m id).g = l := by rw [I8 hid] at hlp; simpa using hlp
         obtain ⟨fn, tmps, dg, hobj, hsz, hsl, hd⟩ := hh.box _ _ hid
         rw [hlm] at hobj
         have hr0 : RelS m H B H0 gl ((.yld id, .func (.yield l) #[] #[]) :: rest) ⟨n, sl, hp, nx⟩ tmps w :=
          ⟨hh, hsz, hsl, fun p hp => by
           rw [List.mem_cons] at hp
           rcases hp with rfl | hp
           ·exact .yld _ _ hlp
           ·exact hrest p hp⟩
         obtain ⟨hpl, hr1, e1, e2⟩ := Hm ps.toList args vs.toList _ tmps s0 hr0 hs0 (by simpa using hl) (fun j x v hx hv => hargs j x v hx (by simpa using hv))
         have hfold : (ps.zip vs).foldl (fun tmps (q : Nat × Value) => tmps.setIfInBounds q.1 q.2) tmps = (ps.toList.zip vs.toList).foldl (fun tmps (q : Nat × Value) => tmps.setIfInBounds q.1 q.2) tmps := by
          rw [← Array.foldl_toList, Array.toList_zip]
         rw [← hfold] at hr1
         refine ⟨fn, _, azz, bd, run_yield hobj (by simpa using hpl.symm), fun ro k => ?_⟩
         refine roundIn_of_wpIn trivial ?_
         have hA := Cv hch hrd hmix false (some l) (by simp) k fl azz s0 .normal s1 [] hok.1 hs1 B H0 _ m H { tmps := (ps.zip vs).foldl (fun tmps (q : Nat × Value) => tmps.setIfInBounds q.1 q.2) tmps, defers := [] } w hr1
         refine wpIn_mono hA fun e a1 w1 hq => ?_
         obtain ⟨rfl, m1, H1, D1, hD1, -, -, hb1, hrel1⟩ := hq
         have hlp1 := SZ rfl (hrel1.rest (.yld id, .func (.yield l) #[] #[]) (by simp))
         have hlm1 : (m1 id).g = l := by
          have := I8 (m := m1) hid1
          rw [show (Q5 (lkb s1.hp) m1).lp id = some l from hlp1] at this
          simpa using this.symm
         obtain ⟨fn1, tmps1, dg1, hobj1, hsz1, hsl1, hd1⟩ := hrel1.heap.box _ _ hid1
         obtain ⟨hh2, hE2, hb2⟩ := hrel1.heap.putObj hid1 rfl (b' := .loop .busy pend1 n1 sl1 ps1 as1 bd1 d1) rfl (.loop { state := .busy, pending := pend1, fn := fn1, tmps := tmps1, params := ps1, assign := as1, body := bd1, defers := dg1 }) (fun C e fr q => by rw [hobj1] at q; cases q) (fun E' hE' => ⟨fn1, tmps1, dg1, by rw [World.putObj_heap_same (hrel1.heap.sep _ _ hid1).2.1], hsz1, fun k => (hsl1 k).mono (.refl _) hE', hE'.lp _ _ hd1⟩)
         rw [hlm1] at hobj1 hh2 hb2
         rw [← Z1] at hh2 hE2
         refine ⟨_, run_beginRound hobj1 rfl, ?_⟩
         have hrel2 : RelS m1 H1 B H0 gl ((.yld id, .func (.yield l) #[] #[]) :: rest) (s1.setHp (pt s1.hp id (.loop .busy pend1 n1 sl1 ps1 as1 bd1 d1)) s1.nx) a1.tmps (w1.putObj l (.loop { state := .busy, pending := pend1, fn := fn1, tmps := tmps1, params := ps1, assign := as1, body := bd1, defers := dg1 })) :=
          ⟨hh2, hrel1.size, fun k => (hrel1.slot k).mono (.refl _) hE2, fun p hp => (hrel1.rest p hp).mono (.refl _) hE2⟩
         have hB := Cv hch hrd hmix false (some l) (by simp) k fl bd _ ex s2 [] hok.2 hs2 B H0 _ m1 H1 a1 _ hrel2
         refine wpIn_mono hB fun e a3 w3 hq => ?_
         obtain ⟨rfl, m3, H3, D3, hD3, -, -, hb3, hrel3⟩ := hq
         have hlp3 := SZ rfl (hrel3.rest (.yld id, .func (.yield l) #[] #[]) (by simp))
         have hlm3 : (m3 id).g = l := by
          have := I8 (m := m3) hid2
          rw [show (Q5 (lkb s2.hp) m3).lp id = some l from hlp3] at this
          simpa using this.symm
         obtain ⟨fn3, tmps3, dg3, hobj3, hsz3, hsl3, hd3⟩ := hrel3.heap.box _ _ hid2
         obtain ⟨hh4, hE4, hb4⟩ := hrel3.heap.putObj hid2 rfl (b' := .loop (if j.isNone then .ready else .done) j n2 sl2 ps2 as2 bd2 d2) rfl (.loop { state := if j.isNone then .ready else .done, pending := j, fn := fn3, tmps := tmps3, params := ps2, assign := as2, body := bd2, defers := dg3 }) (fun C e fr q => by rw [hobj3] at q; cases q) (fun E' hE' => ⟨fn3, tmps3, dg3, by rw [World.putObj_heap_same (hrel3.heap.sep _ _ hid2).2.1], hsz3, fun k => (hsl3 k).mono (.refl _) hE', hE'.lp _ _ hd3⟩)
         rw [hlm3] at hobj3 hh4 hb4
         rw [← Z1] at hh4 hE4
         have hend := run_endRound (P := P) j hobj3
         have hfin : ∃ v m' H', Ending.returned (.bool j.isNone) = .returned v ∧ Q8 B w (w3.putObj l (.loop { state := if j.isNone then .ready else .done, pending := j, fn := fn3, tmps := tmps3, params := ps2, assign := as2, body := bd2, defers := dg3 })) ∧ RelH m' H' B H0 gl (lkb (pt s2.hp id (.loop (if j.isNone then .ready else .done) j n2 sl2 ps2 as2 bd2 d2))) s2.nx (w3.putObj l (.loop { state := if j.isNone then .ready else .done, pending := j, fn := fn3, tmps := tmps3, params := ps2, assign := as2, body := bd2, defers := dg3 })) ∧ RV H' (Q5 (lkb (pt s2.hp id (.loop (if j.isNone then .ready else .done) j n2 sl2 ps2 as2 bd2 d2))) m') (.bool j.isNone) v ∧ ∀ p ∈ rest, RV H' (Q5 (lkb (pt s2.hp id (.loop (if j.isNone then .ready else .done) j n2 sl2 ps2 as2 bd2 d2))) m') p.1 p.2 :=
          ⟨.bool j.isNone, m3, H3, rfl, ((hb1.trans hb2).trans hb3).trans hb4, hh4, .imm _ _ (.bool _), fun p hp => (hrel3.rest p (List.mem_cons_of_mem _ hp)).mono (.refl _) hE4⟩
         cases e with
         | normal => cases hj; exact ⟨_, _, hend, hfin⟩
         | ret => cases hj; exact ⟨_, _, hend, hfin⟩
         | exit i => cases hj; exact ⟨_, _, hend, hfin⟩
         | _ => cases hj
        ·cases hk
       ·cases hk
      ·cases hk
     ·cases hk
    ·cases hk
   ·cases hk
 ·cases hk
end
end HY
end
section
namespace HY
open Go Go.RowKit
def YS : Nat → List AV → Tr AV
 | _, [] => .nil
 | k, x :: xs => pt (YS (k + 1) xs) k x
theorem Dg : ∀ (xs : List AV) (k j : Nat), lk .undef (YS k xs) j = if k ≤ j then (xs[j - k]?).getD .undef else .undef
 | [], k, j => by
  have : lk .undef (YS k []) j = .undef := by unfold lk YS; cases path j <;> rfl
  rw [this]; simp
 | x :: xs, k, j => by
  simp only [YS]
  rw [JI]
  by_cases h : k = j
  ·subst h; simp
  ·rw [if_neg h, Dg xs (k + 1) j]
   by_cases h' : k ≤ j
   ·rw [if_pos h', if_pos (by omega)]
    have : j - k = (j - (k + 1)) + 1 := by omega
    rw [this, List.getElem?_cons_succ]
   ·rw [if_neg h', if_neg (by omega)]
def resAV (P : Program) (st : St) : ResultVar → Option AV
 | .tmp t => some (st.get t)
 | .cell a t => Gq P t (st.get a) (lkb st.hp)
def N3 (P : Program) (st : St) : List ResultVar → Option (List AV)
 | [] => some []
 | x :: r => match resAV P st x with
  | some v => match N3 P st r with
   | some vs => some (v :: vs)
   | none => none
  | none => none
def Ws (P : Program) (st : St) (l : List ResultVar) : Option AV :=
 match N3 P st l with
 | some [v] => some v
 | some vs => some (.tup vs)
 | none => none
section
variable {P : Program} {m : Nat → Lc} {H : HV} {B : Nat → Prop} {H0 : HV} {gl : Nat → AV} {rest : List (AV × Value)} {st : St} {tmps : Array Value} {w : World}
theorem res_one (h : RelS m H B H0 gl rest st tmps w) {x : ResultVar} {r : AV} (hr : resAV P st x = some r) :
  ∃ v, (match x with | .tmp t => pure (tmps.getD t Go.undef) | .cell a t => do loadVar t (← asAddr (tmps.getD a Go.undef)) : Sem Value).run P w = .ok v w ∧ RV H (st.env m) r v := by
 cases x with
 | tmp t => cases hr; exact ⟨_, rfl, h.slot t⟩
 | cell a t =>
  simp only [resAV] at hr
  obtain ⟨v, h1, h2⟩ := Sc (P := P) h.heap (h.slot a) hr
  refine ⟨v, ?_, h2⟩
  show (do loadVar t (← asAddr (tmps.getD a Go.undef)) : Sem Value).run P w = _
  generalize tmps.getD a Go.undef = u at h1 ⊢
  simp only [Instr.loadAt, Instr.sureAddr, asAddr] at h1 ⊢
  cases u <;> simp at h1 ⊢
  rename_i ad
  cases ad <;> simp at h1 ⊢
  exact h1
theorem TS (h : RelS m H B H0 gl rest st tmps w) : ∀ (l : List ResultVar) (avs : List AV), N3 P st l = some avs →
  ∃ vs : List Value, (l.mapM (fun x : ResultVar => (match x with | .tmp t => pure (tmps.getD t Go.undef) | .cell a t => do loadVar t (← asAddr (tmps.getD a Go.undef)) : Sem Value))).run P w = .ok vs w ∧ avs.length = vs.length ∧ ∀ (j : Nat) (c : AV) (v : Value), avs[j]? = some c → vs[j]? = some v → RV H (st.env m) c v
 | [], avs, hk => by
  simp only [N3, Option.some.injEq] at hk
  subst hk
  exact ⟨[], by simp, rfl, fun j c v hj => by simp at hj⟩
 | x :: l, avs, hk => by
  simp only [N3] at hk
  split at hk
  ·rename_i v hv
   split at hk
   ·rename_i us hus
    cases hk
    obtain ⟨u, h1, h2⟩ := res_one h hv
    obtain ⟨vs, h3, h4, h5⟩ := TS h l us hus
    refine ⟨u :: vs, ?_, by simp [h4], fun j c v hj hv => ?_⟩
    ·simp only [List.mapM_cons, Sem.run_bind]
     rw [h1]
     simp only [Result.andThen_ok, h3, Sem.run_pure]
    ·cases j with
     | zero => simp only [List.getElem?_cons_zero, Option.some.injEq] at hj hv; subst hj; subst hv; exact h2
     | succ j => exact h5 j c v (by simpa using hj) (by simpa using hv)
   ·cases hk
  ·cases hk
theorem Cr (h : RelS m H B H0 gl rest st tmps w) {fn : Func} {r : AV} (hr : Ws P st fn.results.toList = some r) : ∃ v, (results fn tmps).run P w = .ok v w ∧ RV H (st.env m) r v := by
 unfold Ws at hr
 obtain ⟨avs, ha⟩ : ∃ avs, N3 P st fn.results.toList = some avs := by
  cases hx : N3 P st fn.results.toList with
  | none => rw [hx] at hr; cases hr
  | some avs => exact ⟨avs, rfl⟩
 rw [ha] at hr
 obtain ⟨vs, hrun, hl, hrel⟩ := TS h _ _ ha
 have hres : (results fn tmps).run P w = .ok (if h : vs.toArray.size = 1 then vs.toArray[0] else .tuple vs.toArray) w := by
  unfold results
  have hrun' : (fn.results.mapM (fun x : ResultVar => (match x with | .tmp t => pure (tmps.getD t Go.undef) | .cell a t => do loadVar t (← asAddr (tmps.getD a Go.undef)) : Sem Value))).run P w = .ok vs.toArray w := by
   rw [← Array.toArray_toList (xs := fn.results), List.mapM_toArray, Sem.run_map, hrun]
   rfl
  rw [Sem.run_bind]
  refine Eq.trans (congrArg (fun x => Result.andThen x _) hrun') ?_
  rfl
 refine ⟨_, hres, ?_⟩
 match avs, vs, hl, hr, hrel with
 | [], vs, hl, hr, hrel =>
  have : vs = [] := List.eq_nil_of_length_eq_zero (by simpa using hl.symm)
  subst this
  cases hr
  simp only [List.size_toArray, List.length_nil]
  exact .tup [] #[] rfl (fun j c v hj => by simp at hj)
 | [x], [v], hl, hr, hrel =>
  cases hr
  simpa using hrel 0 _ _ rfl rfl
 | x :: y :: l, vs, hl, hr, hrel =>
  cases hr
  rw [dif_neg (by simp at hl ⊢; omega)]
  exact .tup _ _ (by simpa using hl) fun j c v hj hv => hrel j c v hj (by simpa using hv)
end
def shut : List Nat → Tr Box → Option (Tr Box)
 | [], hp => some hp
 | id :: ds, hp => match lkb hp id with
  | some (.defb true) => shut ds (pt hp id (.defb false))
  | _ => none
section
variable {P : Program} {m : Nat → Lc} {H : HV} {B : Nat → Prop} {H0 : HV} {gl : Nat → AV}
theorem SY {hp : Hp} {id : Nat} {o : Bool} (h : hp id = some (.defb o)) : (Q5 hp m).lp id = some (m id).g := by simp [Q5, h]
theorem A8 {F : Fence} {n : Nat} {fn : Func} {tmps : Array Value} {R : Ending → World → Prop} {nx : Nat} {hp' : Tr Box} : ∀ (D : List (Nat × Nat)) (hp : Tr Box) (w : World), RelH m H B H0 gl (lkb hp) nx w → (∀ p ∈ D, (Q5 (lkb hp) m).lp p.1 = some p.2) → shut (D.map (·.1)) hp = some hp' →
  (∀ w', RelH m H B H0 gl (lkb hp') nx w' → Env.le (Q5 (lkb hp) m) (Q5 (lkb hp') m) → Q8 B w w' → ∃ v, (results fn tmps).run P w' = .ok v w' ∧ R (.returned v) w') → LeavesInM F n P fn tmps R (Nt D) .returning w
 | [], hp, w, h, _, hk, hQ => by
  cases hk
  exact hQ w h (.refl _) (Q8.refl _ _)
 | (id, l) :: D, hp, w, h, hD, hk, hQ => by
  simp only [List.map_cons, shut] at hk
  split at hk
  ·rename_i hid
   have hl : (m id).g = l := by
    have := hD (id, l) (by simp)
    rw [SY hid] at this
    simpa using this
   have hobj : w.heap[(m id).g]? = some (.deferred (some [])) := h.box _ _ hid
   obtain ⟨hh2, hE2, hb2⟩ := h.putObj hid rfl (b' := .defb false) rfl (.deferred none) (fun C e fr q => by rw [hobj] at q; cases q) (fun E' hE' => World.putObj_heap_same (h.sep _ _ hid).2.1)
   rw [← Z1] at hh2 hE2
   rw [hl] at hobj hh2 hb2
   refine ⟨by simp, .inl ⟨l, _, rfl, run_takeDeferred hobj, ?_⟩⟩
   exact A8 D _ _ hh2 (fun p hp => hE2.lp _ _ (hD p (List.mem_cons_of_mem _ hp))) hk (fun w' h3 hE3 hb3 => hQ w' h3 (hE2.trans hE3) (hb2.trans hb3))
  ·cases hk
end
def GN (ex : Exit) : Bool := match ex with
 | .normal | .ret => true
 | _ => false
def xfun (P : Program) (gl : Nat → AV) (gd : Nat → Bool) (fl : Nat) (ch : Ql) (rd : XO) : Ql := fun f args hp nx =>
 bif gd f then (match P.funcs[f]? with
  | some fn => match fn.body with
   | some c => bif Nat.ble args.length fn.ntmps then (match KE P gl ch rd true fl c ⟨fn.ntmps, YS 0 args, hp, nx⟩ with
    | some (ex, s, ds) => bif GN ex then (match shut ds s.hp with
     | some hp' => match Ws P (s.setHp hp' s.nx) fn.results.toList with
      | some r => some (r, hp', s.nx)
      | none => none
     | none => none) else none
    | none => none) else none
   | none => none
  | none => none) else none
def okFn (P : Program) (f : Nat) : Bool :=
 match P.funcs[f]? with
 | some fn => (fn.name != "runtime.NumGoroutine") && match fn.body with
  | some c => QB c
  | none => false
 | none => false
structure Je (P : Program) (gd : Nat → Bool) : Prop where
 mix : P.follows .mixedOrders = true
 fn : ∀ f, gd f = true → okFn P f = true
theorem xfun_ok {P : Program} {gl : Nat → AV} {gd : Nat → Bool} {fl : Nat} {ch : Ql} {rd : XO} (hp : Je P gd) (hch : ch.Ok P gl) (hrd : rd.Ok P gl) : Ql.Ok P gl (xfun P gl gd fl ch rd) := by
 intro f args hpx nx r hp' nx' hk
 unfold xfun at hk
 cases hg : gd f with
 | false => rw [hg] at hk; cases hk
 | true =>
  rw [hg] at hk
  simp only [cond_true] at hk
  have hok := hp.fn f hg
  unfold okFn at hok
  split at hk
  ·rename_i fn hf
   rw [hf] at hok
   simp only [Bool.and_eq_true, bne_iff_ne] at hok
   obtain ⟨hname, hok⟩ := hok
   split at hk
   ·rename_i c hb
    rw [hb] at hok
    simp only at hok
    cases hle : Nat.ble args.length fn.ntmps with
    | false => rw [hle] at hk; cases hk
    | true =>
     rw [hle] at hk
     simp only [cond_true] at hk
     have hle := Nat.le_of_ble_eq_true hle
     split at hk
     ·rename_i ex s ds hx
      cases hex : GN ex with
      | false => rw [hex] at hk; cases hk
      | true =>
      rw [hex] at hk
      simp only [cond_true] at hk
      split at hk
      ·rename_i hp2 hshut
       split at hk
       ·rename_i r' hr'
        cases hk
        intro m H B H0 rest w vs hh hl hargs hrest
        refine .inl ⟨U0 hf (by simpa using hname) (by rw [hb]; rfl), ?_⟩
        have h0 : RelS m H B H0 gl rest ⟨fn.ntmps, YS 0 args, hpx, nx⟩ (vs ++ Array.replicate (fn.ntmps - vs.size) Go.undef) w := by
         refine ⟨hh, by simp; omega, fun k => ?_, hrest⟩
         show RV H _ (lk .undef (YS 0 args) k) _
         rw [Dg, if_pos (Nat.zero_le _), Nat.sub_zero]
         cases hx : args[k]? with
         | none => exact .imm _ _ (.undef _)
         | some x =>
          have hk : k < vs.size := by rw [← hl]; exact (List.getElem?_eq_some_iff.1 hx).1
          have hv : (vs ++ Array.replicate (fn.ntmps - vs.size) Go.undef).getD k Go.undef = vs[k] := by
           rw [Array.getD_eq_getD_getElem?, Array.getElem?_append_left hk, Array.getElem?_eq_getElem hk]; rfl
          rw [hv]
          exact hargs k x _ hx (Array.getElem?_eq_getElem hk)
        have hcode := Cv hch hrd hp.mix true none (fun _ => rfl) 0 fl c _ ex s ds hok hx B H0 rest m H { tmps := vs ++ Array.replicate (fn.ntmps - vs.size) Go.undef, defers := [] } w h0
        refine CallsIn.calls (F := FW none) (callsIn_of_wp_marks hf hb trivial (wpIn_mono hcode fun e a' w' hq => ?_)) (fun k d hd => by simp [FW] at hd)
        obtain ⟨rfl, m', H', D, hD, hd, hlp, hbl, hr2⟩ := hq
        subst hD
        have hgo : LeavesInM (FW none) 0 P fn a'.tmps (fun e w' => ∃ v m' H', e = .returned v ∧ Q8 B w w' ∧ RelH m' H' B H0 gl (lkb hp') s.nx w' ∧ RV H' (Q5 (lkb hp') m') r v ∧ ∀ p ∈ rest, RV H' (Q5 (lkb hp') m') p.1 p.2) a'.defers .returning w' := by
         rw [hd, List.append_nil]
         refine A8 D _ w' hr2.heap hlp hshut fun w3 h3 hE3 hb3 => ?_
         have hr3 : RelS m' H' B H0 gl rest (s.setHp hp' s.nx) a'.tmps w3 := ⟨h3, hr2.size, fun k => (hr2.slot k).mono (.refl _) hE3, fun p hp => (hr2.rest p hp).mono (.refl _) hE3⟩
         obtain ⟨v, hv, hrv⟩ := Cr hr3 hr'
         exact ⟨v, hv, v, m', H', rfl, hbl.trans hb3, h3, hrv, hr3.rest⟩
        cases e with
        | normal => exact hgo
        | ret => exact hgo
        | _ => cases hex
       ·cases hk
      ·cases hk
     ·cases hk
   ·cases hk
  ·cases hk
end HY
end
section
namespace HY
open Go Go.RowKit
def HV.full (w : World) : HV := fun b o => w.cell? ⟨b, o, none⟩
theorem P2 (w : World) : HV.sat (HV.full w) w := fun _ _ _ h => h
def RelL (H : HV) (avs : List AV) (cs : List Value) : Prop := avs.length = cs.length ∧ ∀ (j : Nat) (a : AV) (v : Value), avs[j]? = some a → cs[j]? = some v → a.one = true ∧ RelI H a v
theorem RelL.one {H : HV} {a : AV} {v : Value} (h1 : a.one = true) (h : RelI H a v) : RelL H [a] [v] := ⟨rfl, fun j x u hx hu => by
 cases j with
 | zero => simp at hx hu; subst hx; subst hu; exact ⟨h1, h⟩
 | succ j => simp at hx⟩
section
variable {H : Type} {enc : TypeId × Value → H} {P : Program} {w : World} {base : Nat} {spare : Nat → Bool} {held : Bool}
def DH (enc : TypeId × Value → H) (P : Program) (w : World) (base : Nat) (spare : Nat → Bool) (held : Bool) (n : Nat) (t : TypeId) {α : Type} (E : α → List AV) (I : α → DataW H → Prop) : Prop :=
 ∀ fuel cs d ps, fuel ≤ n → DataW.trod enc P w base spare held fuel t cs = some (d, ps) → ∃ a, I a d ∧ RelL (HV.full w) (E a) cs
theorem Fp (n : Nat) {t : TypeId} {k : IntKind} (ht : P.underlying t = some (.int k)) :
  DH enc P w base spare held n t (fun a : Int => [.int k a]) (fun a d => (Lit.int k a).wf = true ∧ d = .lit (.int k a)) := fun fuel cs d ps _ h => by
 obtain ⟨m, rfl, he, hw⟩ := DataW.trod_int ht h
 cases he
 exact ⟨m, ⟨hw, rfl⟩, .one rfl (.int k m)⟩
theorem AO (n : Nat) {t : TypeId} (ht : P.underlying t = some .bool) :
  DH enc P w base spare held n t (fun a : Bool => [.bool a]) (fun a d => d = .lit (.bool a)) := fun fuel cs d ps _ h => by
 obtain ⟨m, rfl, he⟩ := DataW.trod_bool ht h
 cases he
 exact ⟨m, rfl, .one rfl (.bool m)⟩
theorem DH.to {n : Nat} {t : TypeId} {α β : Type} {E : α → List AV} {I : α → DataW H → Prop} (h : DH enc P w base spare held n t E I) (g : α → β) {E' : β → List AV} {I' : β → DataW H → Prop} (hE : ∀ a, E' (g a) = E a) (hI : ∀ a d, I a d → I' (g a) d) :
  DH enc P w base spare held n t E' I' := fun fuel cs d ps hfu hh => by
 obtain ⟨a, ha, hr⟩ := h fuel cs d ps hfu hh
 exact ⟨g a, hI a d ha, by rw [hE]; exact hr⟩
theorem DH.arg {t : TypeId} {α : Type} {E : α → List AV} {I : α → DataW H → Prop} (h : ∀ n, DH enc P w base spare held n t E I) {v : Value} {d : DataW H} {ps : List MemPlace} (hd : DataW.Trod enc P w base spare held t v d ps) :
  ∃ a, I a d ∧ RelL (HV.full w) (E a) v.cells.toList := by
 obtain ⟨fuel, hf⟩ := hd
 exact h fuel fuel _ _ _ (Nat.le_refl _) hf
theorem RelL.val1 {K : HV} {a : AV} {v : Value} (h : RelL K [a] v.cells.toList) (hv : ∀ cs, v ≠ .agg cs) : RelI K a v := by
 have hc : v.cells = #[v] := by cases v <;> first | rfl | exact absurd rfl (hv _)
 rw [hc] at h
 exact (h.2 0 a v rfl rfl).2
end
end HY
end
section
namespace HY
open Go Go.RowKit Go.ChangeShapes Go.WideShapes
section
variable {H : Type} {enc : TypeId × Value → H} {P : Program} {w : World} {base : Nat} {spare : Nat → Bool} {held : Bool}
def Sz (P : Program) (t : TypeId) (d : DataW H) : Prop := ∀ k ∈ DataW.weights P t d, k ≤ reachBytes
def SzE (P : Program) (ts : List TypeId) (ds : List (DataW H)) : Prop := ∀ k ∈ DataW.weightsEach P ts ds, k ≤ reachBytes
theorem SzE.cons {t : TypeId} {ts : List TypeId} {d : DataW H} {ds : List (DataW H)} (h : SzE P (t :: ts) (d :: ds)) : Sz P t d ∧ SzE P ts ds := by
 unfold SzE at h
 rw [DataW.weightsEach] at h
 exact ⟨fun k hk => h k (List.mem_append_left _ hk), fun k hk => h k (List.mem_append_right _ hk)⟩
end
end HY
end
section
namespace HY
open Go Go.RowKit
def Ia : XO := fun _ _ _ _ => none
theorem MH {P : Program} {gl : Nat → AV} : XO.Ok P gl Ia := fun _ _ _ _ _ _ _ h => by cases h
end HY
end
section
namespace HY
open Go Go.RowKit
structure Pu (P : Program) (gl : Nat → AV) (f : Nat) (args : List AV) (r : AV) : Prop where
 ok : KW P gl f args r .nil 0
structure KB where
 slot : Nat
 path : List Nat := []
 own : Nat := 0
 cut : Bool := false
 fz : Bool := false
structure Alt where
 {α : Type}
 φ : α → Prop
 ex : Exit
 vs : α → List AV
 bs : α → List Box
inductive Hint : Type 1 where
 | v (x : AV)
 | b (t : Bool)
 | split
 | e {α : Type} (sh : α → AV)
 | u
 | s
 | a
 | us (s : List UInt8)
 | ac
 | o
 | nn
 | z (kb : List KB) (h : Option Hint)
 | n {α : Type} (sh : α → AV) (s : Nat) (h : Option Hint)
 | fl {α : Type} (sh : α → AV) (s : Nat) (h : Option Hint)
 | cc (r : AV)
 | c {α : Type} (sh : α → AV)
 | cb
 | h (kb : List KB) {α : Type} (r : α → AV) (bs : α → List Box)
 | hb (kb : List KB) {α : Type} (bs : α → List Box)
 | i (sub : List (Nat × Hint))
 | l {υ ω : Type} (gs : List KB) (ks : List Nat) (kb : List KB) (kx : List Nat) (kbx : List KB) (alts : υ → ω → List Alt)
abbrev Qz := List (Nat × Hint)
def lkH : Qz → Nat → Option Hint
 | [], _ => none
 | (k, h) :: r, n => match Nat.beq k n with
  | true => some h
  | false => lkH r n
def RW (dst : Option Nat) (op : Op) : Nat :=
 match dst with
 | some d => d
 | none => match op with
  | .store _ (.tmp k) _ => 1000000 + k
  | _ => 1000000
abbrev Res := AV × Option (Nat × Box)
def oblV (P : Program) (bid : Nat) (dst : Option Nat) (op : Op) (ev : Operand → AV) (hp : Hp) (r : AV) : Prop :=
 match op with
 | .indexAddr t x i => Yl P t (ev x) (ev i) = some r
 | .index t x i => Mg P t (ev x) (ev i) = some r
 | .slice t x lo hi mx => Vy P t (ev x) (lo.map ev) (hi.map ev) (mx.map ev) = some r
 | .load t x => Gq P t (ev x) hp = some r
 | .binOp o t x y _ => xbin P o t (ev x) (ev y) = some r
 | .convert src to x => Et P src to (ev x) = some r
 | op => xop P bid dst op ev hp = some (r, none)
theorem oblV_ok {P : Program} {bid : Nat} {dst : Option Nat} {op : Op} {ev : Operand → AV} {hp : Hp} {r : AV} (h : oblV P bid dst op ev hp r) : xop P bid dst op ev hp = some (r, none) := by
 unfold oblV at h
 split at h
 ·refine ZA ?_; show xv _ = _; rw [h]; rfl
 ·refine ZA ?_; show xv _ = _; rw [h]; rfl
 ·refine ZA ?_; show xv _ = _; rw [h]; rfl
 ·refine ZA ?_; show xv _ = _; rw [h]; rfl
 ·refine ZA ?_; show xv _ = _; rw [h]; rfl
 ·refine ZA ?_; show xv _ = _; rw [h]; rfl
 ·exact h
def bI (d : Int) : Option AV → Option Int
 | none => some d
 | some (.int _ n) => some n
 | some _ => none
def ieq (P : Program) (t : TypeId) (sz : Nat) : Bool := match elI P t with
 | some k => Nat.beq k sz
 | none => false
theorem WU {P : Program} {t : TypeId} {sz : Nat} (h : ieq P t sz = true) : elI P t = some sz := by
 grind [ieq, hk, Nat.eq_of_beq_eq_true]
def keq (a b : IntKind) : Bool := if a = b then true else false
theorem keq_ok {a b : IntKind} (h : keq a b = true) : a = b := by
 simp_all [keq]
def wopS (P : Program) (op : Op) (ev : Operand → AV) (K : Res → Prop) : Prop :=
 match op with
 | .binOp o _ x y _ => match ev x, ev y with
  | .str a, .str b => match o with
   | .add => a.length + b.length ≤ 9223372036854775807 ∧ K (.str (a ++ b), none)
   | _ => False
  | .int k a, .int k' b => match o with
   | .shl => 0 ≤ b ∧ K (.int k (k.wrap (a * 2 ^ (min b.toNat k.bits))), none)
   | .shr => 0 ≤ b ∧ K (.int k (a.fdiv (2 ^ (min b.toNat k.bits))), none)
   | o => match keq k k' with
    | true => match o with
     | .quo => b ≠ 0 ∧ K (.int k (k.wrap (a.tdiv b)), none)
     | .rem => b ≠ 0 ∧ K (.int k (a.tmod b), none)
     | _ => False
    | false => False
  | _, _ => False
 | .indexAddr t x i => match ev i with
  | .int _ k => match ev x with
   | .bs id ver sz off len => match ieq P t sz with
    | true => (0 ≤ k ∧ k < len) ∧ K (.ptr id ver (off + k.toNat * sz), none)
    | false => False
   | .ow id ver sz len => match ieq P t sz with
    | true => (0 ≤ k ∧ k < len) ∧ K (.oe id ver sz k.toNat 0, none)
    | false => False
   | .ptr id ver off => match arI P t with
    | some (n, z, _) => (0 ≤ k ∧ k < n) ∧ K (.ptr id ver (off + k.toNat * z), none)
    | none => False
   | .ip sz xs j off => match arI P t with
    | some (n, z, _) => (0 ≤ k ∧ k < n) ∧ K (.ip sz xs j (off + k.toNat * z), none)
    | none => False
   | _ => False
  | _ => False
 | .slice t x lo hi mx => match mx with
  | some _ => False
  | none => match bI 0 (lo.map ev) with
   | some l => match ev x with
    | .str s => match KC P t with
     | true => match hi with
      | none => (0 ≤ l ∧ l ≤ s.length) ∧ K (.str (s.drop l.toNat), none)
      | some hi => match bI 0 (some (ev hi)) with
       | some h => (0 ≤ l ∧ l ≤ h ∧ h ≤ s.length) ∧ K (.str ((s.take h.toNat).drop l.toNat), none)
       | none => False
     | false => False
    | .sl sz xs => match ieq P t sz with
     | true => match hi with
      | none => (0 ≤ l ∧ l ≤ xs.length) ∧ K (.sl sz (xs.drop l.toNat), none)
      | some hi => match bI 0 (some (ev hi)) with
       | some h => (0 ≤ l ∧ l ≤ h ∧ h ≤ xs.length) ∧ K (.sl sz ((xs.take h.toNat).drop l.toNat), none)
       | none => False
     | false => False
    | .bs id ver sz off len => match bI len (hi.map ev) with
     | some h => match ieq P t sz with
      | true => (0 ≤ l ∧ l < h ∧ h ≤ len) ∧ K (.bs id ver sz (off + l.toNat * sz) (h.toNat - l.toNat), none)
      | false => False
     | none => False
    | .ow id ver sz len => match bI len (hi.map ev) with
     | some h => match ieq P t sz with
      | true => (l = 0 ∧ 0 ≤ h ∧ h ≤ len) ∧ K (.ow id ver sz h.toNat, none)
      | false => False
     | none => False
    | _ => False
   | none => False
 | _ => False
theorem bI_ok {d : Nat} {o : Option AV} {n : Int} (h : bI d o = some n) (h0 : 0 ≤ n) : bndN d o = some n.toNat := by
 unfold bI at h
 split at h
 ·cases h; rfl
 ·simp_all [bndN, if_pos]
 ·cases h
theorem bI_okS {d d' : Nat} {x : AV} {n : Int} (h : bI d (some x) = some n) (h0 : 0 ≤ n) : bndN d' (some x) = some n.toNat := by
 unfold bI at h
 split at h
 ·simp_all
 ·simp_all [bndN, if_pos]
 ·cases h
theorem An {P : Program} {bid : Nat} {dst : Option Nat} {op : Op} {ev : Operand → AV} {hp : Hp} {K : Res → Prop} (h : wopS P op ev K) : ∃ r, xop P bid dst op ev hp = some r ∧ K r := by
 unfold wopS at h
 split at h
 ·rename_i o t x y p
  split at h
  ·rename_i a b hx hy
   split at h
   ·refine ⟨_, ZA ?_, h.2⟩
    show xv (xbin P .add t (ev x) (ev y)) = _
    rw [hx, hy]
    show xv (Er .add a b) = _
    simp only [Er, if_pos h.1]; rfl
   ·cases h
  ·rename_i k a k' b hx hy
   split at h
   ·refine ⟨_, ZA ?_, h.2⟩
    show xv (xbin P .shl t (ev x) (ev y)) = _
    rw [hx, hy]
    simp only [xbin, if_pos h.1]; rfl
   ·refine ⟨_, ZA ?_, h.2⟩
    show xv (xbin P .shr t (ev x) (ev y)) = _
    rw [hx, hy]
    simp only [xbin, if_pos h.1]; rfl
   ·split at h
    ·rename_i hk
     obtain rfl := keq_ok hk
     split at h
     ·refine ⟨_, ZA ?_, h.2⟩
      show xv (xbin P .quo t (ev x) (ev y)) = _
      rw [hx, hy]
      simp only [xbin, if_true, Ep, if_neg h.1]; rfl
     ·refine ⟨_, ZA ?_, h.2⟩
      show xv (xbin P .rem t (ev x) (ev y)) = _
      rw [hx, hy]
      simp only [xbin, if_true, Ep, if_neg h.1]; rfl
     ·cases h
    ·cases h
  ·cases h
 ·rename_i t x i
  split at h
  ·rename_i k0 k hi
   split at h
   ·rename_i id ver sz off len hx
    split at h
    ·rename_i ht
     refine ⟨_, ZA ?_, h.2⟩
     show xv (Yl P t (ev x) (ev i)) = _
     rw [hx, hi]
     simp only [Yl]
     rw [if_pos ⟨WU ht, h.1.1, h.1.2⟩]; rfl
    ·cases h
   ·rename_i id ver sz len hx
    split at h
    ·rename_i ht
     refine ⟨_, ZA ?_, h.2⟩
     show xv (Yl P t (ev x) (ev i)) = _
     rw [hx, hi]
     simp only [Yl]
     rw [if_pos ⟨WU ht, h.1.1, h.1.2⟩]; rfl
    ·cases h
   ·rename_i id ver off hx
    split at h
    ·rename_i n z g ht
     refine ⟨_, ZA ?_, h.2⟩
     show xv (Yl P t (ev x) (ev i)) = _
     rw [hx, hi]
     simp only [Yl, ht]
     rw [if_pos h.1]; rfl
    ·cases h
   ·rename_i sz xs j off hx
    split at h
    ·rename_i n z g ht
     refine ⟨_, ZA ?_, h.2⟩
     show xv (Yl P t (ev x) (ev i)) = _
     rw [hx, hi]
     simp only [Yl, ht]
     rw [if_pos h.1]; rfl
    ·cases h
   ·cases h
  ·cases h
 ·rename_i t x lo hi mx
  split at h
  ·cases h
  ·split at h
   ·rename_i l hl
    have hl0 : ∀ d : Int, 0 ≤ l → bndN 0 (lo.map ev) = some l.toNat := fun _ h0 => bI_ok hl h0
    split at h
    ·rename_i s hx
     split at h
     ·rename_i ht
      split at h
      ·obtain ⟨⟨h0, h1⟩, hK⟩ := h
       refine ⟨_, ZA ?_, hK⟩
       show xv (Vy P t (ev x) (lo.map ev) none none) = _
       rw [hx]
       simp only [Vy, hl0 0 h0, show bndN s.length none = some s.length from rfl]
       rw [if_pos ⟨ht, rfl, by omega, Nat.le_refl _⟩, List.take_length]; rfl
      ·rename_i hi
       split at h
       ·rename_i hh hhi
        obtain ⟨⟨h0, h1, h2⟩, hK⟩ := h
        refine ⟨_, ZA ?_, hK⟩
        show xv (Vy P t (ev x) (lo.map ev) (some (ev hi)) none) = _
        rw [hx]
        simp only [Vy, hl0 0 h0, bI_okS hhi (by omega)]
        rw [if_pos ⟨ht, rfl, by omega, by omega⟩]; rfl
       ·cases h
     ·cases h
    ·rename_i sz xs hx
     split at h
     ·rename_i ht
      split at h
      ·obtain ⟨⟨h0, h1⟩, hK⟩ := h
       refine ⟨_, ZA ?_, hK⟩
       show xv (Vy P t (ev x) (lo.map ev) none none) = _
       rw [hx]
       simp only [Vy, hl0 0 h0, show bndN xs.length none = some xs.length from rfl]
       rw [if_pos ⟨WU ht, by omega, Nat.le_refl _⟩, List.take_length]; rfl
      ·rename_i hi
       split at h
       ·rename_i hh hhi
        obtain ⟨⟨h0, h1, h2⟩, hK⟩ := h
        refine ⟨_, ZA ?_, hK⟩
        show xv (Vy P t (ev x) (lo.map ev) (some (ev hi)) none) = _
        rw [hx]
        simp only [Vy, hl0 0 h0, bI_okS hhi (by omega)]
        rw [if_pos ⟨WU ht, by omega, by omega⟩]; rfl
       ·cases h
     ·cases h
    ·rename_i id ver sz off len hx
     split at h
     ·rename_i hh hhi
      split at h
      ·rename_i ht
       obtain ⟨⟨h0, h1, h2⟩, hK⟩ := h
       refine ⟨_, ZA ?_, hK⟩
       show xv (Vy P t (ev x) (lo.map ev) (hi.map ev) none) = _
       rw [hx]
       simp only [Vy, hl0 0 h0, bI_ok hhi (by omega)]
       rw [if_pos ⟨WU ht, by omega, by omega⟩, if_neg (by omega)]; rfl
      ·cases h
     ·cases h
    ·rename_i id ver sz len hx
     split at h
     ·rename_i hh hhi
      split at h
      ·rename_i ht
       obtain ⟨⟨h0, h1, h2⟩, hK⟩ := h
       refine ⟨_, ZA ?_, hK⟩
       show xv (Vy P t (ev x) (lo.map ev) (hi.map ev) none) = _
       rw [hx]
       simp only [Vy, hl0 0 (by omega), bI_ok hhi (by omega)]
       rw [if_pos ⟨WU ht, by omega, by omega⟩]; rfl
      ·cases h
     ·cases h
    ·cases h
   ·cases h
 ·cases h
def wsrc (P : Program) (t t' : TypeId) (sz : Nat) (x : AV) (hp : Hp) : Option (Nat × List AV) :=
 match x with
 | .str b => match KC P t' && Nat.beq sz 1 with
  | true => some (b.length, b.map Jf)
  | false => none
 | x => match Nat.beq t' t with
  | true => xsrc sz x hp
  | false => none
def wappT (bid e tg sz by_ n : Nat) (ds : List AV) (s : AV) (hp : Hp) (K : Res → Prop) : Prop :=
 match s with
 | .nil => (n ≠ 0 ∧ n * by_ ≤ 140737488355328 ∧ n ≤ 9223372036854775807) ∧ K (.bs bid tg sz 0 n, some (bid, .cells tg ds))
 | .emp => (n ≠ 0 ∧ n * by_ ≤ 140737488355328 ∧ n ≤ 9223372036854775807) ∧ K (.bs bid tg sz 0 n, some (bid, .cells tg ds))
 | .bs id ver z off len => match hp id with
  | some (.cells v cs) => match Nat.beq z sz && Nat.beq v ver with
   | true => (n ≠ 0 ∧ off + len * sz ≤ cs.length ∧ (len + n) * by_ ≤ 140737488355328 ∧ len + n ≤ 9223372036854775807) ∧ K (.bs id (UD e off ver) sz 0 (len + n), some (id, .cells (UD e off ver) ((cs.drop off).take (len * sz) ++ ds)))
   | false => False
  | _ => False
 | _ => False
theorem Pt {bid e tg sz by_ n : Nat} {ds : List AV} {s : AV} {hp : Hp} {K : Res → Prop} (h : wappT bid e tg sz by_ n ds s hp K) : n ≠ 0 ∧ ∃ r, Jm bid e tg sz by_ n ds s hp = some r ∧ K r := by
 unfold wappT at h
 unfold Jm
 split at h
 ·simp_all
 ·simp_all
 ·split at h
  ·rename_i v cs hid
   split at h
   ·simp_all
   ·cases h
  ·cases h
 ·cases h
def wels (sz : Nat) (x : AV) (hp : Hp) (K : List AV → Prop) : Prop :=
 match x with
 | .ow id ver z len => match hp id with
  | some (.own v z' xs) => match Nat.beq z sz && (Nat.beq z' sz && Nat.beq v ver) with
   | true => len = xs.length ∧ K xs
   | false => False
  | _ => False
 | x => match xels sz x hp with
  | some ys => K ys
  | none => False
theorem EY {sz : Nat} {x : AV} {hp : Hp} {K : List AV → Prop} (h : wels sz x hp K) : ∃ ys, xels sz x hp = some ys ∧ K ys := by
 unfold wels at h
 split at h
 ·rename_i id ver z len
  split at h
  ·rename_i v z' xs hid
   split at h
   ·simp_all [Bool.and_eq_true, xels, Nat.ble_eq_true_of_le, Nat.le_refl]
   ·cases h
  ·cases h
 grind
def wapp (P : Program) (bid : Nat) (op : Op) (ev : Operand → AV) (hp : Hp) (K : Res → Prop) : Prop :=
 match op with
 | .call c => match c.callee with
  | .builtin .append => match c.argTypes.toList, c.args.toList.map ev with
   | [t, t'], [s, x] => match elG P t with
    | some (sz, by_, _) => match s with
     | .ow id ver z len => match Nat.beq sz z && Nat.beq t' t with
      | true => match hp id with
       | some (.own v z' xs) => match Nat.beq z' z && Nat.beq v ver with
        | true => wels z x hp (fun ys => (len = xs.length ∧ (len + ys.length) * by_ ≤ 140737488355328 ∧ len + ys.length ≤ 9223372036854775807) ∧ K (.ow id (ver + 4096) z (len + ys.length), some (id, .own (ver + 4096) z (xs ++ ys))))
        | false => False
       | _ => False
      | false => False
     | s => match wsrc P t t' sz x hp with
      | some (n, ds) => wappT bid (elT P t) (tagE P (elT P t)) sz by_ n ds s hp K
      | none => False
    | none => False
   | _, _ => False
  | _ => False
 | _ => False
def wappC (P : Program) (op : Op) (ev : Operand → AV) (hp : Hp) (K : Res → Prop) : Prop :=
 match op with
 | .call c => match c.callee with
  | .builtin .append => match c.argTypes.toList, c.args.toList.map ev with
   | [t, t'], [s, x] => match elG P t with
    | some (sz, by_, _) => match s with
     | .ow id ver z len => match Nat.beq sz z && Nat.beq t' t with
      | true => match hp id with
       | some (.own v z' xs) => match Nat.beq z' z && Nat.beq v ver with
        | true => wels z x hp (fun ys => (len ≤ xs.length ∧ (len + ys.length) * by_ ≤ 140737488355328 ∧ len + ys.length ≤ 9223372036854775807) ∧ K (.ow id (ver + 4096) z (len + ys.length), some (id, .own (ver + 4096) z (xs.take len ++ ys))))
        | false => False
       | _ => False
      | false => False
     | _ => False
    | none => False
   | _, _ => False
  | _ => False
 | _ => False
theorem Ps {P : Program} {bid : Nat} {dst : Option Nat} {op : Op} {ev : Operand → AV} {hp : Hp} {K : Res → Prop} (h : wappC P op ev hp K) : ∃ r, xop P bid dst op ev hp = some r ∧ K r := by
 unfold wappC at h
 split at h <;> first | cases h | skip
 rename_i c
 split at h <;> first | cases h | skip
 rename_i hc
 split at h <;> first | cases h | skip
 rename_i t t' s x ht hx
 split at h <;> first | cases h | skip
 rename_i sz by_ zs hel
 split at h <;> first | cases h | skip
 rename_i id ver z len
 split at h <;> first | cases h | skip
 rename_i hcc
 rw [Bool.and_eq_true] at hcc
 obtain rfl := Nat.eq_of_beq_eq_true hcc.1
 obtain rfl := Nat.eq_of_beq_eq_true hcc.2
 split at h <;> first | cases h | skip
 rename_i v z' xs hid
 split at h <;> first | cases h | skip
 rename_i hcd
 rw [Bool.and_eq_true] at hcd
 obtain ⟨ys, hys, ⟨h1, h2, h3⟩, hK⟩ := EY h
 refine ⟨_, Av ?_ ?_ ?_, hK⟩
 ·have : ∀ n ds, (if n = 0 then (if HT (.ow id ver sz len) then some ((.ow id ver sz len : AV), (none : Option (Nat × Box))) else none) else Jm bid (elT P t') (tagE P (elT P t')) sz by_ n ds (.ow id ver sz len) hp) = none := fun n ds => by
   split <;> rfl
  simp only [xop0, hc, KD, ht, hx, VO, hel, if_true]
  split
  ·simp_all
  ·rfl
 ·simp only [xopX, hc, ht, hx, CI, hel]
  split
  ·split
   ·split
    ·rfl
    ·rfl
   ·rfl
  ·rfl
 simp_all [xopO, Gn, Nat.beq_refl, Nat.ble_eq_true_of_le]
theorem wapp_ok {P : Program} {bid : Nat} {dst : Option Nat} {op : Op} {ev : Operand → AV} {hp : Hp} {K : Res → Prop} (h : wapp P bid op ev hp K) : ∃ r, xop P bid dst op ev hp = some r ∧ K r := by
 unfold wapp at h
 split at h
 ·rename_i c
  split at h
  ·rename_i hc
   split at h
   ·rename_i t t' s x ht hx
    split at h
    ·rename_i sz by_ zs hel
     split at h
     ·rename_i id ver z len
      split at h
      ·rename_i hcc
       rw [Bool.and_eq_true] at hcc
       obtain rfl := Nat.eq_of_beq_eq_true hcc.1
       obtain rfl := Nat.eq_of_beq_eq_true hcc.2
       split at h
       ·rename_i v z' xs hid
        split at h
        ·rename_i hcd
         rw [Bool.and_eq_true] at hcd
         obtain ⟨ys, hys, ⟨h1, h2, h3⟩, hK⟩ := EY h
         subst h1
         refine ⟨_, Av ?_ ?_ ?_, hK⟩
         ·have : ∀ n ds, (if n = 0 then (if HT (.ow id ver sz xs.length) then some ((.ow id ver sz xs.length : AV), (none : Option (Nat × Box))) else none) else Jm bid (elT P t') (tagE P (elT P t')) sz by_ n ds (.ow id ver sz xs.length) hp) = none := fun n ds => by
           split <;> rfl
          simp only [xop0, hc, KD, ht, hx, VO, hel, if_true]
          split
          ·simp_all
          ·rfl
         ·simp only [xopX, hc, ht, hx, CI, hel]
          split
          ·split
           ·split
            ·rfl
            ·rfl
           ·rfl
          ·rfl
         simp_all [xopO, Gn, Nat.beq_refl, Nat.ble_eq_true_of_le, Nat.le_refl]
        ·cases h
       ·cases h
      ·cases h
     ·split at h
      ·rename_i n ds hsrc
       obtain ⟨h0, r, hr, hK⟩ := Pt h
       refine ⟨r, ?_, hK⟩
       unfold wsrc at hsrc
       split at hsrc
       ·rename_i b
        split at hsrc
        ·rename_i hcc
         cases hsrc
         have e0 : xop0 P bid dst (.call c) ev hp = none := by
          simp_all [xop0, KD, VO, xsrc]
         refine Wy e0 ?_
         simp only [xopX, hc, ht, hx, CI, hel]
         grind
        grind
       ·split at hsrc
        ·rename_i hcc
         obtain rfl := Nat.eq_of_beq_eq_true hcc
         simp_all [ZA, xop0, KD, VO, if_true, if_neg]
        grind
      ·cases h
    ·cases h
   ·cases h
  ·cases h
 ·cases h
theorem Mv : ∀ (s : List UInt8), WO (s.map Jf) = some s
 | [] => rfl
 | c :: s => by
  have hc := c.toNat_lt
  have h : (decide ((0 : Int) ≤ (c.toNat : Int)) && decide ((c.toNat : Int) < 256)) = true := by simp; omega
  simp only [List.map_cons, Jf, WO, h]
  rw [Mv s]
  simp
def wus (P : Program) (op : Op) (ev : Operand → AV) (hp : Hp) (s : List UInt8) (K : Res → Prop) : Prop :=
 match op with
 | .convert src to x => match ev x with
  | .bs id ver sz off len => match hp id with
   | some (.cells v cs) => match Nat.beq v ver && (Nat.beq sz 1 && (Cl P src && KC P to)) with
    | true => (off + len ≤ cs.length ∧ (cs.drop off).take len = s.map Jf) ∧ K (.str s, none)
    | false => False
   | _ => False
  | _ => False
 | .call c => match c.callee with
  | .builtin b => match b with
   | .unsafeSliceData => match c.args.toList.map ev with
    | [x] => match x with
     | .bs id ver _ off len => 0 < len ∧ K (.ptr id ver off, none)
     | .nil => K (.nilp, none)
     | _ => False
    | _ => False
   | .unsafeString => match c.argTypes.toList, c.args.toList.map ev with
    | [pt, _], [p, n] => match p with
     | .ptr id ver off => match n with
      | .int .i64 n => match hp id with
       | some (.cells v cs) => match ptTo P pt with
        | some e => match Nat.beq v ver && (Nat.beq off 0 && (Nat.beq (ver % 4096) (e + 1) && Nat.beq (P.cellsOf e) 1)) with
         | true => (0 < n ∧ n ≤ 9223372036854775807 ∧ n.toNat ≤ cs.length ∧ cs.take n.toNat = s.map Jf) ∧ K (.str s, some (id, .dead))
         | false => False
        | none => False
       | _ => False
      | _ => False
     | .nilp => match n with
      | .int .i64 0 => K (.str [], none)
      | _ => False
     | _ => False
    | _, _ => False
   | _ => False
  | _ => False
 | _ => False
theorem wus_ok {P : Program} {bid : Nat} {dst : Option Nat} {op : Op} {ev : Operand → AV} {hp : Hp} {s : List UInt8} {K : Res → Prop} (h : wus P op ev hp s K) : ∃ r, xop P bid dst op ev hp = some r ∧ K r := by
 unfold wus at h
 split at h
 ·rename_i src to x
  split at h
  ·rename_i id ver sz off len hx
   split at h
   ·rename_i v cs hid
    split at h
    ·rename_i hc
     simp only [Bool.and_eq_true] at hc
     obtain ⟨h1, h2, h3, h4⟩ := hc
     obtain ⟨⟨hle, hs⟩, hK⟩ := h
     refine ⟨_, ?_, hK⟩
     have e0 : xop0 P bid dst (.convert src to x) ev hp = none := by simp only [xop0, hx, Et]; rfl
     refine Wy e0 ?_
     simp only [xopX, hx, DV, hid, hs, Mv]
     rw [h1, h2, h3, h4, Nat.ble_eq_true_of_le hle]
     rfl
    ·cases h
   ·cases h
  ·cases h
 ·rename_i c
  split at h
  ·rename_i b hc
   split at h
   ·split at h
    ·rename_i x hx
     split at h
     ·rename_i id ver z off len
      refine ⟨_, ?_, h.2⟩
      have e0 : xop0 P bid dst (.call c) ev hp = none := by simp_all [xop0, KD]
      refine Wy e0 ?_
      simp only [xopX, hc, hx, LX]
      rw [Nat.ble_eq_true_of_le (show 0 + 1 ≤ len from h.1) |> (fun e => (show Nat.blt 0 len = true from e))]
      rfl
     ·refine ⟨_, ?_, h⟩
      have e0 : xop0 P bid dst (.call c) ev hp = none := by simp_all [xop0, KD]
      refine Wy e0 ?_
      simp only [xopX, hc, hx, LX]
      rfl
     ·cases h
    ·cases h
   ·split at h
    ·rename_i pt it p n ht hx
     split at h
     ·rename_i id ver off
      split at h
      ·rename_i n
       split at h
       ·rename_i v cs hid
        split at h
        ·rename_i e he
         split at h
         ·simp_all [Bool.and_eq_true, xop0, KD, Wy, xopX, Wv, Mv, Nat.ble_eq_true_of_le]
         ·cases h
        ·cases h
       ·cases h
      ·cases h
     ·grind [xop0, KD, Wy, xopX, Wv]
     ·cases h
    ·cases h
   ·cases h
  ·cases h
 ·cases h
def wdef (P : Program) (bid : Nat) (dst : Option Nat) (op : Op) (ev : Operand → AV) (hp : Hp) (K : Res → Prop) : Prop :=
 match xop P bid dst op ev hp with
 | some r => K r
 | none => False
def wst (P : Program) (dst : Option Nat) (op : Op) (ev : Operand → AV) (hp : Hp) (K : Res → Prop) : Prop :=
 match op with
 | .store t x y => match dst with
  | some _ => False
  | none => match ev x with
   | .oe id ver sz i off => match tyI P t with
    | some (n, _) => match hp id with
     | some (.own v z xs) => match ev y with
      | yv => match Nat.beq v ver && (Nat.beq z sz && (Nat.ble (off + n) sz && (yv.okc && (Nat.beq yv.cells.length n && yv.cells.all immA)))) with
       | true => i < xs.length ∧ K (.undef, some (id, .own v z (xs.set i (putE off n z ((xs[i]?).getD .undef) yv))))
       | false => match Nat.beq v ver && (Nat.beq z sz && (Nat.ble (off + n) sz && (yv.okc && (Nat.beq yv.cells.length n && Nat.beq n 1)))) with
        | true => i < xs.length ∧ K (.undef, some (id, .hol v z xs i off ((yv.cells[0]?).getD .undef)))
        | false => False
     | _ => False
    | none => False
   | _ => False
 | .load t x => match ev x with
  | .oe id ver sz i off => match tyI P t with
   | some (n, g) => match hp id with
    | some (.hol v z _ j c r) => match Nat.beq v ver && (Nat.beq z sz && (Nat.beq off c && Nat.beq (wd g n) 1)) with
     | true => i = j ∧ K (Gf g n 0 [r], none)
     | false => False
    | _ => False
   | none => False
  | _ => False
 | op => wopS P op ev K
theorem wst_ok {P : Program} {bid : Nat} {dst : Option Nat} {op : Op} {ev : Operand → AV} {hp : Hp} {K : Res → Prop} (h : wst P dst op ev hp K) : ∃ r, xop P bid dst op ev hp = some r ∧ K r := by
 unfold wst at h
 split at h
 ·rename_i t x y
  split at h
  ·cases h
  ·split at h
   ·rename_i id ver sz i off hx
    split at h
    ·rename_i n g ht
     split at h
     ·rename_i v z xs hid
      simp only at h
      split at h
      ·rename_i hc
       obtain ⟨hi, hK⟩ := h
       simp only [Bool.and_eq_true] at hc
       refine ⟨_, ZA ?_, hK⟩
       have hb : Nat.blt i xs.length = true := Nat.ble_eq_true_of_le hi
       simp_all [xop0, Option.isNone_none, if_true, Un]
      ·rename_i hn
       split at h
       ·rename_i hc
        obtain ⟨hi, hK⟩ := h
        simp only [Bool.and_eq_true] at hc
        refine ⟨_, ZA ?_, hK⟩
        have hb : Nat.blt i xs.length = true := Nat.ble_eq_true_of_le hi
        simp only [xop0, Option.isNone_none, if_true, Un, ht, hx, hid]
        grind
       ·cases h
     ·cases h
    ·cases h
   ·cases h
 ·rename_i t x
  split at h
  ·rename_i id ver sz i off hx
   split at h
   ·rename_i n g ht
    split at h
    ·rename_i v z xs j c r hid
     split at h
     ·rename_i hc
      obtain ⟨rfl, hK⟩ := h
      simp only [Bool.and_eq_true] at hc
      refine ⟨_, ZA ?_, hK⟩
      show xv (Gq P t (ev x) hp) = _
      rw [hx]
      simp only [Gq, ht, hid]
      rw [hc.1, hc.2.1, hc.2.2.1, hc.2.2.2, show Nat.beq i i = true from Nat.beq_refl i]; rfl
     ·cases h
    ·cases h
   ·cases h
  ·cases h
 ·exact An h
def wask (P : Program) (bid : Nat) (dst : Option Nat) (op : Op) (ev : Operand → AV) (hp : Hp) (h : Option Hint) (K : Res → Prop) : Prop :=
 match h with
 | none => wdef P bid dst op ev hp K
 | some h => match h with
  | .v x => oblV P bid dst op ev hp x ∧ K (x, none)
  | .b t => match xop P bid dst op ev hp with
   | some (.bool u, none) => u = t ∧ K (.bool t, none)
   | _ => False
  | .split => match xop P bid dst op ev hp with
   | some (.bool u, none) => (u = true → K (.bool true, none)) ∧ (u = false → K (.bool false, none))
   | _ => False
  | .e sh => match op with
   | .indexAddr t a i => match ev a with
    | .sl sz xs => match ev i with
     | .int _ k => match ieq P t sz with
      | true => ∃ x, (0 ≤ k ∧ xs[k.toNat]? = some (sh x)) ∧ K (.ip sz [sh x] 0 0, none)
      | false => False
     | _ => False
    | _ => wopS P op ev K
   | .load t a => match ev a with
    | .oe id ver sz i off => match tyI P t with
     | some (n, g) => match hp id with
      | some (.own v z xs) => match Nat.beq v ver && (Nat.beq z sz && Nat.ble (off + wd g n) sz) with
       | true => ∃ x, xs[i]? = some (sh x) ∧ K (Gf g n off (sh x).cells, none)
       | false => False
      | _ => False
     | none => False
    | _ => wdef P bid dst op ev hp K
   | .store t x y => match dst with
    | some _ => False
    | none => match ev x with
     | .oe id ver sz i off => match tyI P t with
      | some (n, _) => match hp id with
       | some (.own v z xs) => match ev y with
        | yv => match Nat.beq v ver && (Nat.beq z sz && (Nat.ble (off + n) sz && (yv.okc && (Nat.beq yv.cells.length n && yv.cells.all immA)))) with
         | true => ∃ x, xs[i]? = some (sh x) ∧ K (.undef, some (id, .own v z (xs.set i (putE off n z (sh x) yv))))
         | false => False
       | _ => False
      | none => False
     | _ => False
   | _ => False
  | .u => match op with
   | .index t a i => match ev a with
    | .str s => match ev i with
     | .int _ k => match KC P t with
      | true => ∃ x : UInt8, (0 ≤ k ∧ s[k.toNat]? = some x) ∧ K (.int .u8 x.toNat, none)
      | false => False
     | _ => False
    | _ => False
   | _ => False
  | .s => wst P dst op ev hp K
  | .a => wapp P bid op ev hp K
  | .us s => wus P op ev hp s K
  | .ac => wappC P op ev hp K
  | _ => False
theorem Aj {P : Program} {bid : Nat} {dst : Option Nat} {op : Op} {ev : Operand → AV} {hp : Hp} {K : Res → Prop} (hw : wdef P bid dst op ev hp K) : ∃ r, xop P bid dst op ev hp = some r ∧ K r := by
 grind [wdef]
theorem Ai {P : Program} {bid : Nat} {dst : Option Nat} {op : Op} {ev : Operand → AV} {hp : Hp} {h : Option Hint} {K : Res → Prop} (hw : wask P bid dst op ev hp h K) : ∃ r, xop P bid dst op ev hp = some r ∧ K r := by
 unfold wask at hw
 split at hw
 ·exact Aj hw
 ·rename_i h
  split at hw
  ·grind [oblV_ok]
  ·grind
  ·split at hw
   ·rename_i u hx
    refine ⟨_, hx, ?_⟩
    cases u with
    | true => simp_all
    | false => simp_all
   ·cases hw
  ·rename_i sh
   split at hw
   ·rename_i t a i
    split at hw
    ·rename_i sz xs hx
     split at hw
     ·rename_i k0 k hi
      split at hw
      ·rename_i ht
       obtain ⟨x, ⟨h0, h1⟩, hK⟩ := hw
       refine ⟨_, ZA ?_, hK⟩
       show xv (Yl P t (ev a) (ev i)) = _
       rw [hx, hi]
       have hlt : k < xs.length := by
        grind
       simp only [Yl]
       rw [if_pos ⟨WU ht, h0, hlt⟩, h1]; rfl
      ·cases hw
     ·cases hw
    ·exact An hw
   ·rename_i t a
    split at hw
    ·rename_i id ver sz i off hx
     split at hw
     ·rename_i n g ht
      split at hw
      ·rename_i v z xs hid
       split at hw
       ·rename_i hc
        simp only [Bool.and_eq_true] at hc
        obtain ⟨x, h1, hK⟩ := hw
        refine ⟨_, ZA ?_, hK⟩
        show xv (Gq P t (ev a) hp) = _
        rw [hx]
        have hlt : i < xs.length := (List.getElem?_eq_some_iff.1 h1).1
        simp only [Gq, ht, hid]
        rw [hc.1, hc.2.1, hc.2.2, show Nat.blt i xs.length = true from Nat.ble_eq_true_of_le hlt, h1]; rfl
       ·cases hw
      ·cases hw
     ·cases hw
    ·exact Aj hw
   ·rename_i t x y
    split at hw
    ·cases hw
    ·split at hw
     ·rename_i id ver sz i off hx
      split at hw
      ·rename_i n g ht
       split at hw
       ·rename_i v z xs hid
        simp only at hw
        split at hw
        ·rename_i hc
         obtain ⟨e, h1, hK⟩ := hw
         simp only [Bool.and_eq_true] at hc
         refine ⟨_, ZA ?_, hK⟩
         have hb : Nat.blt i xs.length = true := Nat.ble_eq_true_of_le (List.getElem?_eq_some_iff.1 h1).1
         simp_all [xop0, Option.isNone_none, if_true, Un]
        ·cases hw
       ·cases hw
      ·cases hw
     ·cases hw
   ·cases hw
  ·split at hw
   ·rename_i t a i
    split at hw
    ·rename_i s hx
     split at hw
     ·rename_i k0 k hi
      split at hw
      ·rename_i ht
       obtain ⟨x, ⟨h0, h1⟩, hK⟩ := hw
       refine ⟨_, ZA ?_, hK⟩
       show xv (Mg P t (ev a) (ev i)) = _
       rw [hx, hi]
       have hlt : k < s.length := by
        grind
       simp only [Mg]
       rw [if_pos (by simp_all), h1]; rfl
      ·cases hw
     ·cases hw
    ·cases hw
   ·cases hw
  ·exact wst_ok hw
  ·exact wapp_ok hw
  ·exact wus_ok hw
  ·exact Ps hw
  ·cases hw
end HY
end
section
namespace HY
open Go Go.RowKit
def refId : AV → Option Nat
 | .ptr id _ _ => some id
 | .bs id _ _ _ _ => some id
 | .ow id _ _ _ => some id
 | .oe id _ _ _ _ => some id
 | .mp id => some id
 | _ => none
def Cm (hp : Hp) : AV → List Nat → Option (Nat × Nat)
 | _, [] => none
 | v, i :: p => match v with
  | .agg cs => match cs[i]? with
   | some c => Cm hp c p
   | none => none
  | .tup cs => match cs[i]? with
   | some c => Cm hp c p
   | none => none
  | .fn _ cs => match cs[i]? with
   | some c => Cm hp c p
   | none => none
  | v => match refId v with
   | some id => match p with
    | [] => some (id, i)
    | _ :: _ => match hp id with
     | some (.cells _ cs) => match cs[i]? with
      | some c => Cm hp c p
      | none => none
     | some (.hol _ _ _ _ _ r) => match i with
      | 0 => Cm hp r p
      | _ => none
     | _ => none
   | none => none
def bsOk (sz off z v ver len : Nat) (cs : List AV) : Bool := Nat.beq z sz && (Nat.beq off 0 && (Nat.beq v ver && (Nat.ble (len * sz) cs.length && (cs.take (len * sz)).all immA)))
def cut1 (st : St) (c : Bool) (id ver len : Nat) : Option St :=
 match c with
 | false => some st
 | true => match lkb st.hp id with
  | some (.own v z xs) => match Nat.beq v ver with
   | true => some ⟨st.n, st.sl, pt st.hp id (.own v z (xs.take len)), st.nx⟩
   | false => none
  | _ => none
def fz1 (st : St) (k : Nat) (p : List Nat) (id ver sz len : Nat) (K : St → Prop) : Prop :=
 match lkb st.hp id with
 | some (.own v z xs) => match Nat.beq v ver && Nat.beq z sz with
  | true => len = xs.length ∧ K ⟨st.n, pt st.sl k (JK p (st.get k) (.sl z xs)), pt st.hp id (.own (v + 4096) z []), st.nx⟩
  | false => K st
 | _ => K st
def ghS (st : St) (k : Nat) (p : List Nat) (x : AV) (sz : Nat) (c : Bool) : Option St :=
 match x with
 | .nil => some ⟨st.n, pt st.sl k (JK p (st.get k) (.ow st.nx 0 sz 0)), pt st.hp st.nx (.own 0 sz []), st.nx + 1⟩
 | .emp => some ⟨st.n, pt st.sl k (JK p (st.get k) (.ow st.nx 0 sz 0)), pt st.hp st.nx (.own 0 sz []), st.nx + 1⟩
 | .bs id ver z off len => match lkb st.hp id with
  | some (.cells v cs) => match bsOk sz off z v ver len cs with
   | true => some ⟨st.n, pt st.sl k (JK p (st.get k) (.ow id ver sz len)), pt st.hp id (.own ver sz (K6 sz len (cs.take (len * sz)))), st.nx⟩
   | false => none
  | _ => none
 | .ow id ver _ len => cut1 st c id ver len
 | .undef => some st
 | .sl _ _ => some st
 | _ => none
def ghC (st : St) (bx i sz : Nat) (c : Bool) : Option St :=
 match lkb st.hp bx with
 | some (.cells vb cb) => match cb[i]? with
  | some x => match x with
   | .nil => some ⟨st.n, st.sl, pt (pt st.hp st.nx (.own 0 sz [])) bx (.cells vb (cb.set i (.ow st.nx 0 sz 0))), st.nx + 1⟩
   | .emp => some ⟨st.n, st.sl, pt (pt st.hp st.nx (.own 0 sz [])) bx (.cells vb (cb.set i (.ow st.nx 0 sz 0))), st.nx + 1⟩
   | .bs id ver z off len => match lkb st.hp id with
    | some (.cells v cs) => match bsOk sz off z v ver len cs && !Nat.beq bx id with
     | true => some ⟨st.n, st.sl, pt (pt st.hp id (.own ver sz (K6 sz len (cs.take (len * sz))))) bx (.cells vb (cb.set i (.ow id ver sz len))), st.nx⟩
     | false => none
    | _ => none
   | .ow id ver _ len => cut1 st c id ver len
   | _ => none
  | none => none
 | _ => none
def gh1 (st : St) (k : KB) : Option St :=
 match k.own with
 | 0 => some st
 | sz + 1 => match D0 k.path (st.get k.slot) with
  | some x => ghS st k.slot k.path x (sz + 1) k.cut
  | none => match Cm (lkb st.hp) (st.get k.slot) k.path with
   | some (bx, j) => ghC st bx j (sz + 1) k.cut
   | none => none
def fzC (st : St) (bx j : Nat) (K : St → Prop) : Prop :=
 match lkb st.hp bx with
 | some (.cells vb cb) => match cb[j]? with
  | some (.ow id ver sz len) => match lkb st.hp id with
   | some (.own v z xs) => match Nat.beq v ver && (Nat.beq z sz && !Nat.beq bx id) with
    | true => len = xs.length ∧ K ⟨st.n, st.sl, pt (pt st.hp id (.own (v + 4096) z [])) bx (.cells vb (cb.set j (.sl z xs))), st.nx⟩
    | false => K st
   | _ => K st
  | _ => K st
 | _ => K st
def fzS (st : St) (k : KB) (K : St → Prop) : Prop :=
 match D0 k.path (st.get k.slot) with
 | some x => match x with
  | .ow id ver sz len => fz1 st k.slot k.path id ver sz len K
  | .ptr id ver off => match lkb st.hp id with
   | some (.cells v cs) => match Nat.beq v ver && (Nat.blt 0 cs.length && cs.all immA) with
    | true => K ⟨st.n, pt st.sl k.slot (JK k.path (st.get k.slot) (.ip cs.length [.agg cs] 0 off)), pt st.hp id (.own (v + 4096) 1 []), st.nx⟩
    | false => False
   | _ => K st
  | _ => K st
 | none => match Cm (lkb st.hp) (st.get k.slot) k.path with
  | some (bx, j) => fzC st bx j K
  | none => False
def K7 : List KB → St → (St → Prop) → Prop
 | [], st, K => K st
 | k :: ks, st, K => match k.fz with
  | true => fzS st k (fun s => K7 ks s K)
  | false => match gh1 st k with
   | some st' => K7 ks st' K
   | none => False
theorem Te {sz off z v ver len : Nat} {cs : List AV} (h : bsOk sz off z v ver len cs = true) : z = sz ∧ off = 0 ∧ v = ver ∧ len * sz ≤ cs.length ∧ (cs.take (len * sz)).all immA = true := by
 simp_all [bsOk, Bool.and_eq_true, Nat.eq_of_beq_eq_true, Nat.le_of_ble_eq_true]
theorem SR {gl : Nat → AV} {st st' : St} {c : Bool} {id ver len : Nat} (h : cut1 st c id ver len = some st') : Conv gl st st' := by
 unfold cut1 at h
 split at h
 ·cases h; exact .refl
 grind [FV, id]
theorem ghS_ok {gl : Nat → AV} {st st' : St} {k : Nat} {p : List Nat} {x : AV} {sz : Nat} {c : Bool} (hpos : 0 < sz) (hi : D0 p (st.get k) = some x) (h : ghS st k p x sz c = some st') : Conv gl st st' := by
 unfold ghS at h
 split at h
 ·cases h; exact R6 k p sz _ hpos hi rfl
 ·cases h; exact R6 k p sz _ hpos hi rfl
 ·rename_i id ver z off len
  split at h
  ·rename_i v cs hid
   split at h
   ·rename_i hc
    cases h
    obtain ⟨rfl, rfl, rfl, h1, h2⟩ := Te hc
    grind [LC, id]
   ·cases h
  ·cases h
 ·exact SR h
 ·cases h; exact .refl
 ·cases h; exact .refl
 ·cases h
theorem ghC_ok {gl : Nat → AV} {st st' : St} {bx i sz : Nat} {c : Bool} (hpos : 0 < sz) (h : ghC st bx i sz c = some st') : Conv gl st st' := by
 unfold ghC at h
 split at h
 ·rename_i vb cb hb
  split at h
  ·rename_i x hx
   split at h
   ·cases h; exact R5 bx i sz vb cb _ hpos hb hx rfl
   ·cases h; exact R5 bx i sz vb cb _ hpos hb hx rfl
   ·rename_i id ver z off len
    split at h
    ·rename_i v cs hid
     split at h
     ·rename_i hc
      cases h
      rw [Bool.and_eq_true] at hc
      obtain ⟨rfl, rfl, rfl, h1, h2⟩ := Te hc.1
      exact Tg bx i id _ vb _ len cb cs hpos (fun e => by simp_all) hb hx hid h1 h2
     ·cases h
    ·cases h
   ·exact SR h
   ·cases h
  ·cases h
 ·cases h
theorem gh1_ok {gl : Nat → AV} {st st' : St} {k : KB} (h : gh1 st k = some st') : Conv gl st st' := by
 unfold gh1 at h
 split at h
 ·cases h; exact .refl
 ·split at h
  ·rename_i x hx; exact ghS_ok (Nat.succ_pos _) hx h
  ·split at h
   ·exact ghC_ok (Nat.succ_pos _) h
   ·cases h
theorem fzS_ok {gl : Nat → AV} {st : St} {k : KB} {K : St → Prop} (h : fzS st k K) : ∃ st', Conv gl st st' ∧ K st' := by
 unfold fzS at h
 split at h
 ·rename_i x hx
  split at h
  ·rename_i id ver z len
   unfold fz1 at h
   split at h
   ·rename_i v z' xs hid
    split at h
    ·rename_i hv
     rw [Bool.and_eq_true] at hv
     obtain rfl := Nat.eq_of_beq_eq_true hv.1
     obtain rfl := Nat.eq_of_beq_eq_true hv.2
     grind [Sw, id]
    ·exact ⟨st, .refl, h⟩
   ·exact ⟨st, .refl, h⟩
  ·rename_i id ver off
   split at h
   ·rename_i v cs hid
    split at h
    ·rename_i hv
     simp only [Bool.and_eq_true] at hv
     obtain rfl := Nat.eq_of_beq_eq_true hv.1
     exact ⟨_, Ti k.slot k.path id v off cs hx hid (Nat.le_of_ble_eq_true hv.2.1) hv.2.2, h⟩
    ·cases h
   ·exact ⟨st, .refl, h⟩
  ·exact ⟨st, .refl, h⟩
 ·split at h
  ·rename_i bx j _
   unfold fzC at h
   split at h
   ·rename_i vb cb hbx
    split at h
    ·rename_i id ver sz len hk
     split at h
     ·rename_i v z xs hid
      split at h
      ·rename_i hv
       simp only [Bool.and_eq_true, Bool.not_eq_true'] at hv
       obtain rfl := Nat.eq_of_beq_eq_true hv.1
       obtain rfl := Nat.eq_of_beq_eq_true hv.2.1
       exact ⟨_, Th bx j id v vb z len cb xs (Nat.ne_of_beq_eq_false hv.2.2) hbx hk hid h.1, h.2⟩
      ·exact ⟨st, .refl, h⟩
     ·exact ⟨st, .refl, h⟩
    ·exact ⟨st, .refl, h⟩
   ·exact ⟨st, .refl, h⟩
  ·cases h
theorem XT {gl : Nat → AV} : ∀ {ks : List KB} {st : St} {K : St → Prop}, K7 ks st K → ∃ st', Conv gl st st' ∧ K st'
 | [], st, K, h => ⟨st, .refl, h⟩
 | k :: ks, st, K, h => by
  simp only [K7] at h
  split at h
  ·obtain ⟨s1, h1, h2⟩ := fzS_ok (gl := gl) h
   obtain ⟨s2, h3, h4⟩ := XT h2
   exact ⟨s2, h1.trans h3, h4⟩
  ·split at h
   ·rename_i s1 h1
    obtain ⟨s2, h3, h4⟩ := XT h
    exact ⟨s2, (gh1_ok h1).trans h3, h4⟩
   ·cases h
def M5 (hp : Hp) : AV → List Nat → Option Nat
 | v, [] => refId v
 | v, i :: p => match v with
  | .agg cs => match cs[i]? with
   | some c => M5 hp c p
   | none => none
  | .tup cs => match cs[i]? with
   | some c => M5 hp c p
   | none => none
  | .fn _ cs => match cs[i]? with
   | some c => M5 hp c p
   | none => none
  | v => match refId v with
   | some id => match hp id with
    | some (.cells _ cs) => match cs[i]? with
     | some c => M5 hp c p
     | none => none
    | some (.hol _ _ _ _ _ r) => match i with
     | 0 => M5 hp r p
     | _ => none
    | _ => none
   | none => none
def Kt (st : St) : List KB → List Nat
 | [] => []
 | k :: r => match k.fz with
  | true => Kt st r
  | false => match M5 (lkb st.hp) (st.get k.slot) k.path with
   | some id => id :: Kt st r
   | none => Kt st r
def idxN : List Nat → Nat → Option Nat
 | [], _ => none
 | k :: r, id => match Nat.beq k id with
  | true => some 0
  | false => match idxN r id with
   | some j => some (j + 1)
   | none => none
def nodN : List Nat → Bool
 | [] => true
 | k :: r => match idxN r k with
  | some _ => false
  | none => nodN r
def curV (hp : Hp) (id ver : Nat) : Option Nat := match hp id with
 | some (.cells v _) => match Nat.beq v ver with
  | true => some (v % 4096)
  | false => none
 | some (.own v _ _) => match Nat.beq v ver with
  | true => some 0
  | false => none
 | some (.hol v _ _ _ _ _) => match Nat.beq v ver with
  | true => some 0
  | false => none
 | some (.mapI _) => some 0
 | _ => none
def mapR (g : Nat → Nat → Option (Nat × Nat)) : Nat → AV → AV
 | 0, _ => .undef
 | k + 1, v => match v with
  | .ptr id ver off => match g id ver with
   | some (j, t) => .ptr j t off
   | none => .undef
  | .bs id ver sz off len => match g id ver with
   | some (j, t) => .bs j t sz off len
   | none => .undef
  | .ow id ver sz len => match g id ver with
   | some (j, t) => .ow j t sz len
   | none => .undef
  | .oe id ver sz i off => match g id ver with
   | some (j, t) => .oe j t sz i off
   | none => .undef
  | .yld _ => .undef
  | .mp id => match g id 0 with
   | some (j, _) => .mp j
   | none => .undef
  | .agg cs => .agg (cs.map (mapR g k))
  | .tup cs => .tup (cs.map (mapR g k))
  | .fn f cs => .fn f (cs.map (mapR g k))
  | v => v
def gR (hp : Hp) (ids : List Nat) (id ver : Nat) : Option (Nat × Nat) :=
 match idxN ids id with
 | some j => match curV hp id ver with
  | some t => some (j, t)
  | none => none
 | none => none
abbrev ren (hp : Hp) (ids : List Nat) : Nat → AV → AV := mapR (gR hp ids)
def renB (hp : Hp) (ids : List Nat) : Box → Option Box
 | .cells ver cs => some (.cells (ver % 4096) (cs.map (ren hp ids 12)))
 | .own _ sz xs => some (.own 0 sz xs)
 | .hol _ sz xs i c r => some (.hol 0 sz xs i c (ren hp ids 12 r))
 | .mapI es => some (.mapI es)
 | _ => none
def MS (hp : Hp) (all : List Nat) : List Nat → Option (List Box)
 | [] => some []
 | id :: r => match hp id with
  | some b => match renB hp all b with
   | some b' => match MS hp all r with
    | some l => some (b' :: l)
    | none => none
   | none => none
  | none => none
def RZ (hp : Hp) (ids : List Nat) : AV → Bool
 | .ptr id ver _ => match idxN ids id with
  | some j => match curV hp id ver with
   | some t => Nat.beq j id && Nat.beq t ver
   | none => false
  | none => false
 | .mp id => match idxN ids id with
  | some j => match hp id with
   | some (.mapI _) => Nat.beq j id
   | _ => false
  | none => false
 | .undef => true
 | .agg cs => cs.all immA
 | v => immA v
def Jl (pins : List AV) (ks : List Nat) (kb : List KB) (st : St) (K : List AV → List Box → Prop) : Prop :=
 match nodN (Kt st kb) && pins.all (RZ (lkb st.hp) (Kt st kb)) with
 | true => match MS (lkb st.hp) (Kt st kb) (Kt st kb) with
  | some bs => K (ks.map fun k => ren (lkb st.hp) (Kt st kb) 12 (st.get k)) bs
  | none => False
 | false => False
def slOf : List Nat → List AV → Tr AV
 | k :: ks, v :: vs => pt (slOf ks vs) k v
 | _, _ => .nil
def hpOf : Nat → List Box → Tr Box
 | _, [] => .nil
 | j, b :: r => pt (hpOf (j + 1) r) j b
def ZH (n : Nat) (ks : List Nat) (vs : List AV) (bs : List Box) : St := ⟨n, slOf ks vs, hpOf 0 bs, bs.length⟩
theorem Ts {α : Type} (d : α) (k : Nat) : lk d .nil k = d := by unfold lk; cases path k <;> rfl
theorem Dh : ∀ (bs : List Box) (j k : Nat), lkb (hpOf j bs) k = if j ≤ k then bs[k - j]? else none
 | [], j, k => by simp [hpOf, Zm]
 | b :: r, j, k => by
  simp only [hpOf, Z1]
  by_cases h : k = j
  ·simp_all [Qk]
  ·rw [Qo _ _ h, Dh r (j + 1) k]
   grind
theorem LG : ∀ {ids : List Nat} {id j : Nat}, idxN ids id = some j → ids[j]? = some id
 | k :: r, id, j, h => by
  simp only [idxN] at h
  split at h
  ·grind [hk, Nat.eq_of_beq_eq_true]
  ·split at h
   ·rename_i j' hj; cases h; simpa using LG hj
   ·cases h
theorem LF : ∀ {ids : List Nat} {id : Nat}, idxN ids id = none → ∀ (j : Nat), ids[j]? ≠ some id
 | [], id, _, j => by simp
 | k :: r, id, h, j => by
  simp only [idxN] at h
  split at h
  ·cases h
  ·rename_i hk
   split at h
   ·cases h
   ·rename_i hn
    cases j with
    | zero => intro e; simp_all
    | succ j => rw [List.getElem?_cons_succ]; exact LF hn j
theorem MI : ∀ {ids : List Nat}, nodN ids = true → ∀ {i j id : Nat}, ids[i]? = some id → ids[j]? = some id → i = j
 | [], _, i, j, id, hi, _ => by simp at hi
 | k :: r, h, i, j, id, hi, hj => by
  simp only [nodN] at h
  split at h
  ·cases h
  ·rename_i hn
   cases i with
   | zero =>
    grind [List.getElem?_cons_zero, Option.some.injEq, List.getElem?_cons_succ, absurd, LF]
   | succ i =>
    cases j with
    | zero =>
     simp_all [List.getElem?_cons_zero, Option.some.injEq, List.getElem?_cons_succ, absurd, LF]
    | succ j =>
     rw [List.getElem?_cons_succ] at hi hj
     rw [MI h hi hj]
def Box.mark : Box → Nat
 | .cells v _ => v % 4096
 | _ => 0
theorem curV_ok {hp : Hp} {id ver t : Nat} (h : curV hp id ver = some t) : (∃ b, hp id = some b ∧ b.ver? = some ver ∧ b.mark = t) ∨ ∃ es, hp id = some (.mapI es) := by
 unfold curV at h
 split at h
 ·rename_i v cs hh
  split at h
  ·rename_i hv; cases h; obtain rfl := Nat.eq_of_beq_eq_true hv; exact .inl ⟨_, hh, rfl, rfl⟩
  ·cases h
 ·rename_i v sz xs hh
  split at h
  ·rename_i hv; cases h; obtain rfl := Nat.eq_of_beq_eq_true hv; exact .inl ⟨_, hh, rfl, rfl⟩
  ·cases h
 ·rename_i v sz xs i c r hh
  split at h
  ·rename_i hv; cases h; obtain rfl := Nat.eq_of_beq_eq_true hv; exact .inl ⟨_, hh, rfl, rfl⟩
  ·cases h
 ·simp_all
 ·cases h
theorem EP {H : HV} {E E' : Env} {g : Nat → Nat → Option (Nat × Nat)} (hg : ∀ id ver j t, g id ver = some (j, t) → E'.al j t ∧ (∀ l, E'.loc j t = some l → E.loc id ver = some l) ∧ ∀ l, E.lp id = some l → E'.lp j = some l) : ∀ (k : Nat) (v : AV) (u : Value), RV H E v u → RV H E' (mapR g k v) u
 | 0, _, _, _ => .imm _ _ (.undef _)
 | k + 1, v, u, h => by
  have ih := EP (H := H) hg k
  cases v with
  | ptr id ver off =>
   simp only [mapR]
   split
   ·rename_i j t hj
    obtain ⟨a, rfl, _, hloc⟩ := h.ptr_inv
    obtain ⟨h1, h2, _⟩ := hg id ver j t hj
    exact .ptr _ _ _ _ h1 fun l hl => hloc l (h2 l hl)
   ·exact .imm _ _ (.undef _)
  | bs id ver sz off len =>
   simp only [mapR]
   split
   ·rename_i j t hj
    obtain ⟨a, cap, rfl, _, hl, hm, hloc⟩ := h.bs_inv
    obtain ⟨h1, h2, _⟩ := hg id ver j t hj
    exact .bs _ _ _ _ _ _ _ h1 hl hm fun l hl => hloc l (h2 l hl)
   ·exact .imm _ _ (.undef _)
  | ow id ver sz len =>
   simp only [mapR]
   split
   ·rename_i j t hj
    obtain ⟨a, cap, rfl, _, hl, hm, hno, hloc⟩ := h.ow_inv
    obtain ⟨h1, h2, _⟩ := hg id ver j t hj
    exact .ow _ _ _ _ _ _ h1 hl hm hno fun l hl => hloc l (h2 l hl)
   ·exact .imm _ _ (.undef _)
  | oe id ver sz i off =>
   simp only [mapR]
   split
   ·rename_i j t hj
    obtain ⟨a, rfl, _, hloc⟩ := h.oe_inv
    obtain ⟨h1, h2, _⟩ := hg id ver j t hj
    exact .oe _ _ _ _ _ _ h1 fun l hl => hloc l (h2 l hl)
   ·exact .imm _ _ (.undef _)
  | yld id => exact .imm _ _ (.undef _)
  | mp id =>
   simp only [mapR]
   split
   ·rename_i j t hj
    obtain ⟨l, rfl, hl⟩ := h.mp_inv
    exact .mp _ _ ((hg id 0 j t hj).2.2 l hl)
   ·exact .imm _ _ (.undef _)
  | agg cs =>
   obtain ⟨vs, rfl, hl, h1, hc⟩ := h.agg_inv
   refine .agg _ vs (by simp_all) h1 fun j c v hj hv => ?_
   grind
  | tup cs =>
   obtain ⟨vs, rfl, hl, hc⟩ := h.tup_inv
   refine .tup _ vs (by simp_all) fun j c v hj hv => ?_
   grind
  | fn f cs =>
   obtain ⟨vs, rfl, hl, hc⟩ := h.fn_inv
   refine .fn f _ vs (by simp_all) fun j c v hj hv => ?_
   grind
  | _ => cases h with | imm _ _ h => exact .imm _ _ h
section
variable {hp : Hp} {ids : List Nat} {m m' : Nat → Lc} {H : HV} {hp' : Hp}
theorem gR_inv {id ver j t : Nat} (h : gR hp ids id ver = some (j, t)) : idxN ids id = some j ∧ curV hp id ver = some t := by
 grind [gR]
theorem ren_ok (hhp : ∀ (j id : Nat) (b : Box) (ver : Nat), ids[j]? = some id → hp id = some b → b.ver? = some ver → m' j = m id ∧ ∃ b', hp' j = some b' ∧ b'.ver? = some b.mark) (hmp : ∀ (j id : Nat) (es : List (List UInt8 × Int)), ids[j]? = some id → hp id = some (.mapI es) → m' j = m id ∧ ∃ es', hp' j = some (.mapI es'))
  (k : Nat) (v : AV) (u : Value) (h : RV H (Q5 hp m) v u) : RV H (Q5 hp' m') (ren hp ids k v) u :=
 EP (fun id ver j t hg => by
  obtain ⟨hj, hc⟩ := gR_inv hg
  rcases curV_ok hc with ⟨b, hb, hv, ht⟩ | ⟨es, hb⟩
  ·obtain ⟨hm, b', hb', hv'⟩ := hhp j id b ver (LG hj) hb hv
   rw [ht] at hv'
   refine ⟨RS hb' hv', fun l hl => ?_, fun l hl => ?_⟩
   ·simp_all [Ji]
   ·simp only [Q5, hb] at hl
    cases b <;> first | grind | (cases hv; done)
  ·obtain ⟨hm, es', hb'⟩ := hmp j id es (LG hj) hb
   refine ⟨⟨_, hb', fun v hv => by cases hv⟩, fun l hl => ?_, fun l hl => ?_⟩
   ·simp only [Q5, hb'] at hl; cases hl
   simp_all [Q5, Option.some.injEq]) k v u h
theorem MT {all : List Nat} : ∀ {ids : List Nat} {bs : List Box}, MS hp all ids = some bs → bs.length = ids.length ∧ ∀ (j id : Nat), ids[j]? = some id → ∃ b b', hp id = some b ∧ renB hp all b = some b' ∧ bs[j]? = some b'
 | [], bs, h => by cases h; simp_all
 | id0 :: r, bs, h => by
  simp only [MS] at h
  split at h
  ·rename_i b hb
   split at h
   ·rename_i b' hb'
    split at h
    ·rename_i l hl
     cases h
     obtain ⟨h1, h2⟩ := MT hl
     grind
    ·cases h
   ·cases h
  ·cases h
theorem MR {b b' : Box} (h : renB hp ids b = some b') : (∃ ver cs, b = .cells ver cs ∧ b' = .cells (ver % 4096) (cs.map (ren hp ids 12))) ∨ (∃ ver sz xs, b = .own ver sz xs ∧ b' = .own 0 sz xs) ∨ (∃ ver sz xs i c r, b = .hol ver sz xs i c r ∧ b' = .hol 0 sz xs i c (ren hp ids 12 r)) ∨ ∃ es, b = .mapI es ∧ b' = .mapI es := by
 cases b <;> simp only [renB, Option.some.injEq, reduceCtorEq] at h
 ·grind
 ·grind
 ·grind
 grind
theorem N1 {b b' : Box} (h : renB hp ids b = some b') : (∀ v, b.ver? = some v → b'.ver? = some b.mark) ∧ (∀ es, b = .mapI es → b' = .mapI es) ∧ ∀ l, Real b' l ↔ Real b l := by
 rcases MR h with ⟨v, cs, rfl, rfl⟩ | ⟨v, sz, xs, rfl, rfl⟩ | ⟨v, sz, xs, i, c, r, rfl, rfl⟩ | ⟨es, rfl, rfl⟩
 ·exact ⟨fun _ _ => rfl, nofun, fun l => Iff.rfl⟩
 ·exact ⟨fun _ _ => rfl, nofun, fun l => Iff.rfl⟩
 ·exact ⟨fun _ _ => rfl, nofun, fun l => Iff.rfl⟩
 ·exact ⟨nofun, fun _ h => h, fun l => Iff.rfl⟩
end
section
variable {m : Nat → Lc} {H : HV} {B : Nat → Prop} {H0 : HV} {gl : Nat → AV} {rest : List (AV × Value)} {st : St} {tmps : Array Value} {w : World}
theorem RelH.sub {hp : Hp} {nx : Nat} {B' : Nat → Prop} {H1 : HV} (h : RelH m H B H0 gl hp nx w) {ids : List Nat} {bs : List Box} (hn : nodN ids = true) (hbs : MS hp ids ids = some bs)
  (hold : ∀ b o, B' b → H b o = H1 b o) (hlow : ∀ b, B' b → b < w.heap.size) (hsep : ∀ (j id : Nat) (b : Box), ids[j]? = some id → hp id = some b → Real b (m id) → ¬ B' (m id).g) (hgv : GvOk gl B' w) :
  RelH (fun j => m ((ids[j]?).getD 0)) H B' H1 gl (lkb (hpOf 0 bs)) bs.length w ∧ ∀ (k : Nat) (v : AV) (u : Value), RV H (Q5 hp m) v u → RV H (Q5 (lkb (hpOf 0 bs)) fun j => m ((ids[j]?).getD 0)) (ren hp ids k v) u := by
 obtain ⟨hlen, hget⟩ := MT hbs
 have hlk : ∀ j, lkb (hpOf 0 bs) j = bs[j]? := fun j => by rw [Dh]; simp
 have hinv : ∀ j b', lkb (hpOf 0 bs) j = some b' → ∃ id b, ids[j]? = some id ∧ hp id = some b ∧ renB hp ids b = some b' := fun j b' hj => by
  rw [hlk] at hj
  have hjl : j < ids.length := by grind
  obtain ⟨b, b2, h1, h2, h3⟩ := hget j _ (List.getElem?_eq_getElem hjl)
  simp_all
 have hm : ∀ (j id : Nat), ids[j]? = some id → m ((ids[j]?).getD 0) = m id := fun j id hj => by grind
 have hren : ∀ (k : Nat) (v : AV) (u : Value), RV H (Q5 hp m) v u → RV H (Q5 (lkb (hpOf 0 bs)) fun j => m ((ids[j]?).getD 0)) (ren hp ids k v) u := ren_ok (fun j id b ver hj hb hv => by
  grind [id, N1]) fun j id es hj hb => by
  obtain ⟨b0, b', h1, h2, h3⟩ := hget j id hj
  rw [hb] at h1; cases h1
  exact ⟨hm j id hj, es, by rw [hlk, h3, (N1 h2).2.1 es rfl]⟩
 refine ⟨{ sat := h.sat, old := hold, low := hlow, fresh := fun j hj => ?_, box := fun j b' hj => ?_, sepR := fun j b' hj hr => ?_, injR := fun i j b1 b2 h1 h2 r1 r2 he => ?_, gv := hgv, gl := h.gl, ty := fun j v cs hj => ?_ }, hren⟩
 ·simp_all
 ·obtain ⟨id, b, hj', hb, hrb⟩ := hinv j b' hj
  rw [hm j id hj']
  have hbx := h.box id b hb
  rcases MR hrb with ⟨v, cs, rfl, rfl⟩ | ⟨v, sz, xs, rfl, rfl⟩ | ⟨v, sz, xs, i0, c0, r0, rfl, rfl⟩ | ⟨es, rfl, rfl⟩
  ·obtain ⟨C, e, c1, c2, c3, c4⟩ := hbx
   refine ⟨C, e, c1, c2, by simp_all, fun i c hc => ?_⟩
   grind
  ·exact hbx
  ·obtain ⟨d1, d2, d3, d4, d5, C, e, c1, c2, c3, c4, u, b1, b2, b3⟩ := hbx
   exact ⟨d1, d2, d3, d4, d5, C, e, c1, c2, c3, c4, u, b1, b2, hren 12 _ u b3⟩
  ·obtain ⟨A, c, a1, a2, a3⟩ := hbx
   refine ⟨A, c, a1, a2, fun q k x e hq hA => ?_⟩
   obtain ⟨a, d⟩ := a3 q k x e hq hA
   obtain ⟨p, _, hp⟩ := List.mem_map.1 (List.mem_of_getElem? hq)
   cases hp
   exact ⟨a, by cases d with | imm _ _ d => exact .imm _ _ d⟩
 ·obtain ⟨id, b, hj', hb, hrb⟩ := hinv j b' hj
  rw [hm j id hj'] at hr ⊢
  have hr' := ((N1 hrb).2.2 _).1 hr
  obtain ⟨_, y, z⟩ := h.sepR id b hb hr'
  grind
 ·obtain ⟨id1, b1', hi, hb1, hr1⟩ := hinv i b1 h1
  obtain ⟨id2, b2', hj, hb2, hr2⟩ := hinv j b2 h2
  rw [hm i id1 hi] at r1 he
  rw [hm j id2 hj] at r2 he
  have := h.injR id1 id2 b1' b2' hb1 hb2 (((N1 hr1).2.2 _).1 r1) (((N1 hr2).2.2 _).1 r2) he
  grind [MI]
 ·obtain ⟨id, b, hj', hb, hrb⟩ := hinv j _ hj
  rw [hm j id hj']
  rcases MR hrb with ⟨v0, cs0, rfl, he⟩ | ⟨v0, sz, xs, rfl, he⟩ | ⟨v0, sz, xs, i0, c0, r0, rfl, he⟩ | ⟨es, rfl, he⟩
  ·cases he
   have := h.ty id _ _ hb
   simp_all [TyOk, Nat.mod_mod]
  ·cases he
  ·cases he
  ·cases he
theorem Hq : ∀ (ks : List Nat) (f : Nat → AV) (k : Nat), lk .undef (slOf ks (ks.map f)) k = .undef ∨ lk .undef (slOf ks (ks.map f)) k = f k
 | [], f, k => .inl (Ts _ _)
 | a :: ks, f, k => by
  simp only [List.map_cons, slOf]
  rw [JI]
  by_cases h : a = k
  ·simp_all
  ·rw [if_neg h]; exact Hq ks f k
theorem Tu {g : Nat → Nat → Option (Nat × Nat)} {k : Nat} {v : AV} (h : immA v = true) : mapR g (k + 1) v = v := by
 cases v <;> first | rfl | (cases h; done) | skip
 rename_i f cs
 have : cs = [] := by simp_all [immA]
 subst this
 rfl
theorem A4 {hp : Hp} {ids : List Nat} {p : AV} (h : RZ hp ids p = true) : ren hp ids 12 p = p := by
 unfold RZ at h
 split at h
 ·rename_i id ver off
  split at h
  ·rename_i j hj
   split at h
   ·rename_i t ht
    rw [Bool.and_eq_true] at h
    obtain rfl := Nat.eq_of_beq_eq_true h.1
    obtain rfl := Nat.eq_of_beq_eq_true h.2
    simp_all [ren, mapR, gR]
   ·cases h
  ·cases h
 ·rename_i id
  split at h
  ·rename_i j hj
   split at h
   ·rename_i es hb
    obtain rfl := Nat.eq_of_beq_eq_true h
    simp_all [ren, mapR, gR, curV]
   ·cases h
  ·cases h
 ·rfl
 ·rename_i cs
  show AV.agg (cs.map (mapR (gR hp ids) 11)) = _
  congr 1
  have : ∀ x ∈ cs, mapR (gR hp ids) 11 x = x := fun x hx => Tu (List.all_eq_true.1 h x hx)
  exact (List.map_congr_left this).trans (List.map_id _)
 ·exact Tu h
theorem Jv {pins : List AV} {ks : List Nat} {kb : List KB} {K : List AV → List Box → Prop} (h : RelS m H B H0 gl rest st tmps w) (hp : rest.map (·.1) = pins) (hw : Jl pins ks kb st K) : ∃ vs bs m', K vs bs ∧ RelS m' H B H0 gl rest (ZH st.n ks vs bs) tmps w := by
 unfold Jl at hw
 split at hw
 ·rename_i hc
  rw [Bool.and_eq_true] at hc
  split at hw
  ·rename_i bs hbs
   obtain ⟨h1, hren⟩ := h.heap.sub hc.1 hbs h.heap.old h.heap.low (fun j id b _ hb hr => (h.heap.sepR id b hb hr).1) h.heap.gv
   refine ⟨_, bs, _, hw, h1, h.size, fun k => ?_, fun p hp' => ?_⟩
   ·show RV H _ (lk .undef (slOf ks (ks.map fun k => ren (lkb st.hp) (Kt st kb) 12 (st.get k))) k) _
    rcases Hq ks (fun k => ren (lkb st.hp) (Kt st kb) 12 (st.get k)) k with e | e
    ·rw [e]; exact .imm _ _ (.undef _)
    ·rw [e]; exact hren 12 _ _ (h.slot k)
   ·have hpin := List.all_eq_true.1 hc.2 p.1 (by grind)
    have := hren 12 p.1 p.2 (h.rest p hp')
    rw [A4 hpin] at this
    exact this
  ·cases hw
 ·cases hw
end
end HY
end
section
namespace HY
open Go Go.RowKit
def CB (hp : Hp) : List Nat → List Box → Nat → Option (List (Nat × Nat))
 | [], [], _ => some []
 | [], b :: bs, nx => match b.ver? with
  | some v => match CB hp [] bs (nx + 1) with
   | some l => some ((nx, v) :: l)
   | none => none
  | none => none
 | _ :: _, [], _ => none
 | id :: ids, b :: bs, nx => match hp id with
  | some (.cells v _) => match b with
   | .cells t _ => match Nat.beq (v % 4096) t with
    | true => match CB hp ids bs nx with
     | some l => some ((id, v) :: l)
     | none => none
    | false => none
   | _ => none
  | some (.own v _ _) => match b with
   | .own _ _ _ => match CB hp ids bs nx with
    | some l => some ((id, v + 4096) :: l)
    | none => none
   | _ => none
  | some (.mapI _) => match b with
   | .mapI _ => match CB hp ids bs nx with
    | some l => some ((id, 0) :: l)
    | none => none
   | _ => none
  | _ => none
def gB (ps : List (Nat × Nat)) (bs : List Box) (j t : Nat) : Option (Nat × Nat) :=
 match ps[j]? with
 | some p => match bs[j]? with
  | some b => match b.ver? with
   | some v => match Nat.beq v t with
    | true => some p
    | false => none
   | none => match b with
    | .mapI _ => some p
    | _ => none
  | none => none
 | none => none
def unB (g : Nat → Nat → Option (Nat × Nat)) (ver : Nat) : Box → Box
 | .cells _ cs => .cells ver (cs.map (mapR g 12))
 | .own _ sz xs => .own ver sz xs
 | .hol _ sz xs i c r => .hol ver sz xs i c (mapR g 12 r)
 | b => b
def Ul (g : Nat → Nat → Option (Nat × Nat)) (t : Tr Box) : List (Nat × Nat) → List Box → Tr Box
 | (id, ver) :: ps, b :: bs => pt (Ul g t ps bs) id (unB g ver b)
 | _, _ => t
structure LZ (hp : Hp) (ids : List Nat) (bs : List Box) (nx : Nat) (ps : List (Nat × Nat)) (j id ver : Nat) (b : Box) : Prop where
 here : (∃ v cs t cs', ids[j]? = some id ∧ hp id = some (.cells v cs) ∧ b = .cells t cs' ∧ ver = v ∧ v % 4096 = t) ∨ (∃ v sz xs v' sz' xs', ids[j]? = some id ∧ hp id = some (.own v sz xs) ∧ b = .own v' sz' xs' ∧ ver = v + 4096) ∨ (∃ es es', ids[j]? = some id ∧ hp id = some (.mapI es) ∧ b = .mapI es' ∧ ver = 0) ∨ (ids.length ≤ j ∧ id = nx + (j - ids.length) ∧ b.ver? = some ver)
theorem DJ {hp : Hp} : ∀ {ids : List Nat} {bs : List Box} {nx : Nat} {ps : List (Nat × Nat)}, CB hp ids bs nx = some ps → ps.length = bs.length ∧ ids.length ≤ bs.length ∧ ∀ (j id ver : Nat) (b : Box), ps[j]? = some (id, ver) → bs[j]? = some b → LZ hp ids bs nx ps j id ver b
 | [], [], nx, ps, h => by cases h; exact ⟨rfl, Nat.le_refl _, fun j id ver b hj => by simp at hj⟩
 | [], b0 :: bs, nx, ps, h => by
  simp only [CB] at h
  split at h
  ·rename_i v hv
   split at h
   ·rename_i l hl
    cases h
    obtain ⟨h1, h2, h3⟩ := DJ hl
    refine ⟨by simp [h1], by simp, fun j id ver b hj hb => ?_⟩
    cases j with
    | zero => simp at hj hb; obtain ⟨rfl, rfl⟩ := hj; subst hb; exact ⟨.inr (.inr (.inr ⟨by simp, by simp, hv⟩))⟩
    | succ j =>
     rw [List.getElem?_cons_succ] at hj hb
     rcases (h3 j id ver b hj hb).here with ⟨_, _, _, _, e, _⟩ | ⟨_, _, _, _, _, _, e, _⟩ | ⟨_, _, e, _⟩ | ⟨a1, a2, a3⟩
     ·simp at e
     ·simp at e
     ·simp at e
     ·exact ⟨.inr (.inr (.inr ⟨by simp, by simp at a2 ⊢; omega, a3⟩))⟩
   ·cases h
  ·cases h
 | _ :: _, [], nx, ps, h => by cases h
 | id0 :: ids, b0 :: bs, nx, ps, h => by
  have go : ∀ (p : Nat × Nat) (l : List (Nat × Nat)), CB hp ids bs nx = some l → LZ hp (id0 :: ids) (b0 :: bs) nx (p :: l) 0 p.1 p.2 b0 →
    (p :: l).length = (b0 :: bs).length ∧ (id0 :: ids).length ≤ (b0 :: bs).length ∧ ∀ (j id ver : Nat) (b : Box), (p :: l)[j]? = some (id, ver) → (b0 :: bs)[j]? = some b → LZ hp (id0 :: ids) (b0 :: bs) nx (p :: l) j id ver b := by
   intro p l hl h0
   obtain ⟨h1, h2, h3⟩ := DJ hl
   refine ⟨by simp [h1], by simp; omega, fun j id ver b hj hb => ?_⟩
   cases j with
   | zero => simp at hj hb; subst hj; subst hb; exact h0
   | succ j =>
    rw [List.getElem?_cons_succ] at hj hb
    rcases (h3 j id ver b hj hb).here with ⟨v, cs, t, cs', e1, e2, e3, e4, e5⟩ | ⟨v, sz, xs, v', sz', xs', e1, e2, e3, e4⟩ | ⟨es, es', e1, e2, e3, e4⟩ | ⟨a1, a2, a3⟩
    ·exact ⟨.inl ⟨v, cs, t, cs', by simpa using e1, e2, e3, e4, e5⟩⟩
    ·exact ⟨.inr (.inl ⟨v, sz, xs, v', sz', xs', by simpa using e1, e2, e3, e4⟩)⟩
    ·exact ⟨.inr (.inr (.inl ⟨es, es', by simpa using e1, e2, e3, e4⟩))⟩
    ·exact ⟨.inr (.inr (.inr ⟨by simp; omega, by simp at a2 ⊢; omega, a3⟩))⟩
  simp only [CB] at h
  split at h
  ·rename_i v cs hid
   split at h
   ·rename_i t cs'
    split at h
    ·rename_i hv
     split at h
     ·rename_i l hl
      cases h
      exact go _ _ hl ⟨.inl ⟨v, cs, t, cs', rfl, hid, rfl, rfl, Nat.eq_of_beq_eq_true hv⟩⟩
     ·cases h
    ·cases h
   ·cases h
  ·rename_i v sz xs hid
   split at h
   ·rename_i v' sz' xs'
    split at h
    ·rename_i l hl
     cases h
     exact go _ _ hl ⟨.inr (.inl ⟨v, sz, xs, v', sz', xs', rfl, hid, rfl, rfl⟩)⟩
    ·cases h
   ·cases h
  ·rename_i es hid
   split at h
   ·rename_i es'
    split at h
    ·rename_i l hl
     cases h
     exact go _ _ hl ⟨.inr (.inr (.inl ⟨es, es', rfl, hid, rfl, rfl⟩))⟩
    ·cases h
   ·cases h
  ·cases h
theorem Rj {g : Nat → Nat → Option (Nat × Nat)} {t : Tr Box} : ∀ {ps : List (Nat × Nat)} {bs : List Box}, (∀ (i j id v v' : Nat), ps[i]? = some (id, v) → ps[j]? = some (id, v') → i = j) → ∀ (j id ver : Nat) (b : Box), ps[j]? = some (id, ver) → bs[j]? = some b → lkb (Ul g t ps bs) id = some (unB g ver b)
 | [], _, _, j, id, ver, b, hj, _ => by simp at hj
 | _ :: _, [], _, j, id, ver, b, _, hb => by simp at hb
 | (id0, v0) :: ps, b0 :: bs, hinj, j, id, ver, b, hj, hb => by
  simp only [Ul]
  rw [Z1]
  cases j with
  | zero => simp at hj hb; obtain ⟨rfl, rfl⟩ := hj; subst hb; rw [Qk]
  | succ j =>
   have hne : id ≠ id0 := fun e => by
    subst e
    have := hinj 0 (j + 1) id v0 ver rfl hj
    omega
   rw [Qo _ _ hne]
   exact Rj (fun i j id v v' h1 h2 => by have := hinj (i + 1) (j + 1) id v v' (by simpa using h1) (by simpa using h2); omega) j id ver b (by simpa using hj) (by simpa using hb)
theorem Ec {g : Nat → Nat → Option (Nat × Nat)} {t : Tr Box} : ∀ {ps : List (Nat × Nat)} {bs : List Box} {id : Nat}, (∀ (j v : Nat), ps[j]? ≠ some (id, v)) → lkb (Ul g t ps bs) id = lkb t id
 | [], _, _, _ => by simp [Ul]
 | _ :: _, [], _, _ => by simp [Ul]
 | (id0, v0) :: ps, b0 :: bs, id, h => by
  simp only [Ul]
  have hne : id ≠ id0 := fun e => h 0 v0 (by simp [e])
  rw [Z1, Qo _ _ hne]
  exact Ec fun j v hj => h (j + 1) v (by simpa using hj)
theorem LZ.ver {hp : Hp} {ids : List Nat} {bs : List Box} {nx : Nat} {ps : List (Nat × Nat)} {j id ver : Nat} {b : Box} (h : LZ hp ids bs nx ps j id ver b) : (∃ v, b.ver? = some v) ∨ ∃ es, b = .mapI es := by
 rcases h.here with ⟨v, cs, t, cs', e1, e2, rfl, e4, e5⟩ | ⟨v, sz, xs, v', sz', xs', e1, e2, rfl, e4⟩ | ⟨es, es', e1, e2, e3, e4⟩ | ⟨a1, a2, a3⟩
 ·exact .inl ⟨_, rfl⟩
 ·exact .inl ⟨_, rfl⟩
 ·exact .inr ⟨_, e3⟩
 ·exact .inl ⟨_, a3⟩
theorem N8 {g : Nat → Nat → Option (Nat × Nat)} {ver : Nat} {b : Box} {l : Lc} : Real (unB g ver b) l ↔ Real b l := by cases b <;> exact Iff.rfl
theorem Ih {g : Nat → Nat → Option (Nat × Nat)} {ver v : Nat} {b : Box} (h : b.ver? = some v) : (unB g ver b).ver? = some ver ∧ ∀ l, Real (unB g ver b) l ↔ Real b l := by
 cases b <;> first | exact ⟨rfl, fun _ => Iff.rfl⟩ | cases h
def OffB (hp : Hp) (m : Nat → Lc) (ids : List Nat) (w : World) (k : Nat) : Prop := k < w.heap.size ∧ ∀ (j id : Nat) (b : Box), ids[j]? = some id → hp id = some b → Real b (m id) → (m id).g ≠ k
section
variable {m : Nat → Lc} {H : HV} {B : Nat → Prop} {H0 : HV} {gl : Nat → AV} {t : Tr Box} {nx : Nat} {w : World}
theorem RelH.offB (h : RelH m H B H0 gl (lkb t) nx w) (ids : List Nat) : ∀ k, B k → OffB (lkb t) m ids w k := fun k hk => ⟨h.low k hk, fun _ id b _ hb hr e => (h.sepR id b hb hr).1 (e ▸ hk)⟩
theorem back_ok (h : RelH m H B H0 gl (lkb t) nx w) {ids : List Nat} {bs' : List Box} {ps : List (Nat × Nat)} (hn : nodN ids = true) (hps : CB (lkb t) ids bs' nx = some ps) {m' : Nat → Lc} {H' : HV} {w' : World}
  (hH : RelH m' H' (OffB (lkb t) m ids w) H gl (lkb (hpOf 0 bs')) bs'.length w') (hb : Q8 (OffB (lkb t) m ids w) w w') (hpin : ∀ (j id v : Nat) (cs : List AV), ids[j]? = some id → lkb t id = some (.cells v cs) → m' j = m id) (hpinM : ∀ (j id : Nat) (es : List (List UInt8 × Int)), ids[j]? = some id → lkb t id = some (.mapI es) → (m' j).g = (m id).g) :
  ∃ M, RelH M H' B H0 gl (lkb (Ul (gB ps bs') t ps bs')) (nx + (bs'.length - ids.length)) w' ∧ Env.le (Q5 (lkb t) m) (Q5 (lkb (Ul (gB ps bs') t ps bs')) M) ∧ HV.le H H' ∧
   (∀ v u, RV H' (Q5 (lkb (hpOf 0 bs')) m') v u → RV H' (Q5 (lkb (Ul (gB ps bs') t ps bs')) M) (mapR (gB ps bs') 12 v) u) ∧ Q8 B w w' := by
 classical
 obtain ⟨hlen, hle, hspec⟩ := DJ hps
 have hlk : ∀ j, lkb (hpOf 0 bs') j = bs'[j]? := fun j => by rw [Dh]; simp
 have hget : ∀ (j id ver : Nat), ps[j]? = some (id, ver) → ∃ b, bs'[j]? = some b ∧ LZ (lkb t) ids bs' nx ps j id ver b := fun j id ver hj => by
  have hjl : j < bs'.length := by rw [← hlen]; exact (List.getElem?_eq_some_iff.1 hj).1
  exact ⟨_, List.getElem?_eq_getElem hjl, hspec j id ver _ hj (List.getElem?_eq_getElem hjl)⟩
 have hlt : ∀ id b, lkb t id = some b → id < nx := fun id b hb => by
  rcases Nat.lt_or_ge id nx with hlt | hge
  ·exact hlt
  ·have := h.fresh id hge; rw [this] at hb; cases hb
 have hcase : ∀ (j id ver : Nat), ps[j]? = some (id, ver) → (ids[j]? = some id ∧ id < nx) ∨ (ids.length ≤ j ∧ id = nx + (j - ids.length)) := fun j id ver hj => by
  obtain ⟨b, _, hs⟩ := hget j id ver hj
  rcases hs.here with ⟨v, cs, t, cs', e1, e2, _⟩ | ⟨v, sz, xs, v', sz', xs', e1, e2, _⟩ | ⟨es, es', e1, e2, _⟩ | ⟨a1, a2, _⟩
  ·exact .inl ⟨e1, hlt _ _ e2⟩
  ·exact .inl ⟨e1, hlt _ _ e2⟩
  ·exact .inl ⟨e1, hlt _ _ e2⟩
  ·exact .inr ⟨a1, a2⟩
 have hinj : ∀ (i j id v v' : Nat), ps[i]? = some (id, v) → ps[j]? = some (id, v') → i = j := fun i j id v v' hi hj => by
  rcases hcase i id v hi with ⟨a1, a2⟩ | ⟨a1, a2⟩ <;> rcases hcase j id v' hj with ⟨b1, b2⟩ | ⟨b1, b2⟩
  ·exact MI hn a1 b1
  ·omega
  ·omega
  ·omega
 have hM : ∃ M : Nat → Lc, (∀ (j id ver : Nat), ps[j]? = some (id, ver) → M id = m' j) ∧ ∀ (id : Nat), (∀ (j v : Nat), ps[j]? ≠ some (id, v)) → M id = m id := by
  refine ⟨fun id => if hx : ∃ (j v : Nat), ps[j]? = some (id, v) then m' hx.choose else m id, fun j id ver hj => ?_, fun id hno => ?_⟩
  ·have hx : ∃ (j v : Nat), ps[j]? = some (id, v) := ⟨j, ver, hj⟩
   obtain ⟨v, hv⟩ := hx.choose_spec
   show (if hx : ∃ (j v : Nat), ps[j]? = some (id, v) then m' hx.choose else m id) = m' j
   rw [dif_pos hx, hinj _ j id v ver hv hj]
  ·show (if hx : ∃ (j v : Nat), ps[j]? = some (id, v) then m' hx.choose else m id) = m id
   rw [dif_neg]
   rintro ⟨j, v, hj⟩
   exact hno j v hj
 obtain ⟨M, hM1, hM2⟩ := hM
 have hin : ∀ (j id : Nat), ids[j]? = some id → ∃ ver, ps[j]? = some (id, ver) := fun j id hj => by
  have hjl := (List.getElem?_eq_some_iff.1 hj).1
  have hjp : j < ps.length := by omega
  have hp := List.getElem?_eq_getElem hjp
  rcases hcase j ps[j].1 ps[j].2 hp with ⟨a1, _⟩ | ⟨a1, _⟩
  ·rw [hj] at a1; cases a1; exact ⟨_, hp⟩
  ·omega
 generalize hT : Ul (gB ps bs') t ps bs' = T
 have hat : ∀ (j id ver : Nat) (b : Box), ps[j]? = some (id, ver) → bs'[j]? = some b → lkb T id = some (unB (gB ps bs') ver b) := fun j id ver b hj hb => by subst hT; exact Rj hinj j id ver b hj hb
 have hoff : ∀ (id : Nat), (∀ (j v : Nat), ps[j]? ≠ some (id, v)) → lkb T id = lkb t id := fun id hno => by subst hT; exact Ec hno
 have hBB := h.offB ids
 have hoffB : ∀ id b, lkb t id = some b → Real b (m id) → (∀ (j v : Nat), ps[j]? ≠ some (id, v)) → OffB (lkb t) m ids w (m id).g := fun id b hb hr hno => ⟨(h.sepR id b hb hr).2.1, fun j id2 b2 hj hb2 hr2 e => by
  have := h.injR id2 id b2 b hb2 hb hr2 hr e
  subst this
  obtain ⟨ver, hv⟩ := hin j id2 hj
  exact hno j ver hv⟩
 have hHle : HV.le H H' := fun b o v hv => by
  rw [hH.old b o ⟨Vx h.sat hv, fun j id bx _ hb hr e => by
   have := (h.sepR id bx hb hr).2.2 o
   rw [e, hv] at this; cases this⟩]
  exact hv
 have hE : Env.le (Q5 (lkb t) m) (Q5 (lkb T) M) := by
  refine ⟨fun id ver ⟨b, h1, h2⟩ => ?_, fun id ver l ⟨b, h1, h2⟩ hl => ?_, fun id l hl => ?_⟩
  ·by_cases hx : ∃ (j v : Nat), ps[j]? = some (id, v)
   ·obtain ⟨j, v, hj⟩ := hx
    obtain ⟨b', hb', hs⟩ := hget j id v hj
    refine ⟨_, hat j id v b' hj hb', fun v1 hv1 => ?_⟩
    obtain ⟨v0, hv0⟩ | ⟨es, rfl⟩ := hs.ver
    rotate_left
    ·cases hv1
    rw [(Ih hv0).1] at hv1; cases hv1
    rcases hs.here with ⟨v2, cs, t2, cs', e1, e2, _, e4, _⟩ | ⟨v2, sz, xs, v', sz', xs', e1, e2, _, e4⟩ | ⟨es, es', e1, e2, rfl, e4⟩ | ⟨a1, a2, _⟩
    ·rw [h1] at e2; cases e2; rw [e4]; exact h2 _ rfl
    ·rw [h1] at e2; cases e2; rw [e4]; exact Nat.le_trans (h2 _ rfl) (Nat.le_add_right _ _)
    ·cases hv0
    ·have := hlt _ _ h1; omega
   ·have hno : ∀ (j v : Nat), ps[j]? ≠ some (id, v) := fun j v hj => hx ⟨j, v, hj⟩
    exact ⟨b, by rw [hoff id hno]; exact h1, h2⟩
  ·by_cases hx : ∃ (j v : Nat), ps[j]? = some (id, v)
   ·obtain ⟨j, v, hj⟩ := hx
    obtain ⟨b', hb', hs⟩ := hget j id v hj
    have hnew := hat j id v b' hj hb'
    obtain ⟨v0, hv0⟩ | ⟨es, rfl⟩ := hs.ver
    rotate_left
    ·simp only [Q5, hnew] at hl; cases hl
    simp only [Q5, hnew, (Ih hv0).1] at hl
    split at hl
    ·rename_i hv
     subst hv
     rcases hs.here with ⟨v2, cs, t2, cs', e1, e2, _, e4, _⟩ | ⟨v2, sz, xs, v', sz', xs', e1, e2, _, e4⟩ | ⟨es, es', e1, e2, rfl, e4⟩ | ⟨a1, a2, _⟩
     ·cases hl
      rw [hM1 j id _ hj, hpin j id v2 cs e1 e2, e4]
      exact Ji e2 rfl
     ·rw [h1] at e2; cases e2
      have := h2 _ rfl
      omega
     ·cases hv0
     ·have := hlt _ _ h1; omega
    ·cases hl
   ·have hno : ∀ (j v : Nat), ps[j]? ≠ some (id, v) := fun j v hj => hx ⟨j, v, hj⟩
    simp only [Q5, hoff id hno, hM2 id hno] at hl ⊢
    exact hl
  ·by_cases hx : ∃ (j v : Nat), ps[j]? = some (id, v)
   ·obtain ⟨j, v, hj⟩ := hx
    obtain ⟨b', hb', hs⟩ := hget j id v hj
    rcases hs.here with ⟨v2, cs, t2, cs', e1, e2, _, e4, _⟩ | ⟨v2, sz, xs, v', sz', xs', e1, e2, _, e4⟩ | ⟨es, es', e1, e2, rfl, e4⟩ | ⟨a1, a2, _⟩
    ·simp only [Q5, e2] at hl; cases hl
    ·simp only [Q5, e2] at hl; cases hl
    ·simp only [Q5, e2] at hl
     have hnew := hat j id v _ hj hb'
     simp only [Q5, hnew, unB, hM1 j id v hj, hpinM j id es e1 e2, hl]
    ·have := h.fresh id (by omega)
     simp only [Q5, this] at hl; cases hl
   ·have hno : ∀ (j v : Nat), ps[j]? ≠ some (id, v) := fun j v hj => hx ⟨j, v, hj⟩
    simp only [Q5, hoff id hno, hM2 id hno] at hl ⊢
    exact hl
 have hren : ∀ (v : AV) (u : Value), RV H' (Q5 (lkb (hpOf 0 bs')) m') v u → RV H' (Q5 (lkb T) M) (mapR (gB ps bs') 12 v) u := fun v u hv => by
  refine EP (fun j tv id ver hg => ?_) 12 v u hv
  unfold gB at hg
  split at hg
  ·rename_i p hp
   split at hg
   ·rename_i b hb
    split at hg
    ·rename_i v0 hv0
     split at hg
     ·rename_i hbq
      cases hg
      obtain rfl := Nat.eq_of_beq_eq_true hbq
      have hnew := hat j id ver b hp hb
      refine ⟨RS hnew (Ih hv0).1, fun l hl => ?_, fun l hl => ?_⟩
      ·rw [Ji hnew (Ih hv0).1, hM1 j id ver hp] at hl
       rw [Ji (by rw [hlk]; exact hb) hv0]; exact hl
      ·simp only [Q5, hlk, hb] at hl
       cases b <;> first | (cases hl; done) | (cases hv0; done)
     ·cases hg
    ·split at hg
     ·rename_i es
      cases hg
      have hnew := hat j id ver _ hp hb
      refine ⟨⟨_, hnew, fun v hv => by cases hv⟩, fun l hl => ?_, fun l hl => ?_⟩
      ·simp only [Q5, hnew, unB] at hl; cases hl
      ·simp only [Q5, hlk, hb] at hl
       simp only [Q5, hnew, unB, hM1 j id ver hp, hl]
     ·cases hg
   ·cases hg
  ·cases hg
 refine ⟨M, { sat := hH.sat, old := fun b o hB => ?_, low := fun b hB => Nat.lt_of_lt_of_le (h.low b hB) hb.size, fresh := fun id hid => ?_, box := fun id b hid => ?_, sepR := fun id b hid hr => ?_, injR := fun i j b1 b2 h1 h2 r1 r2 he => ?_, gv := h.gv.mono fun k hk => hb.block k (hBB k hk), gl := hH.gl, ty := fun id v cs hid => ?_ }, hE, hHle, hren, hb.mono hBB⟩
 ·rw [hH.old b o (hBB b hB)]; exact h.old b o hB
 ·rw [hoff id fun j v hj => ?_]
  ·exact h.fresh id (by omega)
  ·have hjl : j < bs'.length := by rw [← hlen]; exact (List.getElem?_eq_some_iff.1 hj).1
   rcases hcase j id v hj with ⟨_, a2⟩ | ⟨a1, a2⟩ <;> omega
 ·by_cases hx : ∃ (j v : Nat), ps[j]? = some (id, v)
  ·obtain ⟨j, v, hj⟩ := hx
   obtain ⟨b', hb', hs⟩ := hget j id v hj
   rw [hat j id v b' hj hb'] at hid
   cases hid
   rw [hM1 j id v hj]
   have hbx := hH.box j b' (by rw [hlk]; exact hb')
   cases b' with
   | cells v2 cs =>
    obtain ⟨C, e, c1, c2, c3, c4⟩ := hbx
    refine ⟨C, e, c1, c2, by simpa using c3, fun i c hc => ?_⟩
    rw [List.getElem?_map, Option.map_eq_some_iff] at hc
    obtain ⟨c0, hc0, rfl⟩ := hc
    obtain ⟨u, b1, b2, b3⟩ := c4 i c0 hc0
    exact ⟨u, b1, b2, hren c0 u b3⟩
   | own v2 sz xs => exact hbx
   | hol v2 sz xs i c r =>
    obtain ⟨d1, d2, d3, d4, d5, C, e, c1, c2, c3, c4, u, b1, b2, b3⟩ := hbx
    exact ⟨d1, d2, d3, d4, d5, C, e, c1, c2, c3, c4, u, b1, b2, hren r u b3⟩
   | mapI es =>
    obtain ⟨A, c, a1, a2, a3⟩ := hbx
    refine ⟨A, c, a1, a2, fun q k x e hq hA => ?_⟩
    obtain ⟨a, d⟩ := a3 q k x e hq hA
    obtain ⟨p, _, hp⟩ := List.mem_map.1 (List.mem_of_getElem? hq)
    cases hp
    exact ⟨a, by cases d with | imm _ _ d => exact .imm _ _ d⟩
   | _ => rcases hs.ver with ⟨_, hv0⟩ | ⟨_, hv0⟩ <;> cases hv0
  ·have hno : ∀ (j v : Nat), ps[j]? ≠ some (id, v) := fun j v hj => hx ⟨j, v, hj⟩
   rw [hoff id hno] at hid
   rw [hM2 id hno]
   exact (h.box id b hid).mono' hHle hE fun hr => hb.block _ (hoffB id b hid hr hno)
 ·by_cases hx : ∃ (j v : Nat), ps[j]? = some (id, v)
  ·obtain ⟨j, v, hj⟩ := hx
   obtain ⟨b', hb', hs⟩ := hget j id v hj
   rw [hat j id v b' hj hb'] at hid
   cases hid
   rw [hM1 j id v hj] at hr ⊢
   obtain ⟨x, y, z⟩ := hH.sepR j b' (by rw [hlk]; exact hb') (N8.1 hr)
   exact ⟨fun hB => x (hBB _ hB), y, z⟩
  ·have hno : ∀ (j v : Nat), ps[j]? ≠ some (id, v) := fun j v hj => hx ⟨j, v, hj⟩
   rw [hoff id hno] at hid
   rw [hM2 id hno] at hr ⊢
   obtain ⟨x, y, z⟩ := h.sepR id b hid hr
   exact ⟨x, Nat.lt_of_lt_of_le y hb.size, fun o => by rw [hH.old _ o (hoffB id b hid hr hno)]; exact z o⟩
 ·by_cases hx : ∃ (k v : Nat), ps[k]? = some (i, v) <;> by_cases hy : ∃ (k v : Nat), ps[k]? = some (j, v)
  ·obtain ⟨k1, v1, hk1⟩ := hx
   obtain ⟨k2, v2, hk2⟩ := hy
   obtain ⟨c1, hc1, hs1⟩ := hget k1 i v1 hk1
   obtain ⟨c2, hc2, hs2⟩ := hget k2 j v2 hk2
   rw [hat k1 i v1 c1 hk1 hc1] at h1
   rw [hat k2 j v2 c2 hk2 hc2] at h2
   cases h1; cases h2
   rw [hM1 k1 i v1 hk1] at r1 he
   rw [hM1 k2 j v2 hk2] at r2 he
   have := hH.injR k1 k2 c1 c2 (by rw [hlk]; exact hc1) (by rw [hlk]; exact hc2) (N8.1 r1) (N8.1 r2) he
   subst this
   rw [hk1] at hk2; cases hk2; rfl
  ·obtain ⟨k1, v1, hk1⟩ := hx
   obtain ⟨c1, hc1, hs1⟩ := hget k1 i v1 hk1
   have hno : ∀ (k v : Nat), ps[k]? ≠ some (j, v) := fun k v hk => hy ⟨k, v, hk⟩
   rw [hat k1 i v1 c1 hk1 hc1] at h1
   rw [hoff j hno] at h2
   cases h1
   rw [hM1 k1 i v1 hk1] at r1 he
   rw [hM2 j hno] at r2 he
   exact absurd (by rw [he]; exact hoffB j b2 h2 r2 hno) (hH.sepR k1 c1 (by rw [hlk]; exact hc1) (N8.1 r1)).1
  ·obtain ⟨k2, v2, hk2⟩ := hy
   obtain ⟨c2, hc2, hs2⟩ := hget k2 j v2 hk2
   have hno : ∀ (k v : Nat), ps[k]? ≠ some (i, v) := fun k v hk => hx ⟨k, v, hk⟩
   rw [hat k2 j v2 c2 hk2 hc2] at h2
   rw [hoff i hno] at h1
   cases h2
   rw [hM1 k2 j v2 hk2] at r2 he
   rw [hM2 i hno] at r1 he
   exact absurd (by rw [← he]; exact hoffB i b1 h1 r1 hno) (hH.sepR k2 c2 (by rw [hlk]; exact hc2) (N8.1 r2)).1
  ·have hno1 : ∀ (k v : Nat), ps[k]? ≠ some (i, v) := fun k v hk => hx ⟨k, v, hk⟩
   have hno2 : ∀ (k v : Nat), ps[k]? ≠ some (j, v) := fun k v hk => hy ⟨k, v, hk⟩
   rw [hoff i hno1] at h1
   rw [hoff j hno2] at h2
   rw [hM2 i hno1] at r1 he
   rw [hM2 j hno2] at r2 he
   exact h.injR i j b1 b2 h1 h2 r1 r2 he
 ·by_cases hx : ∃ (j v : Nat), ps[j]? = some (id, v)
  ·obtain ⟨j, v1, hj⟩ := hx
   obtain ⟨b', hb', hs⟩ := hget j id v1 hj
   rw [hat j id v1 b' hj hb'] at hid
   rw [hM1 j id v1 hj]
   rcases hs.here with ⟨v2, cs2, t2, cs', e1, e2, rfl, e4, e5⟩ | ⟨v2, sz, xs, v', sz', xs', e1, e2, rfl, e4⟩ | ⟨es, es', e1, e2, rfl, e4⟩ | ⟨a1, a2, a3⟩
   ·simp only [unB, Option.some.injEq, Box.cells.injEq] at hid
    obtain ⟨rfl, _⟩ := hid
    have := hH.ty j t2 cs' (by rw [hlk]; exact hb')
    unfold TyOk at this ⊢
    rw [e4, e5]
    rw [← e5, Nat.mod_mod, e5] at this
    exact this
   ·simp only [unB, Option.some.injEq, reduceCtorEq] at hid
   ·simp only [unB, Option.some.injEq, reduceCtorEq] at hid
   ·cases b' with
    | cells v3 cs3 =>
     cases a3
     simp only [unB, Option.some.injEq, Box.cells.injEq] at hid
     obtain ⟨rfl, _⟩ := hid
     exact hH.ty j _ cs3 (by rw [hlk]; exact hb')
    | own => simp only [unB, Option.some.injEq, reduceCtorEq] at hid
    | hol => simp only [unB, Option.some.injEq, reduceCtorEq] at hid
    | _ => cases a3
  ·have hno : ∀ (j v : Nat), ps[j]? ≠ some (id, v) := fun j v hj => hx ⟨j, v, hj⟩
   rw [hoff id hno] at hid
   rw [hM2 id hno]
   exact (h.ty id v cs hid).mono (hb.block _ (hoffB id _ hid trivial hno))
end
end HY
end
section
namespace HY
open Go Go.RowKit
def DO (o : Oper) (gv : Option AV) : Option Bool :=
 match o.guard with
 | none => some true
 | some (_, want) => match gv with
  | some x => Wo x want
  | none => none
theorem NS {P : Program} {ch : Y2} {md : Bool} {F : Z4} {all : List Oper} {bid : Nat} {o : Oper} {gv : Option AV} {ev : Operand → AV} {hp : Hp} : Jo P ch md F all bid o gv ev hp = match DO o gv with | some true => xoF P ch md F all bid o ev hp | some false => some (.tup [], none) | none => none := by
 unfold Jo DO
 cases o.guard with
 | none => rfl
 | some x =>
  cases gv with
  | none => rfl
  | some y => first | (simp only; done) | (simp only; cases Wo y x.2 with | none => rfl | some b => cases b <;> rfl)
def W0 (f : AV → (AV → Prop) → Prop) : List AV → (List AV → Prop) → Prop
 | [], K => K []
 | x :: xs, K => f x (fun y => W0 f xs (fun ys => K (y :: ys)))
def Wt (hp : Hp) : Nat → AV → (AV → Prop) → Prop
 | 0, _, _ => False
 | k + 1, x, K => match x with
  | .bs id ver sz off len => match hp id with
   | some (.cells v cs) => match Nat.beq v ver && (Nat.ble (off + len * sz) cs.length && Nat.blt 0 sz) with
    | true => W0 (Wt hp k) ((cs.drop off).take (len * sz)) (fun ds => K (.sl sz (VX sz len ds)))
    | false => False
   | _ => False
  | .ow id ver sz len => match hp id with
   | some (.own v z xs) => match Nat.beq v ver && Nat.beq z sz with
    | true => len = xs.length ∧ K (.sl sz xs)
    | false => False
   | _ => False
  | .agg cs => W0 (Wt hp k) cs (fun ds => K (.agg ds))
  | .tup cs => W0 (Wt hp k) cs (fun ds => K (.tup ds))
  | .fn f cs => W0 (Wt hp k) cs (fun ds => K (.fn f ds))
  | .ptr id ver off => match hp id with
   | some (.cells v cs) => match Nat.beq v ver && Nat.blt 0 cs.length with
    | true => W0 (Wt hp k) cs (fun ds => K (.ip cs.length [.agg ds] 0 off))
    | false => False
   | _ => False
  | .oe .. => False
  | .yld _ => False
  | .mp _ => False
  | x => K x
theorem G0 {R : AV → Value → Prop} {R' : AV → Value → Prop} {f : AV → (AV → Prop) → Prop} (hf : ∀ x u K, R x u → f x K → ∃ t, K t ∧ R' t u) : ∀ (cs : List AV) (us : List Value) (K : List AV → Prop), cs.length ≤ us.length → (∀ (j : Nat) (c : AV) (u : Value), cs[j]? = some c → us[j]? = some u → R c u) → W0 f cs K →
  ∃ ds, K ds ∧ ds.length = cs.length ∧ ∀ (j : Nat) (d : AV) (u : Value), ds[j]? = some d → us[j]? = some u → R' d u
 | [], us, K, _, _, h => ⟨[], h, rfl, fun j d u hj => by simp at hj⟩
 | c :: cs, [], K, hl, _, _ => by simp at hl
 | c :: cs, u :: us, K, hl, hr, h => by
  obtain ⟨t, ht, hR⟩ := hf c u _ (hr 0 c u rfl rfl) h
  obtain ⟨ds, hK, hlen, hds⟩ := G0 hf cs us _ (by simpa using hl) (fun j c' u' h1 h2 => hr (j + 1) c' u' (by simpa using h1) (by simpa using h2)) ht
  refine ⟨t :: ds, hK, by simp [hlen], fun j d u' h1 h2 => ?_⟩
  cases j with
  | zero => simp at h1 h2; subst h1; subst h2; exact hR
  | succ j => exact hds j d u' (by simpa using h1) (by simpa using h2)
theorem bs_tree {K : HV} {E : Env} {H : HV} {w : World} {id ver sz off len : Nat} {cs ds : List AV} {l : Lc} {v : Value} (hx : RV H E (.bs id ver sz off len) v) (hE : E.loc id ver = some l) (hbox : KG H E cs l w) (hle : off + len * sz ≤ cs.length) (hpos : 0 < sz) (hdl : ds.length = len * sz)
  (hget : ∀ (j : Nat) (d : AV) (u : Value), ds[j]? = some d → w.cell? ⟨l.g, l.base + (off + j), none⟩ = some u → RelI K d u) (hK : ∀ o, K l.g o = w.cell? ⟨l.g, o, none⟩) : RelI K (.sl sz (VX sz len ds)) v := by
 obtain ⟨a, cap, rfl, _, hlc, hcm, hloc⟩ := hx.bs_inv
 obtain ⟨rfl, hfit⟩ := hloc _ hE
 obtain ⟨C, e, hC, hsC, hle2, hcs⟩ := hbox
 have hcl : (VX sz len ds).length = len := by simp [VX]
 have hel : ∀ (i : Nat) (x : AV), (VX sz len ds)[i]? = some x → i < len ∧ x = .agg ((ds.drop (i * sz)).take sz) := fun i x hx => by
  have hi : i < len := by rw [← hcl]; exact (List.getElem?_eq_some_iff.1 hx).1
  simp [VX, hi] at hx
  exact ⟨hi, hx.symm⟩
 have hmul : ∀ i, i < len → i * sz + sz ≤ len * sz := fun i hi => by
  have : (i + 1) * sz ≤ len * sz := Nat.mul_le_mul_right _ hi
  rw [Nat.add_mul] at this; omega
 have hcell : ∀ (i : Nat) (x : AV) (j : Nat) (c : AV), (VX sz len ds)[i]? = some x → x.cells[j]? = some c → i < len ∧ j < sz ∧ ds[i * sz + j]? = some c := fun i x j c hx hj => by
  obtain ⟨hi, rfl⟩ := hel i x hx
  simp only [AV.cells] at hj
  have hjl : j < sz := by have := (List.getElem?_eq_some_iff.1 hj).1; simp at this; omega
  rw [List.getElem?_take, if_pos hjl, List.getElem?_drop] at hj
  exact ⟨hi, hjl, hj⟩
 have hreal : ∀ (n : Nat) (c : AV), ds[n]? = some c → ∃ u, C[l.base + off + n]? = some u ∧ u.oneCell' = true ∧ RelI K c u := fun n c hn => by
  have hnl : n < len * sz := by rw [← hdl]; exact (List.getElem?_eq_some_iff.1 hn).1
  have hcn : cs[off + n]? = some (cs[off + n]'(by omega)) := List.getElem?_eq_getElem (by omega)
  obtain ⟨u, a1, a2, a3⟩ := hcs _ _ hcn
  exact ⟨u, by rw [Nat.add_assoc]; exact a1, a2, hget n c u hn (by rw [Xw _ _ _ _ _ _ hC]; exact a1)⟩
 have := RelI.sl (H := K) sz (VX sz len ds) l.g (l.base + off) cap (fun i j => (C[l.base + off + (i * sz + j)]?).getD Go.undef) hpos (by rw [hcl]; exact hlc) hcm
  (fun i x hx => by
   obtain ⟨hi, rfl⟩ := hel i x hx
   have := hmul i hi
   simp [AV.cells]; omega)
  (fun i x j c hx hj => by
   obtain ⟨hi, hjl, hn⟩ := hcell i x j c hx hj
   obtain ⟨u, a1, a2, a3⟩ := hreal _ c hn
   rw [a1]
   refine ⟨?_, a2⟩
   rw [hK, Xw _ _ _ _ _ _ hC, Nat.add_assoc, a1]
   rfl)
  (fun i x j c hx hj => by
   obtain ⟨hi, hjl, hn⟩ := hcell i x j c hx hj
   obtain ⟨u, a1, a2, a3⟩ := hreal _ c hn
   rw [a1]; exact a3)
 rw [hcl] at this
 exact this
theorem Ht {H : HV} {hp : Hp} {m : Nat → Lc} {w : World} (hbox : ∀ id b, hp id = some b → Y1 H (Q5 hp m) b (m id) w) (hd : ∀ id bx, hp id = some bx → Real bx (m id) → ∀ o, H (m id).g o = none) : ∀ (k : Nat) (x : AV) (v : Value) (K : AV → Prop), RV H (Q5 hp m) x v → Wt hp k x K → ∃ t, K t ∧ RelI (snap H hp m w) t v
 | 0, x, v, K, _, h => h.elim
 | k + 1, x, v, K, hx, h => by
  have ih := Ht hbox hd k
  have hle : HV.le H (snap H hp m w) := Me hd
  have hsn : ∀ id b ver, hp id = some b → b.ver? = some ver → Real b (m id) → ∀ o, snap H hp m w (m id).g o = w.cell? ⟨(m id).g, o, none⟩ := fun id b ver hid hv hr o => by
   unfold snap; rw [if_pos ⟨id, b, ver, hid, hv, hr, rfl⟩]
  unfold Wt at h
  split at h
  ·rename_i id ver sz off len
   split at h
   ·rename_i v' cs hid
    split at h
    ·rename_i hc
     simp only [Bool.and_eq_true] at hc
     obtain rfl := Nat.eq_of_beq_eq_true hc.1
     have hle' := Nat.le_of_ble_eq_true hc.2.1
     have hpos : 0 < sz := Nat.le_of_ble_eq_true hc.2.2
     have hb := hbox id _ hid
     obtain ⟨C, e, hC, hsC, hle2, hcs⟩ := hb
     obtain ⟨ds, hK, hdl, hds⟩ := G0 (R := RV H (Q5 hp m)) (R' := RelI (snap H hp m w)) ih ((cs.drop off).take (len * sz)) ((List.range (len * sz)).map fun j => (C[(m id).base + (off + j)]?).getD Go.undef) _ (by simp; omega) (fun j c u hc hu => by
      have hjl : j < len * sz := by have := (List.getElem?_eq_some_iff.1 hu).1; simpa using this
      rw [List.getElem?_take, if_pos hjl, List.getElem?_drop] at hc
      obtain ⟨u', a1, _, a3⟩ := hcs _ c hc
      simp [hjl, a1] at hu
      subst hu; exact a3) h
     have hdl' : ds.length = len * sz := by rw [hdl]; simp; omega
     refine ⟨_, hK, bs_tree hx (Ji hid rfl) ⟨C, e, hC, hsC, hle2, hcs⟩ hle' hpos hdl' (fun j d u hj hu => ?_) (hsn id _ _ hid rfl trivial)⟩
     have hjl : j < len * sz := by rw [← hdl']; exact (List.getElem?_eq_some_iff.1 hj).1
     rw [Xw _ _ _ _ _ _ hC] at hu
     exact hds j d u hj (by simp [hjl, hu])
    ·cases h
   ·cases h
  ·rename_i id ver sz len
   split at h
   ·rename_i v' z xs hid
    split at h
    ·rename_i hc
     rw [Bool.and_eq_true] at hc
     obtain rfl := Nat.eq_of_beq_eq_true hc.1
     obtain rfl := Nat.eq_of_beq_eq_true hc.2
     obtain ⟨hl, hK⟩ := h
     exact ⟨_, hK, MM (w := w) hx (Ji hid rfl) (hbox id _ hid) hl hle fun h0 o => hsn id _ _ hid rfl h0 o⟩
    ·cases h
   ·cases h
  ·rename_i cs
   obtain ⟨vs, rfl, h1, h2, h3⟩ := hx.agg_inv
   obtain ⟨ds, hK, hdl, hds⟩ := G0 (R := RV H (Q5 hp m)) (R' := RelI (snap H hp m w)) ih cs vs.toList _ (by simp [h1]) (fun j c u hc hu => h3 j c u hc (by simpa using hu)) h
   exact ⟨_, hK, .agg ds vs (by rw [hdl]; exact h1) h2 fun j c u hj hu => hds j c u hj (by simpa using hu)⟩
  ·rename_i cs
   obtain ⟨vs, rfl, h1, h3⟩ := hx.tup_inv
   obtain ⟨ds, hK, hdl, hds⟩ := G0 (R := RV H (Q5 hp m)) (R' := RelI (snap H hp m w)) ih cs vs.toList _ (by simp [h1]) (fun j c u hc hu => h3 j c u hc (by simpa using hu)) h
   exact ⟨_, hK, .tup ds vs (by rw [hdl]; exact h1) fun j c u hj hu => hds j c u hj (by simpa using hu)⟩
  ·rename_i f cs
   obtain ⟨vs, rfl, h1, h3⟩ := hx.fn_inv
   obtain ⟨ds, hK, hdl, hds⟩ := G0 (R := RV H (Q5 hp m)) (R' := RelI (snap H hp m w)) ih cs vs.toList _ (by simp [h1]) (fun j c u hc hu => h3 j c u hc (by simpa using hu)) h
   exact ⟨_, hK, .fn f ds vs (by rw [hdl]; exact h1) fun j c u hj hu => hds j c u hj (by simpa using hu)⟩
  ·rename_i id ver off
   split at h
   ·rename_i v' cs hid
    split at h
    ·rename_i hc
     simp only [Bool.and_eq_true] at hc
     obtain rfl := Nat.eq_of_beq_eq_true hc.1
     have hpos : 0 < cs.length := Nat.le_of_ble_eq_true hc.2
     obtain ⟨C, e, hC, hsC, hle2, hcs⟩ := hbox id _ hid
     obtain ⟨ds, hK, hdl, hds⟩ := G0 (R := RV H (Q5 hp m)) (R' := RelI (snap H hp m w)) ih cs ((List.range cs.length).map fun j => (C[(m id).base + j]?).getD Go.undef) _ (by simp) (fun j c u hc hu => by
      have hjl : j < cs.length := by have := (List.getElem?_eq_some_iff.1 hu).1; simpa using this
      obtain ⟨u', a1, _, a3⟩ := hcs _ c hc
      simp [hjl, a1] at hu
      subst hu; exact a3) h
     obtain ⟨a, rfl, _, hloc⟩ := hx.ptr_inv
     obtain rfl := hloc _ (Ji hid rfl)
     have hone : ∀ (i : Nat) (x : AV), [AV.agg ds][i]? = some x → i = 0 ∧ x = .agg ds := fun i x hx => by
      cases i with
      | zero => simp at hx; exact ⟨rfl, hx.symm⟩
      | succ i => simp at hx
     have hcell : ∀ (i : Nat) (x : AV) (j : Nat) (c : AV), [AV.agg ds][i]? = some x → x.cells[j]? = some c → i = 0 ∧ j < cs.length ∧ ds[j]? = some c := fun i x j c hx hj => by
      obtain ⟨rfl, rfl⟩ := hone i x hx
      exact ⟨rfl, by rw [← hdl]; exact (List.getElem?_eq_some_iff.1 hj).1, hj⟩
     have hreal : ∀ (j : Nat) (c : AV), j < cs.length → ds[j]? = some c → ∃ u, C[(m id).base + j]? = some u ∧ u.oneCell' = true ∧ RelI (snap H hp m w) c u := fun j c hj hc => by
      obtain ⟨u, a1, a2, _⟩ := hcs j _ (List.getElem?_eq_getElem hj)
      exact ⟨u, a1, a2, hds j c u hc (by simp [hj, a1])⟩
     have := RelI.ip (H := snap H hp m w) cs.length [.agg ds] (m id).g (m id).base 0 off (fun _ j => (C[(m id).base + j]?).getD Go.undef) hpos (by simp)
      (fun i x hx => by obtain ⟨_, rfl⟩ := hone i x hx; exact hdl)
      (fun i x j c hx hj => by
       obtain ⟨rfl, hjl, hn⟩ := hcell i x j c hx hj
       obtain ⟨u, a1, a2, a3⟩ := hreal j c hjl hn
       rw [a1]
       refine ⟨?_, a2⟩
       rw [hsn id _ _ hid rfl trivial, Xw _ _ _ _ _ _ hC, Nat.zero_mul, Nat.add_zero, a1]
       rfl)
      (fun i x j c hx hj => by
       obtain ⟨rfl, hjl, hn⟩ := hcell i x j c hx hj
       obtain ⟨u, a1, a2, a3⟩ := hreal j c hjl hn
       rw [a1]; exact a3)
     rw [Nat.zero_mul, Nat.add_zero] at this
     exact ⟨_, hK, this⟩
    ·cases h
   ·cases h
  ·cases h
  ·cases h
  ·cases h
  ·rename_i x n1 n2 n3 n4 n5 n6 n7 n8 n9
   refine ⟨_, h, ?_⟩
   cases hx with
   | imm _ _ hx => exact hx.mono hle
   | ptr => exact absurd rfl (n6 _ _ _)
   | bs => exact absurd rfl (n1 _ _ _ _ _)
   | ow => exact absurd rfl (n2 _ _ _ _)
   | oe => exact absurd rfl (n7 _ _ _ _ _)
   | yld => exact absurd rfl (n8 _)
   | mp => exact absurd rfl (n9 _)
   | fn => exact absurd rfl (n5 _ _)
   | agg => exact absurd rfl (n3 _)
   | tup => exact absurd rfl (n4 _)
end HY
end
section
namespace HY
open Go Go.RowKit
theorem TU {H : HV} {m : Nat → Lc} : ∀ {x : AV} {v : Value}, RV H (Q5 (lkb .nil) m) x v → RelI H x v := by
  intro x v h
  induction h with
  | imm _ _ h => exact h
  | ptr id ver off a hal => obtain ⟨b, hb, _⟩ := hal; rw [Zm] at hb; cases hb
  | bs id ver sz off len a cap hal => obtain ⟨b, hb, _⟩ := hal; rw [Zm] at hb; cases hb
  | ow id ver sz len a cap hal => obtain ⟨b, hb, _⟩ := hal; rw [Zm] at hb; cases hb
  | oe id ver sz i off a hal => obtain ⟨b, hb, _⟩ := hal; rw [Zm] at hb; cases hb
  | yld id l hl => simp [Q5, Zm] at hl
  | mp id l hl => simp [Q5, Zm] at hl
  | fn f cs vs h _ ih => exact .fn f cs vs h ih
  | agg cs vs h h1 _ ih => exact .agg cs vs h h1 ih
  | tup cs vs h _ ih => exact .tup cs vs h ih
structure LeT (x t : AV) : Prop where
  ok : ∀ (H : HV) (v : Value), RelI H x v → RelI H t v
theorem LeT.refl (x : AV) : LeT x x := ⟨fun _ _ h => h⟩
theorem LeT.nil (sz : Nat) : LeT .nil (.sl sz []) := ⟨fun H v h => by cases h; exact .sl0 _ _ _ (Nat.zero_le _)⟩
theorem LeT.undef (x : AV) : LeT x .undef := ⟨fun _ _ _ => .undef _⟩
inductive LeL : List AV → List AV → Prop
  | nil : LeL [] []
  | cons {x t : AV} {xs ts : List AV} : LeT x t → LeL xs ts → LeL (x :: xs) (t :: ts)
theorem LeL.get : ∀ {xs ts : List AV}, LeL xs ts → xs.length = ts.length ∧ ∀ (j : Nat) (t : AV), ts[j]? = some t → ∃ x, xs[j]? = some x ∧ LeT x t
  | _, _, .nil => ⟨rfl, fun j t h => by simp at h⟩
  | _, _, .cons h r => ⟨by simp [r.get.1], fun j t' hj => by
    cases j with
    | zero => simp at hj; subst hj; exact ⟨_, rfl, h⟩
    | succ j => simpa using r.get.2 j t' (by simpa using hj)⟩
theorem LeL.refl : ∀ (xs : List AV), LeL xs xs
  | [] => .nil
  | x :: xs => .cons (.refl x) (LeL.refl xs)
theorem LeT.agg {xs ts : List AV} (h : LeL xs ts) : LeT (.agg xs) (.agg ts) := ⟨fun H v hv => by
  obtain ⟨h1, h2⟩ := h.get
  cases hv with
  | agg _ vs a b c =>
    exact .agg _ vs (by rw [← h1]; exact a) b fun j t u hj hu => by
      obtain ⟨x, hx, hle⟩ := h2 j t hj
      exact hle.ok H u (c j x u hx hu)⟩
theorem LeT.tup {xs ts : List AV} (h : LeL xs ts) : LeT (.tup xs) (.tup ts) := ⟨fun H v hv => by
  obtain ⟨h1, h2⟩ := h.get
  cases hv with
  | tup _ vs a c =>
    exact .tup _ vs (by rw [← h1]; exact a) fun j t u hj hu => by
      obtain ⟨x, hx, hle⟩ := h2 j t hj
      exact hle.ok H u (c j x u hx hu)⟩
theorem Pu.le {P : Program} {gl : Nat → AV} {f : Nat} {args args' : List AV} {r r' : AV} (h : Pu P gl f args' r) (ha : LeL args args') (hr : LeT r r') : Pu P gl f args r' := ⟨fun m H B H0 w vs hh hl hv => by
  obtain ⟨h1, h2⟩ := ha.get
  refine (h.ok m H B H0 w vs hh (by rw [← h1]; exact hl) fun j x v hx hv' => ?_).mono fun e w' ⟨v, m', H', a, b, c, d⟩ => ⟨v, m', H', a, b, c, .imm _ _ (hr.ok _ _ (TU d))⟩
  obtain ⟨y, hy, hle⟩ := h2 j x hx
  exact .imm _ _ (hle.ok _ _ (TU (hv j y v hy hv')))⟩
def K8 : Nat → List Box → List AV
  | _, [] => []
  | j, b :: r => match b with
    | .cells t _ => .ptr j t 0 :: K8 (j + 1) r
    | .mapI _ => .mp j :: K8 (j + 1) r
    | _ => K8 (j + 1) r
def Gh (m : Nat → Lc) : Nat → List Box → List (AV × Value)
  | _, [] => []
  | j, b :: r => match b with
    | .cells t _ => (.ptr j t 0, .pointer (some ⟨(m j).g, (m j).base, none⟩)) :: Gh m (j + 1) r
    | .mapI _ => (.mp j, .map (some (m j).g)) :: Gh m (j + 1) r
    | _ => Gh m (j + 1) r
theorem Rh {m : Nat → Lc} : ∀ (j : Nat) (bs : List Box), (Gh m j bs).map (·.1) = K8 j bs
  | _, [] => rfl
  | j, b :: r => by
    cases b <;> simp only [Gh, K8, List.map_cons, Rh (j + 1) r]
theorem Ri {m : Nat → Lc} : ∀ (k : Nat) (bs : List Box) (p : AV × Value), p ∈ Gh m k bs → (∃ j t cs, bs[j]? = some (.cells t cs) ∧ p = (.ptr (k + j) t 0, .pointer (some ⟨(m (k + j)).g, (m (k + j)).base, none⟩))) ∨ ∃ j es, bs[j]? = some (.mapI es) ∧ p = (.mp (k + j), .map (some (m (k + j)).g))
  | _, [], p, h => by simp [Gh] at h
  | k, b :: r, p, h => by
    have tl : p ∈ Gh m (k + 1) r → (∃ j t cs, (b :: r)[j]? = some (.cells t cs) ∧ p = (.ptr (k + j) t 0, .pointer (some ⟨(m (k + j)).g, (m (k + j)).base, none⟩))) ∨ ∃ j es, (b :: r)[j]? = some (.mapI es) ∧ p = (.mp (k + j), .map (some (m (k + j)).g)) := fun h => by
      rcases Ri (k + 1) r p h with ⟨j, t, cs, h1, h2⟩ | ⟨j, es, h1, h2⟩
      · refine .inl ⟨j + 1, t, cs, by simpa using h1, ?_⟩
        rw [show k + (j + 1) = k + 1 + j by omega]; exact h2
      · refine .inr ⟨j + 1, es, by simpa using h1, ?_⟩
        rw [show k + (j + 1) = k + 1 + j by omega]; exact h2
    cases b with
    | cells t cs =>
      simp only [Gh, List.mem_cons] at h
      rcases h with rfl | h
      · exact .inl ⟨0, t, cs, rfl, rfl⟩
      · exact tl h
    | mapI es =>
      simp only [Gh, List.mem_cons] at h
      rcases h with rfl | h
      · exact .inr ⟨0, es, rfl, rfl⟩
      · exact tl h
    | _ => exact tl h
theorem Hk {m : Nat → Lc} : ∀ (k : Nat) (bs : List Box) (j : Nat), (∀ (t : Nat) (cs : List AV), bs[j]? = some (.cells t cs) → ((.ptr (k + j) t 0, .pointer (some ⟨(m (k + j)).g, (m (k + j)).base, none⟩)) : AV × Value) ∈ Gh m k bs) ∧ ∀ es, bs[j]? = some (.mapI es) → ((.mp (k + j), .map (some (m (k + j)).g)) : AV × Value) ∈ Gh m k bs
  | _, [], j => ⟨fun t cs h => by simp at h, fun es h => by simp at h⟩
  | k, b :: r, j => by
    cases j with
    | zero => exact ⟨fun t cs h => by simp at h; subst h; exact List.mem_cons_self, fun es h => by simp at h; subst h; exact List.mem_cons_self⟩
    | succ j =>
      have ih := Hk (m := m) (k + 1) r j
      rw [show k + 1 + j = k + (j + 1) by omega] at ih
      refine ⟨fun t cs h => ?_, fun es h => ?_⟩
      · have := ih.1 t cs (by simpa using h)
        cases b <;> first | exact List.mem_cons_of_mem _ this | exact this
      · have := ih.2 es (by simpa using h)
        cases b <;> first | exact List.mem_cons_of_mem _ this | exact this
structure PuH (P : Program) (gl : Nat → AV) (f : Nat) (args : List AV) (bs : List Box) (r : AV) (bs' : List Box) : Prop where
  ok : ∀ (m : Nat → Lc) (H : HV) (B : Nat → Prop) (H0 : HV) (rest : List (AV × Value)) (w : World) (vs : Array Value), RelH m H B H0 gl (lkb (hpOf 0 bs)) bs.length w → args.length = vs.size →
    (∀ (j : Nat) (x : AV) (v : Value), args[j]? = some x → vs[j]? = some v → RV H (Q5 (lkb (hpOf 0 bs)) m) x v) → rest.map (·.1) = K8 0 bs → (∀ p ∈ rest, RV H (Q5 (lkb (hpOf 0 bs)) m) p.1 p.2) →
    Ans P f vs w fun e w' => ∃ v m' H', e = .returned v ∧ Q8 B w w' ∧ RelH m' H' B H0 gl (lkb (hpOf 0 bs')) bs'.length w' ∧ RV H' (Q5 (lkb (hpOf 0 bs')) m') r v ∧ ∀ p ∈ rest, RV H' (Q5 (lkb (hpOf 0 bs')) m') p.1 p.2
theorem PuH.zero {P : Program} {gl : Nat → AV} {f : Nat} {args : List AV} {r : AV} {bs' : List Box} (h : PuH P gl f args [] r bs') : KW P gl f args r (hpOf 0 bs') bs'.length := fun m H B H0 w vs hh hl hv =>
  (h.ok m H B H0 [] w vs hh hl hv rfl (fun p hp => by simp at hp)).mono fun e w' ⟨v, m', H', a, b, c, d, _⟩ => ⟨v, m', H', a, b, c, d⟩
def wgive1 (kb : List KB) (n : Nat) (Q : List AV → List Box → List Nat → St → Prop) (sc : St) : Prop :=
  match nodN (Kt sc kb) with
  | true => match MS (lkb sc.hp) (Kt sc kb) (Kt sc kb) with
    | some bs => Q ((List.range n).map fun k => ren (lkb sc.hp) (Kt sc kb) 12 (sc.get k)) bs (Kt sc kb) sc
    | none => False
  | false => False
def T2 (kb : List KB) (args : List AV) (hp : Tr Box) (nx : Nat) (Q : List AV → List Box → List Nat → St → Prop) : Prop :=
  K7 kb ⟨args.length, YS 0 args, hp, nx⟩ (wgive1 kb args.length Q)
def Ef (ids : List Nat) (sc : St) (bs' : List Box) (r : AV) (K : AV → Tr Box → Nat → Prop) : Prop :=
  match CB (lkb sc.hp) ids bs' sc.nx with
  | some ps => K (mapR (gB ps bs') 12 r) (Ul (gB ps bs') sc.hp ps bs') (sc.nx + (bs'.length - ids.length))
  | none => False
section
variable {P : Program} {gl : Nat → AV} {m : Nat → Lc} {H : HV} {B : Nat → Prop} {H0 : HV} {rest : List (AV × Value)} {st : St} {a : Act} {w : World}
theorem Tf (h : RelS m H B H0 gl rest st a.tmps w) {dst : Option Nat} (hd : QV dst st.n = true) {f : Nat} {args : List AV} {vs : Array Value} (hl : args.length = vs.size) (hv : ∀ (j : Nat) (x : AV) (v : Value), args[j]? = some x → vs[j]? = some v → RV H (st.env m) x v)
    {kb : List KB} {K : St → Prop} {Q : List AV → List Box → List Nat → St → Prop}
    (hQ : ∀ args1 bs1 ids sc, Q args1 bs1 ids sc → ∃ r bs', PuH P gl f args1 bs1 r bs' ∧ Ef ids sc bs' r (fun rr hp' nx' => K ((st.setHp hp' nx').putO dst rr)))
    (hw : T2 kb args st.hp st.nx Q) :
    Ans P f vs w fun e w' => ∃ st' v m' H', K st' ∧ e = .returned v ∧ Q8 B w w' ∧ RelS m' H' B H0 gl rest st' (a.put dst v).tmps w' := by
  unfold T2 at hw
  obtain ⟨sc, hconv, hw⟩ := XT (gl := gl) hw
  have hsc0 : RelS m H B H0 gl ((List.range st.n).map (fun k => (st.get k, a.tmps.getD k Go.undef)) ++ rest) ⟨args.length, YS 0 args, st.hp, st.nx⟩ vs w := by
    refine ⟨h.heap, hl.symm, fun k => ?_, h.hold⟩
    show RV H _ (lk .undef (YS 0 args) k) _
    rw [Dg, if_pos (Nat.zero_le _), Nat.sub_zero]
    cases hx : args[k]? with
    | none => exact .imm _ _ (.undef _)
    | some x =>
      have hk : k < vs.size := by rw [← hl]; exact (List.getElem?_eq_some_iff.1 hx).1
      rw [show vs.getD k Go.undef = vs[k] by rw [Array.getD_eq_getD_getElem?, Array.getElem?_eq_getElem hk]; rfl]
      exact hv k x _ hx (Array.getElem?_eq_getElem hk)
  obtain ⟨m1, H1, hs⟩ := hconv.2 m H B H0 _ vs w hsc0
  unfold wgive1 at hw
  split at hw
  · rename_i hnod
    split at hw
    · rename_i bs hbs
      generalize hids : Kt sc kb = ids at *
      obtain ⟨r, bs', hPu, hback⟩ := hQ _ _ _ _ hw
      unfold Ef at hback
      split at hback
      · rename_i ps hps
        have hBB := hs.heap.offB ids
        obtain ⟨hsub, hren⟩ := hs.heap.sub (B' := OffB (lkb sc.hp) m1 ids w) (H1 := H1) hnod hbs (fun _ _ _ => rfl) (fun _ hk => hk.1) (fun j id b hj hb hr hB => hB.2 j id b hj hb hr rfl) (fun g sz cs hg => let ⟨h1, h2⟩ := hs.heap.gv g sz cs hg; ⟨hBB g h1, h2⟩)
        generalize hm0 : (fun (j : Nat) => m1 ((ids[j]?).getD 0)) = m0 at hsub hren
        have hlk : ∀ j, lkb (hpOf 0 bs) j = bs[j]? := fun j => by rw [Dh]; simp
        have hlk' : ∀ j, lkb (hpOf 0 bs') j = bs'[j]? := fun j => by rw [Dh]; simp
        refine (hPu.ok m0 H1 _ H1 (Gh m0 0 bs) w vs hsub (by simpa using hl) (fun j x v hx hv' => ?_) (Rh 0 bs) (fun p hp => ?_)).mono fun e w' hpost => ?_
        · have hjl : j < args.length := by have := (List.getElem?_eq_some_iff.1 hx).1; simpa using this
          simp [hjl] at hx
          subst hx
          have := hs.slot j
          rw [show vs.getD j Go.undef = v by rw [Array.getD_eq_getD_getElem?, hv']; rfl] at this
          exact hren 12 _ _ this
        · rcases Ri 0 bs p hp with ⟨j, t, cs, h1, rfl⟩ | ⟨j, es, h1, rfl⟩ <;> rw [Nat.zero_add]
          · have hb : lkb (hpOf 0 bs) j = some (.cells t cs) := by rw [hlk]; exact h1
            refine .ptr _ _ _ _ (RS hb rfl) fun l hl => ?_
            rw [Ji hb rfl] at hl; cases hl; rfl
          · exact .mp _ _ (by simp [Q5, hlk, h1])
        · obtain ⟨v, m', H', rfl, hbl, hH, hrv, hpins⟩ := hpost
          have hpin : ∀ (j id v : Nat) (cs : List AV), ids[j]? = some id → lkb sc.hp id = some (.cells v cs) → m' j = m1 id := fun j id v cs hj hid => by
            obtain ⟨hblen, hbget⟩ := MT hbs
            obtain ⟨b0, b1, e1, e2, e3⟩ := hbget j id hj
            rw [hid] at e1; cases e1
            rcases MR e2 with ⟨v1, cs1, e4, rfl⟩ | ⟨_, _, _, e4, _⟩ | ⟨_, _, _, _, _, _, e4, _⟩ | ⟨_, e4, _⟩
            · cases e4
              obtain ⟨hlen, hle, hspec⟩ := DJ hps
              have hjl := (List.getElem?_eq_some_iff.1 hj).1
              have hjb : j < bs'.length := by omega
              have hjp : j < ps.length := by omega
              have hs' := hspec j ps[j].1 ps[j].2 bs'[j] (List.getElem?_eq_getElem hjp) (List.getElem?_eq_getElem hjb)
              rcases hs'.here with ⟨v2, cs2, t2, cs', f1, f2, f3, f4, f5⟩ | ⟨v2, sz, xs, v', sz', xs', f1, f2, f3, f4⟩ | ⟨es, es', f1, f2, f3, f4⟩ | ⟨a1, _, _⟩
              · rw [hj] at f1; injection f1 with f1
                rw [← f1, hid] at f2; cases f2
                have hb' : lkb (hpOf 0 bs') j = some (.cells t2 cs') := by rw [hlk', List.getElem?_eq_getElem hjb, f3]
                have hp := hpins _ ((Hk (m := m0) 0 bs j).1 _ _ e3)
                rw [Nat.zero_add] at hp
                obtain ⟨ad, hade, _, hloc⟩ := hp.ptr_inv
                have hm0j : m0 j = m1 id := by rw [← hm0]; simp [hj]
                have := hloc (m' j) (by rw [f5]; exact Ji hb' rfl)
                simp only [Value.pointer.injEq, Option.some.injEq] at hade
                subst hade
                simp only [Addr.mk.injEq] at this
                obtain ⟨g1, g2, _⟩ := this
                rw [hm0j] at g1 g2
                obtain ⟨C, e, c1, c2, _, _⟩ := hs.heap.box id _ hid
                obtain ⟨C1, e1', d1, d2, _, _⟩ := hH.box j _ hb'
                obtain ⟨C2, fr2, k1, k2⟩ := hbl.rows _ C e _ c1
                rw [← g1] at d1
                rw [d1] at k1; cases k1
                have hsz : (m' j).size = (m1 id).size := by rw [← d2, ← c2]; exact k2
                cases hmj : m' j with
                | mk a b c => cases hmi : m1 id with
                  | mk a' b' c' =>
                    rw [hmj] at g1 g2 hsz
                    rw [hmi] at g1 g2 hsz
                    simp only [Nat.add_zero] at g2
                    simp only at g1 hsz
                    rw [g1, g2, hsz]
              · rw [hj] at f1; injection f1 with f1
                rw [← f1, hid] at f2; cases f2
              · rw [hj] at f1; injection f1 with f1
                rw [← f1, hid] at f2; cases f2
              · omega
            · cases e4
            · cases e4
            · cases e4
          have hpinM : ∀ (j id : Nat) (es : List (List UInt8 × Int)), ids[j]? = some id → lkb sc.hp id = some (.mapI es) → (m' j).g = (m1 id).g := fun j id es hj hid => by
            obtain ⟨hblen, hbget⟩ := MT hbs
            obtain ⟨b0, b1, e1, e2, e3⟩ := hbget j id hj
            rw [hid] at e1; cases e1
            cases e2
            obtain ⟨hlen, hle, hspec⟩ := DJ hps
            have hjl := (List.getElem?_eq_some_iff.1 hj).1
            have hjb : j < bs'.length := by omega
            have hjp : j < ps.length := by omega
            have hs' := hspec j ps[j].1 ps[j].2 bs'[j] (List.getElem?_eq_getElem hjp) (List.getElem?_eq_getElem hjb)
            have hp := hpins _ ((Hk (m := m0) 0 bs j).2 _ e3)
            rw [Nat.zero_add] at hp
            obtain ⟨l, hl1, hl2⟩ := hp.mp_inv
            have hm0j : m0 j = m1 id := by rw [← hm0]; simp [hj]
            simp only [Value.map.injEq, Option.some.injEq] at hl1
            rcases hs'.here with ⟨v2, cs2, t2, cs', f1, f2, f3, f4, f5⟩ | ⟨v2, sz, xs, v', sz', xs', f1, f2, f3, f4⟩ | ⟨es1, es', f1, f2, f3, f4⟩ | ⟨a1, _, _⟩
            · rw [hj] at f1; injection f1 with f1
              rw [← f1, hid] at f2; cases f2
            · rw [hj] at f1; injection f1 with f1
              rw [← f1, hid] at f2; cases f2
            · have hb' : lkb (hpOf 0 bs') j = some (.mapI es') := by rw [hlk', List.getElem?_eq_getElem hjb, f3]
              simp only [Q5, hb', Option.some.injEq] at hl2
              rw [hl2, ← hl1, hm0j]
            · omega
          obtain ⟨M, hR, hE, hHle, hun, hbB⟩ := back_ok hs.heap hnod hps hH hbl hpin hpinM
          exact ⟨_, v, M, H', hback, rfl, hbB, h.taken hd hR (hun r v hrv) fun p hp => (hs.rest p hp).mono hHle hE⟩
      · cases hback
    · cases hw
  · cases hw
theorem FT (h : RelS m H B H0 gl rest st a.tmps w) {dst : Option Nat} (hd : QV dst st.n = true) {f : Nat} {ts : List AV} {vs : Array Value} (hl : ts.length = vs.size) (hv : ∀ (j : Nat) (x : AV) (v : Value), ts[j]? = some x → vs[j]? = some v → RelI H x v) {r : AV} (hp : Pu P gl f ts r) :
    Ans P f vs w fun e w' => ∃ v m' H', e = .returned v ∧ Q8 B w w' ∧ RelS m' H' B H0 gl rest (st.putO dst r) (a.put dst v).tmps w' := by
  have h0 : RelH m H (fun k => k < w.heap.size) H gl (lkb .nil) 0 w :=
    { sat := h.heap.sat, old := fun _ _ _ => rfl, low := fun _ hk => hk, fresh := fun _ _ => Zm _, box := (fun _ _ hh => by rw [Zm] at hh; cases hh), sepR := (fun _ _ hh => by rw [Zm] at hh; cases hh), injR := (fun _ _ _ _ hh => by rw [Zm] at hh; cases hh), gl := h.heap.gl, ty := (fun _ _ _ hh => by rw [Zm] at hh; cases hh), gv := fun g sz cs hg => let ⟨h1, h2⟩ := h.heap.gv g sz cs hg; ⟨h.heap.low _ h1, h2⟩ }
  refine (hp.ok m H _ H w vs h0 hl (fun j x v hx hv' => .imm _ _ (hv j x v hx hv'))).mono fun e w' hpost => ?_
  obtain ⟨v, m', H', rfl, hbl, hH, hrv⟩ := hpost
  obtain ⟨hA, hleA⟩ := h.after hbl.toB H' hH.sat
  refine ⟨v, m, _, rfl, hbl.mono h.heap.low, hA.putO hd (.imm _ _ ((TU hrv).mono fun b o u hu => ?_))⟩
  by_cases hlt : b < w.heap.size
  · simp only [if_pos hlt]; rw [← hH.old b o hlt]; exact hu
  · simp only [if_neg hlt]; exact hu
end
end HY
end
section
namespace HY
open Go Go.RowKit
structure LeV (x t : AV) : Prop where
 ok : ∀ (H : HV) (E : Env) (v : Value), RV H E x v → RV H E t v
structure St.Same (s t : St) : Prop where
 n : s.n = t.n
 nx : s.nx = t.nx
 get : ∀ k, s.get k = t.get k
 hp : lkb s.hp = lkb t.hp
def wnrm {α : Type} (sh : α → AV) (s : Nat) (st : St) (K : St → Prop) : Prop :=
 match st.get s with
 | .int k m => ∃ n, n = m ∧ K ⟨st.n, pt st.sl s (.int k n), st.hp, st.nx⟩
 | .str t => ∃ u, u = t ∧ K ⟨st.n, pt st.sl s (.str u), st.hp, st.nx⟩
 | .bool t => ∃ u, u = t ∧ K ⟨st.n, pt st.sl s (.bool u), st.hp, st.nx⟩
 | .ow id ver sz len => match lkb st.hp id with
  | some (.own v z xs) => ∃ l : List α, (List.map sh l = xs ∧ l.length = len) ∧ K ⟨st.n, pt st.sl s (.ow id ver sz l.length), pt st.hp id (.own v z (List.map sh l)), st.nx⟩
  | _ => False
 | .oe id _ _ _ _ => match lkb st.hp id with
  | some (.own v z xs) => ∃ l : List α, List.map sh l = xs ∧ K ⟨st.n, st.sl, pt st.hp id (.own v z (List.map sh l)), st.nx⟩
  | _ => False
 | .tup [] => K st
 | .undef => K st
 | v => ∃ x : α, LeV v (sh x) ∧ K ⟨st.n, pt st.sl s (sh x), st.hp, st.nx⟩
theorem If {st : St} {s : Nat} {x y : AV} (h : st.get s = x) (e : y = x) : St.Same ⟨st.n, pt st.sl s y, st.hp, st.nx⟩ st where
 n := rfl
 nx := rfl
 get k := by
  show lk .undef (pt st.sl s y) k = _
  rw [JI]
  split
  ·simp_all
  ·rfl
 hp := rfl
theorem A7 {st : St} {id : Nat} {b b' : Box} (h : lkb st.hp id = some b) (e : b' = b) : St.Same ⟨st.n, st.sl, pt st.hp id b', st.nx⟩ st where
 n := rfl
 nx := rfl
 get k := rfl
 hp := by
  show lkb (pt st.hp id b') = _
  rw [Z1]
  grind [updF]
theorem St.Same.trans {a b c : St} (h : St.Same a b) (k : St.Same b c) : St.Same a c := ⟨h.n.trans k.n, h.nx.trans k.nx, fun i => (h.get i).trans (k.get i), h.hp.trans k.hp⟩
structure St.Tell (gl : Nat → AV) (s t : St) : Prop where
 n : s.n = t.n
 rel : ∀ (m : Nat → Lc) (H : HV) (B : Nat → Prop) (H0 : HV) (rest : List (AV × Value)) (tmps : Array Value) (w : World), RelS m H B H0 gl rest t tmps w → RelS m H B H0 gl rest s tmps w
theorem St.Tell.refl (gl : Nat → AV) (s : St) : St.Tell gl s s := ⟨rfl, fun _ _ _ _ _ _ _ h => h⟩
theorem St.Tell.trans {gl : Nat → AV} {a b c : St} (h : St.Tell gl a b) (k : St.Tell gl b c) : St.Tell gl a c := ⟨h.n.trans k.n, fun _ _ _ _ _ _ _ r => h.rel _ _ _ _ _ _ _ (k.rel _ _ _ _ _ _ _ r)⟩
theorem RelS.same {m : Nat → Lc} {H : HV} {B : Nat → Prop} {H0 : HV} {gl : Nat → AV} {rest : List (AV × Value)} {s t : St} {tmps : Array Value} {w : World} (h : RelS m H B H0 gl rest t tmps w) (e : St.Same s t) : RelS m H B H0 gl rest s tmps w := by
 have he : s.env m = t.env m := by show Q5 (lkb s.hp) m = Q5 (lkb t.hp) m; rw [e.hp]
 refine ⟨?_, ?_, fun k => ?_, fun p hp => ?_⟩
 ·rw [e.hp, e.nx]; exact h.heap
 ·rw [e.n]; exact h.size
 ·rw [he, e.get]; exact h.slot k
 ·rw [he]; exact h.rest p hp
theorem St.Same.tell {gl : Nat → AV} {s t : St} (e : St.Same s t) : St.Tell gl s t := ⟨e.n, fun _ _ _ _ _ _ _ h => h.same e⟩
theorem tell_le {gl : Nat → AV} {st : St} {s : Nat} {x y : AV} (h : st.get s = x) (e : LeV x y) : St.Tell gl ⟨st.n, pt st.sl s y, st.hp, st.nx⟩ st where
 n := rfl
 rel m H B H0 rest tmps w r := by
  refine ⟨r.heap, r.size, fun k => ?_, r.rest⟩
  show RV H (st.env m) (lk .undef (pt st.sl s y) k) _
  rw [JI]
  split
  ·rename_i e2; subst e2; exact e.ok _ _ _ (h ▸ r.slot _)
  ·exact r.slot k
theorem Am {gl : Nat → AV} {α : Type} {sh : α → AV} {s : Nat} {st : St} {K : St → Prop} (h : wnrm sh s st K) : ∃ st', K st' ∧ St.Tell gl st' st := by
 unfold wnrm at h
 split at h
 ·rename_i k m hx; obtain ⟨n, rfl, h⟩ := h; exact ⟨_, h, (If hx rfl).tell⟩
 ·rename_i t hx; obtain ⟨n, rfl, h⟩ := h; exact ⟨_, h, (If hx rfl).tell⟩
 ·rename_i t hx; obtain ⟨n, rfl, h⟩ := h; exact ⟨_, h, (If hx rfl).tell⟩
 ·rename_i id ver sz len hx
  split at h
  ·rename_i v z xs hid
   obtain ⟨l, ⟨rfl, rfl⟩, h⟩ := h
   exact ⟨_, h, ((A7 (st := ⟨st.n, pt st.sl s _, st.hp, st.nx⟩) hid rfl).trans (If hx rfl)).tell⟩
  ·cases h
 ·rename_i id _ _ _ _ hx
  split at h
  ·rename_i v z xs hid
   obtain ⟨l, rfl, h⟩ := h
   exact ⟨_, h, (A7 hid rfl).tell⟩
  ·cases h
 ·exact ⟨_, h, .refl _ _⟩
 ·exact ⟨_, h, .refl _ _⟩
 ·rename_i v _ _ hx
  obtain ⟨x, hle, h⟩ := h
  exact ⟨_, h, tell_le rfl hle⟩
def wfill {α : Type} (sh : α → AV) (s : Nat) (st : St) (K : St → Prop) : Prop :=
 match st.get s with
 | .ow id _ _ _ => match lkb st.hp id with
  | some (.hol v z xs i c r) => match r with
   | .ow id2 v2 z2 len => match lkb st.hp id2 with
    | some (.own v' z' ys) => match Nat.beq v' v2 && Nat.beq z' z2 with
     | true => len = ys.length ∧ ∃ x : α, xs[i]? = some (sh x) ∧ ∃ l : List α, List.map sh l = xs.set i (putE c 1 z (sh x) (.sl z' ys)) ∧ K ⟨st.n, st.sl, pt (pt st.hp id2 (.own (v' + 4096) z' [])) id (.own v z (List.map sh l)), st.nx⟩
     | false => False
    | _ => False
   | _ => False
  | _ => False
 | _ => False
theorem Pw {gl : Nat → AV} {α : Type} {sh : α → AV} {s : Nat} {st : St} {K : St → Prop} (h : wfill sh s st K) : ∃ st', Conv gl st st' ∧ K st' := by
 unfold wfill at h
 split at h
 ·split at h
  ·rename_i v z xs i c r hid
   split at h
   ·rename_i id2 v2 z2 len
    split at h
    ·rename_i v' z' ys hid2
     split at h
     ·rename_i hc
      rw [Bool.and_eq_true] at hc
      obtain rfl := Nat.eq_of_beq_eq_true hc.1
      obtain rfl := Nat.eq_of_beq_eq_true hc.2
      grind [F8]
     ·cases h
    ·cases h
   ·cases h
  ·cases h
 ·cases h
def inner : Option Hint → Option Hint
 | some (.n _ _ h) => h
 | some (.z _ h) => match h with
  | some (.n _ _ h) => h
  | h => h
 | h => h
def outer : Option Hint → Option Hint
 | some (.z _ h) => h
 | h => h
def DS (hs : Qz) : List Oper → St → (St → Prop) → Prop
 | [], st, K => K st
 | o :: l, st, K => match outer (lkH hs (RW o.dst o.op)) with
  | some (.n sh s _) => wnrm sh s st (fun st => DS hs l st K)
  | _ => DS hs l st K
theorem Dj {gl : Nat → AV} {hs : Qz} : ∀ {l : List Oper} {st : St} {K : St → Prop}, DS hs l st K → ∃ st', K st' ∧ St.Tell gl st' st
 | [], st, K, h => ⟨st, h, .refl _ _⟩
 | o :: l, st, K, h => by
  simp only [DS] at h
  split at h
  ·obtain ⟨s1, h1, e1⟩ := Am (gl := gl) h
   obtain ⟨s2, h2, e2⟩ := Dj (gl := gl) h1
   exact ⟨s2, h2, e2.trans e1⟩
  ·exact Dj h
end HY
end
