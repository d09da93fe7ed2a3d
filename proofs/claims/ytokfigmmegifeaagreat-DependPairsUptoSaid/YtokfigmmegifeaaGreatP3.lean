/- Proved in the last of these texts: for every input of bulk at most 1048576 the law returns true and its arguments read afterwards as they read before. This text: a part of the proof. -/
import Derived.Test.YtokfigmmegifeaaGreatP2
import Derived.Test.YtokfigmmegifeaaGreatProg
section
namespace HY
open Go Go.RowKit
theorem PF {H : HV} {m : Nat → Lc} : ∀ {x : AV} {v : Value}, RV H (Qq (lkb .nil) m) x v → RelI H x v := by
 intro x v h
 induction h with
 | imm _ _ h => exact h
 | ptr id ver off a hal => obtain ⟨b, hb, _⟩ := hal; rw [Zi] at hb; cases hb
 | bs id ver sz off len a cap hal => obtain ⟨b, hb, _⟩ := hal; rw [Zi] at hb; cases hb
 | ow id ver sz len a cap hal => obtain ⟨b, hb, _⟩ := hal; rw [Zi] at hb; cases hb
 | oe id ver sz i off a hal => obtain ⟨b, hb, _⟩ := hal; rw [Zi] at hb; cases hb
 | yld id l hl => simp [Qq, Zi] at hl
 | fn f cs vs h _ ih => exact .fn f cs vs h ih
 | agg cs vs h h1 _ ih => exact .agg cs vs h h1 ih
 | tup cs vs h _ ih => exact .tup cs vs h ih
structure LeT (x t : AV) : Prop where
 ok : ∀ (H : HV) (v : Value), RelI H x v → RelI H t v
theorem LeT.refl (x : AV) : LeT x x := ⟨fun _ _ h => h⟩
theorem LeT.nil (sz : Nat) : LeT .nil (.sl sz []) := ⟨fun H v h => by cases h; exact .sl0 _ _ _ (Nat.zero_le _)⟩
inductive LeL : List AV → List AV → Prop
 | nil : LeL [] []
 | cons {x t : AV} {xs ts : List AV} : LeT x t → LeL xs ts → LeL (x :: xs) (t :: ts)
theorem LeL.get : ∀ {xs ts : List AV}, LeL xs ts → xs.length = ts.length ∧ ∀ (j : Nat) (t : AV), ts[j]? = some t → ∃ x, xs[j]? = some x ∧ LeT x t
 | _, _, .nil => ⟨rfl, fun j t h => by simp at h⟩
 | _, _, .cons h r => ⟨by simp [r.get.1], fun j t' hj => by
  cases j with
  | zero => simp at hj; subst hj; exact ⟨_, rfl, h⟩
  | succ j => simpa using r.get.2 j t' (by simpa using hj)⟩
theorem LeL.refl : ∀ (xs : List AV), LeL xs xs
 | [] => .nil
 | x :: xs => .cons (.refl x) (LeL.refl xs)
theorem LeT.agg {xs ts : List AV} (h : LeL xs ts) : LeT (.agg xs) (.agg ts) := ⟨fun H v hv => by
 obtain ⟨h1, h2⟩ := h.get
 cases hv with
 | agg _ vs a b c =>
  exact .agg _ vs (by rw [← h1]; exact a) b fun j t u hj hu => by
   obtain ⟨x, hx, hle⟩ := h2 j t hj
   exact hle.ok H u (c j x u hx hu)⟩
theorem LeT.tup {xs ts : List AV} (h : LeL xs ts) : LeT (.tup xs) (.tup ts) := ⟨fun H v hv => by
 obtain ⟨h1, h2⟩ := h.get
 cases hv with
 | tup _ vs a c =>
  exact .tup _ vs (by rw [← h1]; exact a) fun j t u hj hu => by
   obtain ⟨x, hx, hle⟩ := h2 j t hj
   exact hle.ok H u (c j x u hx hu)⟩
theorem Pu.le {P : Program} {gl : Nat → AV} {f : Nat} {args args' : List AV} {r r' : AV} (h : Pu P gl f args' r) (ha : LeL args args') (hr : LeT r r') : Pu P gl f args r' := ⟨fun m H B H0 w vs hh hl hv => by
 obtain ⟨h1, h2⟩ := ha.get
 refine (h.ok m H B H0 w vs hh (by rw [← h1]; exact hl) fun j x v hx hv' => ?_).mono fun e w' ⟨v, m', H', a, b, c, d⟩ => ⟨v, m', H', a, b, c, .imm _ _ (hr.ok _ _ (PF d))⟩
 obtain ⟨y, hy, hle⟩ := h2 j x hx
 exact .imm _ _ (hle.ok _ _ (PF (hv j y v hy hv')))⟩
def UU : Nat → List Box → List AV
 | _, [] => []
 | j, b :: r => match b with
  | .cells t _ => .ptr j t 0 :: UU (j + 1) r
  | _ => UU (j + 1) r
def Nu (m : Nat → Lc) : Nat → List Box → List (AV × Value)
 | _, [] => []
 | j, b :: r => match b with
  | .cells t _ => (.ptr j t 0, .pointer (some ⟨(m j).g, (m j).base, none⟩)) :: Nu m (j + 1) r
  | _ => Nu m (j + 1) r
theorem SY {m : Nat → Lc} : ∀ (j : Nat) (bs : List Box), (Nu m j bs).map (·.1) = UU j bs
 | _, [] => rfl
 | j, b :: r => by
  cases b <;> simp only [Nu, UU, List.map_cons, SY (j + 1) r]
theorem SZ {m : Nat → Lc} : ∀ (k : Nat) (bs : List Box) (p : AV × Value), p ∈ Nu m k bs → ∃ j t cs, bs[j]? = some (.cells t cs) ∧ p = (.ptr (k + j) t 0, .pointer (some ⟨(m (k + j)).g, (m (k + j)).base, none⟩))
 | _, [], p, h => by simp [Nu] at h
 | k, b :: r, p, h => by
  have tl : p ∈ Nu m (k + 1) r → ∃ j t cs, (b :: r)[j]? = some (.cells t cs) ∧ p = (.ptr (k + j) t 0, .pointer (some ⟨(m (k + j)).g, (m (k + j)).base, none⟩)) := fun h => by
   obtain ⟨j, t, cs, h1, h2⟩ := SZ (k + 1) r p h
   refine ⟨j + 1, t, cs, by simpa using h1, ?_⟩
   rw [show k + (j + 1) = k + 1 + j by omega]; exact h2
  cases b with
  | cells t cs =>
   simp only [Nu, List.mem_cons] at h
   rcases h with rfl | h
   ·exact ⟨0, t, cs, rfl, rfl⟩
   ·exact tl h
  | _ => exact tl h
theorem Pr {m : Nat → Lc} : ∀ (k : Nat) (bs : List Box) (j t : Nat) (cs : List AV), bs[j]? = some (.cells t cs) → ((.ptr (k + j) t 0, .pointer (some ⟨(m (k + j)).g, (m (k + j)).base, none⟩)) : AV × Value) ∈ Nu m k bs
 | _, [], j, t, cs, h => by simp at h
 | k, b :: r, j, t, cs, h => by
  cases j with
  | zero =>
   simp at h; subst h
   exact List.mem_cons_self
  | succ j =>
   have ih := Pr (m := m) (k + 1) r j t cs (by simpa using h)
   rw [show k + 1 + j = k + (j + 1) by omega] at ih
   cases b with
   | cells t0 cs0 => exact List.mem_cons_of_mem _ ih
   | _ => exact ih
structure PuH (P : Program) (gl : Nat → AV) (f : Nat) (args : List AV) (bs : List Box) (r : AV) (bs' : List Box) : Prop where
 ok : ∀ (m : Nat → Lc) (H : HV) (B : Nat → Prop) (H0 : HV) (rest : List (AV × Value)) (w : World) (vs : Array Value), RelH m H B H0 gl (lkb (hpOf 0 bs)) bs.length w → args.length = vs.size →
  (∀ (j : Nat) (x : AV) (v : Value), args[j]? = some x → vs[j]? = some v → RV H (Qq (lkb (hpOf 0 bs)) m) x v) → rest.map (·.1) = UU 0 bs → (∀ p ∈ rest, RV H (Qq (lkb (hpOf 0 bs)) m) p.1 p.2) →
  Ans P f vs w fun e w' => ∃ v m' H', e = .returned v ∧ Qv B w w' ∧ RelH m' H' B H0 gl (lkb (hpOf 0 bs')) bs'.length w' ∧ RV H' (Qq (lkb (hpOf 0 bs')) m') r v ∧ ∀ p ∈ rest, RV H' (Qq (lkb (hpOf 0 bs')) m') p.1 p.2
theorem PuH.zero {P : Program} {gl : Nat → AV} {f : Nat} {args : List AV} {r : AV} {bs' : List Box} (h : PuH P gl f args [] r bs') : Wo P gl f args r (hpOf 0 bs') bs'.length := fun m H B H0 w vs hh hl hv =>
 (h.ok m H B H0 [] w vs hh hl hv rfl (fun p hp => by simp at hp)).mono fun e w' ⟨v, m', H', a, b, c, d, _⟩ => ⟨v, m', H', a, b, c, d⟩
def wgive1 (kb : List KB) (n : Nat) (Q : List AV → List Box → List Nat → St → Prop) (sc : St) : Prop :=
 match nodN (GU sc kb) with
 | true => match E0 (lkb sc.hp) (GU sc kb) (GU sc kb) with
  | some bs => Q ((List.range n).map fun k => ren (lkb sc.hp) (GU sc kb) 12 (sc.get k)) bs (GU sc kb) sc
  | none => False
 | false => False
def Fn (kb : List KB) (args : List AV) (hp : Tr Box) (nx : Nat) (Q : List AV → List Box → List Nat → St → Prop) : Prop :=
 KH kb ⟨args.length, Un 0 args, hp, nx⟩ (wgive1 kb args.length Q)
def TO (ids : List Nat) (sc : St) (bs' : List Box) (r : AV) (K : AV → Tr Box → Nat → Prop) : Prop :=
 match M0 (lkb sc.hp) ids bs' sc.nx with
 | some ps => K (mapR (gB ps bs') 12 r) (DV (gB ps bs') sc.hp ps bs') (sc.nx + (bs'.length - ids.length))
 | none => False
section
variable {P : Program} {gl : Nat → AV} {m : Nat → Lc} {H : HV} {B : Nat → Prop} {H0 : HV} {rest : List (AV × Value)} {st : St} {a : Act} {w : World}
theorem P1 (h : RelS m H B H0 gl rest st a.tmps w) {dst : Option Nat} (hd : Zh dst st.n = true) {f : Nat} {args : List AV} {vs : Array Value} (hl : args.length = vs.size) (hv : ∀ (j : Nat) (x : AV) (v : Value), args[j]? = some x → vs[j]? = some v → RV H (st.env m) x v)
  {kb : List KB} {K : St → Prop} {Q : List AV → List Box → List Nat → St → Prop}
  (hQ : ∀ args1 bs1 ids sc, Q args1 bs1 ids sc → ∃ r bs', PuH P gl f args1 bs1 r bs' ∧ TO ids sc bs' r (fun rr hp' nx' => K ((st.setHp hp' nx').putO dst rr)))
  (hw : Fn kb args st.hp st.nx Q) :
  Ans P f vs w fun e w' => ∃ st' v m' H', K st' ∧ e = .returned v ∧ Qv B w w' ∧ RelS m' H' B H0 gl rest st' (a.put dst v).tmps w' := by
 unfold Fn at hw
 obtain ⟨sc, hconv, hw⟩ := Yj (gl := gl) hw
 have hsc0 : RelS m H B H0 gl ((List.range st.n).map (fun k => (st.get k, a.tmps.getD k Go.undef)) ++ rest) ⟨args.length, Un 0 args, st.hp, st.nx⟩ vs w := by
  refine ⟨h.heap, hl.symm, fun k => ?_, h.hold⟩
  show RV H _ (lk .undef (Un 0 args) k) _
  rw [Na, if_pos (Nat.zero_le _), Nat.sub_zero]
  cases hx : args[k]? with
  | none => exact .imm _ _ (.undef _)
  | some x =>
   have hk : k < vs.size := by rw [← hl]; exact (List.getElem?_eq_some_iff.1 hx).1
   rw [show vs.getD k Go.undef = vs[k] by rw [Array.getD_eq_getD_getElem?, Array.getElem?_eq_getElem hk]; rfl]
   exact hv k x _ hx (Array.getElem?_eq_getElem hk)
 obtain ⟨m1, H1, hs⟩ := hconv.2 m H B H0 _ vs w hsc0
 unfold wgive1 at hw
 split at hw
 ·rename_i hnod
  split at hw
  ·rename_i bs hbs
   generalize hids : GU sc kb = ids at *
   obtain ⟨r, bs', hPu, hback⟩ := hQ _ _ _ _ hw
   unfold TO at hback
   split at hback
   ·rename_i ps hps
    have hBB := hs.heap.offB ids
    obtain ⟨hsub, hren⟩ := hs.heap.sub (B' := OffB (lkb sc.hp) m1 ids w) (H1 := H1) hnod hbs (fun _ _ _ => rfl) (fun _ hk => hk.1) (fun j id b hj hb hr hB => hB.2 j id b hj hb hr rfl) (fun g sz cs hg => let ⟨h1, h2⟩ := hs.heap.gv g sz cs hg; ⟨hBB g h1, h2⟩)
    generalize hm0 : (fun (j : Nat) => m1 ((ids[j]?).getD 0)) = m0 at hsub hren
    have hlk : ∀ j, lkb (hpOf 0 bs) j = bs[j]? := fun j => by rw [DJ]; simp
    have hlk' : ∀ j, lkb (hpOf 0 bs') j = bs'[j]? := fun j => by rw [DJ]; simp
    refine (hPu.ok m0 H1 _ H1 (Nu m0 0 bs) w vs hsub (by simpa using hl) (fun j x v hx hv' => ?_) (SY 0 bs) (fun p hp => ?_)).mono fun e w' hpost => ?_
    ·have hjl : j < args.length := by have := (List.getElem?_eq_some_iff.1 hx).1; simpa using this
     simp [hjl] at hx
     subst hx
     have := hs.slot j
     rw [show vs.getD j Go.undef = v by rw [Array.getD_eq_getD_getElem?, hv']; rfl] at this
     exact hren 12 _ _ this
    ·obtain ⟨j, t, cs, h1, rfl⟩ := SZ 0 bs p hp
     rw [Nat.zero_add]
     have hb : lkb (hpOf 0 bs) j = some (.cells t cs) := by rw [hlk]; exact h1
     refine .ptr _ _ _ _ (Fg hb rfl) fun l hl => ?_
     rw [Dn hb rfl] at hl; cases hl; rfl
    ·obtain ⟨v, m', H', rfl, hbl, hH, hrv, hpins⟩ := hpost
     have hpin : ∀ (j id v : Nat) (cs : List AV), ids[j]? = some id → lkb sc.hp id = some (.cells v cs) → m' j = m1 id := fun j id v cs hj hid => by
      obtain ⟨hblen, hbget⟩ := Rt hbs
      obtain ⟨b0, b1, e1, e2, e3⟩ := hbget j id hj
      rw [hid] at e1; cases e1
      rcases LS e2 with ⟨v1, cs1, e4, rfl⟩ | ⟨_, _, _, e4, _⟩
      ·cases e4
       obtain ⟨hlen, hle, hspec⟩ := M1 hps
       have hjl := (List.getElem?_eq_some_iff.1 hj).1
       have hjb : j < bs'.length := by omega
       have hjp : j < ps.length := by omega
       have hs' := hspec j ps[j].1 ps[j].2 bs'[j] (List.getElem?_eq_getElem hjp) (List.getElem?_eq_getElem hjb)
       rcases hs'.here with ⟨v2, cs2, t2, cs', f1, f2, f3, f4, f5⟩ | ⟨v2, sz, xs, v', sz', xs', f1, f2, f3, f4⟩ | ⟨a1, _, _⟩
       ·rw [hj] at f1; injection f1 with f1
        rw [← f1, hid] at f2; cases f2
        have hb' : lkb (hpOf 0 bs') j = some (.cells t2 cs') := by rw [hlk', List.getElem?_eq_getElem hjb, f3]
        have hp := hpins _ (Pr (m := m0) 0 bs j _ _ e3)
        rw [Nat.zero_add] at hp
        obtain ⟨ad, hade, _, hloc⟩ := hp.ptr_inv
        have hm0j : m0 j = m1 id := by rw [← hm0]; simp [hj]
        have := hloc (m' j) (by rw [f5]; exact Dn hb' rfl)
        simp only [Value.pointer.injEq, Option.some.injEq] at hade
        subst hade
        simp only [Addr.mk.injEq] at this
        obtain ⟨g1, g2, _⟩ := this
        rw [hm0j] at g1 g2
        obtain ⟨C, e, c1, c2, _, _⟩ := hs.heap.box id _ hid
        obtain ⟨C1, e1', d1, d2, _, _⟩ := hH.box j _ hb'
        obtain ⟨C2, fr2, k1, k2⟩ := hbl.rows _ C e _ c1
        rw [← g1] at d1
        rw [d1] at k1; cases k1
        have hsz : (m' j).size = (m1 id).size := by rw [← d2, ← c2]; exact k2
        cases hmj : m' j with
        | mk a b c => cases hmi : m1 id with
         | mk a' b' c' =>
          rw [hmj] at g1 g2 hsz
          rw [hmi] at g1 g2 hsz
          simp only [Nat.add_zero] at g2
          simp only at g1 hsz
          rw [g1, g2, hsz]
       ·rw [hj] at f1; injection f1 with f1
        rw [← f1, hid] at f2; cases f2
       ·omega
      ·cases e4
     obtain ⟨M, hR, hE, hHle, hun, hbB⟩ := back_ok hs.heap hnod hps hH hbl hpin
     exact ⟨_, v, M, H', hback, rfl, hbB, h.taken hd hR (hun r v hrv) fun p hp => (hs.rest p hp).mono hHle hE⟩
   ·cases hback
  ·cases hw
 ·cases hw
theorem Q1c (h : RelS m H B H0 gl rest st a.tmps w) {dst : Option Nat} (hd : Zh dst st.n = true) {f : Nat} {ts : List AV} {vs : Array Value} (hl : ts.length = vs.size) (hv : ∀ (j : Nat) (x : AV) (v : Value), ts[j]? = some x → vs[j]? = some v → RelI H x v) {r : AV} (hp : Pu P gl f ts r) :
  Ans P f vs w fun e w' => ∃ v m' H', e = .returned v ∧ Qv B w w' ∧ RelS m' H' B H0 gl rest (st.putO dst r) (a.put dst v).tmps w' := by
 have h0 : RelH m H (fun k => k < w.heap.size) H gl (lkb .nil) 0 w :=
  { sat := h.heap.sat, old := fun _ _ _ => rfl, low := fun _ hk => hk, fresh := fun _ _ => Zi _, box := (fun _ _ hh => by rw [Zi] at hh; cases hh), sepR := (fun _ _ hh => by rw [Zi] at hh; cases hh), injR := (fun _ _ _ _ hh => by rw [Zi] at hh; cases hh), gl := h.heap.gl, ty := (fun _ _ _ hh => by rw [Zi] at hh; cases hh), gv := fun g sz cs hg => let ⟨h1, h2⟩ := h.heap.gv g sz cs hg; ⟨h.heap.low _ h1, h2⟩ }
 refine (hp.ok m H _ H w vs h0 hl (fun j x v hx hv' => .imm _ _ (hv j x v hx hv'))).mono fun e w' hpost => ?_
 obtain ⟨v, m', H', rfl, hbl, hH, hrv⟩ := hpost
 obtain ⟨hA, hleA⟩ := h.after hbl.toB H' hH.sat
 refine ⟨v, m, _, rfl, hbl.mono h.heap.low, hA.putO hd (.imm _ _ ((PF hrv).mono fun b o u hu => ?_))⟩
 by_cases hlt : b < w.heap.size
 ·simp only [if_pos hlt]; rw [← hH.old b o hlt]; exact hu
 ·simp only [if_neg hlt]; exact hu
end
end HY
end
section
namespace HY
open Go Go.RowKit
structure LeV (x t : AV) : Prop where
 ok : ∀ (H : HV) (E : Env) (v : Value), RV H E x v → RV H E t v
structure St.Same (s t : St) : Prop where
 n : s.n = t.n
 nx : s.nx = t.nx
 get : ∀ k, s.get k = t.get k
 hp : lkb s.hp = lkb t.hp
def wnrm {α : Type} (sh : α → AV) (s : Nat) (st : St) (K : St → Prop) : Prop :=
 match st.get s with
 | .int k m => ∃ n, n = m ∧ K ⟨st.n, pt st.sl s (.int k n), st.hp, st.nx⟩
 | .str t => ∃ u, u = t ∧ K ⟨st.n, pt st.sl s (.str u), st.hp, st.nx⟩
 | .bool t => ∃ u, u = t ∧ K ⟨st.n, pt st.sl s (.bool u), st.hp, st.nx⟩
 | .ow id ver sz len => match lkb st.hp id with
  | some (.own v z xs) => ∃ l : List α, (List.map sh l = xs ∧ l.length = len) ∧ K ⟨st.n, pt st.sl s (.ow id ver sz l.length), pt st.hp id (.own v z (List.map sh l)), st.nx⟩
  | _ => False
 | .oe id _ _ _ _ => match lkb st.hp id with
  | some (.own v z xs) => ∃ l : List α, List.map sh l = xs ∧ K ⟨st.n, st.sl, pt st.hp id (.own v z (List.map sh l)), st.nx⟩
  | _ => False
 | .tup [] => K st
 | .undef => K st
 | v => ∃ x : α, LeV v (sh x) ∧ K ⟨st.n, pt st.sl s (sh x), st.hp, st.nx⟩
theorem E3 {st : St} {s : Nat} {x y : AV} (h : st.get s = x) (e : y = x) : St.Same ⟨st.n, pt st.sl s y, st.hp, st.nx⟩ st where
 n := rfl
 nx := rfl
 get k := by
  show lk .undef (pt st.sl s y) k = _
  rw [GV]
  split
  ·rename_i e2; subst e2; rw [e, h]
  ·rfl
 hp := rfl
theorem Bo {st : St} {id : Nat} {b b' : Box} (h : lkb st.hp id = some b) (e : b' = b) : St.Same ⟨st.n, st.sl, pt st.hp id b', st.nx⟩ st where
 n := rfl
 nx := rfl
 get k := rfl
 hp := by
  show lkb (pt st.hp id b') = _
  rw [Zo]
  funext j
  unfold updF
  split
  ·rename_i e2; subst e2; rw [e, h]
  ·rfl
theorem St.Same.trans {a b c : St} (h : St.Same a b) (k : St.Same b c) : St.Same a c := ⟨h.n.trans k.n, h.nx.trans k.nx, fun i => (h.get i).trans (k.get i), h.hp.trans k.hp⟩
structure St.Tell (gl : Nat → AV) (s t : St) : Prop where
 n : s.n = t.n
 rel : ∀ (m : Nat → Lc) (H : HV) (B : Nat → Prop) (H0 : HV) (rest : List (AV × Value)) (tmps : Array Value) (w : World), RelS m H B H0 gl rest t tmps w → RelS m H B H0 gl rest s tmps w
theorem St.Tell.refl (gl : Nat → AV) (s : St) : St.Tell gl s s := ⟨rfl, fun _ _ _ _ _ _ _ h => h⟩
theorem St.Tell.trans {gl : Nat → AV} {a b c : St} (h : St.Tell gl a b) (k : St.Tell gl b c) : St.Tell gl a c := ⟨h.n.trans k.n, fun _ _ _ _ _ _ _ r => h.rel _ _ _ _ _ _ _ (k.rel _ _ _ _ _ _ _ r)⟩
theorem RelS.same {m : Nat → Lc} {H : HV} {B : Nat → Prop} {H0 : HV} {gl : Nat → AV} {rest : List (AV × Value)} {s t : St} {tmps : Array Value} {w : World} (h : RelS m H B H0 gl rest t tmps w) (e : St.Same s t) : RelS m H B H0 gl rest s tmps w := by
 have he : s.env m = t.env m := by show Qq (lkb s.hp) m = Qq (lkb t.hp) m; rw [e.hp]
 refine ⟨?_, ?_, fun k => ?_, fun p hp => ?_⟩
 ·rw [e.hp, e.nx]; exact h.heap
 ·rw [e.n]; exact h.size
 ·rw [he, e.get]; exact h.slot k
 ·rw [he]; exact h.rest p hp
theorem St.Same.tell {gl : Nat → AV} {s t : St} (e : St.Same s t) : St.Tell gl s t := ⟨e.n, fun _ _ _ _ _ _ _ h => h.same e⟩
theorem tell_le {gl : Nat → AV} {st : St} {s : Nat} {x y : AV} (h : st.get s = x) (e : LeV x y) : St.Tell gl ⟨st.n, pt st.sl s y, st.hp, st.nx⟩ st where
 n := rfl
 rel m H B H0 rest tmps w r := by
  refine ⟨r.heap, r.size, fun k => ?_, r.rest⟩
  show RV H (st.env m) (lk .undef (pt st.sl s y) k) _
  rw [GV]
  split
  ·rename_i e2; subst e2; exact e.ok _ _ _ (h ▸ r.slot _)
  ·exact r.slot k
theorem BE {gl : Nat → AV} {α : Type} {sh : α → AV} {s : Nat} {st : St} {K : St → Prop} (h : wnrm sh s st K) : ∃ st', K st' ∧ St.Tell gl st' st := by
 unfold wnrm at h
 split at h
 ·rename_i k m hx; obtain ⟨n, rfl, h⟩ := h; exact ⟨_, h, (E3 hx rfl).tell⟩
 ·rename_i t hx; obtain ⟨n, rfl, h⟩ := h; exact ⟨_, h, (E3 hx rfl).tell⟩
 ·rename_i t hx; obtain ⟨n, rfl, h⟩ := h; exact ⟨_, h, (E3 hx rfl).tell⟩
 ·rename_i id ver sz len hx
  split at h
  ·rename_i v z xs hid
   obtain ⟨l, ⟨rfl, rfl⟩, h⟩ := h
   exact ⟨_, h, ((Bo (st := ⟨st.n, pt st.sl s _, st.hp, st.nx⟩) hid rfl).trans (E3 hx rfl)).tell⟩
  ·cases h
 ·rename_i id _ _ _ _ hx
  split at h
  ·rename_i v z xs hid
   obtain ⟨l, rfl, h⟩ := h
   exact ⟨_, h, (Bo hid rfl).tell⟩
  ·cases h
 ·exact ⟨_, h, .refl _ _⟩
 ·exact ⟨_, h, .refl _ _⟩
 ·rename_i v _ _ hx
  obtain ⟨x, hle, h⟩ := h
  exact ⟨_, h, tell_le rfl hle⟩
def inner : Option Hint → Option Hint
 | some (.n _ _ h) => h
 | some (.z _ h) => match h with
  | some (.n _ _ h) => h
  | h => h
 | h => h
def outer : Option Hint → Option Hint
 | some (.z _ h) => h
 | h => h
def TQ (hs : Zb) : List Oper → St → (St → Prop) → Prop
 | [], st, K => K st
 | o :: l, st, K => match outer (lkH hs (Fk o.dst o.op)) with
  | some (.n sh s _) => wnrm sh s st (fun st => TQ hs l st K)
  | _ => TQ hs l st K
theorem RP {gl : Nat → AV} {hs : Zb} : ∀ {l : List Oper} {st : St} {K : St → Prop}, TQ hs l st K → ∃ st', K st' ∧ St.Tell gl st' st
 | [], st, K, h => ⟨st, h, .refl _ _⟩
 | o :: l, st, K, h => by
  simp only [TQ] at h
  split at h
  ·obtain ⟨s1, h1, e1⟩ := BE (gl := gl) h
   obtain ⟨s2, h2, e2⟩ := RP (gl := gl) h1
   exact ⟨s2, h2, e2.trans e1⟩
  ·exact RP h
end HY
end
section
namespace HY
open Go Go.RowKit
def wopt (x : Option Res) (K : Res → Prop) : Prop :=
 match x with
 | some y => K y
 | none => False
def HI (P : Program) (gl : Nat → AV) (bid f : Nat) (h : Hint) (K : Res → Prop) (strict : Bool) (ts : List AV) : Prop :=
 match h with
 | .cc r => Pu P gl f ts r ∧ wopt (Cq strict bid (some (r, .nil, 0))) K
 | .c sh => ∃ x, Pu P gl f ts (sh x) ∧ wopt (Cq strict bid (some (sh x, .nil, 0))) K
 | .cb => ∃ u, Pu P gl f ts (.bool u) ∧ (u = true → K (.bool true, none)) ∧ (u = false → K (.bool false, none))
 | .h _ r bt => ∃ x, PuH P gl f ts [] (r x) (bt x) ∧ wopt (Cq strict bid (some (r x, hpOf 0 (bt x), (bt x).length))) K
 | _ => False
def wans (hp : Hp) (args : List AV) (K : Bool → List AV → Prop) : Prop :=
 match optL (tree (fun _ => none) false 12) args with
 | some ts => K false ts
 | none => NJ (WX hp 12) args (K true)
def wansD (hp : Hp) (args : List AV) (K : Bool → List AV → Prop) : Prop :=
 match optL (tree (fun _ => none) false 12) args with
 | some ts => K false ts
 | none => match optL (tree hp false 12) args with
  | some ts => K true ts
  | none => False
def wcall (P : Program) (gl : Nat → AV) (ch0 : Z0) (hp : Hp) (bid f : Nat) (args : List AV) (h : Option Hint) (K : Res → Prop) : Prop :=
 match h with
 | none => wopt (Nz ch0 hp bid f args) K
 | some h => wansD hp args (HI P gl bid f h K)
open Classical in
noncomputable def once (f : Nat) (ts : List AV) (x : AV × Tr Box × Nat) : Z0 := fun f' a' h' n' => if f' = f ∧ a' = ts ∧ h' = .nil ∧ n' = 0 then some x else none
def HO (P : Program) (gl : Nat → AV) (ch : Z0) : Prop := ∀ f ts r hp' nx', ch f ts .nil 0 = some (r, hp', nx') → Wo P gl f ts r hp' nx'
section
variable {P : Program} {gl : Nat → AV}
theorem HZ {f : Nat} {ts : List AV} {r : AV} {hp' : Tr Box} {nx' : Nat} (h : Wo P gl f ts r hp' nx') : HO P gl (once f ts (r, hp', nx')) := by
 intro f' a' r' h2 n2 hk
 unfold once at hk
 split at hk
 ·rename_i hc
  obtain ⟨rfl, rfl, _, _⟩ := hc
  cases hk; exact h
 ·cases hk
theorem HX {f : Nat} {ts : List AV} {x : AV × Tr Box × Nat} : once f ts x f ts .nil 0 = some x := by
 unfold once; rw [if_pos ⟨rfl, rfl, rfl, rfl⟩]
theorem HJ {bid f : Nat} {h : Hint} {K : Res → Prop} {strict : Bool} {ts : List AV} (hw : HI P gl bid f h K strict ts) : ∃ ch x, HO P gl ch ∧ Cq strict bid (ch f ts .nil 0) = some x ∧ K x := by
 have opt : ∀ {o : Option Res}, wopt o K → ∃ x, o = some x ∧ K x := fun {o} ho => by
  unfold wopt at ho
  split at ho
  ·exact ⟨_, rfl, ho⟩
  ·cases ho
 unfold HI at hw
 split at hw
 ·rename_i r
  obtain ⟨x, hx, hK⟩ := opt hw.2
  exact ⟨once f ts (r, .nil, 0), x, HZ hw.1.ok, by rw [HX]; exact hx, hK⟩
 ·rename_i sh
  obtain ⟨y, hp, hw⟩ := hw
  obtain ⟨x, hx, hK⟩ := opt hw
  exact ⟨once f ts (sh y, .nil, 0), x, HZ hp.ok, by rw [HX]; exact hx, hK⟩
 ·obtain ⟨u, hp, h1, h2⟩ := hw
  refine ⟨once f ts (.bool u, .nil, 0), (.bool u, none), HZ hp.ok, by rw [HX]; rfl, ?_⟩
  cases u with
  | true => exact h1 rfl
  | false => exact h2 rfl
 ·rename_i kb τ r bt
  obtain ⟨y, hp, hw⟩ := hw
  obtain ⟨x, hx, hK⟩ := opt hw
  exact ⟨once f ts (r y, hpOf 0 (bt y), (bt y).length), x, HZ hp.zero, by rw [HX]; exact hx, hK⟩
 ·cases hw
theorem Q21 {ch0 : Z0} (h0 : ch0.Ok P gl) {hp : Hp} {bid f : Nat} {args : List AV} {h : Option Hint} {K : Res → Prop} (hw : wcall P gl ch0 hp bid f args h K) : ∃ ch x, HO P gl ch ∧ Nz ch hp bid f args = some x ∧ K x := by
 unfold wcall at hw
 split at hw
 ·unfold wopt at hw
  split at hw
  ·rename_i r hr
   exact ⟨ch0, r, fun _ _ _ _ _ hk => (h0 _ _ _ _ _ _ _ hk).zero, hr, hw⟩
  ·cases hw
 ·rename_i h
  unfold wansD at hw
  split at hw
  ·rename_i ts hts
   obtain ⟨ch, x, h1, h2, h3⟩ := HJ hw
   exact ⟨ch, x, h1, by unfold Nz; rw [hts]; exact h2, h3⟩
  ·rename_i hno
   split at hw
   ·rename_i ts hts
    obtain ⟨ch, x, h1, h2, h3⟩ := HJ hw
    exact ⟨ch, x, h1, by unfold Nz; rw [hno]; simp only [hts]; exact h2, h3⟩
   ·cases hw
end
def wo (P : Program) (gl : Nat → AV) (ch0 : Z0) (hs : Zb) (bid : Nat) (dst : Option Nat) (op : Op) (ev : Operand → AV) (hp : Hp) (K : Res → Prop) : Prop :=
 match Ji op with
 | true => match VN ev op with
  | some (f, args) => wcall P gl ch0 hp bid f args (inner (lkH hs (Fk dst op))) K
  | none => False
 | false => wask P bid dst op ev hp (inner (lkH hs (Fk dst op))) K
def TS (P : Program) (gl : Nat → AV) (ch0 : Z0) (hs : Zb) (sd : Bool) (bid : Nat) (o : Oper) (gv : Option AV) (st : St) (K : St → Prop) : Prop :=
 match Zh o.dst st.n && (lkb st.hp bid).isNone && Nat.blt bid st.nx with
 | true => match WP o gv with
  | some true => match sd with
    | true => match Ea P bid o.op with
     | some r => K (st.eff o.dst r)
     | none => False
    | false => wo P gl ch0 hs bid o.dst o.op (st.ev gl) (lkb st.hp) (fun r => K (st.eff o.dst r))
  | some false => K (st.eff o.dst (.tup [], none))
  | none => False
 | false => False
def Fp (P : Program) (gl : Nat → AV) (ch0 : Z0) (hs : Zb) (all : List Oper) (base : Nat) : List Nat → St → (St → Prop) → Prop
 | [], st, K => K st
 | i :: l, st, K => match all[i]? with
  | some o => TS P gl ch0 hs false (base + i) o (gval all o st) st (fun s => Fp P gl ch0 hs all base l s K)
  | none => False
def Fq (P : Program) (gl : Nat → AV) (ch0 : Z0) (hs : Zb) (all : List Oper) (base : Nat) : List Nat → Zp → St → (St → Prop) → Prop
 | [], _, st, K => K st
 | i :: l, F, st, K => match all[i]? with
  | some o => match MS all o (gval all o st) (st.ev gl) with
   | ft => match okF F all base i (hk o.op) ft with
    | true => TS P gl ch0 hs (seed all o) (base + i) o (gval all o st) st (fun s => Fq P gl ch0 hs all base l (updT F (base + i) ft) s K)
    | false => False
  | none => False
def wrunR (P : Program) (gl : Nat → AV) (ch0 : Z0) (hs : Zb) (all : List Oper) (base : Nat) (n : Nat) (st : St) (K : St → Prop) : Prop :=
 match mdR all with
 | true => Fq P gl ch0 hs all base (List.range n) (fun _ => none) st K
 | false => Fp P gl ch0 hs all base (List.range n) st K
section
variable {P : Program} {gl : Nat → AV} {ch0 : Z0} {hs : Zb}
theorem wo_ok (h0 : ch0.Ok P gl) {bid : Nat} {dst : Option Nat} {op : Op} {ev : Operand → AV} {hp : Hp} {K : Res → Prop} (hw : wo P gl ch0 hs bid dst op ev hp K) :
  ∃ ch x, HO P gl ch ∧ K x ∧ ∀ cb : Yz, cb bid = ch → xo P cb bid dst op ev hp = some x := by
 unfold wo at hw
 split at hw
 ·rename_i hc
  split at hw
  ·rename_i f args hf
   obtain ⟨ch, x, h1, h2, h3⟩ := Q21 h0 hw
   refine ⟨ch, x, h1, h3, fun cb he => ?_⟩
   unfold xo
   rw [if_pos hc, hf]
   simp only [he, h2]
  ·cases hw
 ·rename_i hc
  obtain ⟨x, h1, h2⟩ := Bz hw
  refine ⟨ch0, x, fun _ _ _ _ _ hk => (h0 _ _ _ _ _ _ _ hk).zero, h2, fun cb he => ?_⟩
  unfold xo
  rw [if_neg (by rw [hc]; simp)]
  exact h1
theorem OM {F : Zp} {all : List Oper} {bid : Nat} {o : Oper} {gv : Option AV} {ev : Operand → AV} (hg : WP o gv = some true) (h : F bid = MS all o gv ev) : CO true F bid o ev = true := by
 have : MS all o gv ev = foot o.op ev := by
  unfold WP at hg
  unfold MS
  cases ho : o.guard with
  | none => rfl
  | some x =>
   obtain ⟨j, want⟩ := x
   rw [ho] at hg
   cases gv with
   | none => cases hg
   | some v => simp only at hg ⊢; rw [hg]
 unfold CO
 rw [h, this]
 cases hf : foot o.op ev with
 | none => rfl
 | some l => simp
theorem Aa (h0 : ch0.Ok P gl) {md : Bool} {F : Zp} {all : List Oper} {bid : Nat} {o : Oper} {st : St} {K : St → Prop} {sd : Bool} (hsd : sd = (md && seed all o)) (hF : md = true → F bid = MS all o (gval all o st) (st.ev gl)) (hw : TS P gl ch0 hs sd bid o (gval all o st) st K) :
  ∃ ch s, HO P gl ch ∧ K s ∧ ∀ cb : Yz, cb bid = ch → Kg P gl cb md F all bid o st = some s := by
 unfold TS at hw
 split at hw
 ·rename_i hc
  split at hw
  ·rename_i hg
   have hf : CO md F bid o (st.ev gl) = true := by
    cases md with
    | false => rfl
    | true => exact OM hg (hF rfl)
   split at hw
   ·split at hw
    ·rename_i r hr
     refine ⟨ch0, _, fun _ _ _ _ _ hk => (h0 _ _ _ _ _ _ _ hk).zero, hw, fun cb he => ?_⟩
     rw [GB, Lh, if_pos hc, hg]
     simp only [xoF, hf, ← hsd, hr]
    ·cases hw
   ·obtain ⟨ch, x, h1, h2, h3⟩ := wo_ok h0 hw
    refine ⟨ch, _, h1, h2, fun cb he => ?_⟩
    rw [GB, Lh, if_pos hc, hg]
    simp only [xoF, hf, ← hsd, h3 cb he]
  ·rename_i hg
   refine ⟨ch0, _, fun _ _ _ _ _ hk => (h0 _ _ _ _ _ _ _ hk).zero, hw, fun cb he => ?_⟩
   rw [GB, Lh, if_pos hc, hg]
  ·cases hw
 ·cases hw
theorem Ba {ch : Z0} {cb : Yz} {i base : Nat} (h1 : HO P gl ch) (h4 : cb.Ok P gl) : Yz.Ok P gl (fun b => if b = base + i then ch else cb b) := fun b f ts r hp' nx' hk => by
 dsimp only at hk
 split at hk
 ·exact h1 _ _ _ _ _ hk
 ·exact h4 _ _ _ _ _ _ hk
theorem Od (h0 : ch0.Ok P gl) {F : Zp} {all : List Oper} {base : Nat} {K : St → Prop} : ∀ (l : List Nat) (st : St), l.Nodup → Fp P gl ch0 hs all base l st K →
  ∃ (cb : Yz) (s : St), cb.Ok P gl ∧ K s ∧ ∀ cb' : Yz, (∀ i ∈ l, cb' (base + i) = cb (base + i)) → runI P gl cb' false F all base l st = some s
 | [], st, _, hw => ⟨fun _ => ch0, st, SM h0, hw, fun _ _ => rfl⟩
 | i :: l, st, hn, hw => by
  simp only [Fp] at hw
  split at hw
  ·rename_i o ho
   obtain ⟨ch, s1, h1, h2, h3⟩ := Aa h0 (F := F) (md := false) rfl nofun hw
   obtain ⟨cb, s, h4, h5, h6⟩ := Od h0 l s1 (List.nodup_cons.1 hn).2 h2
   refine ⟨fun b => if b = base + i then ch else cb b, s, Ba h1 h4, h5, fun cb' he => ?_⟩
   ·simp only [runI, ho]
    rw [h3 cb' (by rw [he i List.mem_cons_self]; simp)]
    refine h6 cb' fun j hj => ?_
    rw [he j (List.mem_cons_of_mem _ hj)]
    have : j ≠ i := fun e => (List.nodup_cons.1 hn).1 (e ▸ hj)
    show (if base + j = base + i then ch else cb (base + j)) = _
    rw [if_neg (by omega)]
  ·cases hw
theorem Oe (h0 : ch0.Ok P gl) {all : List Oper} {base : Nat} {K : St → Prop} : ∀ (n k : Nat) (F : Zp) (st : St), Fq P gl ch0 hs all base (List.range' k n) F st K →
  ∃ (cb : Yz) (G : Zp) (s : St), cb.Ok P gl ∧ K s ∧ (∀ j, j < k → G (base + j) = F (base + j)) ∧ (∀ cb' : Yz, (∀ i ∈ List.range' k n, cb' (base + i) = cb (base + i)) → runI P gl cb' true G all base (List.range' k n) st = some s) ∧
   ∀ i j o p, i < j → k ≤ j → j < k + n → all[i]? = some o → all[j]? = some p → hkCl (hk o.op) (hk p.op) = true → LH (G (base + i)) (G (base + j)) = true ∨ ((UX all []).getD j 0).testBit i = true
 | 0, k, F, st, hw => ⟨fun _ => ch0, F, st, SM h0, hw, fun _ _ => rfl, fun _ _ => rfl, fun i j o p h1 h2 h3 => by omega⟩
 | n + 1, k, F, st, hw => by
  simp only [List.range'_succ, Fq] at hw
  split at hw
  ·rename_i o ho
   split at hw
   ·rename_i hok
    obtain ⟨ch, s1, h1, h2, h3⟩ := Aa h0 (F := updT F (base + k) (MS all o (gval all o st) (st.ev gl))) (md := true) (all := all) (by simp) (fun _ => SE) hw
    obtain ⟨cb, G, s, h4, h5, h6, h7, h8⟩ := Oe h0 n (k + 1) _ s1 h2
    have hk : G (base + k) = MS all o (gval all o st) (st.ev gl) := by rw [h6 k (by omega), SE]
    have hlo : ∀ j, j < k → G (base + j) = F (base + j) := fun j hj => by rw [h6 j (by omega), updT_ne (by omega)]
    refine ⟨fun b => if b = base + k then ch else cb b, G, s, Ba h1 h4, h5, hlo, fun cb' he => ?_, fun i j o' p h9 h10 h11 ho' hp hc => ?_⟩
    ·simp only [List.range'_succ, runI, ho]
     rw [Q2m (G := updT F (base + k) (MS all o (gval all o st) (st.ev gl))) (by rw [hk, SE]), h3 cb' (by rw [he k (by simp [List.range'_succ])]; simp)]
     refine h7 cb' fun j hj => ?_
     rw [he j (by rw [List.range'_succ]; exact List.mem_cons_of_mem _ hj)]
     have : j ≠ k := by have := (List.mem_range'_1.1 hj).1; omega
     show (if base + j = base + k then ch else cb (base + j)) = _
     rw [if_neg (by omega)]
    ·by_cases e : j = k
     ·subst e
      rw [ho] at hp; cases hp
      exact Q1o hok hlo hk i o' h9 ho' hc
     ·exact h8 i j o' p h9 (by omega) (by omega) ho' hp hc
   ·cases hw
  ·cases hw
theorem Q22 (h0 : ch0.Ok P gl) {all : List Oper} {base n : Nat} {st : St} {K : St → Prop} (hw : wrunR P gl ch0 hs all base n st K) :
  ∃ (cb : Yz) (F : Zp) (s : St), cb.Ok P gl ∧ K s ∧ runI P gl cb (mdR all) F all base (List.range n) st = some s ∧ (mdR all = true → PairF F all base n) := by
 unfold wrunR at hw
 split at hw
 ·rename_i hm
  rw [List.range_eq_range'] at hw ⊢
  obtain ⟨cb, G, s, h4, h5, h6, h7, h8⟩ := Oe h0 n 0 _ st hw
  exact ⟨cb, G, s, h4, h5, by rw [hm]; exact h7 cb fun _ _ => rfl, fun _ i j o p h1 h2 => h8 i j o p h1 (Nat.zero_le _) (by omega)⟩
 ·rename_i hm
  obtain ⟨cb, s, h4, h5, h6⟩ := Od h0 (F := fun _ => none) _ _ List.nodup_range hw
  exact ⟨cb, _, s, h4, h5, by rw [hm]; exact h6 cb fun _ _ => rfl, fun e => by rw [hm] at e; cases e⟩
end
abbrev WF := Nat → Zb → List AV → Tr Box → Nat → (AV → Tr Box → Nat → Prop) → Prop
def CallW (P : Program) (gl : Nat → AV) (f : FuncId) (args : List AV) (hp : Tr Box) (nx : Nat) (K : AV → Tr Box → Nat → Prop) : Prop :=
 ∀ (m : Nat → Lc) (H : HV) (B : Nat → Prop) (H0 : HV) (rest : List (AV × Value)) (w : World) (vs : Array Value), RelH m H B H0 gl (lkb hp) nx w → args.length = vs.size →
  (∀ (j : Nat) (x : AV) (v : Value), args[j]? = some x → vs[j]? = some v → RV H (Qq (lkb hp) m) x v) → (∀ p ∈ rest, RV H (Qq (lkb hp) m) p.1 p.2) →
  Ans P f vs w fun e w' => ∃ v m' H' r hp' nx', K r hp' nx' ∧ e = .returned v ∧ Qv B w w' ∧ RelH m' H' B H0 gl (lkb hp') nx' w' ∧ RV H' (Qq (lkb hp') m') r v ∧ ∀ p ∈ rest, RV H' (Qq (lkb hp') m') p.1 p.2
def WF.Ok (P : Program) (gl : Nat → AV) (wf : WF) : Prop := ∀ f hs args hp nx K, wf f hs args hp nx K → CallW P gl f args hp nx K
def Ob (P : Program) (gl : Nat → AV) (bid f : Nat) (h : Hint) (K : Res → Prop) (strict : Bool) (ts : List AV) : Prop :=
 match strict with
 | true => HI P gl bid f h K true ts
 | false => match h with
  | .cc r => Pu P gl f ts r ∧ K (r, none)
  | .c sh => ∃ x, Pu P gl f ts (sh x) ∧ K (sh x, none)
  | .cb => ∃ u, Pu P gl f ts (.bool u) ∧ (u = true → K (.bool true, none)) ∧ (u = false → K (.bool false, none))
  | _ => False
def wseqC (P : Program) (gl : Nat → AV) (ch0 : Z0) (wf : WF) (o : Oper) (st : St) (K : St → Prop) (f : Nat) (args : List AV) (h : Option Hint) : Prop :=
 match h with
 | none => match ch0 f args st.hp st.nx with
  | some (r, hp', nx') => K ((st.setHp hp' nx').putO o.dst r)
  | none => False
 | some h => match h with
  | .i sub => wf f sub args st.hp st.nx (fun r hp' nx' => K ((st.setHp hp' nx').putO o.dst r))
  | .h kb r bs => Fn kb args st.hp st.nx (fun args1 bs1 ids sc => ∃ x, PuH P gl f args1 bs1 (r x) (bs x) ∧ TO ids sc (bs x) (r x) (fun rr hp' nx' => K ((st.setHp hp' nx').putO o.dst rr)))
  | .hb kb bs => Fn kb args st.hp st.nx (fun args1 bs1 ids sc => ∃ x u, PuH P gl f args1 bs1 (.bool u) (bs x) ∧ (u = true → TO ids sc (bs x) (.bool true) (fun rr hp' nx' => K ((st.setHp hp' nx').putO o.dst rr))) ∧ (u = false → TO ids sc (bs x) (.bool false) (fun rr hp' nx' => K ((st.setHp hp' nx').putO o.dst rr))))
  | h => wans (lkb st.hp) args (Ob P gl st.nx f h (fun r => K ((st.bump 1).eff o.dst r)))
def wown (P : Program) (dst : Option Nat) (op : Op) (ev : Operand → AV) (st : St) (K : St → Prop) : Prop :=
 match op with
 | .call c => match c.callee with
  | .builtin .append => match c.argTypes.toList, c.args.toList.map ev with
   | [t, t'], [s, x] => match elG P t with
    | some (sz, by_, _) => match Fi s && Nat.beq t' t with
     | true => wels sz x (lkb st.hp) (fun ys => (ys.length * by_ ≤ 140737488355328 ∧ ys.length ≤ 9223372036854775807) ∧ K (St.eff ⟨st.n, st.sl, pt st.hp st.nx (.own 0 sz []), st.nx + 1⟩ dst (.ow st.nx 4096 sz ys.length, some (st.nx, .own 4096 sz ys))))
     | false => False
    | none => False
   | _, _ => False
  | _ => False
 | _ => False
def wnil (P : Program) (dst : Option Nat) (op : Op) (ev : Operand → AV) (st : St) (K : St → Prop) : Prop :=
 match op with
 | .binOp o t x y _ => match ev x with
  | .sl _ xs => match ev y with
   | .nil => match HR P t with
    | true => match o with
     | .eql => (xs = [] → K (st.putO dst (.bool true))) ∧ K (st.putO dst (.bool false))
     | .neq => (xs = [] → K (st.putO dst (.bool false))) ∧ K (st.putO dst (.bool true))
     | _ => False
    | false => False
   | _ => False
  | _ => False
 | _ => False
def TR (P : Program) (gl : Nat → AV) (ch0 : Z0) (wf : WF) (o : Oper) (st : St) (K : St → Prop) (h : Option Hint) : Prop :=
 match Ji o.op with
 | true => match VN (st.ev gl) o.op with
  | some (f, args) => wseqC P gl ch0 wf o st K f args h
  | none => False
 | false => match h with
  | some .o => wown P o.dst o.op (st.ev gl) st K
  | some .nn => wnil P o.dst o.op (st.ev gl) st K
  | h => wask P st.nx o.dst o.op (st.ev gl) (lkb st.hp) h (fun r => match r with
   | (v, some b) => K ((st.bump 1).eff o.dst (v, some b))
   | (v, none) => K (st.putO o.dst v))
def Fs (P : Program) (gl : Nat → AV) (ch0 : Z0) (wf : WF) (o : Oper) (st : St) (K : St → Prop) (h : Option Hint) : Prop :=
 match h with
 | some (.n sh s h) => TR P gl ch0 wf o st (fun st => wnrm sh s st K) h
 | h => TR P gl ch0 wf o st K h
def E9 (P : Program) (gl : Nat → AV) (ch0 : Z0) (wf : WF) (hs : Zb) (o : Oper) (st : St) (K : St → Prop) : Prop :=
 match lkH hs (Fk o.dst o.op) with
 | some (.z kb h) => KH kb st (fun s => Fs P gl ch0 wf o s K h)
 | h => Fs P gl ch0 wf o st K h
def wseq (P : Program) (gl : Nat → AV) (ch0 : Z0) (wf : WF) (hs : Zb) (all : List Oper) : List Oper → St → (St → Prop) → Prop
 | [], st, K => K st
 | o :: l, st, K => match Zh o.dst st.n with
  | true => match WP o (gval all o st) with
   | some true => E9 P gl ch0 wf hs o st (fun s => wseq P gl ch0 wf hs all l s K)
   | some false => wseq P gl ch0 wf hs all l (st.putO o.dst (.tup [])) K
   | none => False
  | false => False
def NZ (P : Program) (r : Option Nat) (n : Nat) (B : Nat → Prop) (H0 : HV) (gl : Nat → AV) (rest : List (AV × Value)) (a : Act) (w : World) (o : Oper) (K : St → Prop) : Prop :=
 ∀ (next : Act → World → Prop) (Q : Exit → Act → World → Prop),
  (∀ a' w' m' H' st', K st' → a'.defers = a.defers → Qv B w w' → RelS m' H' B H0 gl rest st' a'.tmps w' → next a' w') → o.wpIn (FW r) n P a w next Q
section
variable {P : Program} {gl : Nat → AV} {ch0 : Z0} {hs : Zb} {wf : WF} {m : Nat → Lc} {H : HV} {B : Nat → Prop} {H0 : HV} {rest : List (AV × Value)} {st : St} {a : Act} {w : World}
theorem Dk.toW {ro : Option Nat} {n : Nat} {o : Oper} {st' : St} {K : St → Prop} (h : Dk P ro n B H0 gl rest a w o st') (hk : K st') : NZ P ro n B H0 gl rest a w o K :=
 fun next Q hn => h next Q fun a' w' m' H' hd hb hr => hn a' w' m' H' st' hk hd hb hr
theorem CG (h : RelS m H B H0 gl rest st a.tmps w) {o : Oper} {f : Nat} {args : List AV} (hc : VN (st.ev gl) o.op = some (f, args)) {K : St → Prop} (ro : Option Nat) (n : Nat)
  (hcalls : ∀ vs : Array Value, args.length = vs.size → (∀ (j : Nat) (x : AV) (v : Value), args[j]? = some x → vs[j]? = some v → RV H (st.env m) x v) →
   Ans P f vs w fun e w' => ∃ st' v m' H', K st' ∧ e = .returned v ∧ Qv B w w' ∧ RelS m' H' B H0 gl rest st' (a.put o.dst v).tmps w') : NZ P ro n B H0 gl rest a w o K := by
 intro next Q hn
 obtain ⟨vs, hrun, hl, hr⟩ := Ro h hc
 obtain ⟨c, x, caps, ho, _⟩ := WO hc
 refine ⟨fun _ _ => trivial, ?_⟩
 rw [Oper.semAt_eq _ _ _ (fun c e => by rw [ho] at e; cases e), hrun]
 rcases hcalls vs hl hr with ⟨hent, hcs⟩ | ⟨v, w', hv, hq⟩
 ·rw [hent vs w]
  refine ⟨(fun hh => by simp [FW] at hh), M2 (hcs.mono fun e w' hp => ?_)⟩
  obtain ⟨st', v, m', H', hk, rfl, hb, hrel⟩ := hp
  exact hn _ _ _ _ _ hk (Yf _ _ _) hb hrel
 ·rw [hv]
  obtain ⟨st', v', m', H', hk, he, hb, hrel⟩ := hq
  cases he
  exact hn _ _ _ _ _ hk (Yf _ _ _) hb hrel
theorem wown_ok (h : RelS m H B H0 gl rest st a.tmps w) {o : Oper} (hd : Zh o.dst st.n = true) {K : St → Prop} (hw : wown P o.dst o.op (st.ev gl) st K) : ∃ st', K st' ∧ OpOk P B H0 gl rest a w o.dst st' (execOp a.eval o) ∧ ∀ c, o.op ≠ .defer c := by
 unfold wown at hw
 split at hw
 ·rename_i c ho
  split at hw
  ·rename_i hb
   split at hw
   ·rename_i t t' s x ht hx
    split at hw
    ·rename_i sz by_ zs hel
     split at hw
     ·rename_i hc
      rw [Bool.and_eq_true] at hc
      obtain rfl := Nat.eq_of_beq_eq_true hc.2
      obtain ⟨ys, hys, ⟨h1, h2⟩, hK⟩ := BB hw
      refine ⟨_, hK, ?_, fun c' e => by rw [ho] at e; cases e⟩
      obtain ⟨e, i, z, hte, hi, hz, hzs, hpos, hsize, hby, hok, rfl⟩ := N7 hel
      obtain ⟨callee, args, argTypes⟩ := c
      dsimp only at hb
      subst hb
      obtain ⟨y, z, rfl, rfl, rfl⟩ := Wn hx
      obtain rfl := L3 ht
      obtain ⟨hN, hE⟩ := h.newOwn sz hpos
      obtain ⟨ad, had⟩ := Hl (h.ev y) hc.1
      have hs : RV H (Qq (lkb (pt st.hp st.nx (.own 0 sz []))) (updF m st.nx ⟨0, 0, 0⟩)) (.ow st.nx 0 sz 0) (a.eval y) := by rw [had]; exact Pl
      have hxv := (h.ev z).mono (.refl _) hE
      have hfr := h.heap.fresh st.nx (Nat.le_refl _)
      have hid : lkb (pt st.hp st.nx (.own 0 sz [])) st.nx = some (.own 0 sz []) := by rw [Zo, QE]
      have hys' : xels sz (st.ev gl z) (lkb (pt st.hp st.nx (.own 0 sz []))) = some ys := by
       revert hys
       unfold xels
       split
       ·exact id
       ·rename_i id _ _ _ _ _
        intro hys
        split at hys
        ·rename_i v cs hid2
         have hne : id ≠ st.nx := fun e => by subst e; rw [hfr] at hid2; cases hid2
         rw [Zo, QS _ _ hne, hid2]; exact hys
        ·cases hys
       ·rename_i id _ _ _ _
        intro hys
        split at hys
        ·rename_i v z' xs hid2
         have hne : id ≠ st.nx := fun e => by subst e; rw [hfr] at hid2; cases hid2
         rw [Zo, QS _ _ hne, hid2]; exact hys
        ·cases hys
       ·exact id
       ·exact id
       ·exact id
      have hk : Wg P t' t' (.ow st.nx 0 sz 0) (st.ev gl z) (lkb (pt st.hp st.nx (.own 0 sz []))) = some (.ow st.nx 4096 sz ys.length, some (st.nx, .own 4096 sz ys)) := by
       simp only [Wg, hel, hid, hys', Nat.beq_refl]
       simp [h1, h2]
      have hop := Oh (ty := o.type) (P := P) (st := ⟨st.n, st.sl, pt st.hp st.nx (.own 0 sz []), st.nx + 1⟩) hN hd hs hxv hk
      unfold execOp
      simp only [ho, resolve]
      simpa only [List.map_toArray, List.map_cons, List.map_nil, invoke, builtin, pure_bind] using hop
     ·cases hw
    ·cases hw
   ·cases hw
  ·cases hw
 ·cases hw
theorem Q1n (d : Nat) {t : TypeId} {sz : Nat} {xs : List AV} {u : Value} (hx : RelI H (.sl sz xs) u) (ht : HR P t = true) : ∃ b, (b = true → xs = []) ∧ (∃ a n c, u = .slice a n c) ∧ (Op.equalIn (d + 1) t u (.slice none 0 0)).run P w = .ok b w := by
 unfold HR at ht
 split at ht <;> first | cases ht | skip
 rename_i e he
 cases hx with
 | sl0 _ a cap _ => exact ⟨a.isNone, fun _ => rfl, ⟨_, _, _, rfl⟩, by cases a <;> simp [Op.equalIn, run_underlying he]⟩
 | sl => exact ⟨false, (fun e => by cases e), ⟨_, _, _, rfl⟩, by simp [Op.equalIn, run_underlying he]⟩
theorem wnil_ok (h : RelS m H B H0 gl rest st a.tmps w) {o : Oper} (hd : Zh o.dst st.n = true) {K : St → Prop} (hw : wnil P o.dst o.op (st.ev gl) st K) : ∃ st', K st' ∧ OpOk P B H0 gl rest a w o.dst st' (execOp a.eval o) ∧ ∀ c, o.op ≠ .defer c := by
 unfold wnil at hw
 split at hw
 ·rename_i op t x y p ho
  split at hw
  ·rename_i sz xs hx
   split at hw
   ·rename_i hy
    split at hw
    ·rename_i ht
     have hxv := h.ev x
     rw [hx] at hxv
     have hyv := h.ev y
     rw [hy] at hyv
     have hye := hyv.nil_inv
     obtain ⟨b, hb, ⟨ad, n, c, hu⟩, he⟩ := Q1n (P := P) (w := w) 9999 hxv.sl_inv ht
     have hg : ∀ op, (eqGuard op t x y (a.eval x) (a.eval y)).run P w = .ok () w := fun op => by rw [hu, hye]; cases op <;> rfl
     have hnd : ∀ c, o.op ≠ .defer c := fun c e => by rw [ho] at e; cases e
     split at hw
     ·obtain ⟨r, h5, h6⟩ := DO (P := P) (w := w) (t := t) (op := .eql) (u := .slice ad n c) (v := .slice none 0 0) (b := b) (av := .bool b) rfl (by rw [← hu]; exact he) (fun _ => rfl) (fun e => by cases e)
      refine ⟨st.putO o.dst (.bool b), ?_, ?_, hnd⟩
      ·cases b with
       | true => exact hw.1 (hb rfl)
       | false => exact hw.2
      ·unfold execOp
       simp only [ho]
       exact OpOk.val h hd (v := r) (by rw [hu, hye] at hg ⊢; simp [hg, h5]) (.imm _ _ (h6 _))
     ·obtain ⟨r, h5, h6⟩ := DO (P := P) (w := w) (t := t) (op := .neq) (u := .slice ad n c) (v := .slice none 0 0) (b := b) (av := .bool (!b)) rfl (by rw [← hu]; exact he) (fun e => by cases e) (fun _ => rfl)
      refine ⟨st.putO o.dst (.bool (!b)), ?_, ?_, hnd⟩
      ·cases b with
       | true => exact hw.1 (hb rfl)
       | false => exact hw.2
      ·unfold execOp
       simp only [ho]
       exact OpOk.val h hd (v := r) (by rw [hu, hye] at hg ⊢; simp [hg, h5]) (.imm _ _ (h6 _))
     ·cases hw
    ·cases hw
   ·cases hw
  ·cases hw
 ·cases hw
theorem NZ.of {ro : Option Nat} {n : Nat} {o : Oper} {K : St → Prop} {st' : St} (h : OpOk P B H0 gl rest a w o.dst st' (execOp a.eval o)) (hnd : ∀ c, o.op ≠ .defer c) (hk : K st') : NZ P ro n B H0 gl rest a w o K := Dk.toW (h.step hnd) hk
theorem callees {o : Oper} {f : Nat} {args : List AV} (h : RelS m H B H0 gl rest st a.tmps w) (hd : Zh o.dst st.n = true) {K : St → Prop} {hh : Hint} {vs : Array Value} (hl : args.length = vs.size) (hv : ∀ (j : Nat) (x : AV) (v : Value), args[j]? = some x → vs[j]? = some v → RV H (st.env m) x v)
  (hw : wans (lkb st.hp) args (Ob P gl st.nx f hh (fun r => K ((st.bump 1).eff o.dst r)))) : Ans P f vs w fun e w' => ∃ st' v m' H', K st' ∧ e = .returned v ∧ Qv B w w' ∧ RelS m' H' B H0 gl rest st' (a.put o.dst v).tmps w' := by
 have hbump : ∀ r : AV, (st.bump 1).eff o.dst (r, none) = (st.bump 1).putO o.dst r := fun _ => rfl
 have strict : ∀ ts : List AV, ts.length = args.length → (∀ (j : Nat) (t : AV) (v : Value), ts[j]? = some t → vs[j]? = some v → RelI (snap H (lkb st.hp) m w) t v) → HI P gl st.nx f hh (fun r => K ((st.bump 1).eff o.dst r)) true ts →
   Ans P f vs w fun e w' => ∃ st' v m' H', K st' ∧ e = .returned v ∧ Qv B w w' ∧ RelS m' H' B H0 gl rest st' (a.put o.dst v).tmps w' := fun ts hlen hts hw1 => by
  obtain ⟨ch, x, h1, h2, h3⟩ := HJ hw1
  refine (TX (st := st.bump 1) h1 (h.bump 1) hd (h.heap.fresh _ (Nat.le_refl _)) (Nat.lt_succ_self _) true (lkb st.hp) ts (fun _ _ hh => hh) (fun e => by cases e) (by rw [hlen]; exact hl) hts h2).mono fun e w' hpost => ?_
  obtain ⟨v, m', H', rfl, hb, hr⟩ := hpost
  exact ⟨_, v, m', H', h3, rfl, hb, hr⟩
 unfold wans at hw
 split at hw
 ·rename_i ts hts
  obtain ⟨hl', hr'⟩ := LQ (R' := RelI (snap H (fun _ => none) m w)) hl hv hts fun x t v hx ht => Me (H1 := H) false (fun id ver cs hh => by cases hh) (fun id ver cs hh => by cases hh) (fun id bx hh => by cases hh) (fun _ => rfl) 12 x t v hx ht
  have hsn : snap H (fun _ => none) m w = H := by
   funext b o; unfold snap; rw [if_neg]; rintro ⟨_, _, _, e, _⟩; cases e
  rw [hsn] at hr'
  have fin : ∀ r, Pu P gl f ts r → K ((st.bump 1).putO o.dst r) → Ans P f vs w fun e w' => ∃ st' v m' H', K st' ∧ e = .returned v ∧ Qv B w w' ∧ RelS m' H' B H0 gl rest st' (a.put o.dst v).tmps w' := fun r hp hK => by
   refine (Q1c (h.bump 1) hd hl' hr' hp).mono fun e w' hpost => ?_
   obtain ⟨v, m', H', rfl, hb, hr⟩ := hpost
   exact ⟨_, v, m', H', hK, rfl, hb, hr⟩
  simp only [Ob] at hw
  split at hw
  ·exact fin _ hw.1 hw.2
  ·obtain ⟨x, hp, hK⟩ := hw
   exact fin _ hp hK
  ·obtain ⟨u, hp, h1, h2⟩ := hw
   cases u with
   | true => exact fin _ hp (h1 rfl)
   | false => exact fin _ hp (h2 rfl)
  ·cases hw
 ·obtain ⟨ts, hw1, hlen, hts⟩ := Co (R := RV H (st.env m)) (R' := RelI (snap H (lkb st.hp) m w)) (fun x u K hx hk => I4 (fun id b hid => h.heap.box id b hid) (fun id bx hid hr => (h.heap.sepR id bx hid hr).2.2) 12 x u K hx hk) args vs.toList _ (by simp [hl]) (fun j c u hc hu => hv j c u hc (by simpa using hu)) hw
  exact strict ts hlen (fun j t v ht hv' => hts j t v ht (by simpa using hv')) hw1
theorem A9 (h0 : ch0.Ok P gl) (hwf : WF.Ok P gl wf) (h : RelS m H B H0 gl rest st a.tmps w) {o : Oper} (hd : Zh o.dst st.n = true) {K : St → Prop} {hh : Option Hint} (hw : TR P gl ch0 wf o st K hh) (ro : Option Nat) (n : Nat) : NZ P ro n B H0 gl rest a w o K := by
 unfold TR at hw
 split at hw
 ·rename_i hc
  split at hw
  ·rename_i f args hf
   unfold wseqC at hw
   split at hw
   ·split at hw
    ·rename_i r hp' nx' hr
     refine Dk.toW (inl_ok (ch := ch0) (rd := HW) h0 LL h hd (st' := (st.setHp hp' nx').putO o.dst r) ?_ ro n) hw
     unfold xinl
     rw [hf]; simp only [hr]
    ·cases hw
   ·rename_i hh
    split at hw
    ·rename_i sub
     refine CG h hf ro n fun vs hl hv => ?_
     refine (hwf _ _ _ _ _ _ hw m H B H0 _ w vs h.heap hl hv h.hold).mono fun e w' hpost => ?_
     obtain ⟨v, m', H', r, hp', nx', hk, rfl, hb, hh, hrv, hrest⟩ := hpost
     exact ⟨_, v, m', H', hk, rfl, hb, h.taken hd hh hrv hrest⟩
    ·rename_i kb r bs
     refine CG h hf ro n fun vs hl hv => P1 h hd hl hv (fun args1 bs1 ids sc hq => ?_) hw
     obtain ⟨x, h1, h2⟩ := hq
     exact ⟨_, _, h1, h2⟩
    ·rename_i kb bs
     refine CG h hf ro n fun vs hl hv => P1 h hd hl hv (fun args1 bs1 ids sc hq => ?_) hw
     obtain ⟨x, u, h1, h2, h3⟩ := hq
     cases u with
     | true => exact ⟨_, _, h1, h2 rfl⟩
     | false => exact ⟨_, _, h1, h3 rfl⟩
    ·exact CG h hf ro n fun vs hl hv => callees h hd hl hv hw
  ·cases hw
 ·rename_i hc
  split at hw
  ·obtain ⟨st', hK, hop, hnd⟩ := wown_ok h hd hw
   exact NZ.of hop hnd hK
  ·obtain ⟨st', hK, hop, hnd⟩ := wnil_ok h hd hw
   exact NZ.of hop hnd hK
  ·obtain ⟨r, h1, h2⟩ := Bz hw
   obtain ⟨v, b⟩ := r
   have hch : Z0.Ok P gl (fun _ _ _ _ => none) := fun _ _ _ _ _ _ _ hk => by cases hk
   cases b with
   | some b =>
    refine Dk.toW (Ot (ch := fun _ _ _ _ => none) (rd := HW) hch LL h hd (st' := (st.bump 1).eff o.dst (v, some b)) ?_ ro n) h2
    unfold Ft
    rw [if_neg (by rw [hc]; simp), h1]
   | none =>
    refine Dk.toW (Ot (ch := fun _ _ _ _ => none) (rd := HW) hch LL h hd (st' := st.putO o.dst v) ?_ ro n) h2
    unfold Ft
    rw [if_neg (by rw [hc]; simp), h1]
theorem Of (h0 : ch0.Ok P gl) (hwf : WF.Ok P gl wf) (h : RelS m H B H0 gl rest st a.tmps w) {o : Oper} (hd : Zh o.dst st.n = true) {K : St → Prop} {hh : Option Hint} (hw : Fs P gl ch0 wf o st K hh) (ro : Option Nat) (n : Nat) : NZ P ro n B H0 gl rest a w o K := by
 unfold Fs at hw
 split at hw
 ·rename_i sh s hh
  exact fun next Q hn => A9 h0 hwf h hd hw ro n next Q fun a' w' m' H' st' hk hdf hb hr => by
   obtain ⟨st2, h2, e2⟩ := BE (gl := gl) hk
   exact hn a' w' m' H' st2 h2 hdf hb (e2.rel _ _ _ _ _ _ _ hr)
 ·exact A9 h0 hwf h hd hw ro n
theorem RQ (h0 : ch0.Ok P gl) (hwf : WF.Ok P gl wf) (h : RelS m H B H0 gl rest st a.tmps w) {o : Oper} (hd : Zh o.dst st.n = true) {K : St → Prop} (hw : E9 P gl ch0 wf hs o st K) (ro : Option Nat) (n : Nat) : NZ P ro n B H0 gl rest a w o K := by
 unfold E9 at hw
 split at hw
 ·rename_i kb hh _
  obtain ⟨s, hconv, hw⟩ := Yj (gl := gl) hw
  obtain ⟨m1, H1, hr⟩ := hconv.2 _ _ _ _ _ _ _ h
  exact Of h0 hwf hr (by rw [hconv.1]; exact hd) hw ro n
 ·exact Of h0 hwf h hd hw ro n
theorem VP {all : List Oper} {o : Oper} {b : Bool} (h : RelS m H B H0 gl rest st a.tmps w) (hg : WP o (gval all o st) = some b) : Region.wanted o (yielded all.toArray a.tmps) = b := by
 unfold WP gval at hg
 cases ho : o.guard with
 | none => rw [ho] at hg; cases hg; simp [Region.wanted, ho]
 | some x =>
  obtain ⟨j, want⟩ := x
  rw [ho] at hg
  simp only at hg
  cases hgs : Nt all j with
  | none => rw [hgs] at hg; cases hg
  | some g =>
   rw [hgs] at hg
   exact HH ho hgs hg (h.slot g)
theorem Og (h0 : ch0.Ok P gl) (hwf : WF.Ok P gl wf) {all : List Oper} (hok : Hg all = true) {nf : Nat} (hbit : ∀ i, nf ≤ i → i < all.length → ∀ j, j < i → ((UX all []).getD i 0).testBit j = true) {ro : Option Nat} {n : Nat} {d0 : List Deferred} {w0 : World} {K : St → Prop} {Q : Exit → Act → World → Prop}
  (hQ : ∀ (sF : St) (a : Act) (w : World) (m : Nat → Lc) (H : HV), K sF → a.defers = d0 → Qv B w0 w → RelS m H B H0 gl rest sF a.tmps w → Q .normal a w) :
  ∀ (d k : Nat) (listed : Array Bool) (st : St) (a : Act) (w : World) (m : Nat → Lc) (H : HV), nf ≤ k → k + d = all.length → listed.size = all.length → (∀ j, j < k → listed.getD j false = true) → (∀ j, k ≤ j → listed.getD j false = false) → wseq P gl ch0 wf hs all (all.drop k) st K → a.defers = d0 → Qv B w0 w → RelS m H B H0 gl rest st a.tmps w → wpAnyIn (FW ro) n P .any all.toArray Q d listed a w
 | 0, k, listed, st, a, w, m, H, _, hkd, hs', h1, _, hk, hd, hb, hr => by
  rw [List.drop_eq_nil_of_le (by omega)] at hk
  exact ⟨Q0r hs' fun j hj => h1 j (by omega), hQ st a w m H hk hd hb hr⟩
 | d + 1, k, listed, st, a, w, m, H, hnk, hkd, hs', h1, h2, hk, hd, hb, hr => by
  have hkl : k < all.length := by omega
  obtain ⟨o, ho⟩ : ∃ o, all[k]? = some o := ⟨all[k], List.getElem?_eq_getElem hkl⟩
  have hdrop : all.drop k = o :: all.drop (k + 1) := by
   rw [List.drop_eq_getElem_cons hkl]
   rw [List.getElem?_eq_getElem hkl] at ho; cases ho; rfl
  rw [hdrop] at hk
  have ih := Og h0 hwf hok hbit (ro := ro) (n := n) hQ d (k + 1) (listed.setIfInBounds k true)
  have hset : ∀ j, j < k + 1 → (listed.setIfInBounds k true).getD j false = true := fun j hj => by
   by_cases e : j = k
   ·subst e; simp [Array.getD_eq_getD_getElem?, show j < listed.size by omega]
   ·rw [getD_set_ne false (Ne.symm e)]; exact h1 j (by omega)
  have hset2 : ∀ j, k + 1 ≤ j → (listed.setIfInBounds k true).getD j false = false := fun j hj => by
   rw [getD_set_ne false (by omega)]; exact h2 j (by omega)
  refine ⟨fun hready => ?_, fun i hi => ?_⟩
  ·exfalso
   have : k ∈ Region.ready .any all.toArray listed := by
    rw [mem_ready]
    exact ⟨by rw [Mt true (by omega)]; exact h2 k (Nat.le_refl _), o, by rw [List.getElem?_toArray]; exact ho, fun e he hbd => h1 e.on ((Ns hok _ o ho).before e he hbd)⟩
   rw [hready] at this; cases this
  ·rw [mem_ready] at hi
   obtain ⟨hi0, o', ho', hpre⟩ := hi
   rw [List.getElem?_toArray] at ho'
   have hil : i < all.length := (List.getElem?_eq_some_iff.1 ho').1
   rw [Mt true (by omega)] at hi0
   have hik : i = k := by
    rcases Nat.lt_trichotomy i k with hlt | heq | hgt
    ·rw [h1 i hlt] at hi0; cases hi0
    ·exact heq
    ·exfalso
     have hclI : IL all fun q => listed.getD q false || q == i := fun q o2 ho2 hLq e he hbe => by
      by_cases hqi : q = i
      ·subst hqi
       rw [ho'] at ho2; cases ho2
       simp only [hpre e he hbe, Bool.true_or]
      ·have hq' : (q == i) = false := by simpa using hqi
       have hqk : q < k := by
        rcases Nat.lt_or_ge q k with hl | hg
        ·exact hl
        ·have hLq : (listed.getD q false || q == i) = true := hLq
         rw [h2 q hg, hq'] at hLq; cases hLq
       have := (Ns hok q o2 ho2).before e he hbe
       simp only [h1 e.on (by omega), Bool.true_or]
     have := Mx hclI i k (hbit i (by omega) hil k hgt) (by simp)
     have hne : (k == i) = false := by simp; omega
     rw [hne, h2 k (Nat.le_refl _)] at this
     cases this
   subst hik
   rw [ho] at ho'; cases ho'
   simp only [wseq] at hk
   split at hk
   ·rename_i hdst
    unfold wpOpIn
    simp only [List.getElem?_toArray, ho]
    split at hk
    ·rename_i hg
     rw [if_pos (VP hr hg)]
     exact RQ h0 hwf hr hdst hk ro n _ _ fun a' w' m' H' s hs2 hd' hb' hr' => ih s a' w' m' H' (by omega) (by omega) (by simp [hs']) hset hset2 hs2 (hd'.trans hd) (hb.trans hb') hr'
    ·rename_i hg
     rw [if_neg (by rw [VP hr hg]; simp)]
     exact ⟨fun _ _ => trivial, ih _ _ w m H (by omega) (by omega) (by simp [hs']) hset hset2 hk ((Yf _ _ _).trans hd) hb (hr.putO hdst (.tup [] #[] rfl (fun j c v hj => by simp at hj)))⟩
    ·cases hk
   ·cases hk
theorem BH (h0 : ch0.Ok P gl) (hwf : WF.Ok P gl wf) {all : List Oper} {ro : Option Nat} {n : Nat} {d0 : List Deferred} {w0 : World} {K : St → Prop} {Q : Exit → Act → World → Prop}
  (hQ : ∀ (sF : St) (a : Act) (w : World) (m : Nat → Lc) (H : HV), K sF → a.defers = d0 → Qv B w0 w → RelS m H B H0 gl rest sF a.tmps w → Q .normal a w) :
  ∀ (pre l : List Oper) (st : St) (a : Act) (w : World) (m : Nat → Lc) (H : HV), all = pre ++ l → wseq P gl ch0 wf hs all l st K → a.defers = d0 → Qv B w0 w → RelS m H B H0 gl rest st a.tmps w → wpOpsIn (FW ro) n P all.toArray Q (List.range' pre.length l.length) a w
 | pre, [], st, a, w, m, H, _, hk, hd, hb, hr => hQ st a w m H hk hd hb hr
 | pre, o :: l, st, a, w, m, H, he, hk, hd, hb, hr => by
  simp only [List.length_cons, List.range'_succ, wpOpsIn]
  have ho : all.toArray[pre.length]? = some o := by rw [List.getElem?_toArray, he, List.getElem?_append_right (Nat.le_refl _)]; simp
  simp only [ho]
  have ih := BH h0 hwf (all := all) (ro := ro) (n := n) hQ (pre ++ [o]) l
  simp only [List.length_append, List.length_cons, List.length_nil, Nat.zero_add, List.append_assoc, List.singleton_append] at ih
  simp only [wseq] at hk
  split at hk
  ·rename_i hdst
   split at hk
   ·rename_i hg
    rw [if_pos (VP hr hg)]
    exact RQ h0 hwf hr hdst hk ro n _ _ fun a' w' m' H' s hs hd' hb' hr' => ih s a' w' m' H' he hs (hd'.trans hd) (hb.trans hb') hr'
   ·rename_i hg
    rw [if_neg (by rw [VP hr hg]; simp)]
    exact ⟨fun _ _ => trivial, ih _ _ w m H he hk ((Yf _ _ _).trans hd) hb (hr.putO hdst (.tup [] #[] rfl (fun j c v hj => by simp at hj)))⟩
   ·cases hk
  ·cases hk
end
end HY
end
section
namespace HY
open Go Go.RowKit
inductive LeVs : List AV → List AV → Prop
 | nil : LeVs [] []
 | cons {x t : AV} {xs ts : List AV} : LeV x t → LeVs xs ts → LeVs (x :: xs) (t :: ts)
theorem LeV.refl (x : AV) : LeV x x := ⟨fun _ _ _ h => h⟩
theorem LeV.of_eq {x t : AV} (h : x = t) : LeV x t := h ▸ .refl x
theorem LeV.undef (x : AV) : LeV x .undef := ⟨fun _ _ _ _ => .imm _ _ (.undef _)⟩
theorem LeVs.refl : ∀ (xs : List AV), LeVs xs xs
 | [] => .nil
 | x :: xs => .cons (.refl x) (LeVs.refl xs)
theorem LeVs.get : ∀ {xs ts : List AV}, LeVs xs ts → xs.length = ts.length ∧ ∀ (j : Nat) (t : AV), ts[j]? = some t → ∃ x, xs[j]? = some x ∧ LeV x t
 | _, _, .nil => ⟨rfl, fun j t h => by simp at h⟩
 | _, _, .cons h r => ⟨by simp [r.get.1], fun j t' hj => by
  cases j with
  | zero => simp at hj; subst hj; exact ⟨_, rfl, h⟩
  | succ j => simpa using r.get.2 j t' (by simpa using hj)⟩
theorem LeV.nil (sz : Nat) : LeV .nil (.sl sz []) := ⟨fun H E v h => by rw [h.nil_inv]; exact .imm _ _ (.sl0 _ _ _ (Nat.zero_le _))⟩
theorem LeV.agg {xs ts : List AV} (h : LeVs xs ts) : LeV (.agg xs) (.agg ts) := ⟨fun H E v hv => by
 obtain ⟨h1, h2⟩ := h.get
 obtain ⟨vs, rfl, a, b, c⟩ := hv.agg_inv
 exact .agg _ vs (by rw [← h1]; exact a) b fun j t u hj hu => by
  obtain ⟨x, hx, hle⟩ := h2 j t hj
  exact hle.ok H E u (c j x u hx hu)⟩
inductive LeEs : List AV → List AV → Prop
 | nil : LeEs [] []
 | cons {x t : AV} {xs ts : List AV} : LeL x.cells t.cells → LeEs xs ts → LeEs (x :: xs) (t :: ts)
theorem LeEs.get : ∀ {xs ts : List AV}, LeEs xs ts → xs.length = ts.length ∧ ∀ (j : Nat) (t : AV), ts[j]? = some t → ∃ x, xs[j]? = some x ∧ LeL x.cells t.cells
 | _, _, .nil => ⟨rfl, fun j t h => by simp at h⟩
 | _, _, .cons h r => ⟨by simp [r.get.1], fun j t' hj => by
  cases j with
  | zero => simp at hj; subst hj; exact ⟨_, rfl, h⟩
  | succ j => simpa using r.get.2 j t' (by simpa using hj)⟩
theorem LeT.sl {sz : Nat} {xs ts : List AV} (h : LeEs xs ts) : LeT (.sl sz xs) (.sl sz ts) := ⟨fun H v hv => by
 obtain ⟨h1, h2⟩ := h.get
 cases hv with
 | sl0 _ a cap hc =>
  have : ts = [] := List.eq_nil_of_length_eq_zero (by rw [← h1]; rfl)
  subst this
  exact .sl0 _ _ _ hc
 | sl _ _ b o cap val a0 a1 a2 a3 a4 a5 =>
  rw [h1] at a1 ⊢
  refine .sl sz ts b o cap val a0 a1 a2 (fun i t ht => ?_) (fun i t j c ht hc => ?_) (fun i t j c ht hc => ?_)
  ·obtain ⟨x, hx, hl⟩ := h2 i t ht
   rw [← hl.get.1]; exact a3 i x hx
  ·obtain ⟨x, hx, hl⟩ := h2 i t ht
   obtain ⟨c', hc', _⟩ := hl.get.2 j c hc
   exact a4 i x j c' hx hc'
  ·obtain ⟨x, hx, hl⟩ := h2 i t ht
   obtain ⟨c', hc', hle⟩ := hl.get.2 j c hc
   exact hle.ok _ _ (a5 i x j c' hx hc')⟩
theorem LeV.sl {sz : Nat} {xs ts : List AV} (h : LeEs xs ts) : LeV (.sl sz xs) (.sl sz ts) := ⟨fun H E v hv => .imm _ _ ((LeT.sl h).ok H v hv.sl_inv)⟩
theorem LeEs.flat : ∀ {xs ts : List AV}, LeEs xs ts → LeL (xs.flatMap AV.cells) (ts.flatMap AV.cells)
 | _, _, .nil => .nil
 | _, _, .cons (x := x) (t := t) h r => by
  simp only [List.flatMap_cons]
  have := r.flat
  revert h
  generalize x.cells = a
  generalize t.cells = b
  intro h
  induction h with
  | nil => exact this
  | cons h _ ih => exact .cons h ih
inductive LeB : Box → Box → Prop
 | refl (b : Box) : LeB b b
 | cells (v : Nat) {cs ts : List AV} : LeVs cs ts → LeB (.cells v cs) (.cells v ts)
 | own (v sz : Nat) {xs ts : List AV} : LeEs xs ts → LeB (.own v sz xs) (.own v sz ts)
inductive LeBs : List Box → List Box → Prop
 | nil : LeBs [] []
 | cons {x t : Box} {xs ts : List Box} : LeB x t → LeBs xs ts → LeBs (x :: xs) (t :: ts)
theorem LeBs.refl : ∀ (xs : List Box), LeBs xs xs
 | [] => .nil
 | x :: xs => .cons (.refl x) (LeBs.refl xs)
theorem LeBs.get : ∀ {xs ts : List Box}, LeBs xs ts → xs.length = ts.length ∧ ∀ (j : Nat) (t : Box), ts[j]? = some t → ∃ x, xs[j]? = some x ∧ LeB x t
 | _, _, .nil => ⟨rfl, fun j t h => by simp at h⟩
 | _, _, .cons h r => ⟨by simp [r.get.1], fun j t' hj => by
  cases j with
  | zero => simp at hj; subst hj; exact ⟨_, rfl, h⟩
  | succ j => simpa using r.get.2 j t' (by simpa using hj)⟩
theorem LeB.ver {b t : Box} (h : LeB b t) : b.ver? = t.ver? ∧ (∀ l, Real t l ↔ Real b l) := by
 cases h with
 | refl => exact ⟨rfl, fun _ => Iff.rfl⟩
 | cells v h => exact ⟨rfl, fun _ => Iff.rfl⟩
 | own v sz h => exact ⟨rfl, fun _ => Iff.rfl⟩
theorem LeB.ok {b t : Box} (h : LeB b t) {H : HV} {E : Env} {l : Lc} {w : World} (hb : Vs H E b l w) : Vs H E t l w := by
 cases h with
 | refl => exact hb
 | cells v h =>
  obtain ⟨h1, h2⟩ := h.get
  obtain ⟨C, e, c1, c2, c3, c4⟩ := hb
  refine ⟨C, e, c1, c2, by rw [← h1]; exact c3, fun j t ht => ?_⟩
  obtain ⟨x, hx, hle⟩ := h2 j t ht
  obtain ⟨u, a1, a2, a3⟩ := c4 j x hx
  exact ⟨u, a1, a2, hle.ok _ _ _ a3⟩
 | own v sz h =>
  obtain ⟨h1, h2⟩ := h.get
  obtain ⟨h3, h4⟩ := h.flat.get
  obtain ⟨a0, a1, a2⟩ := hb
  refine ⟨a0, fun t ht => ?_, ?_⟩
  ·obtain ⟨j, hj⟩ := List.getElem?_of_mem ht
   obtain ⟨x, hx, hl⟩ := h2 j t hj
   rw [← hl.get.1]; exact a1 x (List.mem_of_getElem? hx)
  ·rcases a2 with ⟨b0, b1⟩ | ⟨b0, C, e, c1, c2, c3, c4⟩
   ·subst b1
    exact .inl ⟨b0, List.eq_nil_of_length_eq_zero (by rw [← h1]; rfl)⟩
   ·refine .inr ⟨b0, C, e, c1, c2, by rw [← h3]; exact c3, fun j c hj => ?_⟩
    obtain ⟨x, hx, hle⟩ := h4 j c hj
    obtain ⟨u, d1, d2, d3⟩ := c4 j x hx
    exact ⟨u, d1, d2, hle.ok _ _ d3⟩
def HpLe (hp hp' : Hp) : Prop := ∀ id, (hp id = none ∧ hp' id = none) ∨ ∃ b t, hp id = some b ∧ hp' id = some t ∧ LeB b t
theorem HpLe.inv {hp hp' : Hp} (h : HpLe hp hp') {id : Nat} {t : Box} (ht : hp' id = some t) : ∃ b, hp id = some b ∧ LeB b t := by
 rcases h id with ⟨_, h2⟩ | ⟨b, t', h1, h2, h3⟩
 ·rw [ht] at h2; cases h2
 ·rw [ht] at h2; cases h2; exact ⟨b, h1, h3⟩
theorem LeB.lp {b t : Box} (h : LeB b t) {m : Nat → Lc} {hp hp' : Hp} {id : Nat} (h1 : hp id = some b) (h2 : hp' id = some t) : (Qq hp m).lp id = (Qq hp' m).lp id := by
 cases h with
 | refl => simp only [Qq, h1, h2]
 | cells v h => simp only [Qq, h1, h2]
 | own v sz h => simp only [Qq, h1, h2]
theorem HpLe.env {hp hp' : Hp} (h : HpLe hp hp') (m : Nat → Lc) : Env.le (Qq hp m) (Qq hp' m) := by
 refine ⟨fun id ver ⟨b, h1, h2⟩ => ?_, fun id ver l _ hl => ?_, fun id l hl => ?_⟩
 ·rcases h id with ⟨h3, _⟩ | ⟨b', t, h3, h4, h5⟩
  ·rw [h1] at h3; cases h3
  ·rw [h1] at h3; cases h3
   exact ⟨t, h4, fun v hv => h2 v (by rw [h5.ver.1]; exact hv)⟩
 ·rcases h id with ⟨_, h4⟩ | ⟨b', t, h3, h4, h5⟩
  ·simp only [Qq, h4] at hl; cases hl
  ·simp only [Qq, h4] at hl
   simp only [Qq, h3, h5.ver.1]
   exact hl
 ·rcases h id with ⟨h3, _⟩ | ⟨b', t, h3, h4, h5⟩
  ·simp only [Qq, h3] at hl; cases hl
  ·rw [← h5.lp h3 h4]; exact hl
section
variable {m : Nat → Lc} {H : HV} {B : Nat → Prop} {H0 : HV} {gl : Nat → AV} {w : World}
theorem RelH.le {hp hp' : Hp} {nx : Nat} (h : RelH m H B H0 gl hp nx w) (hle : HpLe hp hp') (hty : ∀ id v cs, hp' id = some (.cells v cs) → ∃ cs0, hp id = some (.cells v cs0)) : RelH m H B H0 gl hp' nx w where
 sat := h.sat
 old := h.old
 low := h.low
 fresh id hid := by
  rcases hle id with ⟨_, h2⟩ | ⟨b, t, h1, h2, _⟩
  ·exact h2
  ·rw [h.fresh id hid] at h1; cases h1
 box id t ht := by
  obtain ⟨b, hb, hle'⟩ := hle.inv ht
  exact hle'.ok ((h.box id b hb).mono (.refl _) (hle.env m) rfl)
 sepR id t ht hr := by
  obtain ⟨b, hb, hle'⟩ := hle.inv ht
  exact h.sepR id b hb ((hle'.ver.2 _).1 hr)
 injR i j b1 b2 h1 h2 r1 r2 he := by
  obtain ⟨c1, e1, l1⟩ := hle.inv h1
  obtain ⟨c2, e2, l2⟩ := hle.inv h2
  exact h.injR i j c1 c2 e1 e2 ((l1.ver.2 _).1 r1) ((l2.ver.2 _).1 r2) he
 gv := h.gv
 gl := h.gl
 ty id v cs hid := by
  obtain ⟨cs0, h0⟩ := hty id v cs hid
  exact h.ty id v cs0 h0
theorem LeB.cellsInv {b : Box} {v : Nat} {cs : List AV} (h : LeB b (.cells v cs)) : ∃ cs0, b = .cells v cs0 := by
 cases h with
 | refl => exact ⟨_, rfl⟩
 | cells _ _ => exact ⟨_, rfl⟩
theorem LeBs.hp {bs bs' : List Box} (h : LeBs bs bs') : HpLe (lkb (hpOf 0 bs)) (lkb (hpOf 0 bs')) := fun id => by
 obtain ⟨h1, h2⟩ := h.get
 rw [DJ, DJ]
 simp only [Nat.zero_le, if_true, Nat.sub_zero]
 cases ht : bs'[id]? with
 | none =>
  rw [List.getElem?_eq_none_iff] at ht
  exact .inl ⟨by rw [List.getElem?_eq_none_iff]; omega, rfl⟩
 | some t =>
  obtain ⟨b, hb, hle⟩ := h2 id t ht
  exact .inr ⟨b, t, hb, rfl, hle⟩
theorem RelH.leBs {bs bs' : List Box} {nx : Nat} (h : RelH m H B H0 gl (lkb (hpOf 0 bs)) nx w) (hle : LeBs bs bs') : RelH m H B H0 gl (lkb (hpOf 0 bs')) nx w :=
 h.le hle.hp fun id v cs hid => by
  obtain ⟨b, hb, hl⟩ := hle.hp.inv hid
  obtain ⟨cs0, rfl⟩ := hl.cellsInv
  exact ⟨cs0, hb⟩
theorem LeBs.pins : ∀ {bs bs' : List Box}, LeBs bs bs' → ∀ j, UU j bs = UU j bs'
 | _, _, .nil, _ => rfl
 | _, _, .cons (x := x) (t := t) h r, j => by
  have ih := r.pins (j + 1)
  cases h with
  | refl => cases x <;> simp only [UU, ih]
  | cells v h => simp only [UU, ih]
  | own v sz h => simp only [UU, ih]
theorem Bq : ∀ {ks : List Nat} {vs vs' : List AV}, LeVs vs vs' → ∀ k, LeV (lk .undef (slOf ks vs) k) (lk .undef (slOf ks vs') k)
 | [], vs, vs', h, k => by
  cases vs <;> cases vs' <;> exact .refl _
 | a :: ks, _, _, .nil, k => .refl _
 | a :: ks, _, _, .cons h r, k => by
  simp only [slOf]
  rw [GV, GV]
  by_cases e : a = k
  ·rw [if_pos e, if_pos e]; exact h
  ·rw [if_neg e, if_neg e]; exact Bq r k
theorem Cz {n : Nat} {ks : List Nat} {vs vs' : List AV} {bs bs' : List Box} (hv : LeVs vs vs') (hb : LeBs bs bs') : Conv gl (ZE n ks vs bs) (ZE n ks vs' bs') := ⟨rfl, fun m H B H0 rest tmps w h => by
 have hE := hb.hp.env m
 refine ⟨m, H, ?_, h.size, fun k => ?_, fun p hp => (h.rest p hp).mono (.refl _) hE⟩
 ·have := h.heap.leBs hb
  show RelH m H B H0 gl (lkb (hpOf 0 bs')) bs'.length w
  rw [← hb.get.1]; exact this
 ·exact ((Bq hv k).ok _ _ _ (h.slot k)).mono (.refl _) hE⟩
end
theorem PuH.le {P : Program} {gl : Nat → AV} {f : Nat} {args args' : List AV} {bs bs' bt bt' : List Box} {r r' : AV} (h : PuH P gl f args' bs' r bt) (ha : LeVs args args') (hb : LeBs bs bs') (hr : LeV r r') (ht : LeBs bt bt') : PuH P gl f args bs r' bt' := ⟨fun m H B H0 rest w vs hh hl hv hrest hrv => by
 have hE := hb.hp.env m
 obtain ⟨h1, h2⟩ := ha.get
 refine (h.ok m H B H0 rest w vs (by rw [← hb.get.1]; exact hh.leBs hb) (by rw [← h1]; exact hl) (fun j x v hx hv' => ?_) (by rw [hrest, hb.pins]) (fun p hp => (hrv p hp).mono (.refl _) hE)).mono fun e w' ⟨v, m', H', a, b, c, d, g⟩ => ?_
 ·obtain ⟨y, hy, hle⟩ := h2 j x hx
  exact (hle.ok _ _ _ (hv j y v hy hv')).mono (.refl _) hE
 ·have hE' := ht.hp.env m'
  exact ⟨v, m', H', a, b, by rw [← ht.get.1]; exact c.leBs ht, (hr.ok _ _ _ d).mono (.refl _) hE', fun p hp => (g p hp).mono (.refl _) hE'⟩⟩
end HY
end
section
namespace HY
open Go Go.RowKit
def BO (O : Nat → Prop) (w : World) : Nat → Prop := fun b => b < w.heap.size ∧ ¬ O b
def LR (O : Nat → Prop) (w w' : World) : Nat → Prop := fun b => O b ∨ (w.heap.size ≤ b ∧ b < w'.heap.size)
def unH (Hc H : HV) : HV := fun b o => match Hc b o with
 | some v => some v
 | none => H b o
def HT (O : Nat → Prop) (H : HV) : Nat → Prop := fun b => O b ∧ ∀ o, H b o = none
abbrev JT := Option Nat → (Nat → Prop) → HV → World → Prop
structure JOk (P : Program) (gl : Nat → AV) (l : Nat) (xs : List (List AV)) (J : JT) : Prop where
 sat : ∀ p O Hc w, J p O Hc w → HV.sat Hc w
 low : ∀ p O Hc w, J p O Hc w → ∀ b, O b → b < w.heap.size
 dis : ∀ p O Hc w, J p O Hc w → ∀ b, O b → ∀ o, Hc b o = none
 gls : ∀ p O Hc w, J p O Hc w → ∀ g, RelI Hc (gl g) (.pointer (some ⟨g, 0, none⟩))
 gv : ∀ p O Hc w, J p O Hc w → GvOk gl (BO O w) w
 own : ∀ p O Hc w w', J p O Hc w → Qv (BO O w) w w' → J p (LR O w w') Hc w'
 pub : ∀ p O Hc w H, J p O Hc w → HV.sat H w → (∀ b o v, H b o = some v → O b ∨ Hc b o = some v) → J p (HT O H) (unH Hc H) w
 round : ∀ k O Hc w x (vs : Array Value), J (some k) O Hc w → xs[k]? = some x → x.length = vs.size → (∀ (j : Nat) (c : AV) (v : Value), x[j]? = some c → vs[j]? = some v → RelI Hc c v) →
  ∃ fn tmps azz bd, (Instr.yield l vs).run P w = .ok (.round l fn tmps azz bd) w ∧ ∀ ro n, RoundIn (FW ro) n P l fn tmps azz bd w fun e w' => ∃ b, e = .returned (.bool b) ∧ Qv O w w' ∧ J (if b then some (k + 1) else none) O Hc w'
structure ItOk (P : Program) (gl : Nat → AV) (f : Nat) (caps : List AV) (xs : List (List AV)) : Prop where
 ok : ∀ l J, JOk P gl l xs J → ∀ Hc w (us : Array Value), J (some 0) (fun _ => False) Hc w → caps.length = us.size → (∀ (j : Nat) (c : AV) (v : Value), caps[j]? = some c → us[j]? = some v → RelI Hc c v) →
  Calls P f (#[.func (.yield l) #[] #[]] ++ us) w fun e w' => ∃ v p' O' Hc', e = .returned v ∧ (p' = some xs.length ∨ p' = none) ∧ J p' O' Hc' w'
section
variable {m : Nat → Lc} {H : HV} {B : Nat → Prop} {H0 : HV} {gl : Nat → AV} {hp : Nat → Option Box} {nx : Nat} {w : World} {rest : List (AV × Value)} {st : St} {tmps : Array Value}
theorem E4 {Hc H : HV} : HV.le Hc (unH Hc H) := fun b o v h => by simp [unH, h]
theorem Fm {Hc H : HV} {b o : Nat} {v : Value} (h : unH Hc H b o = some v) : Hc b o = some v ∨ (Hc b o = none ∧ H b o = some v) := by
 unfold unH at h
 split at h
 ·rename_i h1; cases h; exact .inl h1
 ·rename_i h1; exact .inr ⟨h1, h⟩
theorem unH_sat {Hc H : HV} (h1 : HV.sat Hc w) (h2 : HV.sat H w) : HV.sat (unH Hc H) w := fun b o v h => by
 rcases Fm h with h | ⟨_, h⟩
 ·exact h1 b o v h
 ·exact h2 b o v h
theorem unH_le {Hc H : HV} (h1 : HV.sat Hc w) (h2 : HV.sat H w) : HV.le H (unH Hc H) := fun b o v h => by
 unfold unH
 split
 ·rename_i u hu
  have e1 := h1 b o u hu
  have e2 := h2 b o v h
  rw [e1] at e2; exact e2
 ·exact h
theorem Qv.cell {B : Nat → Prop} {w w' : World} (h : Qv B w w') {b o : Nat} (hb : B b) : w'.cell? ⟨b, o, none⟩ = w.cell? ⟨b, o, none⟩ := by
 unfold World.cell?
 rw [h.block b hb]
theorem RelH.base (h : RelH m H B H0 gl hp nx w) {B' : Nat → Prop} {H0' : HV} (old : ∀ b o, B' b → H b o = H0' b o) (low : ∀ b, B' b → b < w.heap.size) (sep : ∀ id b, hp id = some b → Real b (m id) → ¬ B' (m id).g) (gv : GvOk gl B' w) : RelH m H B' H0' gl hp nx w where
 sat := h.sat
 old := old
 low := low
 fresh := h.fresh
 box := h.box
 sepR id b hid hr := ⟨sep id b hid hr, (h.sepR id b hid hr).2⟩
 injR := h.injR
 gv := gv
 gl := h.gl
 ty := h.ty
theorem RelS.base (h : RelS m H B H0 gl rest st tmps w) {B' : Nat → Prop} {H0' : HV} (old : ∀ b o, B' b → H b o = H0' b o) (low : ∀ b, B' b → b < w.heap.size) (sep : ∀ id b, lkb st.hp id = some b → Real b (m id) → ¬ B' (m id).g) (gv : GvOk gl B' w) : RelS m H B' H0' gl rest st tmps w :=
 ⟨h.heap.base old low sep gv, h.size, h.slot, h.rest⟩
theorem RelS.down (h : RelS m H B H0 gl rest st tmps w) {B' : Nat → Prop} {H0' : HV} (hs : ∀ b, B' b → B b) (ho : ∀ b o, B' b → H0 b o = H0' b o) (gv : GvOk gl B' w) : RelS m H B' H0' gl rest st tmps w :=
 h.base (fun b o hb => (h.heap.old b o (hs b hb)).trans (ho b o hb)) (fun b hb => h.heap.low b (hs b hb)) (fun id b hid hr hb => (h.heap.sepR id b hid hr).1 (hs _ hb)) gv
theorem RelS.know (h : RelS m H B H0 gl rest st tmps w) {H' : HV} {H0' : HV} (hle : HV.le H H') (sat : HV.sat H' w) (old : ∀ b o, B b → H' b o = H0' b o) (sep : ∀ id b, lkb st.hp id = some b → Real b (m id) → ∀ o, H' (m id).g o = none) : RelS m H' B H0' gl rest st tmps w :=
 ⟨{ sat := sat, old := old, low := h.heap.low, fresh := h.heap.fresh, box := (fun id b hid => (h.heap.box id b hid).mono' hle (.refl _) fun _ => rfl), sepR := (fun id b hid hr => ⟨(h.heap.sepR id b hid hr).1, (h.heap.sepR id b hid hr).2.1, sep id b hid hr⟩), injR := h.heap.injR, gv := h.heap.gv, gl := (fun g => (h.heap.gl g).mono hle), ty := h.heap.ty }, h.size, fun k => (h.slot k).mono hle (.refl _), fun p hp => (h.rest p hp).mono hle (.refl _)⟩
theorem RelS.obj (h : RelS m H B H0 gl rest st tmps w) {g : Nat} {o1 o2 : Obj} (hb : B g) (h1 : w.heap[g]? = some o1) (hn : ∀ C e fr, o1 ≠ .cells C e fr) : RelS m H B H0 gl rest st tmps (w.putObj g o2) := by
 have hno : ∀ o v, H g o ≠ some v := fun o v hv => by
  have := h.heap.sat g o v hv
  unfold World.cell? at this
  rw [h1] at this
  cases o1 with
  | cells C e fr => exact hn C e fr rfl
  | _ => cases this
 have oth : ∀ k, k ≠ g → (w.putObj g o2).heap[k]? = w.heap[k]? := fun k hk => World.putObj_heap_other hk
 refine ⟨{ sat := (fun b o v hv => ?_), old := h.heap.old, low := (fun b hb => by rw [World.putObj_size]; exact h.heap.low b hb), fresh := h.heap.fresh, box := (fun id b hid => (h.heap.box id b hid).mono' (.refl _) (.refl _) fun hr => oth _ fun e => (h.heap.sepR id b hid hr).1 (e ▸ hb)), sepR := (fun id b hid hr => let ⟨x, y, z⟩ := h.heap.sepR id b hid hr; ⟨x, by rw [World.putObj_size]; exact y, z⟩), injR := h.heap.injR, gv := (fun k sz cs hk => ?_), gl := h.heap.gl, ty := (fun id v cs hid => (h.heap.ty id v cs hid).mono (oth _ fun e => (h.heap.sepR id _ hid trivial).1 (e ▸ hb))) }, h.size, h.slot, h.rest⟩
 ·have hbg : b ≠ g := fun e => by subst e; exact hno o v hv
  have := h.heap.sat b o v hv
  unfold World.cell? at this ⊢
  simp only at this ⊢
  rw [oth b hbg]; exact this
 ·obtain ⟨x, C, e, fr, y, z⟩ := h.heap.gv k sz cs hk
  exact ⟨x, C, e, fr, by rw [oth k (fun hk => by subst hk; rw [h1] at y; cases y; exact hn _ _ _ rfl)]; exact y, z⟩
theorem Qv.obj {B' : Nat → Prop} {w0 : World} (h : Qv B' w0 w) {g : Nat} {o1 o2 : Obj} (hb : ¬ B' g) (h1 : w.heap[g]? = some o1) (hn : ∀ C e fr, o1 ≠ .cells C e fr) : Qv B' w0 (w.putObj g o2) :=
 h.trans ⟨rfl, rfl, rfl, by rw [World.putObj_size]; exact Nat.le_refl _, fun k hk => World.putObj_heap_other fun e => hb (e ▸ hk), fun k C e fr hk => ⟨C, fr, by rw [World.putObj_heap_other fun e' => by subst e'; rw [h1] at hk; cases hk; exact hn _ _ _ rfl]; exact hk, rfl⟩⟩
theorem GvOk.sup {B B' : Nat → Prop} (h : GvOk gl B w) (hs : ∀ b, B b → B' b) : GvOk gl B' w := fun g sz cs hg => let ⟨a, b⟩ := h g sz cs hg; ⟨hs g a, b⟩
theorem GvOk.to {B B' : Nat → Prop} {w w' : World} {B1 : Nat → Prop} (h : GvOk gl B w) (hb : Qv B1 w w') (hs : ∀ b, b < w.heap.size → B b → B' b) : GvOk gl B' w' := fun g sz cs hg => by
 obtain ⟨a, C, e, fr, h1, h2⟩ := h g sz cs hg
 obtain ⟨C', fr', h3, h4⟩ := hb.rows g C e fr h1
 refine ⟨hs g ?_ a, C', e, fr', h3, by rw [h4, h2]⟩
 rcases Nat.lt_or_ge g w.heap.size with hlt | hge
 ·exact hlt
 ·rw [Array.getElem?_eq_none hge] at h1; cases h1
end
end HY
end
section
namespace HY
open Go Go.RowKit
def QN : Code → Bool
 | .seq a b => QN a || QN b
 | .cond _ a b => QN a || QN b
 | .block _ c => QN c
 | .loop c => QN c
 | .rangeFunc .. => true
 | _ => false
def Hm (D : List Nat) : List Deferred := D.map fun g => { target := .collected g, args := #[] }
structure Fin' (B : Nat → Prop) (H0 : HV) (a : Act) (w : World) (hr : Bool) (B' : Nat → Prop) (H0' : HV) (D : List Nat) (a' : Act) (w' : World) : Prop where
 sub : ∀ b, B b → B' b
 old : ∀ b o, B b → H0' b o = H0 b o
 dfr : a'.defers = Hm D ++ a.defers
 nod : D.Nodup
 opn : ∀ g ∈ D, B' g ∧ w.heap.size ≤ g ∧ w'.heap[g]? = some (.deferred (some []))
 non : hr = false → D = []
 bel : Qv B w w'
section
variable {B : Nat → Prop} {H0 : HV} {a : Act} {w : World}
theorem Fin'.of {hr : Bool} {a' : Act} {w' : World} (hd : a'.defers = a.defers) (hb : Qv B w w') : Fin' B H0 a w hr B H0 [] a' w' := ⟨fun _ h => h, fun _ _ _ => rfl, hd, List.nodup_nil, fun g hg => by simp at hg, fun _ => rfl, hb⟩
theorem Fin'.trans {h1 h2 h3 : Bool} {B1 B2 : Nat → Prop} {H1 H2 : HV} {D1 D2 : List Nat} {a1 a2 : Act} {w1 w2 : World} (k1 : Fin' B H0 a w h1 B1 H1 D1 a1 w1) (k2 : Fin' B1 H1 a1 w1 h2 B2 H2 D2 a2 w2) (hh : h3 = false → h1 = false ∧ h2 = false) : Fin' B H0 a w h3 B2 H2 (D2 ++ D1) a2 w2 where
 sub b hb := k2.sub b (k1.sub b hb)
 old b o hb := (k2.old b o (k1.sub b hb)).trans (k1.old b o hb)
 dfr := by rw [k2.dfr, k1.dfr, ← List.append_assoc]; simp [Hm]
 nod := by
  rw [List.nodup_append]
  refine ⟨k2.nod, k1.nod, fun x hx y hy e => ?_⟩
  subst e
  have h := (k1.opn x hy).2.2
  have h2 := (k2.opn x hx).2.1
  rw [Array.getElem?_eq_none h2] at h
  cases h
 opn g hg := by
  rcases List.mem_append.1 hg with hg | hg
  ·obtain ⟨x, y, z⟩ := k2.opn g hg
   exact ⟨x, Nat.le_trans k1.bel.size y, z⟩
  ·obtain ⟨x, y, z⟩ := k1.opn g hg
   exact ⟨k2.sub g x, y, by rw [k2.bel.block g x]; exact z⟩
 non h := by obtain ⟨e1, e2⟩ := hh h; rw [k1.non e1, k2.non e2]; rfl
 bel := k1.bel.trans (k2.bel.mono k1.sub)
theorem Fin'.up {h1 h3 : Bool} {B1 : Nat → Prop} {H1 : HV} {D1 : List Nat} {a1 : Act} {w1 : World} (k : Fin' B H0 a w h1 B1 H1 D1 a1 w1) (hh : h3 = false → h1 = false) : Fin' B H0 a w h3 B1 H1 D1 a1 w1 := { k with non := fun h => k.non (hh h) }
end
def Post (gl : Nat → AV) (B : Nat → Prop) (H0 : HV) (rest : List (AV × Value)) (hr : Bool) (a : Act) (w : World) (K : Exit → St → Prop) : Exit → Act → World → Prop := fun e a' w' =>
 ∃ st' m' H' B' H0' D, K e st' ∧ Fin' B H0 a w hr B' H0' D a' w' ∧ RelS m' H' B' H0' gl rest st' a'.tmps w'
theorem Post.of {gl : Nat → AV} {B : Nat → Prop} {H0 : HV} {rest : List (AV × Value)} {hr : Bool} {a : Act} {w : World} {K : Exit → St → Prop} {e : Exit} {st' : St} {m' : Nat → Lc} {H' : HV} {a' : Act} {w' : World} (hk : K e st') (hd : a'.defers = a.defers) (hb : Qv B w w') (h : RelS m' H' B H0 gl rest st' a'.tmps w') : Post gl B H0 rest hr a w K e a' w' :=
 ⟨st', m', H', B, H0, [], hk, .of hd hb, h⟩
def Wk (P : Program) (gl : Nat → AV) (pins : Option (List AV)) (c : Code) (st : St) (K : Exit → St → Prop) : Prop :=
 ∀ (ro : Option Nat) (d : Nat), (QN c = true → ro = none) → ∀ (B : Nat → Prop) (H0 : HV) (rest : List (AV × Value)) (m : Nat → Lc) (H : HV) (a : Act) (w : World), (∀ ps, pins = some ps → rest.map (·.1) = ps) → RelS m H B H0 gl rest st a.tmps w →
  c.wpIn (FW ro) d P (Post gl B H0 rest (QN c) a w K) a w
def wpL (P : Program) (ro : Option Nat) (d : Nat) (c : Code) (Q : Exit → Act → World → Prop) (a : Act) (w : World) : Prop :=
 ∀ (b : Frame) (k : List Item) (cs : List Frame), b.roundOf = (FW ro).round → (FW ro).fn b.fn → (FW ro).room (cs.length + 1 + d) →
  ∃ e a' w', Q e a' w' ∧ ArrivesIn (Machine.fenced P (FW ro)) P (lone (b.atR a (.code c :: .inLoop c :: k)) cs w) b k cs e a' w'
section
variable {P : Program} {ro : Option Nat} {d : Nat} {c : Code} {Q : Exit → Act → World → Prop} {a : Act} {w : World}
theorem wpL.loop (h : wpL P ro d c Q a w) : (Code.loop c).wpIn (FW ro) d P Q a w := fun b k cs hro hb hr =>
 let ⟨e, a', w', hq, harr⟩ := h b k cs hro hb hr
 ⟨e, a', w', hq, .of_steps (.one (fenced_calm hb hr rfl) stepR_loop) harr⟩
theorem wpL.round (h : c.wpIn (FW ro) d P (Exit.then (wpL P ro d c Q) Q) a w) : wpL P ro d c Q a w := by
 intro b k cs hro hb hr
 obtain ⟨e, a₁, w₁, hq, harr⟩ := h b (.inLoop c :: k) cs hro hb hr
 cases e with
 | normal =>
  obtain ⟨e₂, a₂, w₂, hq₂, harr₂⟩ := hq b k cs hro hb hr
  exact ⟨e₂, a₂, w₂, hq₂, .of_steps (StepsIn.trans harr (.one (fenced_calm hb hr rfl) stepR_inLoop)) harr₂⟩
 | exit id => exact ⟨_, a₁, w₁, hq, .pass (x := .inLoop c) rfl (fun _ _ => .inl (by simp)) harr⟩
 | goto l => exact ⟨_, a₁, w₁, hq, .pass (x := .inLoop c) rfl (fun _ _ => .inl (by simp)) harr⟩
 | ret => exact ⟨_, a₁, w₁, hq, .pass (x := .inLoop c) rfl (fun _ _ => .inl (by simp)) harr⟩
 | panic ch => exact ⟨_, a₁, w₁, hq, .pass (x := .inLoop c) rfl (fun _ _ => .inl (by simp)) harr⟩
 | outgrown => exact ⟨_, a₁, w₁, hq, .pass (x := .inLoop c) rfl (fun _ _ => .inl (by simp)) harr⟩
theorem wpL.mono {Q' : Exit → Act → World → Prop} (h : wpL P ro d c Q a w) (hq : ∀ e a w, Q e a w → Q' e a w) : wpL P ro d c Q' a w := fun b k cs hro hb hr =>
 let ⟨e, a', w', q, r⟩ := h b k cs hro hb hr
 ⟨e, a', w', hq _ _ _ q, r⟩
end
structure ZI (P : Program) (gl : Nat → AV) (ps : List AV) (n : Nat) (c : Code) (ks : List Nat) (vs : List AV) (bs : List Box) (kx : List Nat) (alts : List Alt) : Prop where
 ok : ∀ (ro : Option Nat) (d : Nat), (QN c = true → ro = none) → ∀ (B : Nat → Prop) (H0 : HV) (rest : List (AV × Value)) (m : Nat → Lc) (H : HV) (a : Act) (w : World), rest.map (·.1) = ps → RelS m H B H0 gl rest (ZE n ks vs bs) a.tmps w →
  wpL P ro d c (Post gl B H0 rest (QN c) a w (fun e st' => ∃ alt ∈ alts, ∃ x, alt.φ x ∧ e = alt.ex ∧ st' = ZE n kx (alt.vs x) (alt.bs x))) a w
structure Out (alts : List Alt) (e : Exit) (vs : List AV) (bs : List Box) : Prop where
 ok : ∃ alt ∈ alts, ∃ x, alt.φ x ∧ e = alt.ex ∧ LeVs vs (alt.vs x) ∧ LeBs bs (alt.bs x)
theorem Out.here {α : Type} {φ : α → Prop} {e : Exit} {vs : List AV} {vs' : α → List AV} {bs : List Box} {bs' : α → List Box} {r : List Alt} (x : α) (h : φ x) (hv : LeVs vs (vs' x)) (hb : LeBs bs (bs' x)) : Out (⟨φ, e, vs', bs'⟩ :: r) e vs bs := ⟨⟨_, List.mem_cons_self, x, h, rfl, hv, hb⟩⟩
theorem Out.next {a : Alt} {r : List Alt} {e : Exit} {vs : List AV} {bs : List Box} (h : Out r e vs bs) : Out (a :: r) e vs bs := by
 obtain ⟨alt, h1, h2⟩ := h.ok
 exact ⟨alt, List.mem_cons_of_mem _ h1, h2⟩
def Mc (ks : List Nat) (vs : List AV) : Bool := nodN ks && Nat.beq ks.length vs.length
def Turn (gl : Nat → AV) (n : Nat) (ks : List Nat) (vs ps : List AV) (s : St) (bs' : List Box) : Prop :=
 ∀ (m : Nat → Lc) (H : HV) (B : Nat → Prop) (H0 : HV) (rest : List (AV × Value)) (tmps : Array Value) (w : World), rest.map (·.1) = ps → RelS m H B H0 gl rest ⟨n, slOf ks vs, s.hp, s.nx⟩ tmps w → ∃ m' H', RelS m' H' B H0 gl rest (ZE n ks vs bs') tmps w
def NY (P : Program) (gl : Nat → AV) (ps : List AV) (n : Nat) (prm : Array Tmp) (azz bd : Code) (ks : List Nat) (vs : List AV) (alts : List Alt) : List (List AV) → List Box → Prop
 | [], bs => Mc ks vs = true ∧ Out alts .normal vs bs
 | x :: xs, bs => Mc ks vs = true ∧ ∃ s0, Ts prm.toList x (ZE n ks vs bs) = some s0 ∧ Wk P gl (some (vs ++ ps)) azz s0 (fun e s1 => e = .normal ∧ Wk P gl (some (vs ++ ps)) bd s1 (fun e2 s2 =>
   ∃ j bs', Ru e2 = some j ∧ Turn gl n ks vs ps s2 bs' ∧ match j with
    | none => ∃ bs2, LeBs bs' bs2 ∧ NY P gl ps n prm azz bd ks vs alts xs bs2
    | some _ => Out alts e2 vs bs'))
end HY
end
section
namespace HY
open Go Go.RowKit
theorem Bp : ∀ {ks : List Nat} {vs : List AV}, nodN ks = true → ∀ {j k : Nat} {v : AV}, ks[j]? = some k → vs[j]? = some v → lk .undef (slOf ks vs) k = v
 | [], vs, _, j, k, v, h, _ => by simp at h
 | a :: ks, [], _, j, k, v, _, h => by simp at h
 | a :: ks, x :: vs, hn, j, k, v, hk, hv => by
  simp only [slOf]
  rw [GV]
  cases j with
  | zero => simp at hk hv; subst hk; subst hv; simp
  | succ j =>
   have hne : a ≠ k := fun e => by
    subst e
    have := LN (ids := a :: ks) hn (i := 0) (j := j + 1) rfl hk
    omega
   rw [if_neg hne]
   refine Bp (ks := ks) (vs := vs) ?_ (by simpa using hk) (by simpa using hv)
   simp only [nodN] at hn
   split at hn
   ·cases hn
   ·exact hn
def kvs : List Nat → List AV → Array Value → List (AV × Value)
 | k :: ks, v :: vs, t => (v, t.getD k Go.undef) :: kvs ks vs t
 | _, _, _ => []
theorem Bf : ∀ {ks : List Nat} {vs : List AV} {t : Array Value}, ks.length = vs.length → (kvs ks vs t).map (·.1) = vs
 | [], [], _, _ => rfl
 | [], _ :: _, _, h => by simp at h
 | _ :: _, [], _, h => by simp at h
 | k :: ks, v :: vs, t, h => by simp only [kvs, List.map_cons]; rw [Bf (by simpa using h)]
theorem Bg : ∀ {ks : List Nat} {vs : List AV} {t : Array Value} {p : AV × Value}, p ∈ kvs ks vs t → ∃ (j k : Nat), ks[j]? = some k ∧ vs[j]? = some p.1 ∧ p.2 = t.getD k Go.undef
 | [], [], _, _, h => by simp [kvs] at h
 | [], _ :: _, _, _, h => by simp [kvs] at h
 | _ :: _, [], _, _, h => by simp [kvs] at h
 | k :: ks, v :: vs, t, p, h => by
  simp only [kvs, List.mem_cons] at h
  rcases h with rfl | h
  ·exact ⟨0, k, rfl, rfl, rfl⟩
  ·obtain ⟨j, k', h1, h2, h3⟩ := Bg h
   exact ⟨j + 1, k', by simpa using h1, by simpa using h2, h3⟩
theorem kvs_at : ∀ {ks : List Nat} {vs : List AV} {t : Array Value} {j k : Nat} {v : AV}, ks[j]? = some k → vs[j]? = some v → (v, t.getD k Go.undef) ∈ kvs ks vs t
 | [], _, _, j, k, v, h, _ => by simp at h
 | _ :: _, [], _, j, k, v, _, h => by simp at h
 | a :: ks, x :: vs, t, j, k, v, h1, h2 => by
  cases j with
  | zero => simp at h1 h2; subst h1; subst h2; exact List.mem_cons_self
  | succ j => exact List.mem_cons_of_mem _ (kvs_at (by simpa using h1) (by simpa using h2))
theorem Br : ∀ (ks : List Nat) (vs : List AV) (k : Nat), lk .undef (slOf ks vs) k = .undef ∨ ∃ (j : Nat), ks[j]? = some k ∧ vs[j]? = some (lk .undef (slOf ks vs) k)
 | [], vs, k => .inl (Pe _ _)
 | a :: ks, [], k => .inl (Pe _ _)
 | a :: ks, x :: vs, k => by
  simp only [slOf]
  rw [GV]
  by_cases h : a = k
  ·subst h; rw [if_pos rfl]; exact .inr ⟨0, rfl, rfl⟩
  ·rw [if_neg h]
   rcases Br ks vs k with e | ⟨j, h1, h2⟩
   ·exact .inl e
   ·exact .inr ⟨j + 1, by simpa using h1, by simpa using h2⟩
theorem OS {ks : List Nat} {vs : List AV} (h : Mc ks vs = true) : nodN ks = true ∧ ks.length = vs.length := by
 unfold Mc at h
 rw [Bool.and_eq_true] at h
 exact ⟨h.1, Nat.eq_of_beq_eq_true h.2⟩
section
variable {P : Program} {m : Nat → Lc} {H : HV} {B : Nat → Prop} {H0 : HV} {gl : Nat → AV} {rest : List (AV × Value)} {w : World} {ks : List Nat} {vs : List AV} {bs : List Box} {n : Nat} {tmps : Array Value}
theorem RelS.hold2 (h : RelS m H B H0 gl rest (ZE n ks vs bs) tmps w) (hk : nodN ks = true) : RelS m H B H0 gl (kvs ks vs tmps ++ rest) (ZE n ks vs bs) tmps w :=
 ⟨h.heap, h.size, h.slot, fun p hp => by
  rcases List.mem_append.1 hp with hp | hp
  ·obtain ⟨j, k, h1, h2, h3⟩ := Bg hp
   have := h.slot k
   rw [show (ZE n ks vs bs).get k = p.1 from Bp hk h1 h2, ← h3] at this
   exact this
  ·exact h.rest p hp⟩
theorem RelS.back2 {st : St} {t : Array Value} (h : RelS m H B H0 gl (kvs ks vs tmps ++ rest) st t w) (hsz : tmps.size = n) : RelS m H B H0 gl rest ⟨n, slOf ks vs, st.hp, st.nx⟩ tmps w :=
 ⟨h.heap, hsz, fun k => by
  show RV H _ (lk .undef (slOf ks vs) k) _
  rcases Br ks vs k with e | ⟨j, h1, h2⟩
  ·rw [e]; exact .imm _ _ (.undef _)
  ·exact h.rest _ (List.mem_append_left _ (kvs_at h1 h2)), fun p hp => h.rest p (List.mem_append_right _ hp)⟩
theorem RelS.world {st : St} (h : RelS m H B H0 gl rest st tmps w) {w' : World} {K : Nat → Prop} (hb : Qv K w w') (hH : ∀ b o v, H b o = some v → K b) (hBx : ∀ id b, lkb st.hp id = some b → Real b (m id) → K (m id).g) {B' : Nat → Prop} {H0' : HV} (old : ∀ b o, B' b → H b o = H0' b o) (low : ∀ b, B' b → b < w'.heap.size)
  (sep : ∀ id b, lkb st.hp id = some b → Real b (m id) → ¬ B' (m id).g) (gv : GvOk gl B' w') : RelS m H B' H0' gl rest st tmps w' :=
 ⟨{ sat := (fun b o v hv => by rw [hb.cell (hH b o v hv)]; exact h.heap.sat b o v hv), old := old, low := low, fresh := h.heap.fresh, box := (fun id b hid => (h.heap.box id b hid).mono' (.refl _) (.refl _) fun hr => hb.block _ (hBx id b hid hr)), sepR := (fun id b hid hr => ⟨sep id b hid hr, Nat.lt_of_lt_of_le (h.heap.sepR id b hid hr).2.1 hb.size, (h.heap.sepR id b hid hr).2.2⟩), injR := h.heap.injR, gv := gv, gl := h.heap.gl, ty := (fun id v cs hid => (h.heap.ty id v cs hid).mono (hb.block _ (hBx id _ hid trivial))) }, h.size, h.slot, h.rest⟩
theorem Md {w : World} {g : Nat} {o : Obj} (h : w.heap[g]? = some o) : g < w.heap.size := (Array.getElem?_eq_some_iff.1 h).1
end
section
variable {P : Program} {gl : Nat → AV}
structure JJ (P : Program) (gl : Nat → AV) (ps : List AV) (n : Nat) (ks : List Nat) (vs : List AV) (alts : List Alt) (xs : List (List AV)) (B : Nat → Prop) (H : HV) (rest : List (AV × Value)) (tmps : Array Value) (w : World) (l dg : Nat) (r0 : Loop) (B1 : Nat → Prop) (p : Option Nat) (O : Nat → Prop) (Hc : HV) (w' : World) : Prop where
 ex : ∃ (C : Nat → Prop) (m' : Nat → Lc) (H' H0' : HV) (bs' : List Box) (r : Loop), w'.heap[l]? = some (.loop r) ∧
  (match p with
   | some k => r = r0 ∧ NY P gl ps n r0.params r0.assign r0.body ks vs alts (xs.drop k) bs'
   | none => ∃ e c, Ru e = some (some c) ∧ r = { r0 with state := .done, pending := some c } ∧ Out alts e vs bs') ∧
  (∀ b, O b ∨ C b → dg + 2 ≤ b ∧ b < w'.heap.size) ∧ (∀ b, O b → ∀ o, H' b o = none) ∧ HV.le Hc H' ∧ (∀ b o v, Hc b o = some v → B1 b ∨ C b) ∧ (∀ b o, B1 b → H0' b o = H b o) ∧
  RelS m' H' (fun b => B1 b ∨ O b ∨ C b) H0' gl rest (ZE n ks vs bs') tmps w'
 dgo : w'.heap[dg]? = some (.deferred (some []))
 bel : Qv B w w'
 leH : HV.le H Hc
variable {ps : List AV} {n : Nat} {ks : List Nat} {vs : List AV} {alts : List Alt} {xs : List (List AV)} {B : Nat → Prop} {H : HV} {rest : List (AV × Value)} {tmps : Array Value} {w : World} {l dg : Nat} {r0 : Loop} {B1 : Nat → Prop}
theorem HV.dom {H : HV} {b : Nat} (h : ¬ ∃ o v, H b o = some v) (o : Nat) : H b o = none := by
 cases hh : H b o with
 | none => rfl
 | some v => exact absurd ⟨o, v, hh⟩ h
theorem dropAt {α : Type} {xs : List α} {k : Nat} {x : α} (h : xs[k]? = some x) : xs.drop k = x :: xs.drop (k + 1) := by
 obtain ⟨h1, h2⟩ := List.getElem?_eq_some_iff.1 h
 rw [List.drop_eq_getElem_cons h1, h2]
theorem JJ.own (hl : l = dg + 1) (hB : ∀ b, B b → B1 b) (hBw : ∀ b, B b → b < w.heap.size) (hB1 : ∀ b, B1 b → b < dg + 2) {p : Option Nat} {O : Nat → Prop} {Hc : HV} {w' w'' : World} (h : JJ P gl ps n ks vs alts xs B H rest tmps w l dg r0 B1 p O Hc w') (hbl : Qv (BO O w') w' w'') : JJ P gl ps n ks vs alts xs B H rest tmps w l dg r0 B1 p (LR O w' w'') Hc w'' := by
 obtain ⟨⟨C, m', H', H0', bs', r, h1, h2, h3, h4, h5, h6, h7, h8⟩, hd, hbe, hle⟩ := h
 have hnO : ∀ b, b < dg + 2 → ¬ O b := fun b hb hO => by have := (h3 b (.inl hO)).1; omega
 have hlO : BO O w' l := ⟨Md h1, hnO l (by omega)⟩
 have hdO : BO O w' dg := ⟨Md hd, hnO dg (by omega)⟩
 have hsz : dg + 2 ≤ w'.heap.size := by have := Md h1; omega
 have hH' : ∀ b o v, H' b o = some v → BO O w' b := fun b o v hv => ⟨Gx h8.heap.sat hv, fun hO => by rw [h4 b hO o] at hv; cases hv⟩
 have hBx : ∀ id b, lkb (ZE n ks vs bs').hp id = some b → Real b (m' id) → (m' id).g < w'.heap.size ∧ ¬ (B1 (m' id).g ∨ O (m' id).g ∨ C (m' id).g) := fun id b hid hr => ⟨(h8.heap.sepR id b hid hr).2.1, (h8.heap.sepR id b hid hr).1⟩
 refine ⟨⟨C, m', H', H', bs', r, by rw [hbl.block l hlO]; exact h1, h2, fun b hb => ?_, fun b hb o => ?_, h5, h6, fun b o hb => ?_, ?_⟩, by rw [hbl.block dg hdO]; exact hd, hbe.trans (hbl.mono fun b hb => ⟨Nat.lt_of_lt_of_le (hBw b hb) hbe.size, hnO b (hB1 b (hB b hb))⟩), hle⟩
 ·rcases hb with (hb | hb) | hb
  ·exact ⟨(h3 b (.inl hb)).1, Nat.lt_of_lt_of_le (h3 b (.inl hb)).2 hbl.size⟩
  ·exact ⟨by have := hb.1; omega, hb.2⟩
  ·exact ⟨(h3 b (.inr hb)).1, Nat.lt_of_lt_of_le (h3 b (.inr hb)).2 hbl.size⟩
 ·rcases hb with hb | hb
  ·exact h4 b hb o
  ·cases hh : H' b o with
   | none => rfl
   | some v => have := Gx h8.heap.sat hh; omega
 ·rw [← h7 b o hb]; exact h8.heap.old b o (.inl hb)
 ·refine h8.world hbl hH' (fun id b hid hr => ⟨(hBx id b hid hr).1, fun hO => (hBx id b hid hr).2 (.inr (.inl hO))⟩) (fun _ _ _ => rfl) (fun b hb => ?_) (fun id b hid hr hb => ?_) (h8.heap.gv.to hbl fun b _ hb => ?_)
  ·rcases hb with hb | (hb | hb) | hb
   ·have := hB1 b hb; have := hbl.size; omega
   ·exact Nat.lt_of_lt_of_le (h3 b (.inl hb)).2 hbl.size
   ·exact hb.2
   ·exact Nat.lt_of_lt_of_le (h3 b (.inr hb)).2 hbl.size
  ·obtain ⟨x, y⟩ := hBx id b hid hr
   rcases hb with hb | (hb | hb) | hb
   ·exact y (.inl hb)
   ·exact y (.inr (.inl hb))
   ·have := hb.1; omega
   ·exact y (.inr (.inr hb))
  ·rcases hb with hb | hb | hb
   ·exact .inl hb
   ·exact .inr (.inl (.inl hb))
   ·exact .inr (.inr hb)
theorem JJ.pub (hB1 : ∀ b, B1 b → b < dg + 2) {p : Option Nat} {O : Nat → Prop} {Hc : HV} {w' : World} {H2 : HV} (h : JJ P gl ps n ks vs alts xs B H rest tmps w l dg r0 B1 p O Hc w') (hs : HV.sat H2 w') (hk : ∀ b o v, H2 b o = some v → O b ∨ Hc b o = some v) : JJ P gl ps n ks vs alts xs B H rest tmps w l dg r0 B1 p (HT O H2) (unH Hc H2) w' := by
 obtain ⟨⟨C, m', H', H0', bs', r, h1, h2, h3, h4, h5, h6, h7, h8⟩, hd, hbe, hle⟩ := h
 have hun : ∀ b o v, unH H' H2 b o = some v → H' b o = some v ∨ (O b ∧ H2 b o = some v) := fun b o v hv => by
  rcases Fm hv with e | ⟨e1, e2⟩
  ·exact .inl e
  ·rcases hk b o v e2 with hO | hc
   ·exact .inr ⟨hO, e2⟩
   ·rw [h5 b o v hc] at e1; cases e1
 have hbx : ∀ id b, lkb (ZE n ks vs bs').hp id = some b → Real b (m' id) → ∀ o, unH H' H2 (m' id).g o = none := fun id b hid hr o => by
  obtain ⟨x, y, z⟩ := h8.heap.sepR id b hid hr
  cases hh : unH H' H2 (m' id).g o with
  | none => rfl
  | some v =>
   rcases hun _ _ _ hh with e | ⟨hO, _⟩
   ·rw [z o] at e; cases e
   ·exact absurd (.inr (.inl hO)) x
 have hkn := h8.know (H' := unH H' H2) (H0' := unH H' H2) E4 (unH_sat h8.heap.sat hs) (fun _ _ _ => rfl) hbx
 have hB1n : ∀ b, b < dg + 2 → ¬ O b := fun b hb hO => by have := (h3 b (.inl hO)).1; omega
 have split : ∀ b, O b → HT O H2 b ∨ (O b ∧ ∃ o v, H2 b o = some v) := fun b hO => by
  by_cases hx : ∃ o v, H2 b o = some v
  ·exact .inr ⟨hO, hx⟩
  ·exact .inl ⟨hO, HV.dom hx⟩
 refine ⟨⟨fun b => C b ∨ (O b ∧ ∃ o v, H2 b o = some v), m', unH H' H2, unH H' H2, bs', r, h1, h2, fun b hb => ?_, fun b hb o => ?_, fun b o v hv => ?_, fun b o v hv => ?_, fun b o hb => ?_, ?_⟩, hd, hbe, fun b o v hv => E4 b o v (hle b o v hv)⟩
 ·rcases hb with hb | hb | hb
  ·exact h3 b (.inl hb.1)
  ·exact h3 b (.inr hb)
  ·exact h3 b (.inl hb.1)
 ·simp [unH, h4 b hb.1 o, hb.2 o]
 ·rcases Fm hv with e | ⟨_, e2⟩
  ·exact E4 b o v (h5 b o v e)
  ·rcases hk b o v e2 with hO | hc
   ·simp [unH, h4 b hO o, e2]
   ·exact E4 b o v (h5 b o v hc)
 ·rcases Fm hv with e | ⟨_, e2⟩
  ·rcases h6 b o v e with hb | hb
   ·exact .inl hb
   ·exact .inr (.inl hb)
  ·rcases hk b o v e2 with hO | hc
   ·exact .inr (.inr ⟨hO, o, v, e2⟩)
   ·rcases h6 b o v hc with hb | hb
    ·exact .inl hb
    ·exact .inr (.inl hb)
 ·have e1 : H' b o = H b o := (h8.heap.old b o (.inl hb)).trans (h7 b o hb)
  cases hh : unH H' H2 b o with
  | none =>
   cases h9 : H' b o with
   | none => rw [← e1, h9]
   | some v => rw [E4 b o v h9] at hh; cases hh
  | some v =>
   rcases hun _ _ _ hh with e | ⟨hO, e⟩
   ·rw [← e1, e]
   ·exact absurd hO (hB1n b (hB1 b hb))
 ·refine hkn.base (fun _ _ _ => rfl) (fun b hb => ?_) (fun id b hid hr hb => ?_) (h8.heap.gv.sup fun b hb => ?_)
  ·refine h8.heap.low b ?_
   rcases hb with hb | hb | hb | hb
   ·exact .inl hb
   ·exact .inr (.inl hb.1)
   ·exact .inr (.inr hb)
   ·exact .inr (.inl hb.1)
  ·refine (h8.heap.sepR id b hid hr).1 ?_
   rcases hb with hb | hb | hb | hb
   ·exact .inl hb
   ·exact .inr (.inl hb.1)
   ·exact .inr (.inr hb)
   ·exact .inr (.inl hb.1)
  ·rcases hb with hb | hb | hb
   ·exact .inl hb
   ·rcases split b hb with hb | hb
    ·exact .inr (.inl hb)
    ·exact .inr (.inr (.inr hb))
   ·exact .inr (.inr (.inl hb))
theorem JJ.round (hl : l = dg + 1) (hdg : dg = w.heap.size) (hB : ∀ b, B b → B1 b) (hBw : ∀ b, B b → b < w.heap.size) (hB1 : ∀ b, B1 b → b < dg + 2) (hBl : B1 l) (hBd : B1 dg) (hrest : rest.map (·.1) = ps) (hst : r0.state = .ready) (hpd : r0.pending = none) (htm : r0.tmps = tmps) (hsz : tmps.size = n)
  (ha : QN r0.assign = false) (hb : QN r0.body = false) {k : Nat} {O : Nat → Prop} {Hc : HV} {w' : World} {x : List AV} {us : Array Value} (h : JJ P gl ps n ks vs alts xs B H rest tmps w l dg r0 B1 (some k) O Hc w') (hx : xs[k]? = some x) (hxl : x.length = us.size) (hxr : ∀ (j : Nat) (c : AV) (v : Value), x[j]? = some c → us[j]? = some v → RelI Hc c v) :
  ∃ fn tm azz bd, (Instr.yield l us).run P w' = .ok (.round l fn tm azz bd) w' ∧ ∀ ro i, RoundIn (FW ro) i P l fn tm azz bd w' fun e w2 => ∃ b, e = .returned (.bool b) ∧ Qv O w' w2 ∧ JJ P gl ps n ks vs alts xs B H rest tmps w l dg r0 B1 (if b then some (k + 1) else none) O Hc w2 := by
 obtain ⟨⟨C, m', H', H0', bs', r, h1, ⟨rfl, hR⟩, h3, h4, h5, h6, h7, h8⟩, hd, hbe, hle⟩ := h
 rw [dropAt hx] at hR
 obtain ⟨hsl, s0, hput, hW⟩ := hR
 obtain ⟨hnod, hlen⟩ := OS hsl
 have hB2 : RelS m' H' (fun b => B1 b ∨ O b ∨ C b) H' gl (kvs ks vs tmps ++ rest) (ZE n ks vs bs') tmps w' := (h8.base (fun _ _ _ => rfl) h8.heap.low (fun id b hid hr => (h8.heap.sepR id b hid hr).1) h8.heap.gv).hold2 hnod
 obtain ⟨hpl, hr1, e1, e2⟩ := Pt r.params.toList x us.toList _ tmps s0 hB2 hput (by simpa using hxl) (fun j c v hc hv => .imm _ _ ((hxr j c v hc (by simpa using hv)).mono h5))
 have hfold : (r.params.zip us).foldl (fun tm (q : Nat × Value) => tm.setIfInBounds q.1 q.2) r.tmps = (r.params.toList.zip us.toList).foldl (fun tm (q : Nat × Value) => tm.setIfInBounds q.1 q.2) tmps := by
  rw [← Array.foldl_toList, Array.toList_zip, htm]
 rw [← hfold] at hr1
 have hpins : (kvs ks vs tmps ++ rest).map (·.1) = vs ++ ps := by rw [List.map_append, Bf hlen, hrest]
 have hlw : l < dg + 2 := by omega
 refine ⟨r.fn, _, r.assign, r.body, run_yield h1 (by simpa using hpl.symm), fun ro i => ?_⟩
 refine roundIn_of_wpIn trivial ?_
 have hA := (hW (some l) i (fun e => by rw [ha] at e; cases e) _ _ _ m' H' { tmps := _, defers := [] } w' (fun ps' e => by cases e; exact hpins) hr1)
 refine wpIn_mono hA fun e a1 w1 hq => ?_
 obtain ⟨s1, m1, H1, B1', H01, D1, ⟨rfl, hW2⟩, hf1, hrel1⟩ := hq
 have hl1 : B1' l := hf1.sub l (.inl hBl)
 have hobj1 : w1.heap[l]? = some (.loop r) := by rw [hf1.bel.block l (.inl hBl)]; exact h1
 refine ⟨_, run_beginRound hobj1 hst, ?_⟩
 have hrel1' := hrel1.obj (o2 := .loop { r with state := .busy }) hl1 hobj1 (fun _ _ _ q => by cases q)
 have hBd2 := (hW2 (some l) i (fun e => by rw [hb] at e; cases e) _ _ _ m1 H1 a1 _ (fun ps' e => by cases e; exact hpins) hrel1')
 refine wpIn_mono hBd2 fun e a2 w2 hq => ?_
 obtain ⟨s2, m2, H2, B2', H02, D2, ⟨j, bs2, hj, hturn, hnext⟩, hf2, hrel2⟩ := hq
 have hl2 : B2' l := hf2.sub l hl1
 have hobj2 : w2.heap[l]? = some (.loop { r with state := .busy }) := by rw [hf2.bel.block l hl1]; exact World.putObj_heap_same (Md hobj1)
 have hend := run_endRound (P := P) j hobj2
 have hbase := hrel2.back2 (n := n) hsz
 obtain ⟨m3, H3, hrel3⟩ := hturn m2 H2 B2' H02 rest tmps w2 hrest hbase
 have hrel4 := hrel3.obj (o2 := .loop { r with state := if j.isNone then .ready else .done, pending := j }) hl2 hobj2 (fun _ _ _ q => by cases q)
 have hK : Qv (fun b => (B1 b ∨ O b ∨ C b) ∧ b ≠ l) w' (w2.putObj l (.loop { r with state := if j.isNone then .ready else .done, pending := j })) := by
  have c1 := (hf1.bel.mono (B' := fun b => (B1 b ∨ O b ∨ C b) ∧ b ≠ l) fun b hb => hb.1).obj (g := l) (o2 := .loop { r with state := .busy }) (fun hb => hb.2 rfl) hobj1 (fun _ _ _ q => by cases q)
  exact (c1.trans (hf2.bel.mono fun b hb => hf1.sub b hb.1)).obj (g := l) (fun hb => hb.2 rfl) hobj2 (fun _ _ _ q => by cases q)
 have hold : ∀ b o, (B1 b ∨ O b ∨ C b) → H3 b o = H' b o := fun b o hb => (hrel3.heap.old b o (hf2.sub b (hf1.sub b hb))).trans ((hf2.old b o (hf1.sub b hb)).trans (hf1.old b o hb))
 have hnl : ∀ b, O b ∨ C b → b ≠ l := fun b hb e => by have := (h3 b hb).1; omega
 have hrel5 : RelS m3 H3 (fun b => B1 b ∨ O b ∨ C b) H3 gl rest (ZE n ks vs bs2) tmps (w2.putObj l (.loop { r with state := if j.isNone then .ready else .done, pending := j })) :=
  hrel4.base (fun _ _ _ => rfl) (fun b hb => hrel4.heap.low b (hf2.sub b (hf1.sub b hb))) (fun id b hid hr hb => (hrel4.heap.sepR id b hid hr).1 (hf2.sub _ (hf1.sub _ hb))) (h8.heap.gv.to hK fun b _ hb => hb)
 have hfin : ∃ b, Ending.returned (.bool j.isNone) = .returned (.bool b) ∧ Qv O w' (w2.putObj l (.loop { r with state := if j.isNone then .ready else .done, pending := j })) ∧ JJ P gl ps n ks vs alts xs B H rest tmps w l dg r B1 (if b then some (k + 1) else none) O Hc (w2.putObj l (.loop { r with state := if j.isNone then .ready else .done, pending := j })) := by
  refine ⟨j.isNone, rfl, hK.mono fun b hb => ⟨.inr (.inl hb), hnl b (.inl hb)⟩, ?_⟩
  have hdg2 : (w2.putObj l (.loop { r with state := if j.isNone then .ready else .done, pending := j })).heap[dg]? = some (.deferred (some [])) := by rw [hK.block dg ⟨.inl hBd, by omega⟩]; exact hd
  have hobj3 : (w2.putObj l (.loop { r with state := if j.isNone then .ready else .done, pending := j })).heap[l]? = some (.loop { r with state := if j.isNone then .ready else .done, pending := j }) := World.putObj_heap_same (Md hobj2)
  have hbe3 : Qv B w (w2.putObj l (.loop { r with state := if j.isNone then .ready else .done, pending := j })) := hbe.trans (hK.mono fun b hb => ⟨.inl (hB b hb), fun e => by have := hBw b hb; omega⟩)
  have hOC : ∀ b, O b ∨ C b → dg + 2 ≤ b ∧ b < (w2.putObj l (.loop { r with state := if j.isNone then .ready else .done, pending := j })).heap.size := fun b hb => ⟨(h3 b hb).1, Nat.lt_of_lt_of_le (h3 b hb).2 hK.size⟩
  have hO3 : ∀ b, O b → ∀ o, H3 b o = none := fun b hb o => (hold b o (.inr (.inl hb))).trans (h4 b hb o)
  have hHc : HV.le Hc H3 := fun b o v hv => by
   rw [hold b o (by rcases h6 b o v hv with q | q; exact .inl q; exact .inr (.inr q))]; exact h5 b o v hv
  have hHB : ∀ b o, B1 b → H3 b o = H b o := fun b o hb => (hold b o (.inl hb)).trans ((h8.heap.old b o (.inl hb)).trans (h7 b o hb))
  cases j with
  | none =>
   obtain ⟨bs3, hle3, hnx⟩ := hnext
   obtain ⟨m4, H4, hrel6⟩ := (Cz (gl := gl) (n := n) (ks := ks) (.refl vs) hle3).2 _ _ _ _ _ _ _ hrel5
   have hold4 : ∀ b o, (B1 b ∨ O b ∨ C b) → H4 b o = H3 b o := fun b o hb => hrel6.heap.old b o hb
   refine ⟨⟨C, m4, H4, H3, bs3, r, ?_, ⟨rfl, hnx⟩, hOC, fun b hb o => (hold4 b o (.inr (.inl hb))).trans (hO3 b hb o), fun b o v hv => ?_, h6, hHB, hrel6⟩, hdg2, hbe3, hle⟩
   ·rw [hobj3]
    have : ({ r with state := if (none : Option Code).isNone then .ready else .done, pending := none } : Loop) = r := by
     cases r; simp only at hst hpd; subst hst; subst hpd; rfl
    rw [this]
   ·rw [hold4 b o (by rcases h6 b o v hv with q | q; exact .inl q; exact .inr (.inr q))]; exact hHc b o v hv
  | some c =>
   exact ⟨⟨C, m3, H3, H3, bs2, _, hobj3, ⟨e, c, hj, rfl, hnext⟩, hOC, hO3, hHc, h6, hHB, hrel5⟩, hdg2, hbe3, hle⟩
 cases e with
 | normal => cases hj; exact ⟨_, _, hend, hfin⟩
 | ret => cases hj; exact ⟨_, _, hend, hfin⟩
 | exit i => cases hj; exact ⟨_, _, hend, hfin⟩
 | _ => cases hj
theorem JJ.ok (hl : l = dg + 1) (hdg : dg = w.heap.size) (hB : ∀ b, B b → B1 b) (hBw : ∀ b, B b → b < w.heap.size) (hB1 : ∀ b, B1 b → b < dg + 2) (hBl : B1 l) (hBd : B1 dg) (hgl : ∀ g, RelI H (gl g) (.pointer (some ⟨g, 0, none⟩))) (hgB : ∀ g sz cs, gl g = .ip sz [.agg cs] 0 0 → B g) (hrest : rest.map (·.1) = ps) (hst : r0.state = .ready) (hpd : r0.pending = none) (htm : r0.tmps = tmps) (hsz : tmps.size = n)
  (ha : QN r0.assign = false) (hb : QN r0.body = false) : JOk P gl l xs (JJ P gl ps n ks vs alts xs B H rest tmps w l dg r0 B1) where
 sat p O Hc w' h := by
  obtain ⟨⟨C, m', H', H0', bs', r, h1, h2, h3, h4, h5, h6, h7, h8⟩, _, _, _⟩ := h
  exact fun b o v hv => h8.heap.sat b o v (h5 b o v hv)
 low p O Hc w' h b hb := by
  obtain ⟨⟨C, m', H', H0', bs', r, h1, h2, h3, h4, h5, h6, h7, h8⟩, _, _, _⟩ := h
  exact (h3 b (.inl hb)).2
 dis p O Hc w' h b hb o := by
  obtain ⟨⟨C, m', H', H0', bs', r, h1, h2, h3, h4, h5, h6, h7, h8⟩, _, _, _⟩ := h
  cases hh : Hc b o with
  | none => rfl
  | some v => rw [← h4 b hb o, h5 b o v hh]
 gls p O Hc w' h g := (hgl g).mono h.leH
 gv p O Hc w' h := by
  obtain ⟨⟨C, m', H', H0', bs', r, h1, h2, h3, h4, h5, h6, h7, h8⟩, hd, _, _⟩ := h
  refine fun g sz cs hg => ?_
  obtain ⟨a, D, e, fr, x, y⟩ := h8.heap.gv g sz cs hg
  exact ⟨⟨Md x, fun hO => by have := (h3 g (.inl hO)).1; have := hB1 g (hB g (hgB g sz cs hg)); omega⟩, D, e, fr, x, y⟩
 own p O Hc w' w'' h hbl := h.own hl hB hBw hB1 hbl
 pub p O Hc w' H2 h hs hk := h.pub hB1 hs hk
 round k O Hc w' x us h hx hxl hxr := h.round hl hdg hB hBw hB1 hBl hBd hrest hst hpd htm hsz ha hb hx hxl hxr
set_option maxHeartbeats 1000000 in
theorem Q1q {m : Nat → Lc} {H0 : HV} {bs : List Box} {a : Act} {g : Operand} {prm : Array Tmp} {azz bd : Code} {f : Nat} {caps : List AV} {us : Array Value} (hr : RelS m H B H0 gl rest (ZE n ks vs bs) a.tmps w) (hev : a.eval g = .func (.func f) #[] us) (hcl : caps.length = us.size) (hcr : ∀ (j : Nat) (c : AV) (v : Value), caps[j]? = some c → us[j]? = some v → RelI H c v)
  (hent : NA P f) (hit : ItOk P gl f caps xs) (hrng : NY P gl ps n prm azz bd ks vs alts xs bs) (hps : rest.map (·.1) = ps) (ha : QN azz = false) (hb : QN bd = false) (d : Nat) :
  (Code.rangeFunc g prm azz bd).wpIn (FW none) d P (Post gl B H0 rest true a w (fun e st' => ∃ alt ∈ alts, ∃ x, alt.φ x ∧ e = alt.ex ∧ st' = ZE n ks (alt.vs x) (alt.bs x))) a w := by
 refine wpIn_rangeFunc fun fn _ => ?_
 have henter : (Instr.enterLoop fn a.tmps prm azz bd (FW none).round).run P w = .ok (w.heap.size + 1, [{ target := .collected w.heap.size, args := #[] }]) ((w.alloc (.deferred (some []))).alloc (.loop { state := .ready, pending := none, fn := fn, tmps := a.tmps, params := prm, assign := azz, body := bd, defers := w.heap.size })) := run_enterLoop_outer fn a.tmps prm azz bd
 have hbel : Qv (fun b => b < w.heap.size) w ((w.alloc (.deferred (some []))).alloc (.loop { state := .ready, pending := none, fn := fn, tmps := a.tmps, params := prm, assign := azz, body := bd, defers := w.heap.size })) :=
  ((Qv.refl _ w).alloc (fun _ h => h) _).alloc (fun k hk => by simp; omega) _
 have hobj : ((w.alloc (.deferred (some []))).alloc (.loop { state := .ready, pending := none, fn := fn, tmps := a.tmps, params := prm, assign := azz, body := bd, defers := w.heap.size })).heap[w.heap.size + 1]? = some (.loop { state := .ready, pending := none, fn := fn, tmps := a.tmps, params := prm, assign := azz, body := bd, defers := w.heap.size }) := by
  have := YL (w.alloc (.deferred (some []))) (.loop { state := .ready, pending := none, fn := fn, tmps := a.tmps, params := prm, assign := azz, body := bd, defers := w.heap.size })
  rwa [World.size_alloc] at this
 have hdob : ((w.alloc (.deferred (some []))).alloc (.loop { state := .ready, pending := none, fn := fn, tmps := a.tmps, params := prm, assign := azz, body := bd, defers := w.heap.size })).heap[w.heap.size]? = some (.deferred (some [])) := by
  rw [Dq _ _ _ (by simp)]; exact YL w _
 have hsz2 : ((w.alloc (.deferred (some []))).alloc (.loop { state := .ready, pending := none, fn := fn, tmps := a.tmps, params := prm, assign := azz, body := bd, defers := w.heap.size })).heap.size = w.heap.size + 2 := by simp
 generalize ((w.alloc (.deferred (some []))).alloc (.loop { state := .ready, pending := none, fn := fn, tmps := a.tmps, params := prm, assign := azz, body := bd, defers := w.heap.size })) = W2 at *
 have hres : (resolve a.eval (rangeCall g (w.heap.size + 1)) 0).run P W2 = .ok { target := .fn (.func f) us, args := #[.func (.yield (w.heap.size + 1)) #[] #[]] } W2 := by
  show (Deferred.ofValue (a.eval g) (#[Operand.const (.func (.yield (w.heap.size + 1)) #[] #[])].map a.eval)).run P W2 = _
  rw [hev]
  simp [Deferred.ofValue, Act.eval]
 have hinv : (invoke (.fn (.func f) us) #[.func (.yield (w.heap.size + 1)) #[] #[]]).run P W2 = .ok (.enter f (#[.func (.yield (w.heap.size + 1)) #[] #[]] ++ us)) W2 := by
  simp only [invoke]
  exact hent _ _
 generalize hB1 : (fun b => b < w.heap.size + 2 ∧ ∀ id b0, lkb (ZE n ks vs bs).hp id = some b0 → Real b0 (m id) → b ≠ (m id).g) = B1
 have hBB : ∀ b, B b → B1 b := fun b hb => by subst hB1; exact ⟨by have := hr.heap.low b hb; omega, fun id b0 hid hre e => (hr.heap.sepR id b0 hid hre).1 (e ▸ hb)⟩
 have hB1l : ∀ b, B1 b → b < w.heap.size + 2 := fun b hb => by subst hB1; exact hb.1
 have hnew : ∀ b, w.heap.size ≤ b → b < w.heap.size + 2 → B1 b := fun b h1 h2 => by subst hB1; exact ⟨h2, fun id b0 hid hre e => by have := (hr.heap.sepR id b0 hid hre).2.1; omega⟩
 have hB1x : ∀ id b0, lkb (ZE n ks vs bs).hp id = some b0 → Real b0 (m id) → ¬ B1 (m id).g := fun id b0 hid hre hb => by subst hB1; exact hb.2 id b0 hid hre rfl
 have hHB1 : ∀ b o v, H b o = some v → B1 b := fun b o v hv => by
  have hlt := Gx hr.heap.sat hv
  subst hB1
  exact ⟨by omega, fun id b0 hid hre e => by have := (hr.heap.sepR id b0 hid hre).2.2 o; rw [← e, hv] at this; cases this⟩
 have hj := JJ.ok (P := P) (gl := gl) (ps := ps) (n := n) (ks := ks) (vs := vs) (alts := alts) (xs := xs) (B := B) (H := H) (rest := rest) (tmps := a.tmps) (w := w) (l := w.heap.size + 1) (dg := w.heap.size) (r0 := { state := .ready, pending := none, fn := fn, tmps := a.tmps, params := prm, assign := azz, body := bd, defers := w.heap.size }) (B1 := B1)
  rfl rfl hBB hr.heap.low hB1l (hnew _ (by omega) (by omega)) (hnew _ (by omega) (by omega)) hr.heap.gl (fun g sz cs hg => (hr.heap.gv g sz cs hg).1) hps rfl rfl rfl hr.size ha hb
 have h0 : JJ P gl ps n ks vs alts xs B H rest a.tmps w (w.heap.size + 1) w.heap.size { state := .ready, pending := none, fn := fn, tmps := a.tmps, params := prm, assign := azz, body := bd, defers := w.heap.size } B1 (some 0) (fun _ => False) H W2 := by
  refine ⟨⟨fun _ => False, m, H, H, bs, _, hobj, ⟨rfl, hrng⟩, fun b hb => by rcases hb with h | h <;> exact h.elim, fun b hb => hb.elim, .refl _, fun b o v hv => .inl (hHB1 b o v hv), fun _ _ _ => rfl, ?_⟩, hdob, hbel.mono hr.heap.low, .refl _⟩
  refine hr.world hbel (fun b o v hv => Gx hr.heap.sat hv) (fun id b hid hre => (hr.heap.sepR id b hid hre).2.1) (fun _ _ _ => rfl) (fun b hb => ?_) (fun id b hid hre hb => ?_) (hr.heap.gv.to hbel fun b _ hb => .inl (hBB b hb))
  ·rw [hsz2]
   rcases hb with h | h | h
   ·exact hB1l b h
   ·exact h.elim
   ·exact h.elim
  ·rcases hb with h | h | h
   ·exact hB1x id b hid hre h
   ·exact h.elim
   ·exact h.elim
 refine ⟨_, _, _, _, _, _, _, _, henter, hres, fun _ _ => trivial, hinv, (fun hh => by simp [FW] at hh), M2 ((hit.ok _ _ hj H W2 us h0 hcl hcr).mono fun e w3 hpost => ?_)⟩
 obtain ⟨v, p', O', Hc', rfl, hp', ⟨⟨C, m', H', H0', bs', r, h1, h2, h3, h4, h5, h6, h7, h8⟩, hdo, hbe, hle⟩⟩ := hpost
 have fin : ∀ (e : Exit) (r : Loop), w3.heap[w.heap.size + 1]? = some (.loop r) → Out alts e vs bs' → Post gl B H0 rest true a w (fun e st' => ∃ alt ∈ alts, ∃ x, alt.φ x ∧ e = alt.ex ∧ st' = ZE n ks (alt.vs x) (alt.bs x)) e { a with defers := [{ target := .collected w.heap.size, args := #[] }] ++ a.defers } (w3.putObj (w.heap.size + 1) (.loop { r with state := .exhausted })) := fun e r h1 ho => by
  obtain ⟨alt, hal, x, hφ, rfl, lv, lb⟩ := ho.ok
  have hr2 := h8.obj (o2 := .loop { r with state := .exhausted }) (.inl (hnew _ (by omega) (by omega))) h1 (fun _ _ _ q => by cases q)
  obtain ⟨m4, H4, hr3⟩ := (Cz (gl := gl) (n := n) (ks := ks) lv lb).2 _ _ _ _ _ _ _ hr2
  refine ⟨_, m4, H4, _, H0', [w.heap.size], ⟨alt, hal, x, hφ, rfl, rfl⟩, ⟨fun b hb => .inl (hBB b hb), fun b o hb => ?_, rfl, by simp, fun k hk => ?_, fun hh => (by cases hh), ?_⟩, hr3⟩
  ·rw [h7 b o (hBB b hb)]; exact hr.heap.old b o hb
  ·simp only [List.mem_singleton] at hk
   subst hk
   exact ⟨.inl (hnew _ (by omega) (by omega)), Nat.le_refl _, by rw [World.putObj_heap_other (by omega)]; exact hdo⟩
  ·exact hbe.obj (fun hb => by have := hr.heap.low _ hb; omega) h1 (fun _ _ _ q => by cases q)
 cases p' with
 | some k =>
  obtain ⟨rfl, hR⟩ := h2
  obtain rfl : k = xs.length := by rcases hp' with e | e <;> cases e; rfl
  rw [List.drop_length] at hR
  exact ⟨none, _, run_endLoop (P := P) h1 (by simp), fin .normal _ h1 hR.2⟩
 | none =>
  obtain ⟨e, c, hc, rfl, ho⟩ := h2
  refine ⟨some c, _, run_endLoop (P := P) h1 (by simp), ?_⟩
  have := fin e _ h1 ho
  cases e with
  | ret => cases hc; exact wpIn_ret this
  | exit i => cases hc; exact wpIn_exit this
  | _ => cases hc
end
end HY
end
section
namespace HY
open Go Go.RowKit
def TM : List Alt → (Exit → List AV → List Box → Prop) → Prop
 | [], _ => True
 | [a], K => ∀ x, a.φ x → K a.ex (a.vs x) (a.bs x)
 | a :: b :: r, K => (∀ x, a.φ x → K a.ex (a.vs x) (a.bs x)) ∧ TM (b :: r) K
theorem I6 : ∀ {l : List Alt} {K : Exit → List AV → List Box → Prop}, TM l K → ∀ a ∈ l, ∀ x, a.φ x → K a.ex (a.vs x) (a.bs x)
 | [], K, _, a, ha, _, _ => by simp at ha
 | [b], K, h, a, ha, x, hp => by simp at ha; subst ha; exact h x hp
 | b :: c :: r, K, h, a, ha, x, hp => by
  rcases List.mem_cons.1 ha with rfl | ha
  ·exact h.1 x hp
  ·exact I6 (l := c :: r) h.2 a ha x hp
def Gw : Code → Nat
 | .region id _ _ => id + 1
 | .seq a b => match Gw a with
  | 0 => Gw b
  | k + 1 => k + 1
 | .cond _ a b => match Gw a with
  | 0 => Gw b
  | k + 1 => k + 1
 | .block _ c => Gw c
 | .loop c => Gw c
 | .rangeFunc _ _ a b => match Gw a with
  | 0 => Gw b
  | k + 1 => k + 1
 | _ => 0
def Do (e : Exit) : Bool := match e with | .normal => true | _ => false
def exIs (e : Exit) (id : Nat) : Bool := match e with | .exit i => Nat.beq i id | _ => false
def jKey : Code → Nat
 | .region id _ _ => 5000000 + id
 | .cond _ a b => 6000000 + Gw (.cond (.tmp 0) a b)
 | .block id _ => 7000000 + id
 | .seq _ (.cond _ a b) => 6000000 + Gw (.cond (.tmp 0) a b)
 | .seq _ (.block id _) => 7000000 + id
 | _ => 8000000
def Jn (_id : Nat) (p : Prop) : Prop := p
def wjoin (ps : List AV) (kx : List Nat) (kbx : List KB) (n : Nat) (alts : List Alt) (e : Exit) (s : St) : Prop :=
 match Do e with
 | true => match Nat.beq s.n n with
  | true => KH kbx s (fun s => GA ps kx kbx s (Out alts .normal))
  | false => False
 | false => False
def wpre (hs : Zb) (id : Nat) (st : St) (K : St → Prop) : Prop := match lkH hs (7500000 + id) with
 | some (.z kb _) => KH kb st K
 | _ => K st
theorem wpre_ok {gl : Nat → AV} {hs : Zb} {id : Nat} {st : St} {K : St → Prop} (h : wpre hs id st K) : ∃ st', Conv gl st st' ∧ K st' := by
 unfold wpre at h
 split at h
 ·exact Yj h
 ·exact ⟨st, .refl, h⟩
def Km (P : Program) (gl : Nat → AV) (ch0 : Z0) (wf : WF) (hs : Zb) (pins : Option (List AV)) : Nat → Code → St → (Exit → St → Prop) → Prop
 | 0, _, _, _ => False
 | k + 1, c, st, K => match c with
  | .skip => K .normal st
  | .label _ => K .normal st
  | .exit id => K (.exit id) st
  | .ret => K .ret st
  | .region id ops draw => match draw with
   | true => match O5 ops.toList with
    | nf => wpre hs id st (fun st => wrunR P gl ch0 hs ops.toList st.nx nf (st.bump ops.toList.length) (fun s => TQ hs (ops.toList.take nf) s (fun s => wseq P gl ch0 wf hs ops.toList (ops.toList.drop nf) s (K .normal))))
   | false => wseq P gl ch0 wf hs ops.toList ops.toList st (K .normal)
  | .seq a b => match lkH hs (jKey a) with
   | some (.l _ _ _ kx kbx alts) => match pins with
    | some ps => ∃ u o, Jn (jKey a) (Km P gl ch0 wf hs pins k a st (wjoin ps kx kbx st.n (alts u o))) ∧ TM (alts u o) (fun _ vs bs => Km P gl ch0 wf hs pins k b (ZE st.n kx vs bs) K)
    | none => False
   | _ => Km P gl ch0 wf hs pins k a st (fun e s => match Do e with
    | true => Km P gl ch0 wf hs pins k b s K
    | false => K e s)
  | .cond c a b => match st.ev gl c with
   | .bool t => match t with
    | true => Km P gl ch0 wf hs pins k a st K
    | false => Km P gl ch0 wf hs pins k b st K
   | _ => False
  | .block id c => Km P gl ch0 wf hs pins k c st (fun e s => match exIs e id with
   | true => K .normal s
   | false => K e s)
  | .loop c => match lkH hs (3000000 + Gw c) with
   | some (.l gs ks kb kx _ alts) => match pins with
    | some ps => KH gs st (fun s => KH kb s (fun s => GA ps ks kb s (fun vs bs => ∃ u o, ZI P gl ps st.n c ks vs bs kx (alts u o) ∧ TM (alts u o) (fun e vs' bs' => K e (ZE st.n kx vs' bs')))))
    | none => False
   | _ => Km P gl ch0 wf hs pins k c st (fun e s => match Do e with
    | true => Km P gl ch0 wf hs pins k (.loop c) s K
    | false => K e s)
  | .rangeFunc g prm azz bd => match lkH hs (4000000 + Gw (.seq azz bd)) with
   | some (.l gs ks kb _ _ alts) => match pins with
    | some ps => match QN azz || QN bd with
     | true => False
     | false => KH gs st (fun s => KH kb s (fun s => match s.ev gl g with
      | .fn f caps => match FY P f, optL (tree (fun _ => none) false 12) caps with
       | true, some ts => GA ps ks kb s (fun vs bs => ∃ xs u o, ItOk P gl f ts xs ∧ NY P gl ps st.n prm azz bd ks vs (alts u o) xs bs ∧ TM (alts u o) (fun e vs' bs' => K e (ZE st.n ks vs' bs')))
       | _, _ => False
      | _ => False))
    | none => False
   | _ => False
  | _ => False
section
variable {P : Program} {gl : Nat → AV} {ch0 : Z0} {wf : WF} {hs : Zb}
theorem Wk.mono {pins : Option (List AV)} {c : Code} {st : St} {K K' : Exit → St → Prop} (h : Wk P gl pins c st K) (hq : ∀ e s, K e s → K' e s) : Wk P gl pins c st K' := fun ro d hro B H0 rest m H a w ht hr =>
 wpIn_mono (h ro d hro B H0 rest m H a w ht hr) fun _ _ _ ⟨s, m', H', B', H0', D, q, f, r⟩ => ⟨s, m', H', B', H0', D, hq _ _ q, f, r⟩
theorem Wj {e : Exit} (h : Do e = true) : e = .normal := by cases e <;> first | rfl | cases h
theorem Mr {e : Exit} (h : Do e = false) : e ≠ .normal := fun he => by subst he; cases h
theorem exIs_t {e : Exit} {id : Nat} (h : exIs e id = true) : e = .exit id := by
 cases e with
 | exit i => rw [Nat.eq_of_beq_eq_true h]
 | _ => cases h
theorem exIs_f {i id : Nat} (h : exIs (.exit i) id = false) : i ≠ id := fun e => by
 subst e
 have : Nat.beq i i = true := Nat.beq_refl i
 simp only [exIs, this] at h; cases h
theorem Oc (h0 : ch0.Ok P gl) (hwf : WF.Ok P gl wf) (hmix : P.follows .mixedOrders = true) (pins : Option (List AV)) : ∀ (J k : Nat), k ≤ J → ∀ (c : Code) (st : St) (K : Exit → St → Prop), X7 c = true → Km P gl ch0 wf hs pins k c st K → Wk P gl pins c st K
 | _, 0, _, _, _, _, _, h => h.elim
 | 0, k + 1, hJ, _, _, _, _, _ => by omega
 | J + 1, k + 1, hJ, c, st, K, hok, h => by
  have ihS := Oc h0 hwf hmix pins J
  have ih := ihS k (by omega)
  intro ro dp hro B H0 rest m H a w htop hr
  cases c with
  | skip => exact wpIn_skip (.of h rfl (Qv.refl _ _) hr)
  | label l => exact wpIn_label (.of h rfl (Qv.refl _ _) hr)
  | exit id => exact wpIn_exit (.of h rfl (Qv.refl _ _) hr)
  | ret => exact wpIn_ret (.of h rfl (Qv.refl _ _) hr)
  | region id ops draw =>
   simp only [Km] at h
   cases draw with
   | true =>
    simp only [X7, Bool.not_true, Bool.false_or, Bool.and_eq_true] at hok
    simp only at h
    obtain ⟨hnf, hbit⟩ := R1 (ms := UX ops.toList []) ops.toList.length
    obtain ⟨st0, hconv, h⟩ := wpre_ok (gl := gl) h
    obtain ⟨m, H, hr⟩ := hconv.2 _ _ _ _ _ _ _ hr
    obtain ⟨cb, F, s, hcb, hK, hrun, hF⟩ := Q22 h0 h
    obtain ⟨s1, hK, hsame⟩ := RP (gl := gl) hK
    have := Rs hcb hmix hok.1 (id := id) (nf := O5 ops.toList) (ro := ro) (n := dp) (Q := Post gl B H0 rest false a w K) hnf hbit hr hrun hF fun listed a' w' m' H' hl1 hl2 hl3 hd hb hr' =>
     Og h0 hwf hok.1 hbit (d0 := a.defers) (w0 := w) (fun sF a2 w2 m2 H2 hk2 hd2 hb2 hr2 => .of hk2 hd2 hb2 hr2) _ (O5 ops.toList) listed s1 a' w' m' H' (Nat.le_refl _) (Nat.add_sub_cancel' hnf) hl1 hl2 hl3 hK hd hb (hsame.rel _ _ _ _ _ _ _ hr')
    simpa [QN] using this
   | false =>
    refine wpIn_region ?_
    have := BH h0 hwf (all := ops.toList) (ro := ro) (n := dp) (d0 := a.defers) (w0 := w) (Q := Post gl B H0 rest false a w K) (fun s a' w' m' H' hk hd hb hr' => .of hk hd hb hr') [] ops.toList st a w m H rfl h rfl (Qv.refl _ _) hr
    simpa [List.range_eq_range', QN] using this
  | seq x y =>
   simp only [Km] at h
   simp only [X7, Bool.and_eq_true] at hok
   have hrx : QN x = true → ro = none := fun e => hro (by simp [QN, e])
   have hry : QN y = true → ro = none := fun e => hro (by simp [QN, e])
   have hor : QN (.seq x y) = false → QN x = false ∧ QN y = false := fun e => by simpa [QN] using e
   split at h
   ·rename_i kx kbx alts _
    split at h
    ·rename_i ps
     obtain ⟨u, o, h, hal⟩ := h
     refine wpIn_seq (wpIn_mono (ih x st _ hok.1 h ro dp hrx B H0 rest m H a w htop hr) fun e a' w' hp => ?_)
     obtain ⟨s, m', H', B', H0', D, hq, hf, hr'⟩ := hp
     unfold wjoin at hq
     split at hq
     ·rename_i he
      obtain rfl := Wj he
      split at hq
      ·rename_i hn
       have hn := Nat.eq_of_beq_eq_true hn
       obtain ⟨s2, hc, hq⟩ := Yj (gl := gl) hq
       obtain ⟨m3, H3, hr3⟩ := hc.2 _ _ _ _ _ _ _ hr'
       obtain ⟨vs', bs', m4, ho, hr4⟩ := GP hr3 (htop ps rfl) hq
       rw [hc.1, hn] at hr4
       obtain ⟨alt, h1, x0, h2, _, lv, lb⟩ := ho.ok
       obtain ⟨m5, H5, hr5⟩ := (Cz (gl := gl) (n := st.n) (ks := kx) lv lb).2 _ _ _ _ _ _ _ hr4
       refine wpIn_mono (ih y _ K hok.2 (I6 hal alt h1 x0 h2) ro dp hry B' H0' rest m5 H5 a' w' htop hr5) fun e a2 w2 hp2 => ?_
       obtain ⟨s2, m2, H2, B2, H02, D2, hq2, hf2, hr2⟩ := hp2
       exact ⟨s2, m2, H2, B2, H02, _, hq2, hf.trans hf2 hor, hr2⟩
      ·cases hq
     ·cases hq
    ·cases h
   ·refine wpIn_seq (wpIn_mono (ih x st _ hok.1 h ro dp hrx B H0 rest m H a w htop hr) fun e a' w' hp => ?_)
    obtain ⟨s, m', H', B', H0', D, hq, hf, hr'⟩ := hp
    split at hq
    ·rename_i he
     obtain rfl := Wj he
     refine wpIn_mono (ih y s K hok.2 hq ro dp hry B' H0' rest m' H' a' w' htop hr') fun e a2 w2 hp2 => ?_
     obtain ⟨s2, m2, H2, B2, H02, D2, hq2, hf2, hr2⟩ := hp2
     exact ⟨s2, m2, H2, B2, H02, _, hq2, hf.trans hf2 hor, hr2⟩
    ·rename_i he
     have := Mr he
     cases e with
     | normal => exact absurd rfl this
     | _ => exact ⟨s, m', H', B', H0', D, hq, hf.up fun e => (hor e).1, hr'⟩
  | cond c x y =>
   simp only [Km] at h
   simp only [X7, Bool.and_eq_true] at hok
   have hrx : QN x = true → ro = none := fun e => hro (by simp [QN, e])
   have hry : QN y = true → ro = none := fun e => hro (by simp [QN, e])
   have hor : QN (.cond c x y) = false → QN x = false ∧ QN y = false := fun e => by simpa [QN] using e
   split at h
   ·rename_i t ht
    have hv := hr.ev c
    rw [ht] at hv
    cases t with
    | true => exact wpIn_cond hv.bool_inv (wpIn_mono (ih x st K hok.1 h ro dp hrx B H0 rest m H a w htop hr) fun e a2 w2 ⟨s2, m2, H2, B2, H02, D2, hq2, hf2, hr2⟩ => ⟨s2, m2, H2, B2, H02, D2, hq2, hf2.up fun e => (hor e).1, hr2⟩)
    | false => exact wpIn_cond hv.bool_inv (wpIn_mono (ih y st K hok.2 h ro dp hry B H0 rest m H a w htop hr) fun e a2 w2 ⟨s2, m2, H2, B2, H02, D2, hq2, hf2, hr2⟩ => ⟨s2, m2, H2, B2, H02, D2, hq2, hf2.up fun e => (hor e).2, hr2⟩)
   ·cases h
  | block id c =>
   simp only [Km] at h
   simp only [X7] at hok
   refine wpIn_block (wpIn_mono (ih c st _ hok h ro dp hro B H0 rest m H a w htop hr) fun e a' w' hp => ?_)
   obtain ⟨s, m', H', B', H0', D, hq, hf, hr'⟩ := hp
   split at hq
   ·rename_i he
    obtain rfl := exIs_t he
    simp only [Exit.inBlock, if_true]
    exact ⟨s, m', H', B', H0', D, hq, hf, hr'⟩
   ·rename_i he
    cases e with
    | exit i =>
     simp only [Exit.inBlock, if_neg (exIs_f he)]
     exact ⟨s, m', H', B', H0', D, hq, hf, hr'⟩
    | _ => exact ⟨s, m', H', B', H0', D, hq, hf, hr'⟩
  | loop c =>
   have hok' := hok
   simp only [X7] at hok
   have unroll : ∀ j, j ≤ k + 1 → ∀ (s : St) (m1 : Nat → Lc) (H1 : HV) (B1 : Nat → Prop) (H01 : HV) (D1 : List Nat) (a1 : Act) (w1 : World), Fin' B H0 a w (QN c) B1 H01 D1 a1 w1 → RelS m1 H1 B1 H01 gl rest s a1.tmps w1 →
     (∃ υ ω gs ks kb kx kbx, ∃ alts : υ → ω → List Alt, lkH hs (3000000 + Gw c) = some (.l gs ks kb kx kbx alts)) ∨ (Km P gl ch0 wf hs pins j (.loop c) s K → (Code.loop c).wpIn (FW ro) dp P (Post gl B H0 rest (QN c) a w K) a1 w1) := by
    intro j hj s m1 H1 B1 H01 D1 a1 w1 hf1 hr1
    by_cases hl : ∃ υ ω gs ks kb kx kbx, ∃ alts : υ → ω → List Alt, lkH hs (3000000 + Gw c) = some (.l gs ks kb kx kbx alts)
    ·exact .inl hl
    refine .inr fun h => ?_
    refine B4 (j := j) (fun i a' w' => i ≤ k + 1 ∧ ∃ st1 m1 H1 B1 H01 D1, Km P gl ch0 wf hs pins i (.loop c) st1 K ∧ Fin' B H0 a w (QN c) B1 H01 D1 a' w' ∧ RelS m1 H1 B1 H01 gl rest st1 a'.tmps w') (fun i a1 w1 hI => ?_) ⟨hj, s, m1, H1, B1, H01, D1, h, hf1, hr1⟩
    obtain ⟨hi, st1, m1, H1, B1, H01, D1, hx, hf1, hr1⟩ := hI
    cases i with
    | zero => exact hx.elim
    | succ i =>
     simp only [Km] at hx
     split at hx
     ·rename_i hh; exact absurd ⟨_, _, _, _, _, _, _, _, hh⟩ hl
     ·refine wpIn_mono (ihS i (by omega) c st1 _ hok hx ro dp hro B1 H01 rest m1 H1 a1 w1 htop hr1) fun e a2 w2 hp => ?_
      obtain ⟨s2, m2, H2, B2, H02, D2, hq, hf2, hr2⟩ := hp
      split at hq
      ·rename_i he
       obtain rfl := Wj he
       exact ⟨i, Nat.lt_succ_self _, by omega, s2, m2, H2, B2, H02, _, hq, hf1.trans hf2 fun e => ⟨e, e⟩, hr2⟩
      ·rename_i he
       have := Mr he
       cases e with
       | normal => exact absurd rfl this
       | _ => exact ⟨s2, m2, H2, B2, H02, _, hq, hf1.trans hf2 fun e => ⟨e, e⟩, hr2⟩
   rcases unroll (k + 1) (Nat.le_refl _) st m H B H0 [] a w (.of rfl (Qv.refl _ _)) hr with ⟨υ, ω, gs, ks, kb, kx, kbx, alts, hl⟩ | hgo
   ·simp only [Km, hl] at h
    split at h
    ·rename_i ps
     obtain ⟨s1, hc1, h⟩ := Yj (gl := gl) h
     obtain ⟨s2, hc2, h⟩ := Yj (gl := gl) h
     obtain ⟨m1, H1, hr1⟩ := (hc1.trans hc2).2 _ _ _ _ _ _ _ hr
     obtain ⟨vs, bs, m', hq, hr'⟩ := GP hr1 (htop ps rfl) h
     rw [(hc1.trans hc2).1] at hr'
     obtain ⟨u, o, hq⟩ := hq
     refine wpIn_mono (hq.1.ok ro dp hro B H0 rest m' H1 a w (htop ps rfl) hr').loop fun e a' w' hp => ?_
     obtain ⟨s, m2, H2, B2, H02, D2, ⟨alt, hal, x, hφ, rfl, rfl⟩, hf, hr2⟩ := hp
     exact ⟨_, m2, H2, B2, H02, D2, I6 hq.2 alt hal x hφ, hf, hr2⟩
    ·cases h
   ·exact hgo h
  | rangeFunc g prm azz bd =>
   simp only [Km] at h
   obtain rfl := hro rfl
   split at h
   ·rename_i gs ks kb kx kbx alts hl
    split at h
    ·rename_i ps
     split at h
     ·cases h
     ·rename_i hran
      rw [Bool.or_eq_false_iff] at hran
      obtain ⟨s1, hc1, h⟩ := Yj (gl := gl) h
      obtain ⟨s2, hc2, h⟩ := Yj (gl := gl) h
      obtain ⟨m1, H1, hr1⟩ := (hc1.trans hc2).2 _ _ _ _ _ _ _ hr
      split at h
      ·rename_i f caps hev
       split at h
       ·rename_i ts hbod hts
        have hgv := hr1.ev g
        rw [hev] at hgv
        obtain ⟨us, hu, hul, hur⟩ := hgv.fn_inv
        obtain ⟨vs, bs, m', hq, hr'⟩ := GP hr1 (htop ps rfl) h
        rw [(hc1.trans hc2).1] at hr'
        obtain ⟨xs, u, o, hit, hrn, hal⟩ := hq
        obtain ⟨hl', hr2⟩ := LQ (R' := RelI (snap H1 (fun _ => none) m1 w)) hul hur hts fun x t v hx ht => Me (H1 := H1) false (fun id ver cs hh => by cases hh) (fun id ver cs hh => by cases hh) (fun id bx hh => by cases hh) (fun _ => rfl) 12 x t v hx ht
        have hsn : snap H1 (fun _ => none) m1 w = H1 := by
         funext b o; unfold snap; rw [if_neg]; rintro ⟨_, _, _, e, _⟩; cases e
        rw [hsn] at hr2
        refine wpIn_mono (Q1q hr' hu hl' hr2 (NQ hbod) hit hrn (htop ps rfl) hran.1 hran.2 dp) fun e a' w' hp => ?_
        obtain ⟨s, m2, H2, B2, H02, D2, ⟨alt, hal', x, hφ, rfl, rfl⟩, hf, hr2⟩ := hp
        exact ⟨_, m2, H2, B2, H02, D2, I6 hal alt hal' x hφ, hf, hr2⟩
       ·cases h
      ·cases h
    ·cases h
   ·cases h
  | _ => exact h.elim
end
structure Nxt (P : Program) (gl : Nat → AV) (ps : List AV) (n : Nat) (c : Code) (ks : List Nat) (kx : List Nat) (alts : List Alt) (vs : List AV) (bs : List Box) : Prop where
 ok : ∃ vs' bs', LeVs vs vs' ∧ LeBs bs bs' ∧ ZI P gl ps n c ks vs' bs' kx alts
def wround (P : Program) (gl : Nat → AV) (ch0 : Z0) (wf : WF) (hs : Zb) (ps : List AV) (k n : Nat) (c : Code) (ks : List Nat) (kb : List KB) (kx : List Nat) (kbx : List KB) (alts : List Alt) (vs : List AV) (bs : List Box) (N : List AV → List Box → Prop) : Prop :=
 Km P gl ch0 wf hs (some ps) k c (ZE n ks vs bs) (fun e s => match Nat.beq s.n n with
  | true => match Do e with
   | true => KH kb s (fun s => GA ps ks kb s N)
   | false => KH kbx s (fun s => GA ps kx kbx s (Out alts e))
  | false => False)
section
variable {P : Program} {gl : Nat → AV} {ch0 : Z0} {wf : WF} {hs : Zb}
theorem Lw {pins : Option (List AV)} (h0 : ch0.Ok P gl) (hwf : WF.Ok P gl wf) (hmix : P.follows .mixedOrders = true) {k : Nat} {c : Code} {st : St} {K : Exit → St → Prop} (hok : X7 c = true) (h : Km P gl ch0 wf hs pins k c st K) : Wk P gl pins c st K :=
 Oc h0 hwf hmix pins k k (Nat.le_refl _) c st K hok h
theorem ZI.step {P : Program} {gl : Nat → AV} {ch0 : Z0} {wf : WF} {hs : Zb} (h0 : ch0.Ok P gl) (hwf : WF.Ok P gl wf) (hmix : P.follows .mixedOrders = true) {ps : List AV} {n : Nat} {c : Code} {ks : List Nat} {kb : List KB} {kx : List Nat} {kbx : List KB} {alts : List Alt} (hok : X7 c = true) {k : Nat} {vs : List AV} {bs : List Box}
  (hw : wround P gl ch0 wf hs ps k n c ks kb kx kbx alts vs bs (Nxt P gl ps n c ks kx alts)) : ZI P gl ps n c ks vs bs kx alts := by
 refine ⟨fun ro dp hro B H0 rest m H a w hrest hr => wpL.round ?_⟩
 refine wpIn_mono (Lw h0 hwf hmix hok hw ro dp hro B H0 rest m H a w (fun ps' e => by cases e; exact hrest) hr) fun e a2 w2 hp => ?_
 obtain ⟨s, m2, H2, B2, H02, D2, hq, hf2, hr2⟩ := hp
 split at hq
 ·rename_i hn
  have hn := Nat.eq_of_beq_eq_true hn
  split at hq
  ·rename_i he
   obtain rfl := Wj he
   obtain ⟨s2, hc, hq⟩ := Yj (gl := gl) hq
   obtain ⟨m3, H3, hr3⟩ := hc.2 _ _ _ _ _ _ _ hr2
   obtain ⟨vs', bs', m4, hI', hr4⟩ := GP hr3 hrest hq
   rw [hc.1, hn] at hr4
   obtain ⟨vs2, bs2, lv, lb, hI'⟩ := hI'.ok
   obtain ⟨m5, H5, hr5⟩ := (Cz (gl := gl) (n := n) (ks := ks) lv lb).2 _ _ _ _ _ _ _ hr4
   refine wpL.mono (hI'.ok ro dp hro B2 H02 rest m5 H5 a2 w2 hrest hr5) fun e a3 w3 hp3 => ?_
   obtain ⟨s3, m6, H6, B3, H03, D3, h1, hf3, h4⟩ := hp3
   exact ⟨s3, m6, H6, B3, H03, _, h1, hf2.trans hf3 fun e => ⟨e, e⟩, h4⟩
  ·rename_i he
   have := Mr he
   obtain ⟨s2, hc, hq⟩ := Yj (gl := gl) hq
   obtain ⟨m3, H3, hr3⟩ := hc.2 _ _ _ _ _ _ _ hr2
   obtain ⟨vs', bs', m4, ho, hr4⟩ := GP hr3 hrest hq
   rw [hc.1, hn] at hr4
   obtain ⟨alt, h1, x, h2, rfl, lv, lb⟩ := ho.ok
   obtain ⟨m5, H5, hr5⟩ := (Cz (gl := gl) (n := n) (ks := kx) lv lb).2 _ _ _ _ _ _ _ hr4
   cases e' : alt.ex with
   | normal => exact absurd e' this
   | _ => exact ⟨_, m5, H5, B2, H02, D2, ⟨alt, h1, x, h2, e'.symm, rfl⟩, hf2, hr5⟩
 ·cases hq
end
structure NxtR (P : Program) (gl : Nat → AV) (ps : List AV) (n : Nat) (prm : Array Tmp) (azz bd : Code) (ks : List Nat) (vs : List AV) (alts : List Alt) (xs : List (List AV)) (bs : List Box) : Prop where
 ok : ∃ bs2, LeBs bs bs2 ∧ NY P gl ps n prm azz bd ks vs alts xs bs2
def wrng (P : Program) (gl : Nat → AV) (ch0 : Z0) (wf : WF) (hs : Zb) (ps : List AV) (k n : Nat) (prm : Array Tmp) (azz bd : Code) (ks : List Nat) (kb kbx : List KB) (vs : List AV) (alts : List Alt) (x : List AV) (bs : List Box) (N : List Box → Prop) : Prop :=
 match Mc ks vs with
 | true => match Ts prm.toList x (ZE n ks vs bs) with
  | some s0 => Km P gl ch0 wf hs (some (vs ++ ps)) k azz s0 (fun e s1 => match Do e with
   | true => Km P gl ch0 wf hs (some (vs ++ ps)) k bd s1 (fun e s2 => match Ru e with
    | some j => match j with
     | none => KH kb ⟨n, slOf ks vs, s2.hp, s2.nx⟩ (fun s => GA ps ks kb s (fun vs' bs' => LeVs vs' vs ∧ N bs'))
     | some _ => KH kbx ⟨n, slOf ks vs, s2.hp, s2.nx⟩ (fun s => GA ps ks kbx s (fun vs' bs' => LeVs vs' vs ∧ Out alts e vs bs'))
    | none => False)
   | false => False)
  | none => False
 | false => False
section
variable {P : Program} {gl : Nat → AV} {ch0 : Z0} {wf : WF} {hs : Zb}
theorem Bt {ps : List AV} {n : Nat} {ks : List Nat} {vs : List AV} {kb : List KB} {s : St} {N : List Box → Prop} (h : KH kb ⟨n, slOf ks vs, s.hp, s.nx⟩ (fun s => GA ps ks kb s (fun vs' bs' => LeVs vs' vs ∧ N bs'))) : ∃ bs', Turn gl n ks vs ps s bs' ∧ N bs' := by
 obtain ⟨s2, hc, hw⟩ := Yj (gl := gl) h
 have hw0 := hw
 unfold GA at hw0
 split at hw0
 ·split at hw0
  ·rename_i hcc _ bs hbs
   refine ⟨bs, fun m H B H0 rest tmps w hps hr => ?_, hw0.2⟩
   obtain ⟨m1, H1, hr1⟩ := hc.2 _ _ _ _ _ _ _ hr
   have hw1 : GA ps ks kb s2 (fun vs' bs' => LeVs vs' vs ∧ bs' = bs) := by
    unfold GA
    rw [hcc, hbs]
    exact ⟨hw0.1, rfl⟩
   obtain ⟨vs', bs', m2, ⟨lv, rfl⟩, hr2⟩ := GP hr1 hps hw1
   rw [show s2.n = n from hc.1] at hr2
   exact (Cz (gl := gl) (n := n) (ks := ks) lv (.refl _)).2 _ _ _ _ _ _ _ hr2
  ·cases hw0
 ·cases hw0
theorem NY.step (h0 : ch0.Ok P gl) (hwf : WF.Ok P gl wf) (hmix : P.follows .mixedOrders = true) {ps : List AV} {k n : Nat} {prm : Array Tmp} {azz bd : Code} {ks : List Nat} {kb kbx : List KB} {vs : List AV} {alts : List Alt} {x : List AV} {xs : List (List AV)} {bs : List Box} (ha : X7 azz = true) (hb : X7 bd = true)
  (hw : wrng P gl ch0 wf hs ps k n prm azz bd ks kb kbx vs alts x bs (NxtR P gl ps n prm azz bd ks vs alts xs)) : NY P gl ps n prm azz bd ks vs alts (x :: xs) bs := by
 unfold wrng at hw
 split at hw
 ·rename_i hsl
  split at hw
  ·rename_i s0 hs0
   refine ⟨hsl, s0, hs0, (Lw h0 hwf hmix ha hw).mono fun e s1 h1 => ?_⟩
   split at h1
   ·rename_i he
    refine ⟨Wj he, (Lw h0 hwf hmix hb h1).mono fun e s2 h2 => ?_⟩
    split at h2
    ·rename_i j hj
     split at h2
     ·obtain ⟨bs', ht, hN⟩ := Bt (gl := gl) h2
      exact ⟨none, bs', hj, ht, hN.ok⟩
     ·rename_i c
      obtain ⟨bs', ht, hN⟩ := Bt (gl := gl) h2
      exact ⟨some c, bs', hj, ht, hN⟩
    ·cases h2
   ·cases h1
  ·cases hw
 ·cases hw
end
end HY
end
section
namespace HY
open Go Go.RowKit
def TP (P : Program) (gl : Nat → AV) (ch0 : Z0) (wf : WF) (gd : Nat → Bool) (pins : Option (List AV)) (fl f : Nat) (hs : Zb) (args : List AV) (hp : Tr Box) (nx : Nat) (K : AV → St → Prop) : Prop :=
 match gd f with
 | true => match P.funcs[f]? with
  | some fn => match fn.body with
   | some c => match Nat.ble args.length fn.ntmps with
    | true => Km P gl ch0 wf hs pins fl c ⟨fn.ntmps, Un 0 args, hp, nx⟩ (fun e s => match endsFn e with
     | true => match Fl P s fn.results.toList with
      | some r => K r s
      | none => False
     | false => False)
    | false => False
   | none => False
  | none => False
 | false => False
def wlev (P : Program) (gl : Nat → AV) (ch0 : Z0) (gd : Nat → Bool) (fl : Nat) (ex : WF) : Nat → WF
 | 0 => ex
 | k + 1 => fun f hs args hp nx K => match gd f with
  | true => TP P gl ch0 (wlev P gl ch0 gd fl ex k) gd none fl f hs args hp nx (fun r s => K r s.hp s.nx)
  | false => ex f hs args hp nx K
section
variable {P : Program} {gl : Nat → AV} {ch0 : Z0} {wf : WF} {hs : Zb} {gd : Nat → Bool} {fl : Nat}
theorem EL {F : Fence} {n : Nat} {fn : Func} {tmps : Array Value} {R : Ending → World → Prop} {I : World → Prop} : ∀ (D : List Nat) (w : World), D.Nodup → I w → (∀ g ∈ D, w.heap[g]? = some (.deferred (some []))) → (∀ g ∈ D, ∀ w, I w → w.heap[g]? = some (.deferred (some [])) → I (w.putObj g (.deferred none))) →
  (∀ w', I w' → ∃ v, (results fn tmps).run P w' = .ok v w' ∧ R (.returned v) w') → LeavesInM F n P fn tmps R (Hm D) .returning w
 | [], w, _, hI, _, _, hQ => hQ w hI
 | g :: D, w, hn, hI, ho, hs, hQ => by
  rw [List.nodup_cons] at hn
  have hg := ho g (by simp)
  refine ⟨by simp, .inl ⟨g, _, rfl, run_takeDeferred hg, ?_⟩⟩
  refine EL D _ hn.2 (hs g (by simp) w hI hg) (fun k hk => ?_) (fun k hk => hs k (List.mem_cons_of_mem _ hk)) hQ
  rw [World.putObj_heap_other (fun e : k = g => by subst e; exact hn.1 hk)]
  exact ho k (List.mem_cons_of_mem _ hk)
theorem RO (h0 : ch0.Ok P gl) (hwf : WF.Ok P gl wf) (hp : Lm P gd) {pins : Option (List AV)} {f : Nat} {args : List AV} {hpx : Tr Box} {nx : Nat} {K : AV → St → Prop} (hw : TP P gl ch0 wf gd pins fl f hs args hpx nx K)
  (m : Nat → Lc) (H : HV) (B : Nat → Prop) (H0 : HV) (rest : List (AV × Value)) (w : World) (vs : Array Value) (htop : ∀ ps, pins = some ps → rest.map (·.1) = ps) (hh : RelH m H B H0 gl (lkb hpx) nx w) (hl : args.length = vs.size)
  (hargs : ∀ (j : Nat) (x : AV) (v : Value), args[j]? = some x → vs[j]? = some v → RV H (Qq (lkb hpx) m) x v) (hrest : ∀ p ∈ rest, RV H (Qq (lkb hpx) m) p.1 p.2) :
  Ans P f vs w fun e w' => ∃ v m' H' r s tmps, K r s ∧ e = .returned v ∧ Qv B w w' ∧ RelS m' H' B H0 gl rest s tmps w' ∧ RV H' (s.env m') r v := by
 unfold TP at hw
 split at hw
 ·rename_i hg
  have hok := hp.fn f hg
  unfold okFn at hok
  split at hw
  ·rename_i fn hf
   rw [hf] at hok
   simp only [Bool.and_eq_true, bne_iff_ne] at hok
   obtain ⟨hname, hok⟩ := hok
   split at hw
   ·rename_i c hb
    rw [hb] at hok
    simp only at hok
    split at hw
    ·rename_i hle
     have hle := Nat.le_of_ble_eq_true hle
     refine .inl ⟨NE hf (by simpa using hname) (by rw [hb]; rfl), ?_⟩
     have hr0 : RelS m H B H0 gl rest ⟨fn.ntmps, Un 0 args, hpx, nx⟩ (Act.mk (vs ++ Array.replicate (fn.ntmps - vs.size) Go.undef) []).tmps w := by
      refine ⟨hh, by simp; omega, fun k => ?_, hrest⟩
      show RV H _ (lk .undef (Un 0 args) k) _
      rw [Na, if_pos (Nat.zero_le _), Nat.sub_zero]
      cases hx : args[k]? with
      | none => exact .imm _ _ (.undef _)
      | some x =>
       have hk : k < vs.size := by rw [← hl]; exact (List.getElem?_eq_some_iff.1 hx).1
       have hv : (vs ++ Array.replicate (fn.ntmps - vs.size) Go.undef).getD k Go.undef = vs[k] := by
        rw [Array.getD_eq_getD_getElem?, Array.getElem?_append_left hk, Array.getElem?_eq_getElem hk]; rfl
       rw [hv]
       exact hargs k x _ hx (Array.getElem?_eq_getElem hk)
     refine CallsIn.calls (F := FW none) (n := 0) (callsIn_of_wp_marks hf hb trivial (wpIn_mono (Lw h0 hwf hp.mix hok hw none 0 (fun _ => rfl) B H0 rest m H _ w htop hr0) fun e a' w' hq => ?_)) (fun k d hd => by simp [FW] at hd)
     obtain ⟨s, m', H', B', H0', D, hK, hf', hr⟩ := hq
     split at hK
     ·rename_i hex
      split at hK
      ·rename_i r hres
       have hgo : LeavesInM (FW none) 0 P fn a'.tmps (fun e w' => ∃ v m' H' r s tmps, K r s ∧ e = .returned v ∧ Qv B w w' ∧ RelS m' H' B H0 gl rest s tmps w' ∧ RV H' (s.env m') r v) a'.defers .returning w' := by
        rw [hf'.dfr]
        show LeavesInM _ _ _ _ _ _ (Hm D ++ []) _ _
        rw [List.append_nil]
        refine EL (I := fun w2 => Qv B w w2 ∧ RelS m' H' B' H0' gl rest s a'.tmps w2) D w' hf'.nod ⟨hf'.bel, hr⟩ (fun g hg => (hf'.opn g hg).2.2) (fun g hg w2 hI ho => ⟨hI.1.obj (fun hB => by have := hr0.heap.low g hB; have := (hf'.opn g hg).2.1; omega) ho (fun _ _ _ q => by cases q), hI.2.obj (hf'.opn g hg).1 ho (fun _ _ _ q => by cases q)⟩) fun w2 hI => ?_
        obtain ⟨v, hv, hrv⟩ := Bm hI.2 hres
        exact ⟨v, hv, v, m', H', r, s, a'.tmps, hK, rfl, hI.1, hI.2.down hf'.sub (fun b o hb => hf'.old b o hb) (hh.gv.to hI.1 fun _ _ hb => hb), hrv⟩
       cases e with
       | normal => exact hgo
       | ret => exact hgo
       | _ => cases hex
      ·cases hK
     ·cases hK
    ·cases hw
   ·cases hw
  ·cases hw
 ·cases hw
theorem BD {ex : WF} (h0 : ch0.Ok P gl) (hp : Lm P gd) (hex : WF.Ok P gl ex) : ∀ k, WF.Ok P gl (wlev P gl ch0 gd fl ex k)
 | 0 => hex
 | k + 1 => fun f hs args hpx nx K h => by
  simp only [wlev] at h
  split at h
  ·intro m H B H0 rest w vs hh hl hargs hrest
   refine (RO h0 (BD h0 hp hex k) hp h m H B H0 rest w vs (fun _ e => nomatch e) hh hl hargs hrest).mono fun e w' hq => ?_
   obtain ⟨v, m', H', r, s, tmps, hK, rfl, hb, hr, hrv⟩ := hq
   exact ⟨v, m', H', r, s.hp, s.nx, hK, rfl, hb, hr.heap, hrv, hr.rest⟩
  ·exact hex f hs args hpx nx K h
def endP (r : AV) (r0 : AV) (s : St) : Prop := WX (lkb s.hp) 12 r0 (fun t => LeT t r)
def endH (ps : List AV) (kb : List KB) (r : AV) (bs' : List Box) (r0 : AV) (s : St) : Prop :=
 KH kb ⟨ps.length + 1, Un 0 (r0 :: ps), s.hp, s.nx⟩ (fun s => GA ps [0] kb s (fun vs bs => LeVs vs [r] ∧ LeBs bs bs'))
def wpure (P : Program) (gl : Nat → AV) (ch0 : Z0) (wf : WF) (gd : Nat → Bool) (fl f : Nat) (hs : Zb) (args : List AV) (r : AV) : Prop :=
 TP P gl ch0 wf gd (some []) fl f hs args .nil 0 (endP r)
def wpureH (P : Program) (gl : Nat → AV) (ch0 : Z0) (wf : WF) (gd : Nat → Bool) (fl f : Nat) (hs : Zb) (kb : List KB) (args : List AV) (bs : List Box) (r : AV) (bs' : List Box) : Prop :=
 TP P gl ch0 wf gd (some (UU 0 bs)) fl f hs args (hpOf 0 bs) bs.length (endH (UU 0 bs) kb r bs')
theorem PD {m : Nat → Lc} {H : HV} {B : Nat → Prop} {H0 : HV} {hp : Tr Box} {nx : Nat} {w : World} (h : RelH m H B H0 gl (lkb hp) nx w) : RelH m (snap H (lkb hp) m w) B H0 gl (lkb .nil) 0 w where
 sat := RB h.sat
 old b o hlt := by
  unfold snap
  rw [if_neg ?_]
  ·exact h.old b o hlt
  ·rintro ⟨id, bx, ver, h1, _, h3, rfl⟩
   exact (h.sepR id _ h1 h3).1 hlt
 low := h.low
 fresh _ _ := Zi _
 box _ _ hh := by rw [Zi] at hh; cases hh
 sepR _ _ hh := by rw [Zi] at hh; cases hh
 injR _ _ _ _ hh := by rw [Zi] at hh; cases hh
 gl g := (h.gl g).mono (Lv fun id bx hh hr => (h.sepR id bx hh hr).2.2)
 ty _ _ _ hh := by rw [Zi] at hh; cases hh
 gv := h.gv
theorem Pu.of (h0 : ch0.Ok P gl) (hwf : WF.Ok P gl wf) (hp : Lm P gd) {f : Nat} {args : List AV} {r : AV} (hw : wpure P gl ch0 wf gd fl f hs args r) : Pu P gl f args r := by
 refine ⟨fun m H B H0 w vs hh hl hargs => ?_⟩
 refine (RO h0 hwf hp hw m H B H0 [] w vs (fun ps e => by cases e; rfl) hh hl hargs (fun p hp => by simp at hp)).mono fun e w' hq => ?_
 obtain ⟨v, m', H', r0, s, tmps, hK, rfl, hb, hr, hrv⟩ := hq
 obtain ⟨t, ht, hrel⟩ := I4 (fun id b hid => hr.heap.box id b hid) (fun id bx hid hr' => (hr.heap.sepR id bx hid hr').2.2) 12 r0 v _ hrv hK
 exact ⟨v, m', snap H' (lkb s.hp) m' w', rfl, hb, PD hr.heap, .imm _ _ (ht.ok _ _ hrel)⟩
theorem PuH.of (h0 : ch0.Ok P gl) (hwf : WF.Ok P gl wf) (hp : Lm P gd) {f : Nat} {kb : List KB} {args : List AV} {bs bs' : List Box} {r : AV} (hw : wpureH P gl ch0 wf gd fl f hs kb args bs r bs') : PuH P gl f args bs r bs' := by
 refine ⟨fun m H B H0 rest w vs hh hl hargs hrest hrv => ?_⟩
 refine (RO h0 hwf hp hw m H B H0 rest w vs (fun ps e => by cases e; exact hrest) hh hl hargs hrv).mono fun e w' hq => ?_
 obtain ⟨v, m', H', r0, s, tmps, hK, rfl, hb, hr, hrv⟩ := hq
 unfold endH at hK
 obtain ⟨s2, hc, hK⟩ := Yj (gl := gl) hK
 have hs : RelS m' H' B H0 gl rest ⟨(UU 0 bs).length + 1, Un 0 (r0 :: UU 0 bs), s.hp, s.nx⟩ (v :: rest.map (·.2)).toArray w' := by
  refine ⟨hr.heap, by simp [← hrest], fun k => ?_, hr.rest⟩
  show RV H' _ (lk .undef (Un 0 (r0 :: UU 0 bs)) k) _
  rw [Na, if_pos (Nat.zero_le _), Nat.sub_zero]
  cases k with
  | zero => exact hrv
  | succ k =>
   rw [List.getElem?_cons_succ, ← hrest, List.getElem?_map]
   cases hk : rest[k]? with
   | none => exact .imm _ _ (.undef _)
   | some p =>
    have : ((v :: rest.map (·.2)).toArray).getD (k + 1) Go.undef = p.2 := by
     rw [Array.getD_eq_getD_getElem?, List.getElem?_toArray, List.getElem?_cons_succ, List.getElem?_map, hk]; rfl
    rw [this]
    exact hr.rest p (List.mem_of_getElem? hk)
 obtain ⟨m2, H2, hr2⟩ := hc.2 _ _ _ _ _ _ _ hs
 obtain ⟨vs', bs2, m3, ⟨lv, lb⟩, hr3⟩ := GP hr2 hrest hK
 obtain ⟨m4, H4, hr4⟩ := (Cz (gl := gl) (n := s2.n) (ks := [0]) lv lb).2 _ _ _ _ _ _ _ hr3
 refine ⟨v, m4, H4, rfl, hb, hr4.heap, ?_, hr4.rest⟩
 have := hr4.slot 0
 have e : St.get (ZE s2.n [0] [r] bs') 0 = r := by
  show lk .undef (pt (slOf [] []) 0 r) 0 = r
  rw [GV]; simp
 rw [e] at this
 exact this
theorem Pu.ofH {f : Nat} {args : List AV} {r r' : AV} {bs' : List Box} (h : PuH P gl f args [] r bs') (ht : WX (lkb (hpOf 0 bs')) 12 r (fun t => LeT t r')) : Pu P gl f args r' := by
 refine ⟨fun m H B H0 w vs hh hl hargs => (h.zero m H B H0 w vs hh hl hargs).mono fun e w' hq => ?_⟩
 obtain ⟨v, m', H', rfl, hb, hH, hrv⟩ := hq
 obtain ⟨t, ht, hrel⟩ := I4 (fun id b hid => hH.box id b hid) (fun id bx hid hr' => (hH.sepR id bx hid hr').2.2) 12 r v _ hrv ht
 exact ⟨v, m', snap H' (lkb (hpOf 0 bs')) m' w', rfl, hb, PD hH, .imm _ _ (ht.ok _ _ hrel)⟩
end
def Wl (r : Nat) : Code → Option Code
 | .loop c => match Nat.beq (Gw c) r with
  | true => some c
  | false => Wl r c
 | .seq a b => match Wl r a with
  | some c => some c
  | none => Wl r b
 | .cond _ a b => match Wl r a with
  | some c => some c
  | none => Wl r b
 | .block _ c => Wl r c
 | _ => none
def CB (P : Program) (f r : Nat) : Code := match P.funcs[f]? with
 | some fn => match fn.body with
  | some c => match Wl r c with
   | some c => c
   | none => .skip
  | none => .skip
 | none => .skip
end HY
end
section
namespace HY
open Go Go.RowKit
def JQ (b : Bool) (m : Nat) (r : AV) (p : Option Nat) : Prop := match b with
 | true => (r = .bool true ∧ p = some m) ∨ (r = .bool false ∧ p = none)
 | false => r = .tup [] ∧ (p = some m ∨ p = none)
structure JF (P : Program) (gl : Nat → AV) (l : Nat) (xs : List (List AV)) (f : Nat) (args : List AV) (p : Option Nat) (b : Bool) (m : Nat) : Prop where
 ok : ∀ J, JOk P gl l xs J → ∀ Hc w (vs : Array Value), J p (fun _ => False) Hc w → args.length = vs.size → (∀ (j : Nat) (c : AV) (v : Value), args[j]? = some c → vs[j]? = some v → RelI Hc c v) →
  Ans P f vs w fun e w' => ∃ v r p' O' Hc', e = .returned v ∧ JQ b m r p' ∧ (∀ H, RelI H r v) ∧ J p' O' Hc' w'
structure Fr (gl : Nat → AV) (J : JT) (p : Option Nat) (st : St) (tmps : Array Value) (w : World) : Prop where
 ex : ∃ O Hc m H, RelS m H (BO O w) Hc gl [] st tmps w ∧ HV.le H Hc ∧ J p O Hc w
section
variable {P : Program} {gl : Nat → AV} {l : Nat} {xs : List (List AV)} {J : JT}
theorem Fr.moved (hJ : JOk P gl l xs J) {p : Option Nat} {O : Nat → Prop} {Hc : HV} {w w' : World} (hj : J p O Hc w) (hb : Qv (BO O w) w w') {m' : Nat → Lc} {H' : HV} {B' : Nat → Prop} {H0' : HV} {st' : St} {tmps' : Array Value} (hs : ∀ b, BO O w b → B' b) (ho : ∀ b o, BO O w b → H0' b o = Hc b o)
  (hr : RelS m' H' B' H0' gl [] st' tmps' w') : Fr gl J p st' tmps' w' := by
 have hr1 : RelS m' H' (BO O w) Hc gl [] st' tmps' w' := hr.down hs ho ((hJ.gv _ _ _ _ hj).to hb fun _ _ h => h)
 have hj1 := hJ.own _ _ _ _ _ hj hb
 have cov : ∀ b, b < w'.heap.size → BO O w b ∨ LR O w w' b := fun b hlt => by
  by_cases hO : O b
  ·exact .inr (.inl hO)
  ·rcases Nat.lt_or_ge b w.heap.size with h | h
   ·exact .inl ⟨h, hO⟩
   ·exact .inr (.inr ⟨h, hlt⟩)
 have hk : ∀ b o v, H' b o = some v → LR O w w' b ∨ Hc b o = some v := fun b o v hv => by
  rcases cov b (Gx hr1.heap.sat hv) with h | h
  ·exact .inr (by rw [← hr1.heap.old b o h]; exact hv)
  ·exact .inl h
 have hj2 := hJ.pub _ _ _ _ H' hj1 hr1.heap.sat hk
 have hun : ∀ b o, b < w'.heap.size → unH Hc H' b o = H' b o := fun b o hlt => by
  unfold unH
  split
  ·rename_i v hv
   rcases cov b hlt with h | h
   ·rw [hr1.heap.old b o h, hv]
   ·rw [hJ.dis _ _ _ _ hj1 b h o] at hv; cases hv
  ·rfl
 refine ⟨_, _, m', H', hr1.base (fun b o hb => (hun b o hb.1).symm) (fun b hb => hb.1) (fun id b hid hre hbo => ?_) (hJ.gv _ _ _ _ hj2), unH_le (hJ.sat _ _ _ _ hj1) hr1.heap.sat, hj2⟩
 obtain ⟨x, y, z⟩ := hr1.heap.sepR id b hid hre
 refine hbo.2 ⟨?_, z⟩
 rcases cov _ y with h | h
 ·exact absurd h x
 ·exact h
theorem Fr.turned (hJ : JOk P gl l xs J) {p : Option Nat} {O O' : Nat → Prop} {Hc Hc' : HV} {w w' : World} {m : Nat → Lc} {H : HV} {st : St} {tmps : Array Value} (hr : RelS m H (BO O w) Hc gl [] st tmps w) (hle : HV.le H Hc) (hj : J p (fun b => O b ∨ O' b) Hc' w') (hb : Qv O w w') (hO : ∀ b, O' b → w.heap.size ≤ b) (hh : ∀ b o, b < w.heap.size → Hc' b o = Hc b o) (hl : HV.le Hc Hc') : Fr gl J p st tmps w' := by
 have hsat := hJ.sat _ _ _ _ hj
 have hHlt : ∀ b o v, H b o = some v → b < w.heap.size := fun b o v hv => Gx hr.heap.sat hv
 have hH2 : HV.le H (fun b o => if b < w.heap.size then H b o else Hc' b o) := fun b o v hv => by
  simp only [if_pos (hHlt b o v hv)]; exact hv
 have hH3 : HV.le (fun b o => if b < w.heap.size then H b o else Hc' b o) Hc' := fun b o v hv => by
  simp only at hv
  split at hv
  ·exact hl b o v (hle b o v hv)
  ·exact hv
 have own : ∀ id b, lkb st.hp id = some b → Real b (m id) → O (m id).g := fun id b hid hre => by
  obtain ⟨x, y, _⟩ := hr.heap.sepR id b hid hre
  by_cases h : O (m id).g
  ·exact h
  ·exact absurd ⟨y, h⟩ x
 refine ⟨_, _, m, _, ⟨{ sat := fun b o v hv => hsat b o v (hH3 b o v hv), old := fun b o hbo => ?_, low := fun b hbo => hbo.1, fresh := hr.heap.fresh, box := fun id b hid => (hr.heap.box id b hid).mono' hH2 (.refl _) fun hre => hb.block _ (own id b hid hre), sepR := fun id b hid hre => ⟨fun hbo => hbo.2 (.inl (own id b hid hre)), Nat.lt_of_lt_of_le (hr.heap.sepR id b hid hre).2.1 hb.size, fun o => ?_⟩, injR := hr.heap.injR, gv := hJ.gv _ _ _ _ hj, gl := fun g => (hr.heap.gl g).mono hH2, ty := fun id v cs hid => (hr.heap.ty id v cs hid).mono (hb.block _ (own id _ hid trivial)) }, hr.size, fun k => (hr.slot k).mono hH2 (.refl _), fun p hp => by simp at hp⟩, hH3, hj⟩
 ·show (if b < w.heap.size then H b o else Hc' b o) = Hc' b o
  split
  ·rename_i hlt
   rw [hr.heap.old b o ⟨hlt, fun h => hbo.2 (.inl h)⟩, hh b o hlt]
  ·rfl
 ·simp only [if_pos (hr.heap.sepR id b hid hre).2.1]
  exact (hr.heap.sepR id b hid hre).2.2 o
def JIn (J : JT) (O0 : Nat → Prop) (Hc0 : HV) (w0 : World) : JT := fun p O Hc w => J p (fun b => O0 b ∨ O b) Hc w ∧ Qv O0 w0 w ∧ (∀ b, O b → w0.heap.size ≤ b) ∧ (∀ b o, b < w0.heap.size → Hc b o = Hc0 b o) ∧ HV.le Hc0 Hc
theorem JIn.ok (hJ : JOk P gl l xs J) {O0 : Nat → Prop} {Hc0 : HV} {w0 : World} (hlow : ∀ b, O0 b → b < w0.heap.size) : JOk P gl l xs (JIn J O0 Hc0 w0) where
 sat p O Hc w h := hJ.sat _ _ _ _ h.1
 low p O Hc w h b hb := hJ.low _ _ _ _ h.1 b (.inr hb)
 dis p O Hc w h b hb := hJ.dis _ _ _ _ h.1 b (.inr hb)
 gls p O Hc w h := hJ.gls _ _ _ _ h.1
 gv p O Hc w h := (hJ.gv _ _ _ _ h.1).sup fun b hb => ⟨hb.1, fun h => hb.2 (.inr h)⟩
 own p O Hc w w' h hb := by
  obtain ⟨h1, h2, h3, h4, h5⟩ := h
  have := hJ.own _ _ _ _ _ h1 (hb.mono fun b hb => ⟨hb.1, fun h => hb.2 (.inr h)⟩)
  refine ⟨?_, h2.trans (hb.mono fun b hb => ⟨Nat.lt_of_lt_of_le (hlow b hb) h2.size, fun h => by have := h3 b h; have := hlow b hb; omega⟩), fun b hb => ?_, h4, h5⟩
  ·have e : LR (fun b => O0 b ∨ O b) w w' = fun b => O0 b ∨ LR O w w' b := by
    funext b; simp only [LR, eq_iff_iff]; exact or_assoc
   rw [← e]; exact this
  ·rcases hb with hb | hb
   ·exact h3 b hb
   ·exact Nat.le_trans h2.size hb.1
 pub p O Hc w H h hs hk := by
  obtain ⟨h1, h2, h3, h4, h5⟩ := h
  have hn : ∀ b o, O0 b → H b o = none := fun b o hb => by
   cases hv : H b o with
   | none => rfl
   | some v =>
    rcases hk b o v hv with h | h
    ·have := h3 b h; have := hlow b hb; omega
    ·rw [hJ.dis _ _ _ _ h1 b (.inl hb) o] at h; cases h
  have := hJ.pub _ _ _ _ H h1 hs fun b o v hv => (hk b o v hv).imp (fun h => .inr h) id
  refine ⟨?_, h2, fun b hb => h3 b hb.1, fun b o hb => ?_, fun b o v hv => E4 b o v (h5 b o v hv)⟩
  ·have e : HT (fun b => O0 b ∨ O b) H = fun b => O0 b ∨ HT O H b := by
    funext b
    simp only [HT, eq_iff_iff]
    exact ⟨fun ⟨a, c⟩ => a.imp id fun a => ⟨a, c⟩, fun a => a.elim (fun a => ⟨.inl a, fun o => hn b o a⟩) fun a => ⟨.inr a.1, a.2⟩⟩
   rw [← e]; exact this
  ·rw [← h4 b o hb]
   unfold unH
   split
   ·rename_i v hv; rw [hv]
   ·rename_i hv
    rw [hv]
    cases h6 : H b o with
    | none => rfl
    | some v =>
     rcases hk b o v h6 with h | h
     ·have := h3 b h; omega
     ·rw [hv] at h; cases h
 round k O Hc w x vs h hx hl hr := by
  obtain ⟨h1, h2, h3, h4, h5⟩ := h
  obtain ⟨fn, tm, azz, bd, e, hR⟩ := hJ.round _ _ _ _ _ _ h1 hx hl hr
  refine ⟨fn, tm, azz, bd, e, fun ro n => (hR ro n).mono fun e w' ⟨b, e1, e2, e3⟩ => ⟨b, e1, e2.mono fun b hb => .inr hb, ?_, h2.trans (e2.mono fun b hb => .inl hb), h3, h4, h5⟩⟩
  exact e3
end
theorem RV.val_inv {H : HV} {E : Env} {v u : Value} (h : RV H E (.val v) u) : u = v := by
 generalize hx : AV.val v = x at h
 cases h with
 | imm _ _ h => cases h with
  | val => cases hx; rfl
  | _ => cases hx
 | _ => cases hx
def N8 (r : Nat) : Code → Option (Array Tmp × Code × Code)
 | .seq a b => match N8 r a with
  | some c => some c
  | none => N8 r b
 | .cond _ a b => match N8 r a with
  | some c => some c
  | none => N8 r b
 | .block _ c => N8 r c
 | .loop c => N8 r c
 | .rangeFunc _ ps a b => match Nat.beq (Gw (.seq a b)) r with
  | true => some (ps, a, b)
  | false => none
 | _ => none
def rng (P : Program) (f r : Nat) : Array Tmp × Code × Code := match P.funcs[f]? with
 | some fn => match fn.body with
  | some c => match N8 r c with
   | some x => x
   | none => (#[], .skip, .skip)
  | none => (#[], .skip, .skip)
 | none => (#[], .skip, .skip)
def yv : AV → Option Nat
 | .val v => match v with
  | .func g a b => match g with
   | .yield l => match a.toList, b.toList with
    | [], [] => some l
    | _, _ => none
   | _ => none
  | _ => none
 | _ => none
theorem yv_inv {x : AV} {l : Nat} (h : yv x = some l) : x = .val (.func (.yield l) #[] #[]) := by
 unfold yv at h
 split at h
 ·split at h
  ·rename_i g a b
   split at h
   ·split at h
    ·rename_i ha hb
     cases h
     have : a = #[] := by simpa using ha
     subst this
     have : b = #[] := by simpa using hb
     subst this
     rfl
    ·cases h
   ·cases h
  ·cases h
 ·cases h
def yld1 (ev : Operand → AV) (op : Op) : Option (Nat × List AV) :=
 match op with
 | .call c => match c.callee with
  | .value x => match yv (ev x) with
   | some l => some (l, c.args.toList.map ev)
   | none => none
  | _ => none
 | _ => none
def isVal : AV → Bool
 | .val _ => true
 | _ => false
def hasRes (P : Program) (f : Nat) : Bool := match P.funcs[f]? with
 | some fn => match fn.results.toList with
  | [] => false
  | _ => true
 | none => false
def jstep (P : Program) (gl : Nat → AV) (ch0 : Z0) (wf : WF) (hs : Zb) (l : Nat) (xs : List (List AV)) (o : Oper) (p : Option Nat) (st : St) (K : Option Nat → St → Prop) : Prop :=
 match Ji o.op with
 | true => match yld1 (st.ev gl) o.op with
  | some (l', args) => match optL (tree (fun _ => none) false 12) args with
   | some ts => match p with
    | some k => l' = l ∧ xs[k]? = some ts ∧ K (some (k + 1)) (st.putO o.dst (.bool true)) ∧ K none (st.putO o.dst (.bool false))
    | none => False
   | none => False
  | none => match VN (st.ev gl) o.op with
   | some (f, args) => match args.any isVal with
    | true => match optL (tree (fun _ => none) false 12) args with
     | some ts => match hasRes P f with
      | true => ∃ m, JF P gl l xs f ts p true m ∧ K (some m) (st.putO o.dst (.bool true)) ∧ K none (st.putO o.dst (.bool false))
      | false => ∃ m, JF P gl l xs f ts p false m ∧ K (some m) (st.putO o.dst (.tup [])) ∧ K none (st.putO o.dst (.tup []))
     | none => False
    | false => E9 P gl ch0 wf hs o st (K p)
   | none => False
 | false => E9 P gl ch0 wf hs o st (K p)
def jseq (P : Program) (gl : Nat → AV) (ch0 : Z0) (wf : WF) (hs : Zb) (l : Nat) (xs : List (List AV)) (all : List Oper) : List Oper → Option Nat → St → (Option Nat → St → Prop) → Prop
 | [], p, st, K => K p st
 | o :: r, p, st, K => match Zh o.dst st.n with
  | true => match WP o (gval all o st) with
   | some true => jstep P gl ch0 wf hs l xs o p st (fun p s => jseq P gl ch0 wf hs l xs all r p s K)
   | some false => jseq P gl ch0 wf hs l xs all r p (st.putO o.dst (.tup [])) K
   | none => False
  | false => False
structure JO (a b : Exit × List AV) (m : Nat) (e : Exit) (p : Option Nat) (vs : List AV) (bs : List Box) : Prop where
 ok : bs = [] ∧ ((e = a.1 ∧ p = some m ∧ vs = a.2) ∨ (e = b.1 ∧ p = none ∧ vs = b.2))
theorem JO.a {a b : Exit × List AV} {m : Nat} {e : Exit} {p : Option Nat} {vs : List AV} (h1 : e = a.1) (h2 : p = some m) (h3 : vs = a.2) : JO a b m e p vs [] := ⟨rfl, .inl ⟨h1, h2, h3⟩⟩
theorem JO.b {a b : Exit × List AV} {m : Nat} {e : Exit} {p : Option Nat} {vs : List AV} (h1 : e = b.1) (h2 : p = none) (h3 : vs = b.2) : JO a b m e p vs [] := ⟨rfl, .inr ⟨h1, h2, h3⟩⟩
def JQL (n : Nat) (kx : List Nat) (a b : Exit × List AV) (m : Nat) (e : Exit) (p : Option Nat) (s : St) : Prop := (e = a.1 ∧ p = some m ∧ s = ZE n kx a.2 []) ∨ (e = b.1 ∧ p = none ∧ s = ZE n kx b.2 [])
structure JL (P : Program) (gl : Nat → AV) (l : Nat) (xs : List (List AV)) (n : Nat) (c : Code) (ks : List Nat) (vs : List AV) (bs : List Box) (p : Option Nat) (kx : List Nat) (x y : Exit × List AV) (m : Nat) : Prop where
 ok : ∀ J, JOk P gl l xs J → ∀ (a : Act) (w : World), Fr gl J p (ZE n ks vs bs) a.tmps w → wpL P none 0 c (fun e a' w' => ∃ p' st', JQL n kx x y m e p' st' ∧ a'.defers = a.defers ∧ Fr gl J p' st' a'.tmps w') a w
structure JH where
 ks : List Nat
 kb : List KB
 kx : List Nat
 x : Exit × List AV
 y : Exit × List AV
def lkJ : List (Nat × JH) → Nat → Option JH
 | [], _ => none
 | (k, h) :: r, n => match Nat.beq k n with
  | true => some h
  | false => lkJ r n
def CA (P : Program) (gl : Nat → AV) (ch0 : Z0) (wf : WF) (hs : Zb) (js : List (Nat × JH)) (l : Nat) (xs : List (List AV)) : Nat → Code → Option Nat → St → (Exit → Option Nat → St → Prop) → Prop
 | 0, _, _, _, _ => False
 | k + 1, c, p, st, K => match c with
  | .skip => K .normal p st
  | .label _ => K .normal p st
  | .exit id => K (.exit id) p st
  | .ret => K .ret p st
  | .region _ ops draw => match draw with
   | true => Km P gl ch0 wf hs (some []) (k + 1) c st (fun e s => K e p s)
   | false => jseq P gl ch0 wf hs l xs ops.toList ops.toList p st (K .normal)
  | .seq a b => CA P gl ch0 wf hs js l xs k a p st (fun e p s => match Do e with
    | true => CA P gl ch0 wf hs js l xs k b p s K
    | false => K e p s)
  | .cond c a b => match st.ev gl c with
   | .bool t => match t with
    | true => CA P gl ch0 wf hs js l xs k a p st K
    | false => CA P gl ch0 wf hs js l xs k b p st K
   | _ => False
  | .block id c => CA P gl ch0 wf hs js l xs k c p st (fun e p s => match exIs e id with
   | true => K .normal p s
   | false => K e p s)
  | .loop c => match lkJ js (Gw c) with
   | some h => match h with
    | ⟨ks, kb, kx, x, y⟩ => KH kb st (fun s => GA [] ks kb s (fun vs bs => ∃ m, JL P gl l xs st.n c ks vs bs p kx x y m ∧ K x.1 (some m) (ZE st.n kx x.2 []) ∧ K y.1 none (ZE st.n kx y.2 [])))
   | none => False
  | _ => False
section
variable {P : Program} {gl : Nat → AV} {ch0 : Z0} {wf : WF} {hs : Zb} {js : List (Nat × JH)} {l : Nat} {xs : List (List AV)} {J : JT}
theorem A8 {H : HV} {E : Env} {args ts : List AV} {vs : Array Value} (hl : args.length = vs.size) (hv : ∀ (j : Nat) (x : AV) (v : Value), args[j]? = some x → vs[j]? = some v → RV H E x v) (h : optL (tree (fun _ => none) false 12) args = some ts) : ts.length = vs.size ∧ ∀ (j : Nat) (t : AV) (v : Value), ts[j]? = some t → vs[j]? = some v → RelI H t v := by
 have hsn : snap H (fun _ => none) (fun _ => ⟨0, 0, 0⟩) default = H := by
  funext b o; unfold snap; rw [if_neg]; rintro ⟨_, _, _, e, _⟩; cases e
 have := LQ (R' := RelI (snap H (fun _ => none) (fun _ => ⟨0, 0, 0⟩) default)) hl hv h fun x t v hx ht => Me (H1 := H) false (fun id ver cs hh => by cases hh) (fun id ver cs hh => by cases hh) (fun id bx hh => by cases hh) (fun _ => rfl) 12 x t v hx ht
 rw [hsn] at this
 exact this
theorem Q1k (h0 : ch0.Ok P gl) (hwf : WF.Ok P gl wf) (hJ : JOk P gl l xs J) {o : Oper} {p : Option Nat} {st : St} {K : Option Nat → St → Prop} {a : Act} {w : World} (hd : Zh o.dst st.n = true) (hw : jstep P gl ch0 wf hs l xs o p st K) (hf : Fr gl J p st a.tmps w) (next : Act → World → Prop) (Q : Exit → Act → World → Prop)
  (hn : ∀ a' w' p' st', K p' st' → a'.defers = a.defers → Fr gl J p' st' a'.tmps w' → next a' w') : o.wpIn (FW none) 0 P a w next Q := by
 obtain ⟨O, Hc, m, H, hr, hle, hj⟩ := hf.ex
 have plain : E9 P gl ch0 wf hs o st (K p) → o.wpIn (FW none) 0 P a w next Q := fun hw =>
  RQ h0 hwf hr hd hw none 0 next Q fun a' w' m' H' st' hk hd' hb hr' => hn a' w' p st' hk hd' (Fr.moved hJ hj hb (fun _ h => h) (fun _ _ _ => rfl) hr')
 unfold jstep at hw
 split at hw
 ·rename_i hc
  split at hw
  ·rename_i l' args hy
   split at hw
   ·rename_i ts hts
    split at hw
    ·rename_i k
     obtain ⟨rfl, hx, hK1, hK2⟩ := hw
     unfold yld1 at hy
     split at hy
     ·rename_i c ho
      split at hy
      ·rename_i x hcx
       split at hy
       ·rename_i l1 hyv
        cases hy
        have hxe := yv_inv hyv
        have hxv := hr.ev x
        rw [hxe] at hxv
        have hval : a.eval x = .func (.yield l') #[] #[] := hxv.val_inv
        have hargs := Mw hr c.args.toList
        obtain ⟨hl1, hr1⟩ := A8 (vs := c.args.map a.eval) (by simp) (fun j y v hy hv => hargs.2 j y v hy (by simpa using hv)) hts
        obtain ⟨fn, tm, azz, bd, hrun, hround⟩ := hJ.round _ _ _ _ _ _ hj hx hl1 (fun j t v ht hv => (hr1 j t v ht hv).mono hle)
        refine ⟨fun _ _ => trivial, ?_⟩
        have hexec : (execOp a.eval o).run P w = .ok (.round l' fn tm azz bd) w := by
         unfold execOp
         simp only [ho, resolve, hcx, Sem.run_bind, hval, Deferred.ofValue, Sem.run_pure, Result.andThen_ok, invoke, Array.empty_append]
         exact hrun
        rw [Oper.semAt_eq _ _ _ (fun c e => by rw [ho] at e; cases e), hexec]
        refine ⟨(fun hh => by simp [FW] at hh), (hround none (0 - 1)).mono fun e w' hpost => ?_⟩
        obtain ⟨b, rfl, hb, hj'⟩ := hpost
        have hfr : Fr gl J (if b then some (k + 1) else none) st a.tmps w' := Fr.turned (O' := fun _ => False) hJ hr hle (by
         have e : (fun b => O b ∨ False) = O := by funext b; simp
         rw [e]; exact hj') hb (fun _ h => h.elim) (fun _ _ _ => rfl) (.refl _)
        have fin : ∀ u : Bool, u = b → K (if b then some (k + 1) else none) (st.putO o.dst (.bool u)) → next (a.put o.dst (.bool b)) w' := fun u hu hK => by
         subst hu
         refine hn _ _ _ _ hK (Yf _ _ _) ?_
         obtain ⟨O2, Hc2, m2, H2, hr2, hle2, hj2⟩ := hfr.ex
         exact ⟨O2, Hc2, m2, H2, hr2.putO hd (.imm _ _ (.bool _)), hle2, hj2⟩
        cases b with
        | true => exact fin true rfl hK1
        | false => exact fin false rfl hK2
       ·cases hy
      ·cases hy
     ·cases hy
    ·cases hw
   ·cases hw
  ·split at hw
   ·rename_i f args hcal
    split at hw
    ·split at hw
     ·rename_i ts hts
      obtain ⟨b, q, hJF, hK⟩ : ∃ b q, JF P gl l xs f ts p b q ∧ ∀ r p', JQ b q r p' → K p' (st.putO o.dst r) := by
       split at hw
       ·obtain ⟨q, h1, h2, h3⟩ := hw
        exact ⟨true, q, h1, fun r p' hq => by rcases hq with ⟨rfl, rfl⟩ | ⟨rfl, rfl⟩ <;> assumption⟩
       ·obtain ⟨q, h1, h2, h3⟩ := hw
        exact ⟨false, q, h1, fun r p' hq => by obtain ⟨rfl, rfl | rfl⟩ := hq <;> assumption⟩
      obtain ⟨vs, hrun, hl, hrv⟩ := Ro hr hcal
      obtain ⟨c, x, caps, ho, _⟩ := WO hcal
      obtain ⟨hl1, hr1⟩ := A8 hl hrv hts
      have hlow := hJ.low _ _ _ _ hj
      have hin : JIn J O Hc w p (fun _ => False) Hc w := ⟨by
       have e : (fun b => O b ∨ False) = O := by funext b; simp
       rw [e]; exact hj, Qv.refl _ _, fun _ h => h.elim, fun _ _ _ => rfl, .refl _⟩
      have hans := hJF.ok _ (JIn.ok hJ (Hc0 := Hc) (w0 := w) hlow) Hc w vs hin hl1 (fun j t v ht hv => (hr1 j t v ht hv).mono hle)
      have fin : ∀ (e : Ending) (w' : World), (∃ v r p' O' Hc', e = Ending.returned v ∧ JQ b q r p' ∧ (∀ H, RelI H r v) ∧ JIn J O Hc w p' O' Hc' w') → ∃ v, e = Ending.returned v ∧ next (a.put o.dst v) w' := fun e w' hpost => by
       obtain ⟨v, r, p', O', Hc', rfl, hq, hrel, g1, g2, g3, g4, g5⟩ := hpost
       refine ⟨v, rfl, hn _ _ _ _ (hK r p' hq) (Yf _ _ _) ?_⟩
       obtain ⟨O2, Hc2, m2, H2, hr2, hle2, hj2⟩ := (Fr.turned hJ hr hle g1 g2 g3 g4 g5).ex
       exact ⟨O2, Hc2, m2, H2, hr2.putO hd (.imm _ _ (hrel _)), hle2, hj2⟩
      refine ⟨fun _ _ => trivial, ?_⟩
      rw [Oper.semAt_eq _ _ _ (fun c e => by rw [ho] at e; cases e), hrun]
      rcases hans with ⟨hent, hcs⟩ | ⟨v, w', hv, hq⟩
      ·rw [hent vs w]
       refine ⟨(fun hh => by simp [FW] at hh), M2 (hcs.mono fun e w' hp => ?_)⟩
       obtain ⟨v, rfl, hnx⟩ := fin e w' hp
       exact hnx
      ·rw [hv]
       obtain ⟨v', he, hnx⟩ := fin _ w' hq
       cases he
       exact hnx
     ·cases hw
    ·exact plain hw
   ·cases hw
 ·exact plain hw
theorem Be (h0 : ch0.Ok P gl) (hwf : WF.Ok P gl wf) (hJ : JOk P gl l xs J) {all : List Oper} {d0 : List Deferred} {K : Option Nat → St → Prop} {Q : Exit → Act → World → Prop}
  (hQ : ∀ (p : Option Nat) (sF : St) (a : Act) (w : World), K p sF → a.defers = d0 → Fr gl J p sF a.tmps w → Q .normal a w) :
  ∀ (pre r : List Oper) (p : Option Nat) (st : St) (a : Act) (w : World), all = pre ++ r → jseq P gl ch0 wf hs l xs all r p st K → a.defers = d0 → Fr gl J p st a.tmps w → wpOpsIn (FW none) 0 P all.toArray Q (List.range' pre.length r.length) a w
 | pre, [], p, st, a, w, _, hk, hd, hf => hQ p st a w hk hd hf
 | pre, o :: r, p, st, a, w, he, hk, hd, hf => by
  simp only [List.length_cons, List.range'_succ, wpOpsIn]
  have ho : all.toArray[pre.length]? = some o := by rw [List.getElem?_toArray, he, List.getElem?_append_right (Nat.le_refl _)]; simp
  simp only [ho]
  have ih := Be h0 hwf hJ (all := all) hQ (pre ++ [o]) r
  simp only [List.length_append, List.length_cons, List.length_nil, Nat.zero_add, List.append_assoc, List.singleton_append] at ih
  simp only [jseq] at hk
  obtain ⟨O, Hc, m, H, hr, hle, hj⟩ := hf.ex
  split at hk
  ·rename_i hdst
   split at hk
   ·rename_i hg
    rw [if_pos (VP hr hg)]
    exact Q1k h0 hwf hJ hdst hk hf _ _ fun a' w' p' s hs hd' hf' => ih p' s a' w' he hs (hd'.trans hd) hf'
   ·rename_i hg
    rw [if_neg (by rw [VP hr hg]; simp)]
    exact ⟨fun _ _ => trivial, ih _ _ _ w he hk ((Yf _ _ _).trans hd) ⟨O, Hc, m, H, hr.putO hdst (.tup [] #[] rfl (fun j c v hj => by simp at hj)), hle, hj⟩⟩
   ·cases hk
  ·cases hk
theorem Rp (h0 : ch0.Ok P gl) (hwf : WF.Ok P gl wf) (hmix : P.follows .mixedOrders = true) (hJ : JOk P gl l xs J) : ∀ (k : Nat) (c : Code) (p : Option Nat) (st : St) (K : Exit → Option Nat → St → Prop), X7 c = true → QN c = false → CA P gl ch0 wf hs js l xs k c p st K →
  ∀ (a : Act) (w : World), Fr gl J p st a.tmps w → c.wpIn (FW none) 0 P (fun e a' w' => ∃ p' st', K e p' st' ∧ a'.defers = a.defers ∧ Fr gl J p' st' a'.tmps w') a w
 | 0, _, _, _, _, _, _, h => h.elim
 | k + 1, c, p, st, K, hok, hrg, h => by
  have ih := Rp h0 hwf hmix hJ k
  intro a w hf
  cases c with
  | skip => exact wpIn_skip ⟨p, st, h, rfl, hf⟩
  | label l => exact wpIn_label ⟨p, st, h, rfl, hf⟩
  | exit id => exact wpIn_exit ⟨p, st, h, rfl, hf⟩
  | ret => exact wpIn_ret ⟨p, st, h, rfl, hf⟩
  | region id ops draw =>
   simp only [CA] at h
   cases draw with
   | true =>
    simp only at h
    obtain ⟨O, Hc, m, H, hr, hle, hj⟩ := hf.ex
    refine wpIn_mono (Lw h0 hwf hmix hok h none 0 (fun _ => rfl) _ _ [] m H a w (fun ps e => by cases e; rfl) hr) fun e a' w' hp => ?_
    obtain ⟨s, m', H', B', H0', D, hk, hfin, hr'⟩ := hp
    have hD := hfin.non rfl
    subst hD
    exact ⟨p, s, hk, by simpa [Hm] using hfin.dfr, Fr.moved hJ hj hfin.bel hfin.sub hfin.old hr'⟩
   | false =>
    refine wpIn_region ?_
    have := Be h0 hwf hJ (hs := hs) (all := ops.toList) (d0 := a.defers) (Q := fun e a' w' => ∃ p' st', K e p' st' ∧ a'.defers = a.defers ∧ Fr gl J p' st' a'.tmps w') (fun p s a' w' hk hd hf => ⟨p, s, hk, hd, hf⟩) [] ops.toList p st a w rfl h rfl hf
    simpa [List.range_eq_range'] using this
  | seq x y =>
   simp only [CA] at h
   simp only [X7, Bool.and_eq_true] at hok
   simp only [QN, Bool.or_eq_false_iff] at hrg
   refine wpIn_seq (wpIn_mono (ih x p st _ hok.1 hrg.1 h a w hf) fun e a' w' hp => ?_)
   obtain ⟨p', s, hq, hd, hf'⟩ := hp
   split at hq
   ·rename_i he
    obtain rfl := Wj he
    refine wpIn_mono (ih y p' s K hok.2 hrg.2 hq a' w' hf') fun e a2 w2 hp2 => ?_
    obtain ⟨p2, s2, hq2, hd2, hf2⟩ := hp2
    exact ⟨p2, s2, hq2, hd2.trans hd, hf2⟩
   ·rename_i he
    have := Mr he
    cases e with
    | normal => exact absurd rfl this
    | _ => exact ⟨p', s, hq, hd, hf'⟩
  | cond c x y =>
   simp only [CA] at h
   simp only [X7, Bool.and_eq_true] at hok
   simp only [QN, Bool.or_eq_false_iff] at hrg
   obtain ⟨O, Hc, m, H, hr, hle, hj⟩ := hf.ex
   split at h
   ·rename_i t ht
    have hv := hr.ev c
    rw [ht] at hv
    cases t with
    | true => exact wpIn_cond hv.bool_inv (ih x p st K hok.1 hrg.1 h a w hf)
    | false => exact wpIn_cond hv.bool_inv (ih y p st K hok.2 hrg.2 h a w hf)
   ·cases h
  | block id c =>
   simp only [CA] at h
   simp only [X7] at hok
   simp only [QN] at hrg
   refine wpIn_block (wpIn_mono (ih c p st _ hok hrg h a w hf) fun e a' w' hp => ?_)
   obtain ⟨p', s, hq, hd, hf'⟩ := hp
   split at hq
   ·rename_i he
    obtain rfl := exIs_t he
    simp only [Exit.inBlock, if_true]
    exact ⟨p', s, hq, hd, hf'⟩
   ·rename_i he
    cases e with
    | exit i =>
     simp only [Exit.inBlock, if_neg (exIs_f he)]
     exact ⟨p', s, hq, hd, hf'⟩
    | _ => exact ⟨p', s, hq, hd, hf'⟩
  | loop c =>
   simp only [CA] at h
   split at h
   ·rename_i h2 _
    obtain ⟨ks, kb, kx, x, y⟩ := h2
    simp only at h
    obtain ⟨s1, hc1, h⟩ := Yj (gl := gl) h
    obtain ⟨O, Hc, m, H, hr, hle, hj⟩ := hf.ex
    obtain ⟨m1, H1, hr1⟩ := hc1.2 _ _ _ _ _ _ _ hr
    obtain ⟨vs, bs, m2, ⟨q, hL, hK1, hK2⟩, hr2⟩ := GP hr1 rfl h
    rw [hc1.1] at hr2
    have hf2 := Fr.moved hJ hj (Qv.refl _ w) (fun _ h => h) (fun _ _ _ => rfl) hr2
    refine (wpL.mono (hL.ok J hJ a w hf2) fun e a' w' ⟨p', s', hq, d, f⟩ => ⟨p', s', ?_, d, f⟩).loop
    rcases hq with ⟨rfl, rfl, rfl⟩ | ⟨rfl, rfl, rfl⟩
    ·exact hK1
    ·exact hK2
   ·exact h.elim
  | _ => exact h.elim
structure NxtJ (P : Program) (gl : Nat → AV) (l : Nat) (xs : List (List AV)) (n : Nat) (c : Code) (ks : List Nat) (kx : List Nat) (x y : Exit × List AV) (m : Nat) (vs : List AV) (bs : List Box) (p : Option Nat) : Prop where
 ok : ∃ vs' bs', LeVs vs vs' ∧ LeBs bs bs' ∧ JL P gl l xs n c ks vs' bs' p kx x y m
def jround (P : Program) (gl : Nat → AV) (ch0 : Z0) (wf : WF) (hs : Zb) (js : List (Nat × JH)) (l : Nat) (xs : List (List AV)) (k n : Nat) (c : Code) (ks : List Nat) (kb : List KB) (vs : List AV) (bs : List Box) (p : Option Nat) (kx : List Nat) (x y : Exit × List AV) (m : Nat) (N : List AV → List Box → Option Nat → Prop) : Prop :=
 CA P gl ch0 wf hs js l xs k c p (ZE n ks vs bs) (fun e p s => match Nat.beq s.n n with
  | true => match Do e with
   | true => KH kb s (fun s => GA [] ks kb s (fun vs bs => N vs bs p))
   | false => GA [] kx [] s (fun vs bs => JO x y m e p vs bs)
  | false => False)
theorem JL.step (h0 : ch0.Ok P gl) (hwf : WF.Ok P gl wf) (hmix : P.follows .mixedOrders = true) {k n : Nat} {c : Code} (hok : X7 c = true) (hrg : QN c = false) {ks : List Nat} {kb : List KB} {vs : List AV} {bs : List Box} {p : Option Nat} {kx : List Nat} {x y : Exit × List AV} {m : Nat} (hx : Do x.1 = false) (hy : Do y.1 = false)
  (hw : jround P gl ch0 wf hs js l xs k n c ks kb vs bs p kx x y m (NxtJ P gl l xs n c ks kx x y m)) : JL P gl l xs n c ks vs bs p kx x y m := by
 refine ⟨fun J hJ a w hf => wpL.round ?_⟩
 refine wpIn_mono (Rp h0 hwf hmix hJ k c p _ _ hok hrg hw a w hf) fun e a2 w2 hp => ?_
 obtain ⟨p2, s, hq, hd2, hf2⟩ := hp
 split at hq
 ·rename_i hn
  have hn := Nat.eq_of_beq_eq_true hn
  obtain ⟨O, Hc, m1, H, hr, hle, hj⟩ := hf2.ex
  split at hq
  ·rename_i he
   obtain rfl := Wj he
   obtain ⟨s2, hc, hq⟩ := Yj (gl := gl) hq
   obtain ⟨m3, H3, hr3⟩ := hc.2 _ _ _ _ _ _ _ hr
   obtain ⟨vs', bs', m4, hL, hr4⟩ := GP hr3 rfl hq
   rw [hc.1, hn] at hr4
   obtain ⟨vs2, bs2, lv, lb, hL⟩ := hL.ok
   obtain ⟨m5, H5, hr5⟩ := (Cz (gl := gl) (n := n) (ks := ks) lv lb).2 _ _ _ _ _ _ _ hr4
   have hf4 := Fr.moved hJ hj (Qv.refl _ w2) (fun _ h => h) (fun _ _ _ => rfl) hr5
   exact wpL.mono (hL.ok J hJ a2 w2 hf4) fun e a3 w3 ⟨p', s', q, d, f⟩ => ⟨p', s', q, d.trans hd2, f⟩
  ·rename_i he
   have := Mr he
   obtain ⟨vs', bs', m4, ⟨rfl, hL⟩, hr4⟩ := GP hr rfl hq
   rw [hn] at hr4
   have hf4 := Fr.moved hJ hj (Qv.refl _ w2) (fun _ h => h) (fun _ _ _ => rfl) hr4
   have hfin : ∃ p' st', JQL n kx x y m e p' st' ∧ a2.defers = a.defers ∧ Fr gl J p' st' a2.tmps w2 := by
    refine ⟨p2, _, ?_, hd2, hf4⟩
    rcases hL with ⟨h1, h2, h3⟩ | ⟨h1, h2, h3⟩
    ·exact .inl ⟨h1, h2, by rw [h3]⟩
    ·exact .inr ⟨h1, h2, by rw [h3]⟩
   cases e with
   | normal => exact absurd rfl this
   | _ => exact hfin
 ·cases hq
def jres : AV → Bool
 | .bool _ => true
 | .tup [] => true
 | .undef => true
 | _ => false
theorem jres_ok {H : HV} {E : Env} {r : AV} {v : Value} (h : RV H E r v) (hr : jres r = true) (H' : HV) : RelI H' r v := by
 unfold jres at hr
 split at hr
 ·rw [h.bool_inv]; exact .bool _
 ·obtain ⟨vs, rfl, hl, _⟩ := h.tup_inv
  exact .tup [] vs hl (fun j c u hj => by simp at hj)
 ·exact .undef _
 ·cases hr
def jfun (P : Program) (gl : Nat → AV) (ch0 : Z0) (wf : WF) (gd : Nat → Bool) (fl f : Nat) (hs : Zb) (js : List (Nat × JH)) (l : Nat) (xs : List (List AV)) (args : List AV) (p : Option Nat) (b : Bool) (m : Nat) : Prop :=
 match gd f with
 | true => match P.funcs[f]? with
  | some fn => match fn.body with
   | some c => match Nat.ble args.length fn.ntmps && !QN c with
    | true => CA P gl ch0 wf hs js l xs fl c p ⟨fn.ntmps, Un 0 args, .nil, 0⟩ (fun e p s => match endsFn e with
     | true => match Fl P s fn.results.toList with
      | some r => match jres r with
       | true => JQ b m r p
       | false => False
      | none => False
     | false => False)
    | false => False
   | none => False
  | none => False
 | false => False
theorem JF.of {gd : Nat → Bool} (h0 : ch0.Ok P gl) (hwf : WF.Ok P gl wf) (hp : Lm P gd) {fl f : Nat} {args : List AV} {p : Option Nat} {b : Bool} {m : Nat} (hw : jfun P gl ch0 wf gd fl f hs js l xs args p b m) : JF P gl l xs f args p b m := by
 refine ⟨fun J hJ Hc w vs hj hl hargs => ?_⟩
 unfold jfun at hw
 split at hw
 ·rename_i hg
  have hok := hp.fn f hg
  unfold okFn at hok
  split at hw
  ·rename_i fn hf
   rw [hf] at hok
   simp only [Bool.and_eq_true, bne_iff_ne] at hok
   obtain ⟨hname, hok⟩ := hok
   split at hw
   ·rename_i c hbd
    rw [hbd] at hok
    simp only at hok
    split at hw
    ·rename_i hle
     rw [Bool.and_eq_true, Bool.not_eq_true'] at hle
     have hrg := hle.2
     have hle := Nat.le_of_ble_eq_true hle.1
     refine .inl ⟨NE hf (by simpa using hname) (by rw [hbd]; rfl), ?_⟩
     have hsat := hJ.sat _ _ _ _ hj
     have hh : RelH (fun _ => ⟨0, 0, 0⟩) Hc (BO (fun _ => False) w) Hc gl (lkb .nil) 0 w :=
      { sat := hsat, old := fun _ _ _ => rfl, low := fun _ hk => hk.1, fresh := fun _ _ => Zi _, box := (fun _ _ hh => by rw [Zi] at hh; cases hh), sepR := (fun _ _ hh => by rw [Zi] at hh; cases hh), injR := (fun _ _ _ _ hh => by rw [Zi] at hh; cases hh), gl := hJ.gls _ _ _ _ hj, ty := (fun _ _ _ hh => by rw [Zi] at hh; cases hh), gv := hJ.gv _ _ _ _ hj }
     have hr0 : RelS (fun _ => ⟨0, 0, 0⟩) Hc (BO (fun _ => False) w) Hc gl [] ⟨fn.ntmps, Un 0 args, .nil, 0⟩ (Act.mk (vs ++ Array.replicate (fn.ntmps - vs.size) Go.undef) []).tmps w := by
      refine ⟨hh, by simp; omega, fun k => ?_, fun p hp => by simp at hp⟩
      show RV Hc _ (lk .undef (Un 0 args) k) _
      rw [Na, if_pos (Nat.zero_le _), Nat.sub_zero]
      cases hx : args[k]? with
      | none => exact .imm _ _ (.undef _)
      | some x =>
       have hk : k < vs.size := by rw [← hl]; exact (List.getElem?_eq_some_iff.1 hx).1
       have hv : (vs ++ Array.replicate (fn.ntmps - vs.size) Go.undef).getD k Go.undef = vs[k] := by
        rw [Array.getD_eq_getD_getElem?, Array.getElem?_append_left hk, Array.getElem?_eq_getElem hk]; rfl
       rw [hv]
       exact .imm _ _ (hargs k x _ hx (Array.getElem?_eq_getElem hk))
     refine CallsIn.calls (F := FW none) (n := 0) (callsIn_of_wp hf hbd trivial (wpIn_mono (Rp h0 hwf hp.mix hJ fl c p _ _ hok hrg hw _ w ⟨_, _, _, _, hr0, .refl _, hj⟩) fun e a' w' hq => ?_)) (fun k d hd => by simp [FW] at hd)
     obtain ⟨p', s, hK, hd, hf'⟩ := hq
     obtain ⟨O, Hc', m', H', hr', hle', hj'⟩ := hf'.ex
     split at hK
     ·rename_i hex
      split at hK
      ·rename_i r hres
       split at hK
       ·rename_i hjr
        obtain ⟨v, hv, hrv⟩ := Bm hr' hres
        have hfin : ∃ v0 r p' O' Hc', Ending.returned v = .returned v0 ∧ JQ b m r p' ∧ (∀ H, RelI H r v0) ∧ J p' O' Hc' w' := ⟨v, r, p', O, Hc', rfl, hK, jres_ok hrv hjr, hj'⟩
        cases e with
        | normal => exact ⟨hd, v, hv, hfin⟩
        | ret => exact ⟨hd, v, hv, hfin⟩
        | _ => cases hex
       ·cases hK
      ·cases hK
     ·cases hK
    ·cases hw
   ·cases hw
  ·cases hw
 ·cases hw
theorem Q1d {H : HV} {y : Value} {caps : List AV} {us : Array Value} (hr : ∀ (j : Nat) (c : AV) (v : Value), caps[j]? = some c → us[j]? = some v → RelI H c v) (j : Nat) (c : AV) (v : Value) (hc : (AV.val y :: caps)[j]? = some c) (hv : (#[y] ++ us)[j]? = some v) : RelI H c v := by
 cases j with
 | zero =>
  simp only [List.getElem?_cons_zero, Option.some.injEq] at hc
  subst hc
  have : y = v := by rw [Array.getElem?_append_left (by simp)] at hv; simpa using hv
  subst this
  exact .val _
 | succ j =>
  rw [List.getElem?_cons_succ] at hc
  refine hr j c v hc ?_
  rw [Array.getElem?_append_right (by simp)] at hv
  simpa using hv
theorem JQ_end {b : Bool} {m : Nat} {r : AV} {p : Option Nat} (h : JQ b m r p) : p = some m ∨ p = none := by
 cases b with
 | true => exact h.elim (fun h => .inl h.2) fun h => .inr h.2
 | false => exact h.2
theorem ItOk.of {f : Nat} {caps : List AV} (hent : NA P f) (b : Bool) (h : ∀ l, JF P gl l xs f (.val (.func (.yield l) #[] #[]) :: caps) (some 0) b xs.length) : ItOk P gl f caps xs := ⟨fun l J hJ Hc w us hj hl hr => by
 have hF := h l
 have hlen : (AV.val (.func (.yield l) #[] #[]) :: caps).length = (#[Value.func (.yield l) #[] #[]] ++ us).size := by simp [hl]; omega
 have h1 := hF.ok J hJ Hc w (#[Value.func (.yield l) #[] #[]] ++ us) hj hlen (Q1d hr)
 exact (h1.calls hent).mono fun e w' ⟨v, r, p', O', Hc', e1, e2, e3, e4⟩ => ⟨v, p', O', Hc', e1, JQ_end e2, e4⟩⟩
end
end HY
end
section
namespace HY
open Go Go.RowKit
end HY
end
section
namespace HY
open Go Go.RowKit
abbrev Str := List UInt8
def ix {α : Type} (l : List α) (k : Int) : Option α := if 0 ≤ k then l[k.toNat]? else none
@[reducible] def w6 (n : Int) : Int := IntKind.u64.wrap n
@[reducible] def wr (n : Int) : Int := IntKind.i64.wrap n
@[reducible] def ii (n : Int) : AV := .int .i64 n
@[reducible] def kk (n : Nat) : KB := { slot := n }
theorem lr {x : AV} : LeV x x := .refl x
@[reducible] def jb (o : Bool) (v : Bool → List AV) (b : List Box) : List Alt := [⟨fun (_ : Unit) => true = o, .normal, fun _ => v true, fun _ => b⟩, ⟨fun (_ : Unit) => false = o, .normal, fun _ => v false, fun _ => b⟩]
section
variable {ρ : Type} {r : ρ}
theorem kIf {c : Bool} {x y : Option ρ} {A B : Prop} (hA : x = some r → A) (hB : y = some r → B) (h : (if c = true then x else y) = some r) : (c = true → A) ∧ (c = false → B) := by
 cases c with
 | true => exact ⟨fun _ => hA h, nofun⟩
 | false => exact ⟨nofun, fun _ => hB h⟩
theorem kIfD {p : Prop} [Decidable p] {x y : Option ρ} {A B : Prop} (hA : x = some r → A) (hB : y = some r → B) (h : (if p then x else y) = some r) : (decide p = true → A) ∧ (decide p = false → B) := by
 by_cases hp : p
 ·rw [if_pos hp] at h; exact ⟨fun _ => hA h, fun e => absurd hp (of_decide_eq_false e)⟩
 ·rw [if_neg hp] at h; exact ⟨fun e => absurd (of_decide_eq_true e) hp, fun _ => hB h⟩
theorem kG {p : Prop} [Decidable p] {x : Option ρ} {A : Prop} (hA : x = some r → A) (h : (if p then x else none) = some r) : p ∧ A := by
 by_cases hp : p
 ·rw [if_pos hp] at h; exact ⟨hp, hA h⟩
 ·rw [if_neg hp] at h; cases h
theorem kA {α : Type} {sh : α → AV} {l : List α} {q : Prop} [Decidable q] {x : Option ρ} {A : Prop} (hA : x = some r → A) (h : (if q then x else none) = some r) : (l.length = (List.map sh l).length ∧ q) ∧ A := by
 by_cases hp : q
 ·rw [if_pos hp] at h; exact ⟨⟨by simp, hp⟩, hA h⟩
 ·rw [if_neg hp] at h; cases h
theorem kT {p : Prop} {x : Option ρ} {A : Prop} (hp : p) (hA : x = some r → A) (h : x = some r) : p ∧ A := ⟨hp, hA h⟩
theorem kIx {α : Type} {enc : α → AV} {l : List α} {k : Int} {f : α → Option ρ} {A : α → Prop} (hA : ∀ x, f x = some r → A x) (h : (ix l k >>= f) = some r) : ∃ x, (0 ≤ k ∧ (List.map enc l)[k.toNat]? = some (enc x)) ∧ A x := by
 unfold ix at h
 split at h
 ·rename_i h0
  cases hx : l[k.toNat]? with
  | none => rw [hx] at h; cases h
  | some x => rw [hx] at h; exact ⟨x, ⟨h0, by rw [List.getElem?_map, hx]; rfl⟩, hA x h⟩
 ·cases h
theorem kIxR {α τ : Type} {enc : α → AV} {sh : τ → AV} {un : α → τ} {l : List α} {k : Int} {f : τ → Option ρ} {A : τ → Prop} (hv : ∀ a, enc a = sh (un a)) (hA : ∀ x, f x = some r → A x) (h : (Option.map un (ix l k) >>= f) = some r) : ∃ x, (0 ≤ k ∧ (List.map enc l)[k.toNat]? = some (sh x)) ∧ A x := by
 unfold ix at h
 split at h
 ·rename_i h0
  cases hx : l[k.toNat]? with
  | none => rw [hx] at h; cases h
  | some x => rw [hx] at h; exact ⟨un x, ⟨h0, by rw [List.getElem?_map, hx, Option.map_some, hv]⟩, hA _ h⟩
 ·cases h
theorem kOxR {α τ : Type} {enc : α → AV} {sh : τ → AV} {un : α → τ} {l : List α} {k : Nat} {f : τ → Option ρ} {A : τ → Prop} (hv : ∀ a, enc a = sh (un a)) (hA : ∀ x, f x = some r → A x) (h : (Option.map un l[k]? >>= f) = some r) : ∃ x, (List.map enc l)[k]? = some (sh x) ∧ A x := by
 cases hx : l[k]? with
 | none => rw [hx] at h; cases h
 | some x => rw [hx] at h; exact ⟨un x, by rw [List.getElem?_map, hx, Option.map_some, hv], hA _ h⟩
theorem kU {s : Str} {k : Int} {f : UInt8 → Option ρ} {A : UInt8 → Prop} (hA : ∀ x, f x = some r → A x) (h : (ix s k >>= f) = some r) : ∃ x, (0 ≤ k ∧ s[k.toNat]? = some x) ∧ A x := by
 unfold ix at h
 split at h
 ·rename_i h0
  cases hx : s[k.toNat]? with
  | none => rw [hx] at h; cases h
  | some x => rw [hx] at h; exact ⟨x, ⟨h0, rfl⟩, hA x h⟩
 ·cases h
theorem kC {P : Program} {gl : Nat → AV} {g : Nat} {args : List AV} {τ : Type} {sh : τ → AV} {x : Option τ} {f : τ → Option ρ} {A : τ → Prop} (hP : ∀ y, x = some y → Pu P gl g args (sh y)) (hA : ∀ y, f y = some r → A y) (h : (x >>= f) = some r) : ∃ y, Pu P gl g args (sh y) ∧ A y := by
 cases x with
 | none => cases h
 | some y => exact ⟨y, hP y rfl, hA y h⟩
theorem kCb {P : Program} {gl : Nat → AV} {g : Nat} {args : List AV} {c : Option Bool} {x y : Option ρ} {A B : Prop} (hP : ∀ u, c = some u → Pu P gl g args (.bool u)) (hA : x = some r → A) (hB : y = some r → B) (h : (c >>= fun u => if u = true then x else y) = some r) : ∃ u, Pu P gl g args (.bool u) ∧ (u = true → A) ∧ (u = false → B) := by
 cases c with
 | none => cases h
 | some u => exact ⟨u, hP u rfl, kIf hA hB h⟩
theorem kN {α : Type} {m : α} {f : α → Option ρ} {A : α → Prop} (n : α) (e : n = m) (hA : ∀ n, f n = some r → A n) (h : (some n >>= f) = some r) : ∃ n, n = m ∧ A n := ⟨n, e, hA n h⟩
theorem kW {α : Type} {sh : α → AV} {v : AV} {f : α → Option ρ} {A : α → Prop} (x : α) (e : LeV v (sh x)) (hA : ∀ x, f x = some r → A x) (h : (some x >>= f) = some r) : ∃ x, LeV v (sh x) ∧ A x := ⟨x, e, hA x h⟩
theorem kBE {α : Type} {sh : α → AV} {xs : List AV} {f : List α → Option ρ} {A : List α → Prop} (l0 : List α) (e : List.map sh l0 = xs) (hA : ∀ l, l = l0 → f l = some r → A l) (h : (some l0 >>= f) = some r) : ∃ l, List.map sh l = xs ∧ A l := ⟨l0, e, hA l0 rfl h⟩
theorem kO {α : Type} {sh : α → AV} {xs : List AV} {n : Nat} {f : List α → Option ρ} {A : List α → Prop} (l : List α) (e : List.map sh l = xs) (hn : l.length = n) (hA : ∀ l, f l = some r → A l) (h : (some l >>= f) = some r) : ∃ l, (List.map sh l = xs ∧ l.length = n) ∧ A l := ⟨l, ⟨e, hn⟩, hA l h⟩
theorem kL1 {P : Program} {gl : Nat → AV} {ps : List AV} {n : Nat} {c : Code} {ks : List Nat} {vs : List AV} {bs : List Box} {kx : List Nat} {υ α : Type} {alts : υ → α → List Alt} {x : Option α} {f : υ → α → Option ρ} {A : υ → α → Prop} (u : υ) (hL : ∀ o, x = some o → ZI P gl ps n c ks vs bs kx (alts u o)) (hA : ∀ u a, f u a = some r → A u a) (h : (some u >>= fun u => x >>= f u) = some r) :
  ∃ u o, ZI P gl ps n c ks vs bs kx (alts u o) ∧ ∀ a, a = o → A u a := by
 cases x with
 | none => cases h
 | some o => exact ⟨u, o, hL o rfl, fun a e => by subst e; exact hA u a h⟩
theorem kL2 {P : Program} {gl : Nat → AV} {ps : List AV} {n : Nat} {c : Code} {ks : List Nat} {vs : List AV} {bs : List Box} {kx : List Nat} {υ α β : Type} {alts : υ → α ⊕ β → List Alt} {x : Option (α ⊕ β)} {f : υ → α → Option ρ} {g : υ → β → Option ρ} {A : υ → α → Prop} {B : υ → β → Prop} (u : υ) {m : υ → α ⊕ β → Option ρ} (e1 : ∀ u a, m u (.inl a) = f u a := by intros; rfl) (e2 : ∀ u a, m u (.inr a) = g u a := by intros; rfl) (hL : ∀ o, x = some o → ZI P gl ps n c ks vs bs kx (alts u o)) (hA : ∀ u a, f u a = some r → A u a) (hB : ∀ u b, g u b = some r → B u b)
  (h : (some u >>= fun u => x >>= m u) = some r) : ∃ u o, ZI P gl ps n c ks vs bs kx (alts u o) ∧ (∀ a, Sum.inl a = o → A u a) ∧ ∀ b, Sum.inr b = o → B u b := by
 cases x with
 | none => cases h
 | some o => exact ⟨u, o, hL o rfl, fun a e => by subst e; exact hA u a ((e1 u a).symm.trans h), fun b e => by subst e; exact hB u b ((e2 u b).symm.trans h)⟩
theorem kJb {id : Nat} {υ : Type} {y : Option Bool} {f g : υ → Option ρ} {I : υ → Bool → Prop} {A B : υ → Prop} (u0 : υ) (hI : ∀ u, u = u0 → ∀ o, y = some o → I u o) (hA : ∀ u, f u = some r → A u) (hB : ∀ u, g u = some r → B u) (h : (some u0 >>= fun u => y >>= fun o => if o = true then f u else g u) = some r) :
  ∃ u o, Jn id (I u o) ∧ (∀ _ : Unit, true = o → A u) ∧ ∀ _ : Unit, false = o → B u := by
 cases y with
 | none => cases h
 | some o =>
  refine ⟨u0, o, hI u0 rfl o rfl, fun _ e => ?_, fun _ e => ?_⟩
  ·subst e; exact hA u0 h
  ·subst e; exact hB u0 h
theorem kJ1 {id : Nat} {υ α : Type} {y : Option α} {f : υ → α → Option ρ} {I : υ → α → Prop} {A : υ → α → Prop} (u0 : υ) (hI : ∀ u, u = u0 → ∀ o, y = some o → I u o) (hA : ∀ u a, f u a = some r → A u a) (h : (some u0 >>= fun u => y >>= f u) = some r) :
  ∃ u o, Jn id (I u o) ∧ ∀ a, a = o → A u a := by
 cases y with
 | none => cases h
 | some o => exact ⟨u0, o, hI u0 rfl o rfl, fun a e => by subst e; exact hA u0 a h⟩
theorem kJbE {id : Nat} {υ : Type} {y : Option Bool} {f g : υ → Option ρ} {I : υ → Bool → Prop} {A B : υ → Prop} (u0 : υ) (hI : ∀ u, u = u0 → ∀ o, y = some o → I u o) (hA : ∀ u, u = u0 → f u = some r → A u) (hB : ∀ u, u = u0 → g u = some r → B u) (h : (some u0 >>= fun u => y >>= fun o => if o = true then f u else g u) = some r) :
  ∃ u o, Jn id (I u o) ∧ (∀ _ : Unit, true = o → A u) ∧ ∀ _ : Unit, false = o → B u := by
 cases y with
 | none => cases h
 | some o =>
  refine ⟨u0, o, hI u0 rfl o rfl, fun _ e => ?_, fun _ e => ?_⟩
  ·subst e; exact hA u0 rfl h
  ·subst e; exact hB u0 rfl h
theorem kJ1E {id : Nat} {υ α : Type} {y : Option α} {f : υ → α → Option ρ} {I : υ → α → Prop} {A : υ → α → Prop} (u0 : υ) (hI : ∀ u, u = u0 → ∀ o, y = some o → I u o) (hA : ∀ u, u = u0 → ∀ a, f u a = some r → A u a) (h : (some u0 >>= fun u => y >>= f u) = some r) :
  ∃ u o, Jn id (I u o) ∧ ∀ a, a = o → A u a := by
 cases y with
 | none => cases h
 | some o => exact ⟨u0, o, hI u0 rfl o rfl, fun a e => by subst e; exact hA u0 rfl a h⟩
theorem kXj {υ : Type} {alts : υ → ρ → List Alt} {e : Exit} {vs : List AV} {bs : List Box} {u u0 : υ} (he : u = u0) (o : ρ) (hO : Out (alts u0 o) e vs bs) (h : some o = some r) : Out (alts u r) e vs bs := by cases h; rw [he]; exact hO
theorem kE {enc : ρ → AV} {t : AV} (v : ρ) (e : LeT t (enc v)) (h : some v = some r) : LeT t (enc r) := by cases h; exact e
theorem kEr {enc : ρ → AV} (v : ρ) (h : some v = some r) : LeT (enc v) (enc r) := by cases h; exact ⟨fun _ _ h => h⟩
theorem kX {alts : ρ → List Alt} {e : Exit} {vs : List AV} {bs : List Box} (o : ρ) (hO : Out (alts o) e vs bs) (h : some o = some r) : Out (alts r) e vs bs := by cases h; exact hO
theorem kM {P : Program} {gl : Nat → AV} {ps : List AV} {n : Nat} {c : Code} {ks : List Nat} {vs vs' : List AV} {bs bs' : List Box} {kx : List Nat} {alts : ρ → List Alt} {x : Option ρ} (hv : LeVs vs vs') (hb : LeBs bs bs') (hL : ∀ o, x = some o → ZI P gl ps n c ks vs' bs' kx (alts o)) (h : x = some r) : Nxt P gl ps n c ks kx (alts r) vs bs := ⟨⟨vs', bs', hv, hb, hL r h⟩⟩
theorem kM0 {P : Program} {gl : Nat → AV} {ps : List AV} {n : Nat} {c : Code} {ks : List Nat} {vs : List AV} {bs : List Box} {kx : List Nat} {alts : ρ → List Alt} {x : Option ρ} (hL : ∀ o, x = some o → ZI P gl ps n c ks vs bs kx (alts o)) (h : x = some r) : Nxt P gl ps n c ks kx (alts r) vs bs := ⟨⟨vs, bs, .refl _, .refl _, hL r h⟩⟩
end
theorem ZI.le {P : Program} {gl : Nat → AV} {ps : List AV} {n : Nat} {c : Code} {ks : List Nat} {vs vs' : List AV} {bs bs' : List Box} {kx : List Nat} {alts : List Alt} (hv : LeVs vs vs') (hb : LeBs bs bs') (h : ZI P gl ps n c ks vs' bs' kx alts) : ZI P gl ps n c ks vs bs kx alts := ⟨fun ro d hro B H0 rest m H a w hrest hr => by
 obtain ⟨m5, H5, hr5⟩ := (Cz (gl := gl) (n := n) (ks := ks) hv hb).2 _ _ _ _ _ _ _ hr
 exact h.ok ro d hro B H0 rest m5 H5 a w hrest hr5⟩
theorem Q0j (bs : List Box) (b : Box) : lkb (pt (hpOf 0 bs) bs.length b) = lkb (hpOf 0 (bs ++ [b])) := by
 funext k
 rw [Zo, DJ]
 unfold updF
 simp only [Nat.zero_le, if_true, Nat.sub_zero, DJ, List.getElem?_append]
 split
 ·rename_i e; subst e; simp
 ·split
  ·rfl
  ·rename_i h1 h2
   rw [List.getElem?_eq_none (by omega), List.getElem?_eq_none (by simp; omega)]
theorem PuH.pad {P : Program} {gl : Nat → AV} {f : Nat} {args : List AV} {bs bs' : List Box} {r : AV} (h : PuH P gl f args bs r bs') (sz : Nat) (hpos : 0 < sz) : PuH P gl f args bs r (bs' ++ [.own 0 sz []]) := ⟨fun m H B H0 rest w vs hh hl hv hrest hrv => by
 refine (h.ok m H B H0 rest w vs hh hl hv hrest hrv).mono fun e w' ⟨v, m', H', a, b, c, d, g⟩ => ?_
 have hs : RelS m' H' B H0 gl rest ⟨1, Un 0 [r], hpOf 0 bs', bs'.length⟩ #[v] w' := by
  refine ⟨c, rfl, fun k => ?_, g⟩
  show RV H' _ (lk .undef (Un 0 [r]) k) _
  rw [Na, if_pos (Nat.zero_le _), Nat.sub_zero]
  cases k with
  | zero => exact d
  | succ k => exact .imm _ _ (.undef _)
 obtain ⟨h2, hE⟩ := hs.newOwn sz hpos
 have hE : Env.le (Qq (lkb (hpOf 0 bs')) m') (Qq (lkb (pt (hpOf 0 bs') bs'.length (.own 0 sz []))) (updF m' bs'.length ⟨0, 0, 0⟩)) := hE
 have h3 := h2.heap
 simp only [Q0j] at hE h3
 exact ⟨v, _, H', a, b, by rw [List.length_append]; exact h3, d.mono (.refl _) hE, fun p hp => (g p hp).mono (.refl _) hE⟩⟩
section
variable {ρ : Type} {r : ρ}
theorem kH {P : Program} {gl : Nat → AV} {g : Nat} {args : List AV} {bs : List Box} {τ : Type} {sh : τ → AV} {bt : τ → List Box} {x : Option τ} {f : τ → Option ρ} {A : τ → Prop} (hP : ∀ y, x = some y → PuH P gl g args bs (sh y) (bt y)) (hA : ∀ y, f y = some r → A y) (h : (x >>= f) = some r) : ∃ y, PuH P gl g args bs (sh y) (bt y) ∧ A y := by
 cases x with
 | none => cases h
 | some y => exact ⟨y, hP y rfl, hA y h⟩
theorem kEH {enc : ρ → AV} {bt : ρ → List Box} {vs : List AV} {bs : List Box} (v : ρ) (e : LeVs vs [enc v] ∧ LeBs bs (bt v)) (h : some v = some r) : LeVs vs [enc r] ∧ LeBs bs (bt r) := by cases h; exact e
end
theorem LeV.owl {id ver sz n n' : Nat} (h : n = n') : LeV (.ow id ver sz n) (.ow id ver sz n') := h ▸ .refl _
theorem LeB.ownEq {v sz : Nat} {xs ys : List AV} (h : ys = xs) : LeB (.own v sz xs) (.own v sz ys) := h ▸ .refl _
section
variable {α : Type} {sh : α → AV}
theorem mA (l : List α) (x : α) : List.map sh (l ++ [x]) = List.map sh l ++ [sh x] := by simp
theorem mAA (l m : List α) : List.map sh (l ++ m) = List.map sh l ++ List.map sh m := List.map_append
theorem mAp {l m : List α} {A B : List AV} (h : List.map sh l = A) (k : List.map sh m = B) : List.map sh (l ++ m) = A ++ B := by rw [List.map_append, h, k]
theorem mTD (l : List α) (h k : Nat) : List.map sh ((l.take h).drop k) = ((List.map sh l).take h).drop k := by simp
theorem mD (l : List α) (k : Nat) : List.map sh (l.drop k) = (List.map sh l).drop k := by simp
theorem mS (l : List α) (k : Nat) (x : α) : List.map sh (l.set k x) = (List.map sh l).set k (sh x) := by simp
theorem leSl {sz : Nat} {xs ys : List AV} (h : xs = ys) : LeV (.sl sz ys) (.sl sz xs) := LeV.of_eq (by rw [h])
theorem mLen (l : List α) : (l.length : Int) = ((List.map sh l).length : Int) := by simp
theorem mAR {τ : Type} {hh : τ → AV} {mk : τ → α} (hm : ∀ x, sh (mk x) = hh x) (l : List α) (x : τ) : List.map sh (l ++ [mk x]) = List.map sh l ++ [hh x] := by simp [hm]
theorem mSR {τ : Type} {hh : τ → AV} {mk : τ → α} (hm : ∀ x, sh (mk x) = hh x) (l : List α) (k : Nat) (x : τ) : List.map sh (l.set k (mk x)) = (List.map sh l).set k (hh x) := by simp [hm]
theorem nM (l : List α) : l.length = (List.map sh l).length := by simp
theorem nA (l : List α) (x : α) : (l ++ [x]).length = l.length + 1 := by simp
theorem nAA (l m : List α) : (l ++ m).length = l.length + (List.map sh m).length := by simp
end
end HY
end
section
namespace HY
set_option linter.unusedVariables false
def eI (x : Int) : AV := .int .i64 x
def eB (x : Bool) : AV := .bool x
def eS (x : Str) : AV := .str x
def eU64 (x : Int) : AV := .int .u64 x
def eLI (x : List Int) : AV := .sl 1 (List.map eI x)
def N6 (x : (List Int × Int)) : AV := .tup [eLI x.1, eI x.2]
def eLS (x : List Str) : AV := .sl 1 (List.map eS x)
def Zd (x : (Bool × Int)) : AV := .tup [eB x.1, eI x.2]
def Xg (x : (Int × Int)) : AV := .tup [eI x.1, eI x.2]
def ZU (x : (Int × Bool)) : AV := .tup [eI x.1, eB x.2]
def LJ (x : (Int × Int)) : AV := .tup [eI x.1, eU64 x.2]
structure Qg where
 fKind : Int
 fBits : Int
 fFrac : Int
 fRound : Int
 fOver : Int
 deriving Inhabited, DecidableEq
def Qy (x : Qg) : AV := .agg [.int .i64 x.fKind, .int .i64 x.fBits, .int .i64 x.fFrac, .int .i64 x.fRound, .int .i64 x.fOver]
structure Qw where
 fName : Str
 fType : Qg
 fDims : List Int
 fUse : Int
 deriving Inhabited, DecidableEq
def Qx (x : Qw) : AV := .agg [.str x.fName, .int .i64 x.fType.fKind, .int .i64 x.fType.fBits, .int .i64 x.fType.fFrac, .int .i64 x.fType.fRound, .int .i64 x.fType.fOver, .sl 1 (List.map eI x.fDims), .int .i64 x.fUse]
structure Cy where
 fName : Str
 fBy : Int
 deriving Inhabited, DecidableEq
def Qe (x : Cy) : AV := .agg [.str x.fName, .int .i64 x.fBy]
structure gLin where
 fK : Int
 fL : List Cy
 deriving Inhabited, DecidableEq
def Qi (x : gLin) : AV := .agg [.int .i64 x.fK, .sl 2 (List.map Qe x.fL)]
structure Q8 where
 fLin : gLin
 fFrom : Str
 fAt : List gLin
 deriving Inhabited, DecidableEq
def Q3 (x : Q8) : AV := .agg [.int .i64 x.fLin.fK, .sl 2 (List.map Qe x.fLin.fL), .str x.fFrom, .sl 2 (List.map Qi x.fAt)]
structure gVal where
 fN : Int
 fD : Int
 deriving Inhabited, DecidableEq
def Qk (x : gVal) : AV := .agg [.int .i64 x.fN, .int .i64 x.fD]
structure QV (α : Type) where
 fOp : Int
 fName : Str
 fVal : gVal
 fType : Qg
 fLin : gLin
 fIdx : List Q8
 fArgs : List α
inductive Q9 where
 | mk (x : QV Q9)
abbrev Q1 := QV Q9
def Q9.f : Q9 → Q1
 | .mk x => x
@[simp] theorem Q9.mk_f (e : Q9) : Q9.mk e.f = e := by cases e; rfl
@[simp] theorem Q9.f_mk (x : Q1) : (Q9.mk x).f = x := rfl
theorem Q9.lt {x : Q1} {a : Q9} (h : a ∈ x.fArgs) : sizeOf a < sizeOf (Q9.mk x) := by
 have := List.sizeOf_lt_of_mem h
 cases x; simp only [Q9.mk.sizeOf_spec, QV.mk.sizeOf_spec] at *; omega
def Ql : Q9 → AV
 | .mk x => .agg [.int .i64 x.fOp, .str x.fName, .int .i64 x.fVal.fN, .int .i64 x.fVal.fD, .int .i64 x.fType.fKind, .int .i64 x.fType.fBits, .int .i64 x.fType.fFrac, .int .i64 x.fType.fRound, .int .i64 x.fType.fOver, .int .i64 x.fLin.fK, .sl 2 (List.map Qe x.fLin.fL), .sl 4 (List.map Q3 x.fIdx), .sl 13 (x.fArgs.attach.map fun a => Ql a.1)]
 termination_by e => sizeOf e
 decreasing_by exact Q9.lt a.2
def Q6 (x : Q1) : AV := .agg [.int .i64 x.fOp, .str x.fName, .int .i64 x.fVal.fN, .int .i64 x.fVal.fD, .int .i64 x.fType.fKind, .int .i64 x.fType.fBits, .int .i64 x.fType.fFrac, .int .i64 x.fType.fRound, .int .i64 x.fType.fOver, .int .i64 x.fLin.fK, .sl 2 (List.map Qe x.fLin.fL), .sl 4 (List.map Q3 x.fIdx), .sl 13 (List.map Ql x.fArgs)]
theorem QZ (e : Q9) : Ql e = Q6 e.f := by
 cases e with
 | mk x => rw [Ql]; simp [Q6, Q9.f]
structure Xh (α : Type) where
 fOp : Int
 fName : Str
 fMany : Int
 fMark : Int
 fFold : Int
 fIdx : List Q8
 fExpr : Q1
 fBody : List α
inductive Q7 where
 | mk (x : Xh Q7)
abbrev Qa := Xh Q7
def Q7.f : Q7 → Qa
 | .mk x => x
@[simp] theorem Q7.mk_f (e : Q7) : Q7.mk e.f = e := by cases e; rfl
@[simp] theorem Q7.f_mk (x : Qa) : (Q7.mk x).f = x := rfl
theorem Q7.lt {x : Qa} {a : Q7} (h : a ∈ x.fBody) : sizeOf a < sizeOf (Q7.mk x) := by
 have := List.sizeOf_lt_of_mem h
 cases x; simp only [Q7.mk.sizeOf_spec, Xh.mk.sizeOf_spec] at *; omega
def Qr : Q7 → AV
 | .mk x => .agg [.int .i64 x.fOp, .str x.fName, .int .i64 x.fMany, .int .i64 x.fMark, .int .i64 x.fFold, .sl 4 (List.map Q3 x.fIdx), .int .i64 x.fExpr.fOp, .str x.fExpr.fName, .int .i64 x.fExpr.fVal.fN, .int .i64 x.fExpr.fVal.fD, .int .i64 x.fExpr.fType.fKind, .int .i64 x.fExpr.fType.fBits, .int .i64 x.fExpr.fType.fFrac, .int .i64 x.fExpr.fType.fRound, .int .i64 x.fExpr.fType.fOver, .int .i64 x.fExpr.fLin.fK, .sl 2 (List.map Qe x.fExpr.fLin.fL), .sl 4 (List.map Q3 x.fExpr.fIdx), .sl 13 (List.map Ql x.fExpr.fArgs), .sl 20 (x.fBody.attach.map fun a => Qr a.1)]
 termination_by e => sizeOf e
 decreasing_by exact Q7.lt a.2
def Qm (x : Qa) : AV := .agg [.int .i64 x.fOp, .str x.fName, .int .i64 x.fMany, .int .i64 x.fMark, .int .i64 x.fFold, .sl 4 (List.map Q3 x.fIdx), .int .i64 x.fExpr.fOp, .str x.fExpr.fName, .int .i64 x.fExpr.fVal.fN, .int .i64 x.fExpr.fVal.fD, .int .i64 x.fExpr.fType.fKind, .int .i64 x.fExpr.fType.fBits, .int .i64 x.fExpr.fType.fFrac, .int .i64 x.fExpr.fType.fRound, .int .i64 x.fExpr.fType.fOver, .int .i64 x.fExpr.fLin.fK, .sl 2 (List.map Qe x.fExpr.fLin.fL), .sl 4 (List.map Q3 x.fExpr.fIdx), .sl 13 (List.map Ql x.fExpr.fArgs), .sl 20 (List.map Qr x.fBody)]
theorem Z2 (e : Q7) : Qr e = Qm e.f := by
 cases e with
 | mk x => rw [Qr]; simp [Qm, Q7.f]
structure Qb where
 fBufs : List Qw
 fBody : List Q7
def Qp (x : Qb) : AV := .agg [.sl 8 (List.map Qx x.fBufs), .sl 20 (List.map Qr x.fBody)]
structure Qz where
 fStmt : Int
 fAt : List Int
 fOp : Qa
def Qj (x : Qz) : AV := .agg [.int .i64 x.fStmt, .sl 1 (List.map eI x.fAt), .int .i64 x.fOp.fOp, .str x.fOp.fName, .int .i64 x.fOp.fMany, .int .i64 x.fOp.fMark, .int .i64 x.fOp.fFold, .sl 4 (List.map Q3 x.fOp.fIdx), .int .i64 x.fOp.fExpr.fOp, .str x.fOp.fExpr.fName, .int .i64 x.fOp.fExpr.fVal.fN, .int .i64 x.fOp.fExpr.fVal.fD, .int .i64 x.fOp.fExpr.fType.fKind, .int .i64 x.fOp.fExpr.fType.fBits, .int .i64 x.fOp.fExpr.fType.fFrac, .int .i64 x.fOp.fExpr.fType.fRound, .int .i64 x.fOp.fExpr.fType.fOver, .int .i64 x.fOp.fExpr.fLin.fK, .sl 2 (List.map Qe x.fOp.fExpr.fLin.fL), .sl 4 (List.map Q3 x.fOp.fExpr.fIdx), .sl 13 (List.map Ql x.fOp.fExpr.fArgs), .sl 20 (List.map Qr x.fOp.fBody)]
structure QA where
 f_0 : Int
 f_1 : Int
 deriving Inhabited, DecidableEq
def QD (x : QA) : AV := .agg [.int .i64 x.f_0, .int .i64 x.f_1]
structure Q5 where
 fBuffer : Str
 fFrom : Int
 fTo : Int
 deriving Inhabited, DecidableEq
def Q0 (x : Q5) : AV := .agg [.str x.fBuffer, .int .i64 x.fFrom, .int .i64 x.fTo]
structure Q2 where
 fL : List Qz
 fCount : Int
 fE : Int
structure QI where
 fwrites : List Q5
 freads : List Q5
 fcore : Qa
def QC (x : QI) : AV := .agg [.sl 3 (List.map Q0 x.fwrites), .sl 3 (List.map Q0 x.freads), .int .i64 x.fcore.fOp, .str x.fcore.fName, .int .i64 x.fcore.fMany, .int .i64 x.fcore.fMark, .int .i64 x.fcore.fFold, .sl 4 (List.map Q3 x.fcore.fIdx), .int .i64 x.fcore.fExpr.fOp, .str x.fcore.fExpr.fName, .int .i64 x.fcore.fExpr.fVal.fN, .int .i64 x.fcore.fExpr.fVal.fD, .int .i64 x.fcore.fExpr.fType.fKind, .int .i64 x.fcore.fExpr.fType.fBits, .int .i64 x.fcore.fExpr.fType.fFrac, .int .i64 x.fcore.fExpr.fType.fRound, .int .i64 x.fcore.fExpr.fType.fOver, .int .i64 x.fcore.fExpr.fLin.fK, .sl 2 (List.map Qe x.fcore.fExpr.fLin.fL), .sl 4 (List.map Q3 x.fcore.fExpr.fIdx), .sl 13 (List.map Ql x.fcore.fExpr.fArgs), .sl 20 (List.map Qr x.fcore.fBody)]
structure QM where
 fWrites : List Q5
 fReads : List Q5
 fCore : Qa
def QL (x : QM) : AV := .agg [.sl 3 (List.map Q0 x.fWrites), .sl 3 (List.map Q0 x.fReads), .int .i64 x.fCore.fOp, .str x.fCore.fName, .int .i64 x.fCore.fMany, .int .i64 x.fCore.fMark, .int .i64 x.fCore.fFold, .sl 4 (List.map Q3 x.fCore.fIdx), .int .i64 x.fCore.fExpr.fOp, .str x.fCore.fExpr.fName, .int .i64 x.fCore.fExpr.fVal.fN, .int .i64 x.fCore.fExpr.fVal.fD, .int .i64 x.fCore.fExpr.fType.fKind, .int .i64 x.fCore.fExpr.fType.fBits, .int .i64 x.fCore.fExpr.fType.fFrac, .int .i64 x.fCore.fExpr.fType.fRound, .int .i64 x.fCore.fExpr.fType.fOver, .int .i64 x.fCore.fExpr.fLin.fK, .sl 2 (List.map Qe x.fCore.fExpr.fLin.fL), .sl 4 (List.map Q3 x.fCore.fExpr.fIdx), .sl 13 (List.map Ql x.fCore.fExpr.fArgs), .sl 20 (List.map Qr x.fCore.fBody)]
structure QK where
 fUsed : List Str
 fWay : List Int
 fE : Int
 deriving Inhabited, DecidableEq
def Z7 (x : QK) : AV := .agg [.sl 1 (List.map eS x.fUsed), .sl 1 (List.map eI x.fWay), .int .i64 x.fE]
structure Qc where
 fName : Str
 fVal : Int
 deriving Inhabited, DecidableEq
def Qd (x : Qc) : AV := .agg [.str x.fName, .int .i64 x.fVal]
structure QF where
 fV : gVal
 fT : Qg
 fE : Int
 deriving Inhabited, DecidableEq
def Qs (x : QF) : AV := .agg [.int .i64 x.fV.fN, .int .i64 x.fV.fD, .int .i64 x.fT.fKind, .int .i64 x.fT.fBits, .int .i64 x.fT.fFrac, .int .i64 x.fT.fRound, .int .i64 x.fT.fOver, .int .i64 x.fE]
structure QR where
 fType : Qg
 fDims : List Int
 fVals : List gVal
 deriving Inhabited, DecidableEq
def Zm (x : QR) : AV := .agg [.int .i64 x.fType.fKind, .int .i64 x.fType.fBits, .int .i64 x.fType.fFrac, .int .i64 x.fType.fRound, .int .i64 x.fType.fOver, .sl 1 (List.map eI x.fDims), .sl 2 (List.map Qk x.fVals)]
structure Qh where
 f_0 : Int
 f_1 : Int
 f_2 : Int
 f_3 : Int
 f_4 : Int
 f_5 : Int
 deriving Inhabited, DecidableEq
def Qu (x : Qh) : AV := .agg [.int .u64 x.f_0, .int .u64 x.f_1, .int .u64 x.f_2, .int .u64 x.f_3, .int .u64 x.f_4, .int .u64 x.f_5]
structure XN where
 fName : Str
 fTensor : QR
 deriving Inhabited, DecidableEq
def VO (x : XN) : AV := .agg [.str x.fName, .int .i64 x.fTensor.fType.fKind, .int .i64 x.fTensor.fType.fBits, .int .i64 x.fTensor.fType.fFrac, .int .i64 x.fTensor.fType.fRound, .int .i64 x.fTensor.fType.fOver, .sl 1 (List.map eI x.fTensor.fDims), .sl 2 (List.map Qk x.fTensor.fVals)]
theorem ND (x : Q1) : Ql (.mk x) = Q6 x := QZ _
theorem legExpr (x : Q1) : LeL (AV.cells (Q6 x)) (AV.cells (Ql (.mk x))) := by rw [ND]; exact .refl _
theorem MQ (x : Qa) : Qr (.mk x) = Qm x := Z2 _
theorem Bh (x : Qa) : LeL (AV.cells (Qm x)) (AV.cells (Qr (.mk x))) := by rw [MQ]; exact .refl _
def Zl (x : List Q7) : AV := .sl 20 (List.map Qr x)
def GN (x : List Qz) : AV := .sl 22 (List.map Qj x)
def YV (x : (List Qz × Int)) : AV := .tup [GN x.1, eI x.2]
def GM (x : List Q8) : AV := .sl 4 (List.map Q3 x)
def YJ (x : List Q9) : AV := .sl 13 (List.map Ql x)
def UR (x : List QA) : AV := .sl 2 (List.map QD x)
def Qt (x : List Q5) : AV := .sl 3 (List.map Q0 x)
def UT (x : List QI) : AV := .sl 22 (List.map QC x)
def C8 (x : List QM) : AV := .sl 22 (List.map QL x)
def QW (x : List Qc) : AV := .sl 2 (List.map Qd x)
def DI (x : (Qa × Int)) : AV := .tup [Qm x.1, eI x.2]
def Mq (x : List gLin) : AV := .sl 2 (List.map Qi x)
def Z3 (x : (Qw × Bool)) : AV := .tup [Qx x.1, eB x.2]
def Z5 (x : (Qg × Int)) : AV := .tup [Qy x.1, eI x.2]
def US (x : List XN) : AV := .sl 8 (List.map VO x)
def J8 (x : (List Q7 × Int)) : AV := .tup [Zl x.1, eI x.2]
def YK (x : (Q1 × Int)) : AV := .tup [Q6 x.1, eI x.2]
def Qo (x : (gVal × Int)) : AV := .tup [Qk x.1, eI x.2]
def Yi (x : (gLin × Int)) : AV := .tup [Qi x.1, eI x.2]
def DZ (x : (Q8 × Int)) : AV := .tup [Q3 x.1, eI x.2]
def Jh (x : (QR × Int)) : AV := .tup [Zm x.1, eI x.2]
def Ci (x : (QR × Bool)) : AV := .tup [Zm x.1, eB x.2]
end HY
end
section
namespace Go.Proofs.YtokfigmmegifeaaGreat
open Go HY
def gdMask : Nat := 5986310706507378352962293074805895248510699696029692
def gds : Nat → Bool := fun f => Nat.blt f 188 && Nat.testBit gdMask f
set_option maxRecDepth 1000000
theorem gds_all : ((List.range 188).all fun f => !gds f || okFn Tryz.prog f) = true := by kernel_rfl
theorem mixed : Tryz.prog.follows .mixedOrders = true := by kernel_rfl
theorem My : Lm Tryz.prog gds := ⟨mixed, fun f hf => by
 have h : f < 188 := by
  unfold gds at hf
  rw [Bool.and_eq_true] at hf
  exact Nat.le_of_ble_eq_true hf.1
 have := List.all_eq_true.1 gds_all f (List.mem_range.2 h)
 rw [hf] at this
 simpa using this⟩
def gls : Nat → AV := fun _ => .undef
def ch0 : Z0 := fun _ _ _ _ => none
theorem Ch : Z0.Ok Tryz.prog gls ch0 := fun _ _ _ _ _ _ _ h => by cases h
noncomputable def wf0 : WF := wlev Tryz.prog gls ch0 gds 2000 (fun _ _ _ _ _ _ => False) 4
theorem CS : WF.Ok Tryz.prog gls wf0 := BD Ch My (fun _ _ _ _ _ _ h => h.elim) 4
noncomputable def W (f : Nat) (hs : Zb) (args : List AV) (r : AV) : Prop := wpure Tryz.prog gls ch0 wf0 gds 2000 f hs args r
noncomputable def WR (f r n : Nat) (hs : Zb) (ks : List Nat) (kb : List KB) (kx : List Nat) (kbx : List KB) (alts : List Alt) (vs : List AV) (bs : List Box) : Prop :=
 wround Tryz.prog gls ch0 wf0 hs [] 2000 n (CB Tryz.prog f (r + 1)) ks kb kx kbx alts vs bs (Nxt Tryz.prog gls [] n (CB Tryz.prog f (r + 1)) ks kx alts)
theorem Pu1 {φ : Prop} {f : Nat} {hs : Zb} {args : List AV} {r : AV} (e : φ = W f hs args r) (h : φ) : Pu Tryz.prog gls f args r := Pu.of (hs := hs) Ch CS My (show W f hs args r from e ▸ h)
theorem Lp1 {φ : Prop} {f r n : Nat} {hs : Zb} {ks : List Nat} {kb : List KB} {kx : List Nat} {kbx : List KB} {alts : List Alt} {vs : List AV} {bs : List Box} (hok : X7 (CB Tryz.prog f (r + 1)) = true) (e : φ = WR f r n hs ks kb kx kbx alts vs bs) (h : φ) : ZI Tryz.prog gls [] n (CB Tryz.prog f (r + 1)) ks vs bs kx alts :=
 ZI.step Ch CS mixed hok (show WR f r n hs ks kb kx kbx alts vs bs from e ▸ h)
noncomputable def WH (f : Nat) (hs : Zb) (kb : List KB) (args : List AV) (bs : List Box) (r : AV) (bs' : List Box) : Prop := wpureH Tryz.prog gls ch0 wf0 gds 2000 f hs kb args bs r bs'
theorem PuH1 {φ : Prop} {f : Nat} {hs : Zb} {kb : List KB} {args : List AV} {bs bs' : List Box} {r : AV} (e : φ = WH f hs kb args bs r bs') (h : φ) : PuH Tryz.prog gls f args bs r bs' := PuH.of (hs := hs) Ch CS My (show WH f hs kb args bs r bs' from e ▸ h)
abbrev PH (f : Nat) (args : List AV) (bs : List Box) (r : AV) (bs' : List Box) : Prop := PuH Tryz.prog gls f args bs r bs'
abbrev PU (f : Nat) (args : List AV) (r : AV) : Prop := Pu Tryz.prog gls f args r
theorem PuT1 {φ : Prop} {f : Nat} {args : List AV} {bs' : List Box} {r r' : AV} (h : PH f args [] r bs') (e : φ = WX (lkb (hpOf 0 bs')) 12 r (fun t => LeT t r')) (hφ : φ) : PU f args r' := Pu.ofH h (e ▸ hφ)
abbrev LO (f r n : Nat) (ks : List Nat) (vs : List AV) (bs : List Box) (kx : List Nat) (alts : List Alt) : Prop := ZI Tryz.prog gls [] n (CB Tryz.prog f (r + 1)) ks vs bs kx alts
theorem Lp2 {φ : Prop} {f r n : Nat} {hs : Zb} {ks : List Nat} {kb : List KB} {kx : List Nat} {kbx : List KB} {alts : List Alt} {vs : List AV} {bs : List Box} (h : φ) (hok : X7 (CB Tryz.prog f (r + 1)) = true := by kernel_rfl) (e : φ = WR f r n hs ks kb kx kbx alts vs bs := by kernel_rfl) : ZI Tryz.prog gls [] n (CB Tryz.prog f (r + 1)) ks vs bs kx alts :=
 ZI.step Ch CS mixed hok (show WR f r n hs ks kb kx kbx alts vs bs from e ▸ h)
theorem Pu2 {φ : Prop} {f : Nat} {hs : Zb} {args : List AV} {r : AV} (h : φ) (e : φ = W f hs args r := by kernel_rfl) : Pu Tryz.prog gls f args r := Pu.of (hs := hs) Ch CS My (show W f hs args r from e ▸ h)
theorem PuH2 {φ : Prop} {f : Nat} {hs : Zb} {kb : List KB} {args : List AV} {bs bs' : List Box} {r : AV} (h : φ) (e : φ = WH f hs kb args bs r bs' := by kernel_rfl) : PuH Tryz.prog gls f args bs r bs' := PuH.of (hs := hs) Ch CS My (show WH f hs kb args bs r bs' from e ▸ h)
end Go.Proofs.YtokfigmmegifeaaGreat
end
section
namespace Go.Proofs.YtokfigmmegifeaaGreat
open Go HY
set_option maxRecDepth 1000000
set_option linter.unusedVariables false
noncomputable def WJ (f : Nat) (hs : Zb) (js : List (Nat × JH)) (l : Nat) (xs : List (List AV)) (args : List AV) (p : Option Nat) (b : Bool) (m : Nat) : Prop := jfun Tryz.prog gls ch0 wf0 gds 2000 f hs js l xs args p b m
theorem JF1 {φ : Prop} {f : Nat} {hs : Zb} {js : List (Nat × JH)} {l : Nat} {xs : List (List AV)} {args : List AV} {p : Option Nat} {b : Bool} {m : Nat} (e : φ = WJ f hs js l xs args p b m) (h : φ) : JF Tryz.prog gls l xs f args p b m := JF.of (hs := hs) (js := js) Ch CS My (show WJ f hs js l xs args p b m from e ▸ h)
abbrev JLo (f r n : Nat) (l : Nat) (xs : List (List AV)) (ks : List Nat) (vs : List AV) (bs : List Box) (p : Option Nat) (kx : List Nat) (x y : Exit × List AV) (m : Nat) : Prop := JL Tryz.prog gls l xs n (CB Tryz.prog f (r + 1)) ks vs bs p kx x y m
noncomputable def WJR (f r n : Nat) (hs : Zb) (js : List (Nat × JH)) (l : Nat) (xs : List (List AV)) (ks : List Nat) (kb : List KB) (vs : List AV) (bs : List Box) (p : Option Nat) (kx : List Nat) (x y : Exit × List AV) (m : Nat) : Prop :=
 jround Tryz.prog gls ch0 wf0 hs js l xs 2000 n (CB Tryz.prog f (r + 1)) ks kb vs bs p kx x y m (NxtJ Tryz.prog gls l xs n (CB Tryz.prog f (r + 1)) ks kx x y m)
theorem JL1 {φ : Prop} {f r n : Nat} {hs : Zb} {js : List (Nat × JH)} {l : Nat} {xs : List (List AV)} {ks : List Nat} {kb : List KB} {vs : List AV} {bs : List Box} {p : Option Nat} {kx : List Nat} {x y : Exit × List AV} {m : Nat} (hok : (X7 (CB Tryz.prog f (r + 1)) && !QN (CB Tryz.prog f (r + 1)) && !Do x.1 && !Do y.1) = true) (e : φ = WJR f r n hs js l xs ks kb vs bs p kx x y m) (h : φ) : JLo f r n l xs ks vs bs p kx x y m := by
 simp only [Bool.and_eq_true, Bool.not_eq_true'] at hok
 exact JL.step (hs := hs) (js := js) Ch CS mixed hok.1.1.1 hok.1.1.2 hok.1.2 hok.2 (show WJR f r n hs js l xs ks kb vs bs p kx x y m from e ▸ h)
abbrev RG (f r n : Nat) (ks : List Nat) (vs : List AV) (alts : List Alt) (xs : List (List AV)) (bs : List Box) : Prop := NY Tryz.prog gls [] n (rng Tryz.prog f (r + 1)).1 (rng Tryz.prog f (r + 1)).2.1 (rng Tryz.prog f (r + 1)).2.2 ks vs alts xs bs
noncomputable def WG (f r n : Nat) (hs : Zb) (ks : List Nat) (kb kbx : List KB) (vs : List AV) (alts : List Alt) (x : List AV) (xs : List (List AV)) (bs : List Box) : Prop :=
 wrng Tryz.prog gls ch0 wf0 hs [] 2000 n (rng Tryz.prog f (r + 1)).1 (rng Tryz.prog f (r + 1)).2.1 (rng Tryz.prog f (r + 1)).2.2 ks kb kbx vs alts x bs (NxtR Tryz.prog gls [] n (rng Tryz.prog f (r + 1)).1 (rng Tryz.prog f (r + 1)).2.1 (rng Tryz.prog f (r + 1)).2.2 ks vs alts xs)
theorem Rg1 {φ : Prop} {f r n : Nat} {hs : Zb} {ks : List Nat} {kb kbx : List KB} {vs : List AV} {alts : List Alt} {x : List AV} {xs : List (List AV)} {bs : List Box} (hok : (X7 (rng Tryz.prog f (r + 1)).2.1 && X7 (rng Tryz.prog f (r + 1)).2.2) = true) (e : φ = WG f r n hs ks kb kbx vs alts x xs bs) (h : φ) : RG f r n ks vs alts (x :: xs) bs := by
 rw [Bool.and_eq_true] at hok
 exact NY.step (hs := hs) Ch CS mixed hok.1 hok.2 (show WG f r n hs ks kb kbx vs alts x xs bs from e ▸ h)
theorem Rg0 {f r n : Nat} {ks : List Nat} {vs : List AV} {alts : List Alt} {bs : List Box} (h : Mc ks vs = true) (ho : Out alts .normal vs bs) : RG f r n ks vs alts [] bs := ⟨h, ho⟩
end Go.Proofs.YtokfigmmegifeaaGreat
end
section
namespace HY
open Go
def wp {α : Type} (x : Option α) (Q : α → Prop) : Prop := ∃ a, x = some a ∧ Q a
section
variable {α β : Type} {Q : β → Prop}
theorem Z4 {x : β} : wp (some x) Q ↔ Q x := ⟨fun ⟨_, e, h⟩ => by cases e; exact h, fun h => ⟨x, rfl, h⟩⟩
theorem wp_none : wp (none : Option β) Q ↔ False := ⟨fun ⟨_, e, _⟩ => (by cases e), False.elim⟩
theorem BG {x : Option α} {f : α → Option β} : wp (x >>= f) Q ↔ wp x (fun a => wp (f a) Q) := by
 cases x with
 | none => exact ⟨fun ⟨_, e, _⟩ => (by cases e), fun ⟨_, e, _⟩ => (by cases e)⟩
 | some x => exact ⟨fun h => ⟨x, rfl, h⟩, fun ⟨_, e, h⟩ => by cases e; exact h⟩
theorem wp_ite {c : Prop} [Decidable c] {x y : Option β} : wp (if c then x else y) Q ↔ (c → wp x Q) ∧ (¬ c → wp y Q) := by
 by_cases h : c
 ·rw [if_pos h]; exact ⟨fun k => ⟨fun _ => k, fun n => absurd h n⟩, fun k => k.1 h⟩
 ·rw [if_neg h]; exact ⟨fun k => ⟨fun n => absurd n h, fun _ => k⟩, fun k => k.2 h⟩
theorem wp_map {x : Option α} {f : α → β} : wp (Option.map f x) Q ↔ wp x (fun a => Q (f a)) := by
 cases x with
 | none => exact ⟨fun ⟨_, e, _⟩ => (by cases e), fun ⟨_, e, _⟩ => (by cases e)⟩
 | some x => exact ⟨fun ⟨_, e, h⟩ => by cases e; exact ⟨x, rfl, h⟩, fun ⟨_, e, h⟩ => by cases e; exact ⟨_, rfl, h⟩⟩
theorem Q4 {x : Option β} {Q' : β → Prop} (h : wp x Q') (k : ∀ a, Q' a → Q a) : wp x Q := let ⟨a, e, q⟩ := h; ⟨a, e, k a q⟩
theorem I7 {l : List β} {k : Int} : wp (ix l k) Q ↔ ∃ (h0 : 0 ≤ k) (h : k.toNat < l.length), Q (l[k.toNat]) := by
 unfold ix
 constructor
 ·rintro ⟨a, e, h⟩
  split at e
  ·rename_i h0
   obtain ⟨h1, h2⟩ := List.getElem?_eq_some_iff.1 e
   exact ⟨h0, h1, by rw [h2]; exact h⟩
  ·cases e
 ·rintro ⟨h0, h1, h⟩
  exact ⟨_, by rw [if_pos h0, List.getElem?_eq_getElem h1], h⟩
theorem wp_get {l : List β} {k : Nat} : wp (l[k]?) Q ↔ ∃ (h : k < l.length), Q (l[k]) := by
 constructor
 ·rintro ⟨a, e, h⟩
  obtain ⟨h1, h2⟩ := List.getElem?_eq_some_iff.1 e
  exact ⟨h1, by rw [h2]; exact h⟩
 ·rintro ⟨h1, h⟩
  exact ⟨_, List.getElem?_eq_getElem h1, h⟩
theorem ix_all {l : List β} {R : β → Prop} {k : Int} (hl : ∀ x ∈ l, R x) (h0 : 0 ≤ k) (h1 : k < l.length) (h : ∀ x, x ∈ l → R x → Q x) : wp (ix l k) Q :=
 I7.2 ⟨h0, by omega, h _ (List.getElem_mem _) (hl _ (List.getElem_mem _))⟩
theorem Qf {l : List β} {k : Int} (h0 : 0 ≤ k) (h1 : k < l.length) (h : ∀ x, x ∈ l → Q x) : wp (ix l k) Q :=
 I7.2 ⟨h0, by omega, h _ (List.getElem_mem _)⟩
theorem Fo {x : Option β} {y : β} (h : wp x (fun a => a = y)) : x = some y := let ⟨_, e, q⟩ := h; by rw [e, q]
theorem Gv {F : α → Int → Option β} (n : Nat) (I : Int → α → Prop) (last : ∀ a, I n a → wp (F a n) Q) (step : ∀ (i : Int) a, 0 ≤ i → i < n → I i a → (∀ a', I (i + 1) a' → wp (F a' (i + 1)) Q) → wp (F a i) Q) :
    ∀ (i : Int) a, 0 ≤ i → i ≤ n → I i a → wp (F a i) Q := by
  have key : ∀ (d : Nat) (i : Int) a, 0 ≤ i → i + d = n → I i a → wp (F a i) Q := by
    intro d
    induction d with
    | zero => intro i a _ e hI; have : i = n := by omega
              subst this; exact last a hI
    | succ d ih => intro i a h0 e hI; exact step i a h0 (by omega) hI (fun a' hI' => ih (i + 1) a' (by omega) (by omega) hI')
  intro i a h0 h1 hI
  exact key (n - i.toNat) i a h0 (by omega) hI
theorem loopUp2 {γ : Type} {F : α → γ → Int → Option β} (n : Nat) (last : ∀ a b, wp (F a b n) Q) (step : ∀ (i : Int) a b, 0 ≤ i → i < n → (∀ a' b', wp (F a' b' (i + 1)) Q) → wp (F a b i) Q) (i : Int) (a : α) (b : γ) (h0 : 0 ≤ i) (h1 : i ≤ n) : wp (F a b i) Q :=
 Gv (F := fun (p : α × γ) i => F p.1 p.2 i) n (fun _ _ => True) (fun a _ => last a.1 a.2) (fun i a h0 h1 _ h => step i a.1 a.2 h0 h1 (fun a' b' => h (a', b') trivial)) i (a, b) h0 h1 trivial
theorem CC {F : α → Int → Option β} (n : Nat) (last : ∀ a, wp (F a n) Q) (step : ∀ (i : Int) a, 0 ≤ i → i < n → (∀ a', wp (F a' (i + 1)) Q) → wp (F a i) Q) (i : Int) (a : α) (h0 : 0 ≤ i) (h1 : i ≤ n) : wp (F a i) Q :=
 Gv n (fun _ _ => True) (fun a _ => last a) (fun i a h0 h1 _ h => step i a h0 h1 (fun a' => h a' trivial)) i a h0 h1 trivial
theorem ZQ {F : Int → Option β} (n : Nat) (last : wp (F n) Q) (step : ∀ (i : Int), 0 ≤ i → i < n → wp (F (i + 1)) Q → wp (F i) Q) :
  ∀ (i : Int), 0 ≤ i → i ≤ n → wp (F i) Q := fun i h0 h1 => by
 refine Gv (F := fun (_ : Unit) i => F i) n (fun _ _ => True) (fun _ _ => last) (fun i a h0 h1 _ h => step i h0 h1 (h () trivial)) i () h0 h1 trivial
theorem Lq {γ : Type} {F : Int → Option β} {l : List γ} (S : List γ → β) (last : F l.length = some (S [])) (step : ∀ (i : Int) (x : γ) (t : List γ), 0 ≤ i → i < l.length → ix l i = some x → F (i + 1) = some (S t) → F i = some (S (x :: t))) : F 0 = some (S l) := by
  have key : ∀ (t p : List γ), l = p ++ t → F p.length = some (S t) := by
    intro t
    induction t with
    | nil => intro p e; have : p.length = l.length := by rw [e]; simp
             rw [this]; exact last
    | cons x t ih =>
      intro p e
      refine step p.length x t (by omega) (by rw [e]; simp; omega) ?_ ?_
      · unfold ix; rw [if_pos (by omega), Int.toNat_natCast, e, List.getElem?_append_right (Nat.le_refl _)]; simp
      · have := ih (p ++ [x]) (by rw [e]; simp)
        rw [← this]; simp
  exact key l [] rfl
theorem K5 {γ : Type} {F : α → Int → Option β} {l : List γ} (I : α → List γ → Prop) (S : α → List γ → β) (last : ∀ a, I a [] → F a l.length = some (S a [])) (step : ∀ (i : Int) (x : γ) (t : List γ) a, 0 ≤ i → i < l.length → x ∈ l → ix l i = some x → I a (x :: t) → (∀ a, I a t → F a (i + 1) = some (S a t)) → F a i = some (S a (x :: t))) (a : α) (hI : I a l) : F a 0 = some (S a l) := by
  have key : ∀ (t p : List γ), l = p ++ t → ∀ a, I a t → F a p.length = some (S a t) := by
    intro t
    induction t with
    | nil => intro p e a hI; have : p.length = l.length := by rw [e]; simp
             rw [this]; exact last a hI
    | cons x t ih =>
      intro p e a hI
      refine step p.length x t a (by omega) (by rw [e]; simp; omega) (by rw [e]; simp) ?_ hI ?_
      · unfold ix; rw [if_pos (by omega), Int.toNat_natCast, e, List.getElem?_append_right (Nat.le_refl _)]; simp
      · intro a hI
        have := ih (p ++ [x]) (by rw [e]; simp) a hI
        rw [← this]; simp
  exact key l [] rfl a hI
theorem G9 {γ : Type} {F : α → Int → Option β} {l : List γ} (I : α → List γ → Prop) (last : ∀ a, I a [] → wp (F a l.length) Q) (step : ∀ (i : Int) (x : γ) (t : List γ) a, 0 ≤ i → i < l.length → x ∈ l → ix l i = some x → (∃ p, l = p ++ x :: t ∧ (p.length : Int) = i) → I a (x :: t) → (∀ a, I a t → wp (F a (i + 1)) Q) → wp (F a i) Q) (a : α) (hI : I a l) : wp (F a 0) Q := by
  have key : ∀ (t p : List γ), l = p ++ t → ∀ a, I a t → wp (F a p.length) Q := by
    intro t
    induction t with
    | nil => intro p e a hI; have : p.length = l.length := by rw [e]; simp
             rw [this]; exact last a hI
    | cons x t ih =>
      intro p e a hI
      refine step p.length x t a (by omega) (by rw [e]; simp; omega) (by rw [e]; simp) ?_ ⟨p, e, rfl⟩ hI ?_
      · unfold ix; rw [if_pos (by omega), Int.toNat_natCast, e, List.getElem?_append_right (Nat.le_refl _)]; simp
      · intro a hI
        have := ih (p ++ [x]) (by rw [e]; simp) a hI
        rw [show ((p ++ [x]).length : Int) = (p.length : Int) + 1 by simp] at this
        exact this
  exact key l [] rfl a hI
end
theorem QQ {n : Int} (h : -9223372036854775808 ≤ n ∧ n ≤ 9223372036854775807) : wr n = n := by unfold wr; rw [IntKind.wrap_i64]; omega
theorem QH {n : Int} {k : Nat} (h0 : 0 ≤ n) (h1 : n < k) (hk : k ≤ 1099511627776) : wr (n + 1) = n + 1 := QQ (by omega)
theorem wrapR (n : Int) : -9223372036854775808 ≤ wr n ∧ wr n ≤ 9223372036854775807 := by unfold wr; rw [IntKind.wrap_i64]; omega
theorem zz : (∀ {α β : Type} {Q : β → Prop} {x : Option α} {f : α → Option β}, wp (x >>= f) Q ↔ wp x (fun a => wp (f a) Q)) ∧ (∀ {β : Type} {Q : β → Prop} {x : β}, wp (some x) Q ↔ Q x) ∧
  (∀ {β : Type} {Q : β → Prop} {c : Prop} [Decidable c] {x y : Option β}, wp (if c then x else y) Q ↔ (c → wp x Q) ∧ (¬ c → wp y Q)) ∧ (∀ {α β : Type} {Q : β → Prop} {x : Option α} {f : α → β}, wp (Option.map f x) Q ↔ wp x (fun a => Q (f a))) ∧
  (∀ {β : Type} {Q : β → Prop}, wp (none : Option β) Q ↔ False) ∧ (∀ (a : Int), ¬ a < a) ∧ (∀ (a : Int), a ≤ a) ∧ ((false = true) = False) ∧ (∀ (α : Prop), (α → True) = True) ∧ (∀ (p : Prop), (False → p) = True) ∧ (∀ (p : Prop), (True → p) = p) ∧
  ((¬ True) = False) ∧ ((¬ False) = True) ∧ (∀ (p : Prop), (p ∧ True) = p) ∧ (∀ (p : Prop), (True ∧ p) = p) ∧ (∀ (p : Prop), (p ∧ p) = p) ∧ (∀ (a : Prop), (a → a) ↔ True) ∧ (∀ {α : Type} [BEq α] [LawfulBEq α] {a b : α}, (a == b) = true ↔ a = b) ∧
  (∀ {α : Type} [BEq α] [LawfulBEq α] {a b : α}, (a != b) = true ↔ a ≠ b) ∧ (∀ {α : Type} (a b : α), (a ≠ b) = ¬ (a = b)) ∧ (∀ {p : Prop} [Decidable p], (decide p = true) = p) ∧ (∀ {α β : Type} {azz : List α} (f : α → β), (azz.map f).length = azz.length) ∧ (∀ {α : Type} (a b : α), (if True then a else b) = a) ∧ (∀ {α : Type} (a b : α), (if False then a else b) = b) :=
 ⟨BG, Z4, wp_ite, wp_map, wp_none, Int.lt_irrefl, Int.le_refl, by simp, by simp, by simp, by simp, by simp, by simp, by simp, by simp, by simp, by simp, beq_iff_eq, bne_iff_ne, fun _ _ => rfl, by simp, fun _ => List.length_map .., fun _ _ => if_pos trivial, fun _ _ => if_neg id⟩
theorem zl : (∀ {α : Type} {azz bs : List α}, (azz ++ bs).length = azz.length + bs.length) ∧ (∀ {α : Type} {i : Nat} {l : List α}, (l.drop i).length = l.length - i) ∧ (∀ {α : Type} {i : Nat} {l : List α}, (l.take i).length = min i l.length) ∧ (∀ {α : Type}, ([] : List α).length = 0) ∧ (∀ {α : Type} {a : α}, [a].length = 1) ∧ (∀ {α β : Type} {azz : List α} (f : α → β), (azz.map f).length = azz.length) :=
 ⟨List.length_append, List.length_drop, List.length_take, List.length_nil, List.length_singleton, fun _ => List.length_map ..⟩
end HY
end
section
namespace HY
open Go
def wSum {α : Type} (f : α → Nat) (l : List α) : Nat := (l.map f).sum
section
variable {α : Type} {f : α → Nat}
theorem Z6 : wSum f [] = 0 := rfl
theorem QP {a : α} {l : List α} : wSum f (a :: l) = f a + wSum f l := by simp [wSum]
theorem Cp {l m : List α} : wSum f (l ++ m) = wSum f l + wSum f m := by simp [wSum]
theorem YR {a : α} {l : List α} (h : a ∈ l) : f a ≤ wSum f l := by
 induction l with
 | nil => cases h
 | cons b l ih =>
  rw [QP]
  rcases List.mem_cons.1 h with rfl | h
  ·omega
  ·have := ih h; omega
theorem Kp {l : List α} (h1 : ∀ a, 1 ≤ f a) : l.length ≤ wSum f l := by
 induction l with
 | nil => simp
 | cons b l ih => rw [QP, List.length_cons]; have := h1 b; omega
theorem Q1y {l : List α} {k : Nat} (h : k < l.length) : f l[k] ≤ wSum f l := YR (List.getElem_mem h)
theorem Q1z {l m : List α} (h : List.Sublist l m) : wSum f l ≤ wSum f m := by
 induction h with
 | slnil => exact Nat.le_refl _
 | cons a _ ih => rw [QP]; omega
 | cons_cons a _ ih => rw [QP, QP]; omega
end
def KL (m : Cy) : Nat := 1 + m.fName.length
def wLin (l : gLin) : Nat := 1 + wSum KL l.fL
def wIdx (x : Q8) : Nat := 1 + wLin x.fLin + x.fFrom.length + wSum wLin x.fAt
def Y7 : Q9 → Nat
 | .mk x => 1 + x.fName.length + wLin x.fLin + wSum wIdx x.fIdx + (x.fArgs.attach.map fun a => Y7 a.1).sum
 termination_by e => sizeOf e
 decreasing_by exact Q9.lt a.2
def Qn (x : Q1) : Nat := 1 + x.fName.length + wLin x.fLin + wSum wIdx x.fIdx + wSum Y7 x.fArgs
theorem Uz (e : Q9) : Y7 e = Qn e.f := by
 cases e with
 | mk x => rw [Y7]; simp [Qn, Q9.f, wSum]
def QG : Q7 → Nat
 | .mk x => 1 + x.fName.length + wSum wIdx x.fIdx + Qn x.fExpr + (x.fBody.attach.map fun a => QG a.1).sum
 termination_by e => sizeOf e
 decreasing_by exact Q7.lt a.2
def QB (x : Qa) : Nat := 1 + x.fName.length + wSum wIdx x.fIdx + Qn x.fExpr + wSum QG x.fBody
theorem K6 (e : Q7) : QG e = QB e.f := by
 cases e with
 | mk x => rw [QG]; simp [QB, Q7.f, wSum]
def wBuf (b : Qw) : Nat := 1 + b.fName.length + b.fDims.length
def JZ (n : Qb) : Nat := 1 + wSum wBuf n.fBufs + wSum QG n.fBody
theorem wMono1 (m : Cy) : 1 ≤ KL m := by unfold KL; omega
theorem L4 (m : gLin) : 1 ≤ wLin m := by unfold wLin; omega
theorem M7 (m : Q8) : 1 ≤ wIdx m := by unfold wIdx; omega
theorem wExpr1 (e : Q9) : 1 ≤ Y7 e := by rw [Uz]; unfold Qn; omega
theorem Oa (e : Q7) : 1 ≤ QG e := by rw [K6]; unfold QB; omega
theorem wBuf1 (e : Qw) : 1 ≤ wBuf e := by unfold wBuf; omega
theorem Q9.ind {P : Q9 → Prop} (h : ∀ x : Q1, (∀ a ∈ x.fArgs, P a) → P (.mk x)) : ∀ e, P e
 | .mk x => h x (fun a ha => Q9.ind h a)
 termination_by e => sizeOf e
 decreasing_by exact Q9.lt ha
theorem Q7.ind {P : Q7 → Prop} (h : ∀ x : Qa, (∀ a ∈ x.fBody, P a) → P (.mk x)) : ∀ e, P e
 | .mk x => h x (fun a ha => Q7.ind h a)
 termination_by e => sizeOf e
 decreasing_by exact Q7.lt ha
theorem Gz (l : gLin) : l.fL.length < wLin l := by have := Kp (f := KL) (l := l.fL) wMono1; unfold wLin; omega
theorem O9 (x : Q8) : wLin x.fLin < wIdx x := by unfold wIdx; omega
theorem Bw (x : Q8) : wSum wLin x.fAt < wIdx x := by unfold wIdx; omega
theorem MJ (x : Q8) : x.fAt.length < wIdx x := by have := Kp (f := wLin) (l := x.fAt) L4; unfold wIdx; omega
theorem Q0w (x : Q8) : x.fFrom.length < wIdx x := by unfold wIdx; omega
theorem wE_name (x : Q1) : x.fName.length < Qn x := by unfold Qn; omega
theorem wE_lin (x : Q1) : wLin x.fLin < Qn x := by unfold Qn; omega
theorem O8 (x : Q1) : wSum wIdx x.fIdx < Qn x := by unfold Qn; omega
theorem wE_idxN (x : Q1) : x.fIdx.length < Qn x := by have := Kp (f := wIdx) (l := x.fIdx) M7; unfold Qn; omega
theorem SF (x : Q1) : wSum Y7 x.fArgs < Qn x := by unfold Qn; omega
theorem O7 (x : Q1) : x.fArgs.length < Qn x := by have := Kp (f := Y7) (l := x.fArgs) wExpr1; unfold Qn; omega
theorem O6 {x : Q1} {a : Q9} (h : a ∈ x.fArgs) : Qn a.f < Qn x := by have := YR (f := Y7) h; have := SF x; rw [Uz] at *; omega
theorem wS_name (x : Qa) : x.fName.length < QB x := by unfold QB; omega
theorem wS_idx (x : Qa) : wSum wIdx x.fIdx < QB x := by unfold QB; omega
theorem wS_idxN (x : Qa) : x.fIdx.length < QB x := by have := Kp (f := wIdx) (l := x.fIdx) M7; unfold QB; omega
theorem By (x : Qa) : Qn x.fExpr < QB x := by unfold QB; omega
theorem Mf (x : Qa) : wSum QG x.fBody < QB x := by unfold QB; omega
theorem Q1x (x : Qa) : x.fBody.length < QB x := by have := Kp (f := QG) (l := x.fBody) Oa; unfold QB; omega
theorem wS_in {x : Qa} {a : Q7} (h : a ∈ x.fBody) : QB a.f < QB x := by have := YR (f := QG) h; have := Mf x; rw [K6] at *; omega
theorem LM {l : gLin} {m : Cy} (h : wLin l ≤ 1048576) (hm : m ∈ l.fL) : m.fName.length ≤ 1048576 := by
 have h1 := YR (f := KL) hm
 have h2 : wLin l = 1 + wSum KL l.fL := rfl
 have h3 : KL m = 1 + m.fName.length := rfl
 omega
theorem Zv {x : Q1} (h : Qn x ≤ 1048576) : x.fName.length ≤ 1048576 ∧ wLin x.fLin ≤ 1048576 ∧ x.fLin.fL.length ≤ 1048576 ∧ x.fIdx.length ≤ 1048576 ∧ (∀ i ∈ x.fIdx, wIdx i ≤ 1048576) ∧ x.fArgs.length ≤ 1048576 ∧ (∀ a ∈ x.fArgs, Qn a.f ≤ 1048576) := by
 have := wE_name x; have := wE_lin x; have := Gz x.fLin; have := wE_idxN x; have := O7 x; have := O8 x
 exact ⟨by omega, by omega, by omega, by omega, fun i hi => by have := YR (f := wIdx) hi; omega, by omega, fun a ha => by have := O6 ha; omega⟩
theorem N2 {x : Q8} (h : wIdx x ≤ 1048576) : x.fFrom.length ≤ 1048576 ∧ wLin x.fLin ≤ 1048576 ∧ x.fLin.fL.length ≤ 1048576 ∧ x.fAt.length ≤ 1048576 ∧ (∀ l ∈ x.fAt, wLin l ≤ 1048576) := by
 have := Q0w x; have := O9 x; have := Gz x.fLin; have := MJ x; have := Bw x
 exact ⟨by omega, by omega, by omega, by omega, fun l hl => by have := YR (f := wLin) hl; omega⟩
theorem G8 {x : Qa} (h : QB x ≤ 1048576) : x.fName.length ≤ 1048576 ∧ Qn x.fExpr ≤ 1048576 ∧ x.fIdx.length ≤ 1048576 ∧ (∀ i ∈ x.fIdx, wIdx i ≤ 1048576) ∧ x.fBody.length ≤ 1048576 ∧ wSum QG x.fBody ≤ 1048576 ∧ (∀ a ∈ x.fBody, QB a.f ≤ 1048576) := by
 have := wS_name x; have := By x; have := wS_idxN x; have := Q1x x; have := wS_idx x; have := Mf x
 exact ⟨by omega, by omega, by omega, fun i hi => by have := YR (f := wIdx) hi; omega, by omega, by omega, fun a ha => by have := wS_in ha; omega⟩
theorem W_idx {x : Qa} {a : Int} {b : Str} (h : QB x ≤ 1048576) (hb : b.length ≤ x.fName.length) : Qn (QV.mk a b (gVal.mk (0 : Int) (0 : Int)) (Qg.mk (0 : Int) (0 : Int) (0 : Int) (0 : Int) (0 : Int)) (gLin.mk (0 : Int) []) x.fIdx [] : Q1) ≤ 1048576 := by
 have h9 : QB x = 1 + x.fName.length + wSum wIdx x.fIdx + Qn x.fExpr + wSum QG x.fBody := rfl
 have : 1 ≤ Qn x.fExpr := by unfold Qn; omega
 simp only [Qn, wLin, Z6]; omega
theorem Cw {l : List Q7} (h : wSum QG l ≤ 1048576) : l.length ≤ 1048576 ∧ (∀ a ∈ l, QB a.f ≤ 1048576) := by
 have := Kp (f := QG) (l := l) Oa
 exact ⟨by omega, fun a ha => by have := YR (f := QG) ha; rw [K6] at this; omega⟩
theorem HM {l : List Qw} (h : wSum wBuf l ≤ 1048576) : l.length ≤ 1048576 ∧ (∀ a ∈ l, a.fName.length ≤ 1048576 ∧ a.fDims.length ≤ 1048576) := by
 have := Kp (f := wBuf) (l := l) wBuf1
 exact ⟨by omega, fun a ha => by have h2 := YR (f := wBuf) ha; have : wBuf a = 1 + a.fName.length + a.fDims.length := rfl; omega⟩
def Zq : Q9 → List Q9
 | .mk x => .mk x :: (x.fArgs.attach.map fun a => Zq a.1).flatten
 termination_by e => SizeOf.sizeOf e
 decreasing_by exact Q9.lt a.2
theorem Ck (x : Q1) : Zq (.mk x) = .mk x :: (x.fArgs.map Zq).flatten := by rw [Zq]; simp
def Vv (l : List Q9) : List Q9 := (l.map Zq).flatten
theorem Uq (a : Q9) (l : List Q9) : Vv (a :: l) = Zq a ++ Vv l := by simp [Vv]
theorem SW : ∀ e, (Zq e).length ≤ Y7 e := Q9.ind fun x ih => by
 have h : ∀ l : List Q9, (∀ a ∈ l, (Zq a).length ≤ Y7 a) → (Vv l).length ≤ wSum Y7 l := by
  intro l
  induction l with
  | nil => intro _; simp [Vv]
  | cons a l ih => intro h; rw [Uq, QP, List.length_append]; have := h a (by simp); have := ih fun b hb => h b (by simp [hb]); omega
 rw [Ck, Uz]
 have := h _ ih
 unfold Vv at this
 simp only [Q9.f_mk, Qn, List.length_cons]; omega
theorem BX (l : List Q9) : (Vv l).length ≤ wSum Y7 l := by
 induction l with
 | nil => simp [Vv]
 | cons a l ih => rw [Uq, QP, List.length_append]; have := SW a; omega
theorem Ps (x : Q1) : (Zq (.mk x)).length ≤ Qn x := by have := SW (.mk x); rw [Uz] at this; exact this
end HY
end
section
namespace Go.Proofs.YtokfigmmegifeaaGreat
open Go HY
set_option maxRecDepth 1000000
abbrev Fh := { x : Q1 // Qn x ≤ 4611686018427387904 }
def Pd (x : Fh) : AV := .fn 105 [.ip 13 [Q6 x.1] 0 0]
def yvl (l : Nat) : AV := .val (.func (.yield l) #[] #[])
theorem BC {l : Nat} {xs : List (List AV)} {m n : Nat} {a : List Q9} (hn : a.length = n) (hn2 : n ≤ 4611686018427387904)
  (hF : ∀ e ∈ a, ∀ k, (∀ (j : Nat) (y : Q9), (Zq e)[j]? = some y → xs[k + j]? = some [Q6 y.f]) → JF Tryz.prog gls l xs 106 [Q6 e.f, yvl l] (some k) true (k + (Zq e).length)) :
  ∀ (t p : List Q9) (k : Nat), a = p ++ t → k + (Vv t).length = m → (∀ (j : Nat) (y : Q9), (Vv t)[j]? = some y → xs[k + j]? = some [Q6 y.f]) →
   JLo 106 4 23 l xs [1, 12, 13, 14] [yvl l, .sl 13 (a.map Ql), ii n, ii p.length] [] (some k) [4] (.exit 0, [.undef]) (.ret, [.bool false]) m
 | t, p, k, ha, hm, hx => by
  refine JL1 (φ := (decide ((p.length : Int) < n) = true → ∃ x : Q1, ((0 : Int) ≤ p.length ∧ (a.map Ql)[Int.toNat p.length]? = some (Q6 x)) ∧ ∃ q, JF Tryz.prog gls l xs 106 [Q6 x, yvl l] (some k) true q ∧
   NxtJ Tryz.prog gls l xs 23 (CB Tryz.prog 106 (4 + 1)) [1, 12, 13, 14] [4] (.exit 0, [.undef]) (.ret, [.bool false]) m [yvl l, .sl 13 (a.map Ql), ii n, ii (wr ((p.length : Int) + 1))] [] (some q) ∧ JO (.exit 0, [.undef]) (.ret, [.bool false]) m .ret none [.bool false] []) ∧
   (decide ((p.length : Int) < n) = false → JO (.exit 0, [.undef]) (.ret, [.bool false]) m (.exit 0) (some k) [.undef] [])) (hs := [(15, .split), (16, .e Q6)]) (js := []) (kb := []) (by kernel_rfl) (by kernel_rfl) ⟨fun h => ?_, fun h => ?_⟩
  ·have h := of_decide_eq_true h
   cases t with
   | nil => subst ha; simp at hn; omega
   | cons e t =>
    have hlen : p.length < a.length := by rw [ha]; simp
    refine ⟨e.f, ⟨by omega, ?_⟩, k + (Zq e).length, hF e (by rw [ha]; simp) k (fun j y hj => hx j y ?_), ⟨_, _, ?_, .refl _, BC hn hn2 hF t (p ++ [e]) (k + (Zq e).length) (by rw [ha]; simp) (by rw [← hm, Uq]; simp; omega) (fun j y hj => ?_)⟩, .b rfl rfl rfl⟩
    ·rw [List.getElem?_map, ha, Int.toNat_natCast, List.getElem?_append_right (Nat.le_refl _)]; simp [QZ]
    ·rw [Uq, List.getElem?_append_left (List.getElem?_eq_some_iff.1 hj).1]; exact hj
    ·rw [show wr ((p.length : Int) + 1) = ((p ++ [e]).length : Int) by rw [QQ (by omega)]; simp]
     exact .refl _
    ·rw [Nat.add_assoc]
     exact hx _ y (by rw [Uq, List.getElem?_append_right (Nat.le_add_right _ _), Nat.add_sub_cancel_left]; exact hj)
  ·have h := of_decide_eq_false h
   cases t with
   | nil => exact .a rfl (by rw [← hm]; rfl) rfl
   | cons e t => rw [ha] at hn; simp at hn; omega
theorem wk_walk (l : Nat) (xs : List (List AV)) : ∀ (e : Q9), Y7 e ≤ 4611686018427387904 → ∀ k, (∀ (j : Nat) (y : Q9), (Zq e)[j]? = some y → xs[k + j]? = some [Q6 y.f]) → JF Tryz.prog gls l xs 106 [Q6 e.f, yvl l] (some k) true (k + (Zq e).length) :=
 Q9.ind fun x ih hw k hx => by
  rw [Uz, Q9.f_mk] at hw
  have h0 := hx 0 (.mk x) (by rw [Ck]; rfl)
  have hargs := O7 x
  refine JF1 (φ := l = l ∧ xs[k]? = some [Q6 x] ∧ (∃ q, JLo 106 4 23 l xs [1, 12, 13, 14] [yvl l, .sl 13 (x.fArgs.map Ql), ii ((x.fArgs.map Ql).length : Nat), ii 0] [] (some (k + 1)) [4] (.exit 0, [.undef]) (.ret, [.bool false]) q ∧ JQ true (k + (Zq (.mk x)).length) (.bool true) (some q) ∧ JQ true (k + (Zq (.mk x)).length) (.bool false) none) ∧ JQ true (k + (Zq (.mk x)).length) (.bool false) none)
   (hs := []) (js := [(5, ⟨[1, 12, 13, 14], [], [4], (.exit 0, [.undef]), (.ret, [.bool false])⟩)]) (by kernel_rfl) ⟨rfl, h0, ⟨_, ?_, .inl ⟨rfl, rfl⟩, .inr ⟨rfl, rfl⟩⟩, .inr ⟨rfl, rfl⟩⟩
  have := BC (l := l) (xs := xs) (m := k + (Zq (.mk x)).length) (n := x.fArgs.length) (a := x.fArgs) rfl (by omega) (fun e he => ih e he (by have := YR (f := Y7) he; have := SF x; omega)) x.fArgs [] (k + 1) rfl (by rw [Ck]; simp [Vv]; omega) (fun j y hj => by
   have := hx (j + 1) y (by rw [Ck]; exact hj)
   rw [← this]; congr 1; omega)
  rw [List.length_map]
  exact this
theorem It_Walk (x : Fh) : ItOk Tryz.prog gls 105 [.ip 13 [Q6 x.1] 0 0] ((Zq (.mk x.1)).map fun y => [Q6 y.f]) :=
 ItOk.of (NQ (by kernel_rfl)) false fun l =>
  JF1 (φ := ∃ q, JF Tryz.prog gls l ((Zq (.mk x.1)).map fun y => [Q6 y.f]) 106 [Q6 x.1, yvl l] (some 0) true q ∧ JQ false (((Zq (.mk x.1)).map fun y => [Q6 y.f]).length) (.tup []) (some q) ∧ JQ false (((Zq (.mk x.1)).map fun y => [Q6 y.f]).length) (.tup []) none)
   (hs := []) (js := []) (by kernel_rfl) ⟨_, wk_walk l _ (.mk x.1) (by rw [Uz]; exact x.2) 0 (fun j y hj => by rw [Nat.zero_add, List.getElem?_map, hj]; rfl), ⟨rfl, .inl (by simp)⟩, ⟨rfl, .inr rfl⟩⟩
noncomputable def CK (x0 : Q1) : Option Fh := if h : Qn x0 ≤ 4611686018427387904 then some ⟨x0, h⟩ else none
theorem Oz (x0 : Q1) (r : Fh) (h : CK x0 = some r) : PU 88 [Q6 x0] (Pd r) := by
 unfold CK at h
 split at h
 ·cases h
  exact Pu1 (φ := LeT (.fn 105 [.ip 13 [Q6 x0] 0 0]) (.fn 105 [.ip 13 [Q6 x0] 0 0])) (hs := []) (by kernel_rfl) (.refl _)
 ·cases h
end Go.Proofs.YtokfigmmegifeaaGreat
end
noncomputable section
namespace Go.Proofs.YtokfigmmegifeaaGreat
open Go HY
set_option maxRecDepth 1000000
def Gs (x0 : List Int) : Option (List Int) := if x0.length * 8 ≤ 140737488355328 ∧ x0.length ≤ 9223372036854775807 then some x0 else none
theorem H8 (x0 : List Int) (r : List Int) (h : Gs x0 = some r) : PU 127 [eLI x0] (eLI r) := by
 unfold Gs at h
 split at h
 ·rename_i hc
  cases h
  exact Pu1 (φ := (List.map eI x0 = [] → LeT .nil (.sl 1 (List.map eI x0))) ∧ (0 = 0 ∧ (0 + List.length (List.map eI x0)) * 8 ≤ 140737488355328 ∧ 0 + List.length (List.map eI x0) ≤ 9223372036854775807) ∧ ∃ l, (List.map eI l = [] ++ List.map eI x0 ∧ List.length l = 0 + List.length (List.map eI x0)) ∧ List.length l = List.length (List.map eI l) ∧ LeT (.sl 1 (List.map eI l)) (.sl 1 (List.map eI x0)))
   (hs := [(4, .nn), (7, .z [{ slot := 5, own := 1 }] (some (.n eI 7 (some .a))))]) (by kernel_rfl)
   ⟨fun e => by rw [e]; exact .nil 1, ⟨rfl, by simpa using hc⟩, x0, ⟨rfl, by simp⟩, by simp, .refl _⟩
 ·cases h
end Go.Proofs.YtokfigmmegifeaaGreat
end
