/- A part of the proof of the statement that the last of these texts proves. -/
import Derived.Test.YtfpegbpngbchfaaGreatDoorP3
import Derived.Lib.Bytealg
import Derived.Test.YtfpegbpngbchfaaGreatDoorProg
set_option linter.unusedVariables false
set_option linter.unusedSimpArgs false
section
namespace HY
open Go Go.RowKit
theorem rv_nil {H : HV} {m : Nat → Lc} : ∀ {x : AV} {v : Value}, RV H (envOf (lkb .nil) m) x v → RelI H x v := by
  intro x v h
  induction h with
  | imm _ _ h => exact h
  | ptr id ver off a hal => obtain ⟨b, hb, _⟩ := hal; rw [lkb_nil] at hb; cases hb
  | bs id ver sz off len a cap hal => obtain ⟨b, hb, _⟩ := hal; rw [lkb_nil] at hb; cases hb
  | ow id ver sz len a cap hal => obtain ⟨b, hb, _⟩ := hal; rw [lkb_nil] at hb; cases hb
  | oe id ver sz i off a hal => obtain ⟨b, hb, _⟩ := hal; rw [lkb_nil] at hb; cases hb
  | yld id l hl => simp [envOf, lkb_nil] at hl
  | mp id l hl => simp [envOf, lkb_nil] at hl
  | fn f cs vs h _ ih => exact .fn f cs vs h ih
  | agg cs vs h h1 _ ih => exact .agg cs vs h h1 ih
  | tup cs vs h _ ih => exact .tup cs vs h ih
structure LeT (x t : AV) : Prop where
  ok : ∀ (H : HV) (v : Value), RelI H x v → RelI H t v
theorem LeT.refl (x : AV) : LeT x x := ⟨fun _ _ h => h⟩
theorem LeT.nil (sz : Nat) : LeT .nil (.sl sz []) := ⟨fun H v h => by cases h; exact .sl0 _ _ _ (Nat.zero_le _)⟩
theorem LeT.emp (sz : Nat) : LeT .emp (.sl sz []) := ⟨fun H v h => by cases h; exact .sl0 _ _ _ (Nat.zero_le _)⟩
theorem LeT.sl0 (sz sz' : Nat) : LeT (.sl sz []) (.sl sz' []) := ⟨fun H v h => by
  obtain ⟨a, cap, rfl, h1, h2⟩ := h.len_inv
  exact .sl0 _ _ _ h2⟩
theorem LeT.undef (x : AV) : LeT x .undef := ⟨fun _ _ _ => .undef _⟩
theorem LeT.of_eq {x t : AV} (h : x = t) : LeT x t := h ▸ .refl x
inductive LeL : List AV → List AV → Prop
  | nil : LeL [] []
  | cons {x t : AV} {xs ts : List AV} : LeT x t → LeL xs ts → LeL (x :: xs) (t :: ts)
theorem LeL.get : ∀ {xs ts : List AV}, LeL xs ts → xs.length = ts.length ∧ ∀ (j : Nat) (t : AV), ts[j]? = some t → ∃ x, xs[j]? = some x ∧ LeT x t
  | _, _, .nil => ⟨rfl, fun j t h => by simp at h⟩
  | _, _, .cons h r => ⟨by simp [r.get.1], fun j t' hj => by
    cases j with
    | zero => simp at hj; subst hj; exact ⟨_, rfl, h⟩
    | succ j => simpa using r.get.2 j t' (by simpa using hj)⟩
theorem LeL.refl : ∀ (xs : List AV), LeL xs xs
  | [] => .nil
  | x :: xs => .cons (.refl x) (LeL.refl xs)
theorem LeT.agg {xs ts : List AV} (h : LeL xs ts) : LeT (.agg xs) (.agg ts) := ⟨fun H v hv => by
  obtain ⟨h1, h2⟩ := h.get
  cases hv with
  | agg _ vs a b c =>
    exact .agg _ vs (by rw [← h1]; exact a) b fun j t u hj hu => by
      obtain ⟨x, hx, hle⟩ := h2 j t hj
      exact hle.ok H u (c j x u hx hu)⟩
theorem LeT.tup {xs ts : List AV} (h : LeL xs ts) : LeT (.tup xs) (.tup ts) := ⟨fun H v hv => by
  obtain ⟨h1, h2⟩ := h.get
  cases hv with
  | tup _ vs a c =>
    exact .tup _ vs (by rw [← h1]; exact a) fun j t u hj hu => by
      obtain ⟨x, hx, hle⟩ := h2 j t hj
      exact hle.ok H u (c j x u hx hu)⟩
theorem Pu.le {P : Program} {gl : Nat → AV} {f : Nat} {args args' : List AV} {r r' : AV} (h : Pu P gl f args' r) (ha : LeL args args') (hr : LeT r r') : Pu P gl f args r' := ⟨fun m H B H0 w vs hh hl hv => by
  obtain ⟨h1, h2⟩ := ha.get
  refine (h.ok m H B H0 w vs hh (by rw [← h1]; exact hl) fun j x v hx hv' => ?_).mono fun e w' ⟨v, m', H', a, b, c, d⟩ => ⟨v, m', H', a, b, c, .imm _ _ (hr.ok _ _ (rv_nil d))⟩
  obtain ⟨y, hy, hle⟩ := h2 j x hx
  exact .imm _ _ (hle.ok _ _ (rv_nil (hv j y v hy hv')))⟩
def pinsOf : Nat → List Box → List AV
  | _, [] => []
  | j, b :: r => match b with
    | .cells t _ => .ptr j t 0 :: pinsOf (j + 1) r
    | _ => pinsOf (j + 1) r
def pinVs (m : Nat → Lc) : Nat → List Box → List (AV × Value)
  | _, [] => []
  | j, b :: r => match b with
    | .cells t _ => (.ptr j t 0, .pointer (some ⟨(m j).g, (m j).base, none⟩)) :: pinVs m (j + 1) r
    | _ => pinVs m (j + 1) r
theorem pinVs_fst {m : Nat → Lc} : ∀ (j : Nat) (bs : List Box), (pinVs m j bs).map (·.1) = pinsOf j bs
  | _, [] => rfl
  | j, b :: r => by
    cases b <;> simp only [pinVs, pinsOf, List.map_cons, pinVs_fst (j + 1) r]
theorem pinVs_mem {m : Nat → Lc} : ∀ (k : Nat) (bs : List Box) (p : AV × Value), p ∈ pinVs m k bs → ∃ j t cs, bs[j]? = some (.cells t cs) ∧ p = (.ptr (k + j) t 0, .pointer (some ⟨(m (k + j)).g, (m (k + j)).base, none⟩))
  | _, [], p, h => by simp [pinVs] at h
  | k, b :: r, p, h => by
    have tl : p ∈ pinVs m (k + 1) r → ∃ j t cs, (b :: r)[j]? = some (.cells t cs) ∧ p = (.ptr (k + j) t 0, .pointer (some ⟨(m (k + j)).g, (m (k + j)).base, none⟩)) := fun h => by
      obtain ⟨j, t, cs, h1, h2⟩ := pinVs_mem (k + 1) r p h
      refine ⟨j + 1, t, cs, by simpa using h1, ?_⟩
      rw [show k + (j + 1) = k + 1 + j by omega]; exact h2
    cases b with
    | cells t cs =>
      simp only [pinVs, List.mem_cons] at h
      rcases h with rfl | h
      · exact ⟨0, t, cs, rfl, rfl⟩
      · exact tl h
    | _ => exact tl h
theorem pinVs_at {m : Nat → Lc} : ∀ (k : Nat) (bs : List Box) (j t : Nat) (cs : List AV), bs[j]? = some (.cells t cs) → ((.ptr (k + j) t 0, .pointer (some ⟨(m (k + j)).g, (m (k + j)).base, none⟩)) : AV × Value) ∈ pinVs m k bs
  | _, [], j, t, cs, h => by simp at h
  | k, b :: r, j, t, cs, h => by
    cases j with
    | zero =>
      simp at h; subst h
      exact List.mem_cons_self
    | succ j =>
      have ih := pinVs_at (m := m) (k + 1) r j t cs (by simpa using h)
      rw [show k + 1 + j = k + (j + 1) by omega] at ih
      cases b with
      | cells t0 cs0 => exact List.mem_cons_of_mem _ ih
      | _ => exact ih
structure PuH (P : Program) (gl : Nat → AV) (f : Nat) (args : List AV) (bs : List Box) (r : AV) (bs' : List Box) : Prop where
  ok : ∀ (m : Nat → Lc) (H : HV) (B : Nat → Prop) (H0 : HV) (rest : List (AV × Value)) (w : World) (vs : Array Value), RelH m H B H0 gl (lkb (hpOf 0 bs)) bs.length w → args.length = vs.size →
    (∀ (j : Nat) (x : AV) (v : Value), args[j]? = some x → vs[j]? = some v → RV H (envOf (lkb (hpOf 0 bs)) m) x v) → rest.map (·.1) = pinsOf 0 bs → (∀ p ∈ rest, RV H (envOf (lkb (hpOf 0 bs)) m) p.1 p.2) →
    Ans P f vs w fun e w' => ∃ v m' H', e = .returned v ∧ BelowS B w w' ∧ RelH m' H' B H0 gl (lkb (hpOf 0 bs')) bs'.length w' ∧ RV H' (envOf (lkb (hpOf 0 bs')) m') r v ∧ ∀ p ∈ rest, RV H' (envOf (lkb (hpOf 0 bs')) m') p.1 p.2
theorem PuH.zero {P : Program} {gl : Nat → AV} {f : Nat} {args : List AV} {r : AV} {bs' : List Box} (h : PuH P gl f args [] r bs') : CallOk0 P gl f args r (hpOf 0 bs') bs'.length := fun m H B H0 w vs hh hl hv =>
  (h.ok m H B H0 [] w vs hh hl hv rfl (fun p hp => by simp at hp)).mono fun e w' ⟨v, m', H', a, b, c, d, _⟩ => ⟨v, m', H', a, b, c, d⟩
def wgive1 (kb : List KB) (n : Nat) (Q : List AV → List Box → List Nat → St → Prop) (sc : St) : Prop :=
  match nodN (kbIds sc kb) with
  | true => match renBs (lkb sc.hp) (kbIds sc kb) (kbIds sc kb) with
    | some bs => Q ((List.range n).map fun k => ren (lkb sc.hp) (kbIds sc kb) 12 (sc.get k)) bs (kbIds sc kb) sc
    | none => False
  | false => False
def wgive (kb : List KB) (args : List AV) (hp : Tr Box) (nx : Nat) (Q : List AV → List Box → List Nat → St → Prop) : Prop :=
  ghosts kb ⟨args.length, argSl 0 args, hp, nx⟩ (wgive1 kb args.length Q)
def wback (ids : List Nat) (sc : St) (bs' : List Box) (r : AV) (K : AV → Tr Box → Nat → Prop) : Prop :=
  match backP (lkb sc.hp) ids bs' sc.nx with
  | some ps => K (mapR (gB ps bs') 12 r) (setAll (gB ps bs') sc.hp ps bs') (sc.nx + (bs'.length - ids.length))
  | none => False
section
variable {P : Program} {gl : Nat → AV} {m : Nat → Lc} {H : HV} {B : Nat → Prop} {H0 : HV} {rest : List (AV × Value)} {st : St} {a : Act} {w : World}
theorem callH_ok (h : RelS m H B H0 gl rest st a.tmps w) {dst : Option Nat} (hd : dstOk dst st.n = true) {f : Nat} {args : List AV} {vs : Array Value} (hl : args.length = vs.size) (hv : ∀ (j : Nat) (x : AV) (v : Value), args[j]? = some x → vs[j]? = some v → RV H (st.env m) x v)
    {kb : List KB} {K : St → Prop} {Q : List AV → List Box → List Nat → St → Prop}
    (hQ : ∀ args1 bs1 ids sc, Q args1 bs1 ids sc → ∃ r bs', PuH P gl f args1 bs1 r bs' ∧ wback ids sc bs' r (fun rr hp' nx' => K ((st.setHp hp' nx').putO dst rr)))
    (hw : wgive kb args st.hp st.nx Q) :
    Ans P f vs w fun e w' => ∃ st' v m' H', K st' ∧ e = .returned v ∧ BelowS B w w' ∧ RelS m' H' B H0 gl rest st' (a.put dst v).tmps w' := by
  unfold wgive at hw
  obtain ⟨sc, hconv, hw⟩ := ghosts_ok (gl := gl) hw
  have hsc0 : RelS m H B H0 gl ((List.range st.n).map (fun k => (st.get k, a.tmps.getD k Go.undef)) ++ rest) ⟨args.length, argSl 0 args, st.hp, st.nx⟩ vs w := by
    refine ⟨h.heap, hl.symm, fun k => ?_, h.hold⟩
    show RV H _ (lk .undef (argSl 0 args) k) _
    rw [lk_argSl, if_pos (Nat.zero_le _), Nat.sub_zero]
    cases hx : args[k]? with
    | none => exact .imm _ _ (.undef _)
    | some x =>
      have hk : k < vs.size := by rw [← hl]; exact (List.getElem?_eq_some_iff.1 hx).1
      rw [show vs.getD k Go.undef = vs[k] by rw [Array.getD_eq_getD_getElem?, Array.getElem?_eq_getElem hk]; rfl]
      exact hv k x _ hx (Array.getElem?_eq_getElem hk)
  obtain ⟨m1, H1, hs⟩ := hconv.2 m H B H0 _ vs w hsc0
  unfold wgive1 at hw
  split at hw
  · rename_i hnod
    split at hw
    · rename_i bs hbs
      generalize hids : kbIds sc kb = ids at *
      obtain ⟨r, bs', hPu, hback⟩ := hQ _ _ _ _ hw
      unfold wback at hback
      split at hback
      · rename_i ps hps
        have hBB := hs.heap.offB ids
        obtain ⟨hsub, hren⟩ := hs.heap.sub (B' := OffB (lkb sc.hp) m1 ids w) (H1 := H1) hnod hbs (fun _ _ _ => rfl) (fun _ hk => hk.1) (fun j id b hj hb hr hB => hB.2 j id b hj hb hr rfl) (fun g sz cs hg => let ⟨h1, h2⟩ := hs.heap.gv g sz cs hg; ⟨hBB g h1, h2⟩)
        generalize hm0 : (fun (j : Nat) => m1 ((ids[j]?).getD 0)) = m0 at hsub hren
        have hlk : ∀ j, lkb (hpOf 0 bs) j = bs[j]? := fun j => by rw [lkb_hpOf]; simp
        have hlk' : ∀ j, lkb (hpOf 0 bs') j = bs'[j]? := fun j => by rw [lkb_hpOf]; simp
        refine (hPu.ok m0 H1 _ H1 (pinVs m0 0 bs) w vs hsub (by simpa using hl) (fun j x v hx hv' => ?_) (pinVs_fst 0 bs) (fun p hp => ?_)).mono fun e w' hpost => ?_
        · have hjl : j < args.length := by have := (List.getElem?_eq_some_iff.1 hx).1; simpa using this
          simp [hjl] at hx
          subst hx
          have := hs.slot j
          rw [show vs.getD j Go.undef = v by rw [Array.getD_eq_getD_getElem?, hv']; rfl] at this
          exact hren 12 _ _ this
        · obtain ⟨j, t, cs, h1, rfl⟩ := pinVs_mem 0 bs p hp
          rw [Nat.zero_add]
          have hb : lkb (hpOf 0 bs) j = some (.cells t cs) := by rw [hlk]; exact h1
          refine .ptr _ _ _ _ (alAll hb rfl) fun l hl => ?_
          rw [envAll hb rfl] at hl; cases hl; rfl
        · obtain ⟨v, m', H', rfl, hbl, hH, hrv, hpins⟩ := hpost
          have hpin : ∀ (j id v : Nat) (cs : List AV), ids[j]? = some id → lkb sc.hp id = some (.cells v cs) → m' j = m1 id := fun j id v cs hj hid => by
            obtain ⟨hblen, hbget⟩ := renBs_ok hbs
            obtain ⟨b0, b1, e1, e2, e3⟩ := hbget j id hj
            rw [hid] at e1; cases e1
            rcases renB_inv e2 with ⟨v1, cs1, e4, rfl⟩ | ⟨_, _, _, e4, _⟩ | ⟨_, _, _, _, _, _, e4, _⟩
            · cases e4
              obtain ⟨hlen, hle, hspec⟩ := backP_spec hps
              have hjl := (List.getElem?_eq_some_iff.1 hj).1
              have hjb : j < bs'.length := by omega
              have hjp : j < ps.length := by omega
              have hs' := hspec j ps[j].1 ps[j].2 bs'[j] (List.getElem?_eq_getElem hjp) (List.getElem?_eq_getElem hjb)
              rcases hs'.here with ⟨v2, cs2, t2, cs', f1, f2, f3, f4, f5⟩ | ⟨v2, sz, xs, v', sz', xs', f1, f2, f3, f4⟩ | ⟨a1, _, _⟩
              · rw [hj] at f1; injection f1 with f1
                rw [← f1, hid] at f2; cases f2
                have hb' : lkb (hpOf 0 bs') j = some (.cells t2 cs') := by rw [hlk', List.getElem?_eq_getElem hjb, f3]
                have hp := hpins _ (pinVs_at (m := m0) 0 bs j _ _ e3)
                rw [Nat.zero_add] at hp
                obtain ⟨ad, hade, _, hloc⟩ := hp.ptr_inv
                have hm0j : m0 j = m1 id := by rw [← hm0]; simp [hj]
                have := hloc (m' j) (by rw [f5]; exact envAll hb' rfl)
                simp only [Value.pointer.injEq, Option.some.injEq] at hade
                subst hade
                simp only [Addr.mk.injEq] at this
                obtain ⟨g1, g2, _⟩ := this
                rw [hm0j] at g1 g2
                obtain ⟨C, e, c1, c2, _, _⟩ := hs.heap.box id _ hid
                obtain ⟨C1, e1', d1, d2, _, _⟩ := hH.box j _ hb'
                obtain ⟨C2, fr2, k1, k2⟩ := hbl.rows _ C e _ c1
                rw [← g1] at d1
                rw [d1] at k1; cases k1
                have hsz : (m' j).size = (m1 id).size := by rw [← d2, ← c2]; exact k2
                cases hmj : m' j with
                | mk a b c => cases hmi : m1 id with
                  | mk a' b' c' =>
                    rw [hmj] at g1 g2 hsz
                    rw [hmi] at g1 g2 hsz
                    simp only [Nat.add_zero] at g2
                    simp only at g1 hsz
                    rw [g1, g2, hsz]
              · rw [hj] at f1; injection f1 with f1
                rw [← f1, hid] at f2; cases f2
              · omega
            · cases e4
            · cases e4
          obtain ⟨M, hR, hE, hHle, hun, hbB⟩ := back_ok hs.heap hnod hps hH hbl hpin
          exact ⟨_, v, M, H', hback, rfl, hbB, h.taken hd hR (hun r v hrv) fun p hp => (hs.rest p hp).mono hHle hE⟩
      · cases hback
    · cases hw
  · cases hw
theorem callP_ok (h : RelS m H B H0 gl rest st a.tmps w) {dst : Option Nat} (hd : dstOk dst st.n = true) {f : Nat} {ts : List AV} {vs : Array Value} (hl : ts.length = vs.size) (hv : ∀ (j : Nat) (x : AV) (v : Value), ts[j]? = some x → vs[j]? = some v → RelI H x v) {r : AV} (hp : Pu P gl f ts r) :
    Ans P f vs w fun e w' => ∃ v m' H', e = .returned v ∧ BelowS B w w' ∧ RelS m' H' B H0 gl rest (st.putO dst r) (a.put dst v).tmps w' := by
  have h0 : RelH m H (fun k => k < w.heap.size) H gl (lkb .nil) 0 w :=
    { sat := h.heap.sat, old := fun _ _ _ => rfl, low := fun _ hk => hk, fresh := fun _ _ => lkb_nil _, box := (fun _ _ hh => by rw [lkb_nil] at hh; cases hh), sepR := (fun _ _ hh => by rw [lkb_nil] at hh; cases hh), injR := (fun _ _ _ _ hh => by rw [lkb_nil] at hh; cases hh), gl := h.heap.gl, ty := (fun _ _ _ hh => by rw [lkb_nil] at hh; cases hh), gv := fun g sz cs hg => let ⟨h1, h2⟩ := h.heap.gv g sz cs hg; ⟨h.heap.low _ h1, h2⟩ }
  refine (hp.ok m H _ H w vs h0 hl (fun j x v hx hv' => .imm _ _ (hv j x v hx hv'))).mono fun e w' hpost => ?_
  obtain ⟨v, m', H', rfl, hbl, hH, hrv⟩ := hpost
  obtain ⟨hA, hleA⟩ := h.after hbl.toB H' hH.sat
  refine ⟨v, m, _, rfl, hbl.mono h.heap.low, hA.putO hd (.imm _ _ ((rv_nil hrv).mono fun b o u hu => ?_))⟩
  by_cases hlt : b < w.heap.size
  · simp only [if_pos hlt]; rw [← hH.old b o hlt]; exact hu
  · simp only [if_neg hlt]; exact hu
end
end HY
end
section
namespace HY
open Go Go.RowKit
structure LeV (x t : AV) : Prop where
  ok : ∀ (H : HV) (E : Env) (v : Value), RV H E x v → RV H E t v
structure St.Same (s t : St) : Prop where
  n : s.n = t.n
  nx : s.nx = t.nx
  get : ∀ k, s.get k = t.get k
  hp : lkb s.hp = lkb t.hp
def wnrm {α : Type} (sh : α → AV) (s : Nat) (st : St) (K : St → Prop) : Prop :=
  match st.get s with
  | .int k m => ∃ n, n = m ∧ K ⟨st.n, pt st.sl s (.int k n), st.hp, st.nx⟩
  | .str t => ∃ u, u = t ∧ K ⟨st.n, pt st.sl s (.str u), st.hp, st.nx⟩
  | .bool t => ∃ u, u = t ∧ K ⟨st.n, pt st.sl s (.bool u), st.hp, st.nx⟩
  | .ow id ver sz len => match lkb st.hp id with
    | some (.own v z xs) => ∃ l : List α, (List.map sh l = xs ∧ l.length = len) ∧ K ⟨st.n, pt st.sl s (.ow id ver sz l.length), pt st.hp id (.own v z (List.map sh l)), st.nx⟩
    | _ => False
  | .oe id _ _ _ _ => match lkb st.hp id with
    | some (.own v z xs) => ∃ l : List α, List.map sh l = xs ∧ K ⟨st.n, st.sl, pt st.hp id (.own v z (List.map sh l)), st.nx⟩
    | _ => False
  | .tup [] => K st
  | .undef => K st
  | v => ∃ x : α, LeV v (sh x) ∧ K ⟨st.n, pt st.sl s (sh x), st.hp, st.nx⟩
theorem same_sl {st : St} {s : Nat} {x y : AV} (h : st.get s = x) (e : y = x) : St.Same ⟨st.n, pt st.sl s y, st.hp, st.nx⟩ st where
  n := rfl
  nx := rfl
  get k := by
    show lk .undef (pt st.sl s y) k = _
    rw [lk_pt]
    split
    · rename_i e2; subst e2; rw [e, h]
    · rfl
  hp := rfl
theorem same_hp {st : St} {id : Nat} {b b' : Box} (h : lkb st.hp id = some b) (e : b' = b) : St.Same ⟨st.n, st.sl, pt st.hp id b', st.nx⟩ st where
  n := rfl
  nx := rfl
  get k := rfl
  hp := by
    show lkb (pt st.hp id b') = _
    rw [lkb_pt]
    funext j
    unfold updF
    split
    · rename_i e2; subst e2; rw [e, h]
    · rfl
theorem St.Same.trans {a b c : St} (h : St.Same a b) (k : St.Same b c) : St.Same a c := ⟨h.n.trans k.n, h.nx.trans k.nx, fun i => (h.get i).trans (k.get i), h.hp.trans k.hp⟩
structure St.Tell (gl : Nat → AV) (s t : St) : Prop where
  n : s.n = t.n
  rel : ∀ (m : Nat → Lc) (H : HV) (B : Nat → Prop) (H0 : HV) (rest : List (AV × Value)) (tmps : Array Value) (w : World), RelS m H B H0 gl rest t tmps w → RelS m H B H0 gl rest s tmps w
theorem St.Tell.refl (gl : Nat → AV) (s : St) : St.Tell gl s s := ⟨rfl, fun _ _ _ _ _ _ _ h => h⟩
theorem St.Tell.trans {gl : Nat → AV} {a b c : St} (h : St.Tell gl a b) (k : St.Tell gl b c) : St.Tell gl a c := ⟨h.n.trans k.n, fun _ _ _ _ _ _ _ r => h.rel _ _ _ _ _ _ _ (k.rel _ _ _ _ _ _ _ r)⟩
theorem RelS.same {m : Nat → Lc} {H : HV} {B : Nat → Prop} {H0 : HV} {gl : Nat → AV} {rest : List (AV × Value)} {s t : St} {tmps : Array Value} {w : World} (h : RelS m H B H0 gl rest t tmps w) (e : St.Same s t) : RelS m H B H0 gl rest s tmps w := by
  have he : s.env m = t.env m := by show envOf (lkb s.hp) m = envOf (lkb t.hp) m; rw [e.hp]
  refine ⟨?_, ?_, fun k => ?_, fun p hp => ?_⟩
  · rw [e.hp, e.nx]; exact h.heap
  · rw [e.n]; exact h.size
  · rw [he, e.get]; exact h.slot k
  · rw [he]; exact h.rest p hp
theorem St.Same.tell {gl : Nat → AV} {s t : St} (e : St.Same s t) : St.Tell gl s t := ⟨e.n, fun _ _ _ _ _ _ _ h => h.same e⟩
theorem tell_le {gl : Nat → AV} {st : St} {s : Nat} {x y : AV} (h : st.get s = x) (e : LeV x y) : St.Tell gl ⟨st.n, pt st.sl s y, st.hp, st.nx⟩ st where
  n := rfl
  rel m H B H0 rest tmps w r := by
    refine ⟨r.heap, r.size, fun k => ?_, r.rest⟩
    show RV H (st.env m) (lk .undef (pt st.sl s y) k) _
    rw [lk_pt]
    split
    · rename_i e2; subst e2; exact e.ok _ _ _ (h ▸ r.slot _)
    · exact r.slot k
theorem wnrm_ok {gl : Nat → AV} {α : Type} {sh : α → AV} {s : Nat} {st : St} {K : St → Prop} (h : wnrm sh s st K) : ∃ st', K st' ∧ St.Tell gl st' st := by
  unfold wnrm at h
  split at h
  · rename_i k m hx; obtain ⟨n, rfl, h⟩ := h; exact ⟨_, h, (same_sl hx rfl).tell⟩
  · rename_i t hx; obtain ⟨n, rfl, h⟩ := h; exact ⟨_, h, (same_sl hx rfl).tell⟩
  · rename_i t hx; obtain ⟨n, rfl, h⟩ := h; exact ⟨_, h, (same_sl hx rfl).tell⟩
  · rename_i id ver sz len hx
    split at h
    · rename_i v z xs hid
      obtain ⟨l, ⟨rfl, rfl⟩, h⟩ := h
      exact ⟨_, h, ((same_hp (st := ⟨st.n, pt st.sl s _, st.hp, st.nx⟩) hid rfl).trans (same_sl hx rfl)).tell⟩
    · cases h
  · rename_i id _ _ _ _ hx
    split at h
    · rename_i v z xs hid
      obtain ⟨l, rfl, h⟩ := h
      exact ⟨_, h, (same_hp hid rfl).tell⟩
    · cases h
  · exact ⟨_, h, .refl _ _⟩
  · exact ⟨_, h, .refl _ _⟩
  · rename_i v _ _ hx
    obtain ⟨x, hle, h⟩ := h
    exact ⟨_, h, tell_le rfl hle⟩
def wfill {α : Type} (sh : α → AV) (s : Nat) (st : St) (K : St → Prop) : Prop :=
  match st.get s with
  | .ow id _ _ _ => match lkb st.hp id with
    | some (.hol v z xs i c r) => match r with
      | .ow id2 v2 z2 len => match lkb st.hp id2 with
        | some (.own v' z' ys) => match Nat.beq v' v2 && Nat.beq z' z2 with
          | true => len = ys.length ∧ ∃ x : α, xs[i]? = some (sh x) ∧ ∃ l : List α, List.map sh l = xs.set i (putE c 1 z (sh x) (.sl z' ys)) ∧ K ⟨st.n, st.sl, pt (pt st.hp id2 (.own (v' + 4096) z' [])) id (.own v z (List.map sh l)), st.nx⟩
          | false => False
        | _ => False
      | _ => False
    | _ => False
  | _ => False
theorem wfill_ok {gl : Nat → AV} {α : Type} {sh : α → AV} {s : Nat} {st : St} {K : St → Prop} (h : wfill sh s st K) : ∃ st', Conv gl st st' ∧ K st' := by
  unfold wfill at h
  split at h
  · split at h
    · rename_i v z xs i c r hid
      split at h
      · rename_i id2 v2 z2 len
        split at h
        · rename_i v' z' ys hid2
          split at h
          · rename_i hc
            rw [Bool.and_eq_true] at hc
            obtain rfl := Nat.eq_of_beq_eq_true hc.1
            obtain rfl := Nat.eq_of_beq_eq_true hc.2
            obtain ⟨hl, x, hx, l, he, hK⟩ := h
            refine ⟨_, ?_, hK⟩
            rw [he]
            exact conv_fill _ v z i c id2 _ _ len xs ys (sh x) hid hid2 hl hx
          · cases h
        · cases h
      · cases h
    · cases h
  · cases h
def inner : Option Hint → Option Hint
  | some (.n _ _ h) => h
  | some (.z _ h) => match h with
    | some (.n _ _ h) => h
    | h => h
  | h => h
def outer : Option Hint → Option Hint
  | some (.z _ h) => h
  | h => h
def wnrms (hs : Hints) : List Oper → St → (St → Prop) → Prop
  | [], st, K => K st
  | o :: l, st, K => match outer (lkH hs (keyOf o.dst o.op)) with
    | some (.n sh s _) => wnrm sh s st (fun st => wnrms hs l st K)
    | _ => wnrms hs l st K
theorem wnrms_ok {gl : Nat → AV} {hs : Hints} : ∀ {l : List Oper} {st : St} {K : St → Prop}, wnrms hs l st K → ∃ st', K st' ∧ St.Tell gl st' st
  | [], st, K, h => ⟨st, h, .refl _ _⟩
  | o :: l, st, K, h => by
    simp only [wnrms] at h
    split at h
    · obtain ⟨s1, h1, e1⟩ := wnrm_ok (gl := gl) h
      obtain ⟨s2, h2, e2⟩ := wnrms_ok (gl := gl) h1
      exact ⟨s2, h2, e2.trans e1⟩
    · exact wnrms_ok h
end HY
end
section
namespace HY
open Go Go.RowKit
def wopt (x : Option Res) (K : Res → Prop) : Prop :=
  match x with
  | some y => K y
  | none => False
def wrow (bid : Nat) (K : Res → Prop) (r : AV) (bt : List Box) : Prop := match r with
  | .ow id ver sz len => match bt with
    | [.own v z xs] => match Nat.beq id 0 && (Nat.beq v ver && Nat.beq z sz) with
      | true => xs.all immE = true ∧ K (.ow bid 0 sz len, some (bid, .own 0 sz xs))
      | false => False
    | _ => False
  | _ => wopt (xpureR true bid (some (r, hpOf 0 bt, bt.length))) K
def wcall1 (P : Program) (gl : Nat → AV) (bid f : Nat) (h : Hint) (K : Res → Prop) (strict : Bool) (ts : List AV) : Prop :=
  match h with
  | .cc r => Pu P gl f ts r ∧ wopt (xpureR strict bid (some (r, .nil, 0))) K
  | .c sh => ∃ x, Pu P gl f ts (sh x) ∧ wopt (xpureR strict bid (some (sh x, .nil, 0))) K
  | .cb => ∃ u, Pu P gl f ts (.bool u) ∧ (u = true → K (.bool true, none)) ∧ (u = false → K (.bool false, none))
  | .h _ r bt => ∃ x, PuH P gl f ts [] (r x) (bt x) ∧ (match strict with
    | false => wopt (xpureR false bid (some (r x, hpOf 0 (bt x), (bt x).length))) K
    | true => wrow bid K (r x) (bt x))
  | _ => False
def wans (hp : Hp) (args : List AV) (K : Bool → List AV → Prop) : Prop :=
  match optL (tree (fun _ => none) false 12) args with
  | some ts => K false ts
  | none => treeWs (treeW hp 12) args (K true)
def wansD (hp : Hp) (args : List AV) (K : Bool → List AV → Prop) : Prop :=
  match optL (tree (fun _ => none) false 12) args with
  | some ts => K false ts
  | none => match optL (tree hp false 12) args with
    | some ts => K true ts
    | none => False
def wcall (P : Program) (gl : Nat → AV) (ch0 : CallH) (hp : Hp) (bid f : Nat) (args : List AV) (h : Option Hint) (K : Res → Prop) : Prop :=
  match h with
  | none => wopt (xpure ch0 hp bid f args) K
  | some h => wansD hp args (wcall1 P gl bid f h K)
open Classical in
noncomputable def once (f : Nat) (ts : List AV) (x : AV × Tr Box × Nat) : CallH := fun f' a' h' n' => if f' = f ∧ a' = ts ∧ h' = .nil ∧ n' = 0 then some x else none
def Ch0Ok (P : Program) (gl : Nat → AV) (ch : CallH) : Prop := ∀ f ts r hp' nx', ch f ts .nil 0 = some (r, hp', nx') → CallOk0 P gl f ts r hp' nx'
section
variable {P : Program} {gl : Nat → AV}
theorem once_ok {f : Nat} {ts : List AV} {r : AV} {hp' : Tr Box} {nx' : Nat} (h : CallOk0 P gl f ts r hp' nx') : Ch0Ok P gl (once f ts (r, hp', nx')) := by
  intro f' a' r' h2 n2 hk
  unfold once at hk
  split at hk
  · rename_i hc
    obtain ⟨rfl, rfl, _, _⟩ := hc
    cases hk; exact h
  · cases hk
theorem once_at {f : Nat} {ts : List AV} {x : AV × Tr Box × Nat} : once f ts x f ts .nil 0 = some x := by
  unfold once; rw [if_pos ⟨rfl, rfl, rfl, rfl⟩]
theorem wcall1_ok {bid f : Nat} {h : Hint} {K : Res → Prop} {strict : Bool} {ts : List AV} (hw : wcall1 P gl bid f h K strict ts) : ∃ ch x, Ch0Ok P gl ch ∧ xpureR strict bid (ch f ts .nil 0) = some x ∧ K x := by
  have opt : ∀ {o : Option Res}, wopt o K → ∃ x, o = some x ∧ K x := fun {o} ho => by
    unfold wopt at ho
    split at ho
    · exact ⟨_, rfl, ho⟩
    · cases ho
  unfold wcall1 at hw
  split at hw
  · rename_i r
    obtain ⟨x, hx, hK⟩ := opt hw.2
    exact ⟨once f ts (r, .nil, 0), x, once_ok hw.1.ok, by rw [once_at]; exact hx, hK⟩
  · rename_i sh
    obtain ⟨y, hp, hw⟩ := hw
    obtain ⟨x, hx, hK⟩ := opt hw
    exact ⟨once f ts (sh y, .nil, 0), x, once_ok hp.ok, by rw [once_at]; exact hx, hK⟩
  · obtain ⟨u, hp, h1, h2⟩ := hw
    refine ⟨once f ts (.bool u, .nil, 0), (.bool u, none), once_ok hp.ok, by rw [once_at]; rfl, ?_⟩
    cases u with
    | true => exact h1 rfl
    | false => exact h2 rfl
  · rename_i kb τ r bt
    obtain ⟨y, hp, hw⟩ := hw
    have go : ∃ x, xpureR strict bid (some (r y, hpOf 0 (bt y), (bt y).length)) = some x ∧ K x := by
      cases strict with
      | false => exact opt hw
      | true =>
        simp only [wrow] at hw
        split at hw
        · rename_i id ver sz len hr
          split at hw
          · rename_i v z xs hb
            split at hw
            · rename_i hc
              rw [Bool.and_eq_true, Bool.and_eq_true] at hc
              obtain rfl := Nat.eq_of_beq_eq_true hc.1
              rw [hr, hb]
              refine ⟨_, ?_, hw.2⟩
              have h0 : lkb (hpOf 0 [Box.own v z xs]) 0 = some (.own v z xs) := rfl
              simp only [xpureR, h0, hc.2.1, hc.2.2, hw.1]
              rfl
            · cases hw
          · cases hw
        · exact opt hw
    obtain ⟨x, hx, hK⟩ := go
    exact ⟨once f ts (r y, hpOf 0 (bt y), (bt y).length), x, once_ok hp.zero, by rw [once_at]; exact hx, hK⟩
  · cases hw
theorem wcall_ok {ch0 : CallH} (h0 : ch0.Ok P gl) {hp : Hp} {bid f : Nat} {args : List AV} {h : Option Hint} {K : Res → Prop} (hw : wcall P gl ch0 hp bid f args h K) : ∃ ch x, Ch0Ok P gl ch ∧ xpure ch hp bid f args = some x ∧ K x := by
  unfold wcall at hw
  split at hw
  · unfold wopt at hw
    split at hw
    · rename_i r hr
      exact ⟨ch0, r, fun _ _ _ _ _ hk => (h0 _ _ _ _ _ _ _ hk).zero, hr, hw⟩
    · cases hw
  · rename_i h
    unfold wansD at hw
    split at hw
    · rename_i ts hts
      obtain ⟨ch, x, h1, h2, h3⟩ := wcall1_ok hw
      exact ⟨ch, x, h1, by unfold xpure; rw [hts]; exact h2, h3⟩
    · rename_i hno
      split at hw
      · rename_i ts hts
        obtain ⟨ch, x, h1, h2, h3⟩ := wcall1_ok hw
        exact ⟨ch, x, h1, by unfold xpure; rw [hno]; simp only [hts]; exact h2, h3⟩
      · cases hw
end
def wo (P : Program) (gl : Nat → AV) (ch0 : CallH) (hs : Hints) (bid : Nat) (dst : Option Nat) (op : Op) (ev : Operand → AV) (hp : Hp) (K : Res → Prop) : Prop :=
  match isCall op with
  | true => match callee? ev op with
    | some (f, args) => wcall P gl ch0 hp bid f args (inner (lkH hs (keyOf dst op))) K
    | none => False
  | false => wask P bid dst op ev hp (inner (lkH hs (keyOf dst op))) K
def wstepD (P : Program) (gl : Nat → AV) (ch0 : CallH) (hs : Hints) (sd : Bool) (bid : Nat) (o : Oper) (gv : Option AV) (st : St) (K : St → Prop) : Prop :=
  match dstOk o.dst st.n && (lkb st.hp bid).isNone && Nat.blt bid st.nx with
  | true => match guardK o gv with
    | some true => match sd with
        | true => match xseed P bid o.op with
          | some r => K (st.eff o.dst r)
          | none => False
        | false => wo P gl ch0 hs bid o.dst o.op (st.ev gl) (lkb st.hp) (fun r => K (st.eff o.dst r))
    | some false => K (st.eff o.dst (.tup [], none))
    | none => False
  | false => False
def wrunD (P : Program) (gl : Nat → AV) (ch0 : CallH) (hs : Hints) (all : List Oper) (base : Nat) : List Nat → St → (St → Prop) → Prop
  | [], st, K => K st
  | i :: l, st, K => match all[i]? with
    | some o => wstepD P gl ch0 hs false (base + i) o (gval all o st) st (fun s => wrunD P gl ch0 hs all base l s K)
    | none => False
def wrunF (P : Program) (gl : Nat → AV) (ch0 : CallH) (hs : Hints) (all : List Oper) (base : Nat) : List Nat → FootT → St → (St → Prop) → Prop
  | [], _, st, K => K st
  | i :: l, F, st, K => match all[i]? with
    | some o => match footS all o (gval all o st) (st.ev gl) with
      | ft => match okF F all base i (hk o.op) ft with
        | true => wstepD P gl ch0 hs (seed all o) (base + i) o (gval all o st) st (fun s => wrunF P gl ch0 hs all base l (updT F (base + i) ft) s K)
        | false => False
    | none => False
def wrunR (P : Program) (gl : Nat → AV) (ch0 : CallH) (hs : Hints) (all : List Oper) (base : Nat) (n : Nat) (st : St) (K : St → Prop) : Prop :=
  match mdR all with
  | true => wrunF P gl ch0 hs all base (List.range n) (fun _ => none) st K
  | false => wrunD P gl ch0 hs all base (List.range n) st K
section
variable {P : Program} {gl : Nat → AV} {ch0 : CallH} {hs : Hints}
theorem wo_ok (h0 : ch0.Ok P gl) {bid : Nat} {dst : Option Nat} {op : Op} {ev : Operand → AV} {hp : Hp} {K : Res → Prop} (hw : wo P gl ch0 hs bid dst op ev hp K) :
    ∃ ch x, Ch0Ok P gl ch ∧ K x ∧ ∀ cb : CallB, cb bid = ch → xo P cb bid dst op ev hp = some x := by
  unfold wo at hw
  split at hw
  · rename_i hc
    split at hw
    · rename_i f args hf
      obtain ⟨ch, x, h1, h2, h3⟩ := wcall_ok h0 hw
      refine ⟨ch, x, h1, h3, fun cb he => ?_⟩
      unfold xo
      rw [if_pos hc, hf]
      simp only [he, h2]
    · cases hw
  · rename_i hc
    obtain ⟨x, h1, h2⟩ := wask_ok hw
    refine ⟨ch0, x, fun _ _ _ _ _ hk => (h0 _ _ _ _ _ _ _ hk).zero, h2, fun cb he => ?_⟩
    unfold xo
    rw [if_neg (by rw [hc]; simp)]
    exact h1
theorem footOk_self {F : FootT} {all : List Oper} {bid : Nat} {o : Oper} {gv : Option AV} {ev : Operand → AV} (hg : guardK o gv = some true) (h : F bid = footS all o gv ev) : footOk true F bid o ev = true := by
  have : footS all o gv ev = foot o.op ev := by
    unfold guardK at hg
    unfold footS
    cases ho : o.guard with
    | none => rfl
    | some x =>
      obtain ⟨j, want⟩ := x
      rw [ho] at hg
      cases gv with
      | none => cases hg
      | some v => simp only at hg ⊢; rw [hg]
  unfold footOk
  rw [h, this]
  cases hf : foot o.op ev with
  | none => rfl
  | some l => simp
theorem wstepD_ok (h0 : ch0.Ok P gl) {md : Bool} {F : FootT} {all : List Oper} {bid : Nat} {o : Oper} {st : St} {K : St → Prop} {sd : Bool} (hsd : sd = (md && seed all o)) (hF : md = true → F bid = footS all o (gval all o st) (st.ev gl)) (hw : wstepD P gl ch0 hs sd bid o (gval all o st) st K) :
    ∃ ch s, Ch0Ok P gl ch ∧ K s ∧ ∀ cb : CallB, cb bid = ch → xstepO P gl cb md F all bid o st = some s := by
  unfold wstepD at hw
  split at hw
  · rename_i hc
    split at hw
    · rename_i hg
      have hf : footOk md F bid o (st.ev gl) = true := by
        cases md with
        | false => rfl
        | true => exact footOk_self hg (hF rfl)
      split at hw
      · split at hw
        · rename_i r hr
          refine ⟨ch0, _, fun _ _ _ _ _ hk => (h0 _ _ _ _ _ _ _ hk).zero, hw, fun cb he => ?_⟩
          rw [xstepO_eq, xcore_guard, if_pos hc, hg]
          simp only [xoF, hf, ← hsd, hr]
        · cases hw
      · obtain ⟨ch, x, h1, h2, h3⟩ := wo_ok h0 hw
        refine ⟨ch, _, h1, h2, fun cb he => ?_⟩
        rw [xstepO_eq, xcore_guard, if_pos hc, hg]
        simp only [xoF, hf, ← hsd, h3 cb he]
    · rename_i hg
      refine ⟨ch0, _, fun _ _ _ _ _ hk => (h0 _ _ _ _ _ _ _ hk).zero, hw, fun cb he => ?_⟩
      rw [xstepO_eq, xcore_guard, if_pos hc, hg]
    · cases hw
  · cases hw
theorem cb_cons {ch : CallH} {cb : CallB} {i base : Nat} (h1 : Ch0Ok P gl ch) (h4 : cb.Ok P gl) : CallB.Ok P gl (fun b => if b = base + i then ch else cb b) := fun b f ts r hp' nx' hk => by
  dsimp only at hk
  split at hk
  · exact h1 _ _ _ _ _ hk
  · exact h4 _ _ _ _ _ _ hk
theorem wrunD_ok (h0 : ch0.Ok P gl) {F : FootT} {all : List Oper} {base : Nat} {K : St → Prop} : ∀ (l : List Nat) (st : St), l.Nodup → wrunD P gl ch0 hs all base l st K →
    ∃ (cb : CallB) (s : St), cb.Ok P gl ∧ K s ∧ ∀ cb' : CallB, (∀ i ∈ l, cb' (base + i) = cb (base + i)) → runI P gl cb' false F all base l st = some s
  | [], st, _, hw => ⟨fun _ => ch0, st, constB_ok h0, hw, fun _ _ => rfl⟩
  | i :: l, st, hn, hw => by
    simp only [wrunD] at hw
    split at hw
    · rename_i o ho
      obtain ⟨ch, s1, h1, h2, h3⟩ := wstepD_ok h0 (F := F) (md := false) rfl nofun hw
      obtain ⟨cb, s, h4, h5, h6⟩ := wrunD_ok h0 l s1 (List.nodup_cons.1 hn).2 h2
      refine ⟨fun b => if b = base + i then ch else cb b, s, cb_cons h1 h4, h5, fun cb' he => ?_⟩
      · simp only [runI, ho]
        rw [h3 cb' (by rw [he i List.mem_cons_self]; simp)]
        refine h6 cb' fun j hj => ?_
        rw [he j (List.mem_cons_of_mem _ hj)]
        have : j ≠ i := fun e => (List.nodup_cons.1 hn).1 (e ▸ hj)
        show (if base + j = base + i then ch else cb (base + j)) = _
        rw [if_neg (by omega)]
    · cases hw
theorem wrunF_ok (h0 : ch0.Ok P gl) {all : List Oper} {base : Nat} {K : St → Prop} : ∀ (n k : Nat) (F : FootT) (st : St), wrunF P gl ch0 hs all base (List.range' k n) F st K →
    ∃ (cb : CallB) (G : FootT) (s : St), cb.Ok P gl ∧ K s ∧ (∀ j, j < k → G (base + j) = F (base + j)) ∧ (∀ cb' : CallB, (∀ i ∈ List.range' k n, cb' (base + i) = cb (base + i)) → runI P gl cb' true G all base (List.range' k n) st = some s) ∧
      ∀ i j o p, i < j → k ≤ j → j < k + n → all[i]? = some o → all[j]? = some p → hkCl (hk o.op) (hk p.op) = true → disjF (G (base + i)) (G (base + j)) = true ∨ ((masks all []).getD j 0).testBit i = true
  | 0, k, F, st, hw => ⟨fun _ => ch0, F, st, constB_ok h0, hw, fun _ _ => rfl, fun _ _ => rfl, fun i j o p h1 h2 h3 => by omega⟩
  | n + 1, k, F, st, hw => by
    simp only [List.range'_succ, wrunF] at hw
    split at hw
    · rename_i o ho
      split at hw
      · rename_i hok
        obtain ⟨ch, s1, h1, h2, h3⟩ := wstepD_ok h0 (F := updT F (base + k) (footS all o (gval all o st) (st.ev gl))) (md := true) (all := all) (by simp) (fun _ => updT_eq) hw
        obtain ⟨cb, G, s, h4, h5, h6, h7, h8⟩ := wrunF_ok h0 n (k + 1) _ s1 h2
        have hk : G (base + k) = footS all o (gval all o st) (st.ev gl) := by rw [h6 k (by omega), updT_eq]
        have hlo : ∀ j, j < k → G (base + j) = F (base + j) := fun j hj => by rw [h6 j (by omega), updT_ne (by omega)]
        refine ⟨fun b => if b = base + k then ch else cb b, G, s, cb_cons h1 h4, h5, hlo, fun cb' he => ?_, fun i j o' p h9 h10 h11 ho' hp hc => ?_⟩
        · simp only [List.range'_succ, runI, ho]
          rw [xstepO_F (G := updT F (base + k) (footS all o (gval all o st) (st.ev gl))) (by rw [hk, updT_eq]), h3 cb' (by rw [he k (by simp [List.range'_succ])]; simp)]
          refine h7 cb' fun j hj => ?_
          rw [he j (by rw [List.range'_succ]; exact List.mem_cons_of_mem _ hj)]
          have : j ≠ k := by have := (List.mem_range'_1.1 hj).1; omega
          show (if base + j = base + k then ch else cb (base + j)) = _
          rw [if_neg (by omega)]
        · by_cases e : j = k
          · subst e
            rw [ho] at hp; cases hp
            exact okF_spec hok hlo hk i o' h9 ho' hc
          · exact h8 i j o' p h9 (by omega) (by omega) ho' hp hc
      · cases hw
    · cases hw
theorem wrunR_ok (h0 : ch0.Ok P gl) {all : List Oper} {base n : Nat} {st : St} {K : St → Prop} (hw : wrunR P gl ch0 hs all base n st K) :
    ∃ (cb : CallB) (F : FootT) (s : St), cb.Ok P gl ∧ K s ∧ runI P gl cb (mdR all) F all base (List.range n) st = some s ∧ (mdR all = true → PairF F all base n) := by
  unfold wrunR at hw
  split at hw
  · rename_i hm
    rw [List.range_eq_range'] at hw ⊢
    obtain ⟨cb, G, s, h4, h5, h6, h7, h8⟩ := wrunF_ok h0 n 0 _ st hw
    exact ⟨cb, G, s, h4, h5, by rw [hm]; exact h7 cb fun _ _ => rfl, fun _ i j o p h1 h2 => h8 i j o p h1 (Nat.zero_le _) (by omega)⟩
  · rename_i hm
    obtain ⟨cb, s, h4, h5, h6⟩ := wrunD_ok h0 (F := fun _ => none) _ _ List.nodup_range hw
    exact ⟨cb, _, s, h4, h5, by rw [hm]; exact h6 cb fun _ _ => rfl, fun e => by rw [hm] at e; cases e⟩
end
abbrev WF := Nat → Hints → List AV → Tr Box → Nat → (AV → Tr Box → Nat → Prop) → Prop
def CallW (P : Program) (gl : Nat → AV) (f : FuncId) (args : List AV) (hp : Tr Box) (nx : Nat) (K : AV → Tr Box → Nat → Prop) : Prop :=
  ∀ (m : Nat → Lc) (H : HV) (B : Nat → Prop) (H0 : HV) (rest : List (AV × Value)) (w : World) (vs : Array Value), RelH m H B H0 gl (lkb hp) nx w → args.length = vs.size →
    (∀ (j : Nat) (x : AV) (v : Value), args[j]? = some x → vs[j]? = some v → RV H (envOf (lkb hp) m) x v) → (∀ p ∈ rest, RV H (envOf (lkb hp) m) p.1 p.2) →
    Ans P f vs w fun e w' => ∃ v m' H' r hp' nx', K r hp' nx' ∧ e = .returned v ∧ BelowS B w w' ∧ RelH m' H' B H0 gl (lkb hp') nx' w' ∧ RV H' (envOf (lkb hp') m') r v ∧ ∀ p ∈ rest, RV H' (envOf (lkb hp') m') p.1 p.2
def WF.Ok (P : Program) (gl : Nat → AV) (wf : WF) : Prop := ∀ f hs args hp nx K, wf f hs args hp nx K → CallW P gl f args hp nx K
def wcallP (P : Program) (gl : Nat → AV) (bid f : Nat) (h : Hint) (K : Res → Prop) (strict : Bool) (ts : List AV) : Prop :=
  match strict with
  | true => wcall1 P gl bid f h K true ts
  | false => match h with
    | .cc r => Pu P gl f ts r ∧ K (r, none)
    | .c sh => ∃ x, Pu P gl f ts (sh x) ∧ K (sh x, none)
    | .cb => ∃ u, Pu P gl f ts (.bool u) ∧ (u = true → K (.bool true, none)) ∧ (u = false → K (.bool false, none))
    | _ => False
def wseqC (P : Program) (gl : Nat → AV) (ch0 : CallH) (wf : WF) (o : Oper) (st : St) (K : St → Prop) (f : Nat) (args : List AV) (h : Option Hint) : Prop :=
  match h with
  | none => match ch0 f args st.hp st.nx with
    | some (r, hp', nx') => K ((st.setHp hp' nx').putO o.dst r)
    | none => False
  | some h => match h with
    | .i sub => wf f sub args st.hp st.nx (fun r hp' nx' => K ((st.setHp hp' nx').putO o.dst r))
    | .h kb r bs => wgive kb args st.hp st.nx (fun args1 bs1 ids sc => ∃ x, PuH P gl f args1 bs1 (r x) (bs x) ∧ wback ids sc (bs x) (r x) (fun rr hp' nx' => K ((st.setHp hp' nx').putO o.dst rr)))
    | .hb kb bs => wgive kb args st.hp st.nx (fun args1 bs1 ids sc => ∃ x u, PuH P gl f args1 bs1 (.bool u) (bs x) ∧ (u = true → wback ids sc (bs x) (.bool true) (fun rr hp' nx' => K ((st.setHp hp' nx').putO o.dst rr))) ∧ (u = false → wback ids sc (bs x) (.bool false) (fun rr hp' nx' => K ((st.setHp hp' nx').putO o.dst rr))))
    | h => wans (lkb st.hp) args (wcallP P gl st.nx f h (fun r => K ((st.bump 1).eff o.dst r)))
def wown (P : Program) (dst : Option Nat) (op : Op) (ev : Operand → AV) (st : St) (K : St → Prop) : Prop :=
  match op with
  | .call c => match c.callee with
    | .builtin .append => match c.argTypes.toList, c.args.toList.map ev with
      | [t, t'], [s, x] => match elG P t with
        | some (sz, by_, _) => match isNil s && Nat.beq t' t with
          | true => wels sz x (lkb st.hp) (fun ys => (ys.length * by_ ≤ 140737488355328 ∧ ys.length ≤ 9223372036854775807) ∧ K (St.eff ⟨st.n, st.sl, pt st.hp st.nx (.own 0 sz []), st.nx + 1⟩ dst (.ow st.nx 4096 sz ys.length, some (st.nx, .own 4096 sz ys))))
          | false => False
        | none => False
      | _, _ => False
    | _ => False
  | _ => False
def wnil (P : Program) (dst : Option Nat) (op : Op) (ev : Operand → AV) (st : St) (K : St → Prop) : Prop :=
  match op with
  | .binOp o t x y _ => match ev x with
    | .sl _ xs => match ev y with
      | .nil => match isSlT P t with
        | true => match o with
          | .eql => (xs = [] → K (st.putO dst (.bool true))) ∧ K (st.putO dst (.bool false))
          | .neq => (xs = [] → K (st.putO dst (.bool false))) ∧ K (st.putO dst (.bool true))
          | _ => False
        | false => False
      | _ => False
    | _ => False
  | _ => False
def wseqO1 (P : Program) (gl : Nat → AV) (ch0 : CallH) (wf : WF) (o : Oper) (st : St) (K : St → Prop) (h : Option Hint) : Prop :=
  match isCall o.op with
  | true => match callee? (st.ev gl) o.op with
    | some (f, args) => wseqC P gl ch0 wf o st K f args h
    | none => False
  | false => match h with
    | some .o => wown P o.dst o.op (st.ev gl) st K
    | some .nn => wnil P o.dst o.op (st.ev gl) st K
    | h => wask P st.nx o.dst o.op (st.ev gl) (lkb st.hp) h (fun r => match r with
      | (v, some b) => K ((st.bump 1).eff o.dst (v, some b))
      | (v, none) => K (st.putO o.dst v))
def wseqN (P : Program) (gl : Nat → AV) (ch0 : CallH) (wf : WF) (o : Oper) (st : St) (K : St → Prop) (h : Option Hint) : Prop :=
  match h with
  | some (.n sh s h) => wseqO1 P gl ch0 wf o st (fun st => wnrm sh s st K) h
  | h => wseqO1 P gl ch0 wf o st K h
def wseqO (P : Program) (gl : Nat → AV) (ch0 : CallH) (wf : WF) (hs : Hints) (o : Oper) (st : St) (K : St → Prop) : Prop :=
  match lkH hs (keyOf o.dst o.op) with
  | some (.z kb h) => ghosts kb st (fun s => wseqN P gl ch0 wf o s K h)
  | some (.fl sh s h) => wfill sh s st (fun s => wseqN P gl ch0 wf o s K h)
  | h => wseqN P gl ch0 wf o st K h
def wseq (P : Program) (gl : Nat → AV) (ch0 : CallH) (wf : WF) (hs : Hints) (all : List Oper) : List Oper → St → (St → Prop) → Prop
  | [], st, K => K st
  | o :: l, st, K => match dstOk o.dst st.n with
    | true => match guardK o (gval all o st) with
      | some true => wseqO P gl ch0 wf hs o st (fun s => wseq P gl ch0 wf hs all l s K)
      | some false => wseq P gl ch0 wf hs all l (st.putO o.dst (.tup [])) K
      | none => False
    | false => False
def StepW (P : Program) (r : Option Nat) (n : Nat) (B : Nat → Prop) (H0 : HV) (gl : Nat → AV) (rest : List (AV × Value)) (a : Act) (w : World) (o : Oper) (K : St → Prop) : Prop :=
  ∀ (next : Act → World → Prop) (Q : Exit → Act → World → Prop),
    (∀ a' w' m' H' st', K st' → a'.defers = a.defers → BelowS B w w' → RelS m' H' B H0 gl rest st' a'.tmps w' → next a' w') → o.wpIn (FW r) n P a w next Q
section
variable {P : Program} {gl : Nat → AV} {ch0 : CallH} {hs : Hints} {wf : WF} {m : Nat → Lc} {H : HV} {B : Nat → Prop} {H0 : HV} {rest : List (AV × Value)} {st : St} {a : Act} {w : World}
theorem StepOk.toW {ro : Option Nat} {n : Nat} {o : Oper} {st' : St} {K : St → Prop} (h : StepOk P ro n B H0 gl rest a w o st') (hk : K st') : StepW P ro n B H0 gl rest a w o K :=
  fun next Q hn => h next Q fun a' w' m' H' hd hb hr => hn a' w' m' H' st' hk hd hb hr
theorem step_of_callsW (h : RelS m H B H0 gl rest st a.tmps w) {o : Oper} {f : Nat} {args : List AV} (hc : callee? (st.ev gl) o.op = some (f, args)) {K : St → Prop} (ro : Option Nat) (n : Nat)
    (hcalls : ∀ vs : Array Value, args.length = vs.size → (∀ (j : Nat) (x : AV) (v : Value), args[j]? = some x → vs[j]? = some v → RV H (st.env m) x v) →
      Ans P f vs w fun e w' => ∃ st' v m' H', K st' ∧ e = .returned v ∧ BelowS B w w' ∧ RelS m' H' B H0 gl rest st' (a.put o.dst v).tmps w') : StepW P ro n B H0 gl rest a w o K := by
  intro next Q hn
  obtain ⟨vs, hrun, hl, hr⟩ := call_run h hc
  obtain ⟨c, x, caps, ho, _⟩ := callee_inv hc
  refine ⟨fun _ _ => trivial, ?_⟩
  rw [Oper.semAt_eq _ _ _ (fun c e => by rw [ho] at e; cases e), hrun]
  rcases hcalls vs hl hr with ⟨hent, hcs⟩ | ⟨v, w', hv, hq⟩
  · rw [hent vs w]
    refine ⟨(fun hh => by simp [FW] at hh), callsIn_FW (hcs.mono fun e w' hp => ?_)⟩
    obtain ⟨st', v, m', H', hk, rfl, hb, hrel⟩ := hp
    exact hn _ _ _ _ _ hk (put_defers' _ _ _) hb hrel
  · rw [hv]
    obtain ⟨st', v', m', H', hk, he, hb, hrel⟩ := hq
    cases he
    exact hn _ _ _ _ _ hk (put_defers' _ _ _) hb hrel
theorem wels_hp {sz : Nat} {x : AV} {hp : Hp} {K : List AV → Prop} (h : wels sz x hp K) : ∃ ys, xels sz x hp = some ys ∧ K ys := wels_ok h
theorem wown_ok (h : RelS m H B H0 gl rest st a.tmps w) {o : Oper} (hd : dstOk o.dst st.n = true) {K : St → Prop} (hw : wown P o.dst o.op (st.ev gl) st K) : ∃ st', K st' ∧ OpOk P B H0 gl rest a w o.dst st' (execOp a.eval o) ∧ ∀ c, o.op ≠ .defer c := by
  unfold wown at hw
  split at hw
  · rename_i c ho
    split at hw
    · rename_i hb
      split at hw
      · rename_i t t' s x ht hx
        split at hw
        · rename_i sz by_ zs hel
          split at hw
          · rename_i hc
            rw [Bool.and_eq_true] at hc
            obtain rfl := Nat.eq_of_beq_eq_true hc.2
            obtain ⟨ys, hys, ⟨h1, h2⟩, hK⟩ := wels_ok hw
            refine ⟨_, hK, ?_, fun c' e => by rw [ho] at e; cases e⟩
            obtain ⟨e, i, z, hte, hi, hz, hzs, hpos, hsize, hby, hok, rfl⟩ := elG_inv hel
            obtain ⟨callee, args, argTypes⟩ := c
            dsimp only at hb
            subst hb
            obtain ⟨y, z, rfl, rfl, rfl⟩ := two_args hx
            obtain rfl := two_types ht
            obtain ⟨hN, hE⟩ := h.newOwn sz hpos
            obtain ⟨ad, had⟩ := isNil_inv (h.ev y) hc.1
            have hs : RV H (envOf (lkb (pt st.hp st.nx (.own 0 sz []))) (updF m st.nx ⟨0, 0, 0⟩)) (.ow st.nx 0 sz 0) (a.eval y) := by rw [had]; exact ow_new
            have hxv := (h.ev z).mono (.refl _) hE
            have hfr := h.heap.fresh st.nx (Nat.le_refl _)
            have hid : lkb (pt st.hp st.nx (.own 0 sz [])) st.nx = some (.own 0 sz []) := by rw [lkb_pt, updF_same]
            have hys' : xels sz (st.ev gl z) (lkb (pt st.hp st.nx (.own 0 sz []))) = some ys := by
              revert hys
              unfold xels
              split
              · exact id
              · rename_i id _ _ _ _ _
                intro hys
                split at hys
                · rename_i v cs hid2
                  have hne : id ≠ st.nx := fun e => by subst e; rw [hfr] at hid2; cases hid2
                  rw [lkb_pt, updF_ne _ _ hne, hid2]; exact hys
                · cases hys
              · rename_i id _ _ _ _
                intro hys
                split at hys
                · rename_i v z' xs hid2
                  have hne : id ≠ st.nx := fun e => by subst e; rw [hfr] at hid2; cases hid2
                  rw [lkb_pt, updF_ne _ _ hne, hid2]; exact hys
                · cases hys
              · exact id
              · exact id
              · exact id
            have hk : xappO P t' t' (.ow st.nx 0 sz 0) (st.ev gl z) (lkb (pt st.hp st.nx (.own 0 sz []))) = some (.ow st.nx 4096 sz ys.length, some (st.nx, .own 4096 sz ys)) := by
              simp only [xappO, hel, hid, hys', Nat.beq_refl]
              simp [h1, h2]
            have hop := xappO_ok (ty := o.type) (P := P) (st := ⟨st.n, st.sl, pt st.hp st.nx (.own 0 sz []), st.nx + 1⟩) hN hd hs hxv hk
            unfold execOp
            simp only [ho, resolve]
            simpa only [List.map_toArray, List.map_cons, List.map_nil, invoke, builtin, pure_bind] using hop
          · cases hw
        · cases hw
      · cases hw
    · cases hw
  · cases hw
theorem nilS_run (d : Nat) {t : TypeId} {sz : Nat} {xs : List AV} {u : Value} (hx : RelI H (.sl sz xs) u) (ht : isSlT P t = true) : ∃ b, (b = true → xs = []) ∧ (∃ a n c, u = .slice a n c) ∧ (Op.equalIn (d + 1) t u (.slice none 0 0)).run P w = .ok b w := by
  unfold isSlT at ht
  split at ht <;> first | cases ht | skip
  rename_i e he
  cases hx with
  | sl0 _ a cap _ => exact ⟨a.isNone, fun _ => rfl, ⟨_, _, _, rfl⟩, by cases a <;> simp [Op.equalIn, run_underlying he]⟩
  | sl => exact ⟨false, (fun e => by cases e), ⟨_, _, _, rfl⟩, by simp [Op.equalIn, run_underlying he]⟩
theorem wnil_ok (h : RelS m H B H0 gl rest st a.tmps w) {o : Oper} (hd : dstOk o.dst st.n = true) {K : St → Prop} (hw : wnil P o.dst o.op (st.ev gl) st K) : ∃ st', K st' ∧ OpOk P B H0 gl rest a w o.dst st' (execOp a.eval o) ∧ ∀ c, o.op ≠ .defer c := by
  unfold wnil at hw
  split at hw
  · rename_i op t x y p ho
    split at hw
    · rename_i sz xs hx
      split at hw
      · rename_i hy
        split at hw
        · rename_i ht
          have hxv := h.ev x
          rw [hx] at hxv
          have hyv := h.ev y
          rw [hy] at hyv
          have hye := hyv.nil_inv
          obtain ⟨b, hb, ⟨ad, n, c, hu⟩, he⟩ := nilS_run (P := P) (w := w) 9999 hxv.sl_inv ht
          have hg : ∀ op, (eqGuard op t x y (a.eval x) (a.eval y)).run P w = .ok () w := fun op => by rw [hu, hye]; cases op <;> rfl
          have hnd : ∀ c, o.op ≠ .defer c := fun c e => by rw [ho] at e; cases e
          split at hw
          · obtain ⟨r, h5, h6⟩ := xeqOp_ok (P := P) (w := w) (t := t) (op := .eql) (u := .slice ad n c) (v := .slice none 0 0) (b := b) (av := .bool b) rfl (by rw [← hu]; exact he) (fun _ => rfl) (fun e => by cases e)
            refine ⟨st.putO o.dst (.bool b), ?_, ?_, hnd⟩
            · cases b with
              | true => exact hw.1 (hb rfl)
              | false => exact hw.2
            · unfold execOp
              simp only [ho]
              exact OpOk.val h hd (v := r) (by rw [hu, hye] at hg ⊢; simp [hg, h5]) (.imm _ _ (h6 _))
          · obtain ⟨r, h5, h6⟩ := xeqOp_ok (P := P) (w := w) (t := t) (op := .neq) (u := .slice ad n c) (v := .slice none 0 0) (b := b) (av := .bool (!b)) rfl (by rw [← hu]; exact he) (fun e => by cases e) (fun _ => rfl)
            refine ⟨st.putO o.dst (.bool (!b)), ?_, ?_, hnd⟩
            · cases b with
              | true => exact hw.1 (hb rfl)
              | false => exact hw.2
            · unfold execOp
              simp only [ho]
              exact OpOk.val h hd (v := r) (by rw [hu, hye] at hg ⊢; simp [hg, h5]) (.imm _ _ (h6 _))
          · cases hw
        · cases hw
      · cases hw
    · cases hw
  · cases hw
theorem StepW.of {ro : Option Nat} {n : Nat} {o : Oper} {K : St → Prop} {st' : St} (h : OpOk P B H0 gl rest a w o.dst st' (execOp a.eval o)) (hnd : ∀ c, o.op ≠ .defer c) (hk : K st') : StepW P ro n B H0 gl rest a w o K := StepOk.toW (h.step hnd) hk
theorem callees {o : Oper} {f : Nat} {args : List AV} (h : RelS m H B H0 gl rest st a.tmps w) (hd : dstOk o.dst st.n = true) {K : St → Prop} {hh : Hint} {vs : Array Value} (hl : args.length = vs.size) (hv : ∀ (j : Nat) (x : AV) (v : Value), args[j]? = some x → vs[j]? = some v → RV H (st.env m) x v)
    (hw : wans (lkb st.hp) args (wcallP P gl st.nx f hh (fun r => K ((st.bump 1).eff o.dst r)))) : Ans P f vs w fun e w' => ∃ st' v m' H', K st' ∧ e = .returned v ∧ BelowS B w w' ∧ RelS m' H' B H0 gl rest st' (a.put o.dst v).tmps w' := by
  have hbump : ∀ r : AV, (st.bump 1).eff o.dst (r, none) = (st.bump 1).putO o.dst r := fun _ => rfl
  have strict : ∀ ts : List AV, ts.length = args.length → (∀ (j : Nat) (t : AV) (v : Value), ts[j]? = some t → vs[j]? = some v → RelI (snap H (lkb st.hp) m w) t v) → wcall1 P gl st.nx f hh (fun r => K ((st.bump 1).eff o.dst r)) true ts →
      Ans P f vs w fun e w' => ∃ st' v m' H', K st' ∧ e = .returned v ∧ BelowS B w w' ∧ RelS m' H' B H0 gl rest st' (a.put o.dst v).tmps w' := fun ts hlen hts hw1 => by
    obtain ⟨ch, x, h1, h2, h3⟩ := wcall1_ok hw1
    refine (xpure_main (st := st.bump 1) h1 (h.bump 1) hd (h.heap.fresh _ (Nat.le_refl _)) (Nat.lt_succ_self _) true (lkb st.hp) ts (fun _ _ hh => hh) (fun e => by cases e) (by rw [hlen]; exact hl) hts h2).mono fun e w' hpost => ?_
    obtain ⟨v, m', H', rfl, hb, hr⟩ := hpost
    exact ⟨_, v, m', H', h3, rfl, hb, hr⟩
  unfold wans at hw
  split at hw
  · rename_i ts hts
    obtain ⟨hl', hr'⟩ := optL_rel (R' := RelI (snap H (fun _ => none) m w)) hl hv hts fun x t v hx ht => tree_ok (H1 := H) false (fun id ver cs hh => by cases hh) (fun id ver cs hh => by cases hh) (fun id bx hh => by cases hh) (fun _ => rfl) 12 x t v hx ht
    have hsn : snap H (fun _ => none) m w = H := by
      funext b o; unfold snap; rw [if_neg]; rintro ⟨_, _, _, e, _⟩; cases e
    rw [hsn] at hr'
    have fin : ∀ r, Pu P gl f ts r → K ((st.bump 1).putO o.dst r) → Ans P f vs w fun e w' => ∃ st' v m' H', K st' ∧ e = .returned v ∧ BelowS B w w' ∧ RelS m' H' B H0 gl rest st' (a.put o.dst v).tmps w' := fun r hp hK => by
      refine (callP_ok (h.bump 1) hd hl' hr' hp).mono fun e w' hpost => ?_
      obtain ⟨v, m', H', rfl, hb, hr⟩ := hpost
      exact ⟨_, v, m', H', hK, rfl, hb, hr⟩
    simp only [wcallP] at hw
    split at hw
    · exact fin _ hw.1 hw.2
    · obtain ⟨x, hp, hK⟩ := hw
      exact fin _ hp hK
    · obtain ⟨u, hp, h1, h2⟩ := hw
      cases u with
      | true => exact fin _ hp (h1 rfl)
      | false => exact fin _ hp (h2 rfl)
    · cases hw
  · obtain ⟨ts, hw1, hlen, hts⟩ := treeWs_ok (R := RV H (st.env m)) (R' := RelI (snap H (lkb st.hp) m w)) (fun x u K hx hk => treeW_ok (fun id b hid => h.heap.box id b hid) (fun id bx hid hr => (h.heap.sepR id bx hid hr).2.2) 12 x u K hx hk) args vs.toList _ (by simp [hl]) (fun j c u hc hu => hv j c u hc (by simpa using hu)) hw
    exact strict ts hlen (fun j t v ht hv' => hts j t v ht (by simpa using hv')) hw1
theorem wseqO1_ok (h0 : ch0.Ok P gl) (hwf : WF.Ok P gl wf) (h : RelS m H B H0 gl rest st a.tmps w) {o : Oper} (hd : dstOk o.dst st.n = true) {K : St → Prop} {hh : Option Hint} (hw : wseqO1 P gl ch0 wf o st K hh) (ro : Option Nat) (n : Nat) : StepW P ro n B H0 gl rest a w o K := by
  unfold wseqO1 at hw
  split at hw
  · rename_i hc
    split at hw
    · rename_i f args hf
      unfold wseqC at hw
      split at hw
      · split at hw
        · rename_i r hp' nx' hr
          refine StepOk.toW (inl_ok (ch := ch0) (rd := noRound) h0 noRound_ok h hd (st' := (st.setHp hp' nx').putO o.dst r) ?_ ro n) hw
          unfold xinl
          rw [hf]; simp only [hr]
        · cases hw
      · rename_i hh
        split at hw
        · rename_i sub
          refine step_of_callsW h hf ro n fun vs hl hv => ?_
          refine (hwf _ _ _ _ _ _ hw m H B H0 _ w vs h.heap hl hv h.hold).mono fun e w' hpost => ?_
          obtain ⟨v, m', H', r, hp', nx', hk, rfl, hb, hh, hrv, hrest⟩ := hpost
          exact ⟨_, v, m', H', hk, rfl, hb, h.taken hd hh hrv hrest⟩
        · rename_i kb r bs
          refine step_of_callsW h hf ro n fun vs hl hv => callH_ok h hd hl hv (fun args1 bs1 ids sc hq => ?_) hw
          obtain ⟨x, h1, h2⟩ := hq
          exact ⟨_, _, h1, h2⟩
        · rename_i kb bs
          refine step_of_callsW h hf ro n fun vs hl hv => callH_ok h hd hl hv (fun args1 bs1 ids sc hq => ?_) hw
          obtain ⟨x, u, h1, h2, h3⟩ := hq
          cases u with
          | true => exact ⟨_, _, h1, h2 rfl⟩
          | false => exact ⟨_, _, h1, h3 rfl⟩
        · exact step_of_callsW h hf ro n fun vs hl hv => callees h hd hl hv hw
    · cases hw
  · rename_i hc
    split at hw
    · obtain ⟨st', hK, hop, hnd⟩ := wown_ok h hd hw
      exact StepW.of hop hnd hK
    · obtain ⟨st', hK, hop, hnd⟩ := wnil_ok h hd hw
      exact StepW.of hop hnd hK
    · obtain ⟨r, h1, h2⟩ := wask_ok hw
      obtain ⟨v, b⟩ := r
      have hch : CallH.Ok P gl (fun _ _ _ _ => none) := fun _ _ _ _ _ _ _ hk => by cases hk
      cases b with
      | some b =>
        refine StepOk.toW (xseqO_ok (ch := fun _ _ _ _ => none) (rd := noRound) hch noRound_ok h hd (st' := (st.bump 1).eff o.dst (v, some b)) ?_ ro n) h2
        unfold xseqO
        rw [if_neg (by rw [hc]; simp), h1]
      | none =>
        refine StepOk.toW (xseqO_ok (ch := fun _ _ _ _ => none) (rd := noRound) hch noRound_ok h hd (st' := st.putO o.dst v) ?_ ro n) h2
        unfold xseqO
        rw [if_neg (by rw [hc]; simp), h1]
theorem wseqN_ok (h0 : ch0.Ok P gl) (hwf : WF.Ok P gl wf) (h : RelS m H B H0 gl rest st a.tmps w) {o : Oper} (hd : dstOk o.dst st.n = true) {K : St → Prop} {hh : Option Hint} (hw : wseqN P gl ch0 wf o st K hh) (ro : Option Nat) (n : Nat) : StepW P ro n B H0 gl rest a w o K := by
  unfold wseqN at hw
  split at hw
  · rename_i sh s hh
    exact fun next Q hn => wseqO1_ok h0 hwf h hd hw ro n next Q fun a' w' m' H' st' hk hdf hb hr => by
      obtain ⟨st2, h2, e2⟩ := wnrm_ok (gl := gl) hk
      exact hn a' w' m' H' st2 h2 hdf hb (e2.rel _ _ _ _ _ _ _ hr)
  · exact wseqO1_ok h0 hwf h hd hw ro n
theorem wseqO_ok (h0 : ch0.Ok P gl) (hwf : WF.Ok P gl wf) (h : RelS m H B H0 gl rest st a.tmps w) {o : Oper} (hd : dstOk o.dst st.n = true) {K : St → Prop} (hw : wseqO P gl ch0 wf hs o st K) (ro : Option Nat) (n : Nat) : StepW P ro n B H0 gl rest a w o K := by
  unfold wseqO at hw
  split at hw
  · rename_i kb hh _
    obtain ⟨s, hconv, hw⟩ := ghosts_ok (gl := gl) hw
    obtain ⟨m1, H1, hr⟩ := hconv.2 _ _ _ _ _ _ _ h
    exact wseqN_ok h0 hwf hr (by rw [hconv.1]; exact hd) hw ro n
  · rename_i sh s hh _
    obtain ⟨s, hconv, hw⟩ := wfill_ok (gl := gl) hw
    obtain ⟨m1, H1, hr⟩ := hconv.2 _ _ _ _ _ _ _ h
    exact wseqN_ok h0 hwf hr (by rw [hconv.1]; exact hd) hw ro n
  · exact wseqN_ok h0 hwf h hd hw ro n
theorem wanted_of_guardK {all : List Oper} {o : Oper} {b : Bool} (h : RelS m H B H0 gl rest st a.tmps w) (hg : guardK o (gval all o st) = some b) : Region.wanted o (yielded all.toArray a.tmps) = b := by
  unfold guardK gval at hg
  cases ho : o.guard with
  | none => rw [ho] at hg; cases hg; simp [Region.wanted, ho]
  | some x =>
    obtain ⟨j, want⟩ := x
    rw [ho] at hg
    simp only at hg
    cases hgs : gslot all j with
    | none => rw [hgs] at hg; cases hg
    | some g =>
      rw [hgs] at hg
      exact wanted_of ho hgs hg (h.slot g)
theorem wtail_ok (h0 : ch0.Ok P gl) (hwf : WF.Ok P gl wf) {all : List Oper} (hok : drawOk all = true) {nf : Nat} (hbit : ∀ i, nf ≤ i → i < all.length → ∀ j, j < i → ((masks all []).getD i 0).testBit j = true) {ro : Option Nat} {n : Nat} {d0 : List Deferred} {w0 : World} {K : St → Prop} {Q : Exit → Act → World → Prop}
    (hQ : ∀ (sF : St) (a : Act) (w : World) (m : Nat → Lc) (H : HV), K sF → a.defers = d0 → BelowS B w0 w → RelS m H B H0 gl rest sF a.tmps w → Q .normal a w) :
    ∀ (d k : Nat) (listed : Array Bool) (st : St) (a : Act) (w : World) (m : Nat → Lc) (H : HV), nf ≤ k → k + d = all.length → listed.size = all.length → (∀ j, j < k → listed.getD j false = true) → (∀ j, k ≤ j → listed.getD j false = false) → wseq P gl ch0 wf hs all (all.drop k) st K → a.defers = d0 → BelowS B w0 w → RelS m H B H0 gl rest st a.tmps w → wpAnyIn (FW ro) n P .any all.toArray Q d listed a w
  | 0, k, listed, st, a, w, m, H, _, hkd, hs', h1, _, hk, hd, hb, hr => by
    rw [List.drop_eq_nil_of_le (by omega)] at hk
    exact ⟨ready_nil hs' fun j hj => h1 j (by omega), hQ st a w m H hk hd hb hr⟩
  | d + 1, k, listed, st, a, w, m, H, hnk, hkd, hs', h1, h2, hk, hd, hb, hr => by
    have hkl : k < all.length := by omega
    obtain ⟨o, ho⟩ : ∃ o, all[k]? = some o := ⟨all[k], List.getElem?_eq_getElem hkl⟩
    have hdrop : all.drop k = o :: all.drop (k + 1) := by
      rw [List.drop_eq_getElem_cons hkl]
      rw [List.getElem?_eq_getElem hkl] at ho; cases ho; rfl
    rw [hdrop] at hk
    have ih := wtail_ok h0 hwf hok hbit (ro := ro) (n := n) hQ d (k + 1) (listed.setIfInBounds k true)
    have hset : ∀ j, j < k + 1 → (listed.setIfInBounds k true).getD j false = true := fun j hj => by
      by_cases e : j = k
      · subst e; simp [Array.getD_eq_getD_getElem?, show j < listed.size by omega]
      · rw [getD_set_ne false (Ne.symm e)]; exact h1 j (by omega)
    have hset2 : ∀ j, k + 1 ≤ j → (listed.setIfInBounds k true).getD j false = false := fun j hj => by
      rw [getD_set_ne false (by omega)]; exact h2 j (by omega)
    refine ⟨fun hready => ?_, fun i hi => ?_⟩
    · exfalso
      have : k ∈ Region.ready .any all.toArray listed := by
        rw [mem_ready]
        exact ⟨by rw [getD_def true (by omega)]; exact h2 k (Nat.le_refl _), o, by rw [List.getElem?_toArray]; exact ho, fun e he hbd => h1 e.on ((drawOk_spec hok _ o ho).before e he hbd)⟩
      rw [hready] at this; cases this
    · rw [mem_ready] at hi
      obtain ⟨hi0, o', ho', hpre⟩ := hi
      rw [List.getElem?_toArray] at ho'
      have hil : i < all.length := (List.getElem?_eq_some_iff.1 ho').1
      rw [getD_def true (by omega)] at hi0
      have hik : i = k := by
        rcases Nat.lt_trichotomy i k with hlt | heq | hgt
        · rw [h1 i hlt] at hi0; cases hi0
        · exact heq
        · exfalso
          have hclI : Closed all fun q => listed.getD q false || q == i := fun q o2 ho2 hLq e he hbe => by
            by_cases hqi : q = i
            · subst hqi
              rw [ho'] at ho2; cases ho2
              simp only [hpre e he hbe, Bool.true_or]
            · have hq' : (q == i) = false := by simpa using hqi
              have hqk : q < k := by
                rcases Nat.lt_or_ge q k with hl | hg
                · exact hl
                · have hLq : (listed.getD q false || q == i) = true := hLq
                  rw [h2 q hg, hq'] at hLq; cases hLq
              have := (drawOk_spec hok q o2 ho2).before e he hbe
              simp only [h1 e.on (by omega), Bool.true_or]
          have := masks_closed hclI i k (hbit i (by omega) hil k hgt) (by simp)
          have hne : (k == i) = false := by simp; omega
          rw [hne, h2 k (Nat.le_refl _)] at this
          cases this
      subst hik
      rw [ho] at ho'; cases ho'
      simp only [wseq] at hk
      split at hk
      · rename_i hdst
        unfold wpOpIn
        simp only [List.getElem?_toArray, ho]
        split at hk
        · rename_i hg
          rw [if_pos (wanted_of_guardK hr hg)]
          exact wseqO_ok h0 hwf hr hdst hk ro n _ _ fun a' w' m' H' s hs2 hd' hb' hr' => ih s a' w' m' H' (by omega) (by omega) (by simp [hs']) hset hset2 hs2 (hd'.trans hd) (hb.trans hb') hr'
        · rename_i hg
          rw [if_neg (by rw [wanted_of_guardK hr hg]; simp)]
          exact ⟨fun _ _ => trivial, ih _ _ w m H (by omega) (by omega) (by simp [hs']) hset hset2 hk ((put_defers' _ _ _).trans hd) hb (hr.putO hdst (.tup [] #[] rfl (fun j c v hj => by simp at hj)))⟩
        · cases hk
      · cases hk
theorem wseq_ok (h0 : ch0.Ok P gl) (hwf : WF.Ok P gl wf) {all : List Oper} {ro : Option Nat} {n : Nat} {d0 : List Deferred} {w0 : World} {K : St → Prop} {Q : Exit → Act → World → Prop}
    (hQ : ∀ (sF : St) (a : Act) (w : World) (m : Nat → Lc) (H : HV), K sF → a.defers = d0 → BelowS B w0 w → RelS m H B H0 gl rest sF a.tmps w → Q .normal a w) :
    ∀ (pre l : List Oper) (st : St) (a : Act) (w : World) (m : Nat → Lc) (H : HV), all = pre ++ l → wseq P gl ch0 wf hs all l st K → a.defers = d0 → BelowS B w0 w → RelS m H B H0 gl rest st a.tmps w → wpOpsIn (FW ro) n P all.toArray Q (List.range' pre.length l.length) a w
  | pre, [], st, a, w, m, H, _, hk, hd, hb, hr => hQ st a w m H hk hd hb hr
  | pre, o :: l, st, a, w, m, H, he, hk, hd, hb, hr => by
    simp only [List.length_cons, List.range'_succ, wpOpsIn]
    have ho : all.toArray[pre.length]? = some o := by rw [List.getElem?_toArray, he, List.getElem?_append_right (Nat.le_refl _)]; simp
    simp only [ho]
    have ih := wseq_ok h0 hwf (all := all) (ro := ro) (n := n) hQ (pre ++ [o]) l
    simp only [List.length_append, List.length_cons, List.length_nil, Nat.zero_add, List.append_assoc, List.singleton_append] at ih
    simp only [wseq] at hk
    split at hk
    · rename_i hdst
      split at hk
      · rename_i hg
        rw [if_pos (wanted_of_guardK hr hg)]
        exact wseqO_ok h0 hwf hr hdst hk ro n _ _ fun a' w' m' H' s hs hd' hb' hr' => ih s a' w' m' H' he hs (hd'.trans hd) (hb.trans hb') hr'
      · rename_i hg
        rw [if_neg (by rw [wanted_of_guardK hr hg]; simp)]
        exact ⟨fun _ _ => trivial, ih _ _ w m H he hk ((put_defers' _ _ _).trans hd) hb (hr.putO hdst (.tup [] #[] rfl (fun j c v hj => by simp at hj)))⟩
      · cases hk
    · cases hk
end
end HY
end
section
namespace HY
open Go Go.RowKit
inductive LeVs : List AV → List AV → Prop
  | nil : LeVs [] []
  | cons {x t : AV} {xs ts : List AV} : LeV x t → LeVs xs ts → LeVs (x :: xs) (t :: ts)
theorem LeV.refl (x : AV) : LeV x x := ⟨fun _ _ _ h => h⟩
theorem LeV.of_eq {x t : AV} (h : x = t) : LeV x t := h ▸ .refl x
theorem LeV.undef (x : AV) : LeV x .undef := ⟨fun _ _ _ _ => .imm _ _ (.undef _)⟩
theorem LeV.trans {x y z : AV} (h : LeV x y) (k : LeV y z) : LeV x z := ⟨fun H E v hv => k.ok H E v (h.ok H E v hv)⟩
theorem LeVs.refl : ∀ (xs : List AV), LeVs xs xs
  | [] => .nil
  | x :: xs => .cons (.refl x) (LeVs.refl xs)
theorem LeVs.of_eq {xs ts : List AV} (h : xs = ts) : LeVs xs ts := h ▸ .refl xs
theorem LeVs.get : ∀ {xs ts : List AV}, LeVs xs ts → xs.length = ts.length ∧ ∀ (j : Nat) (t : AV), ts[j]? = some t → ∃ x, xs[j]? = some x ∧ LeV x t
  | _, _, .nil => ⟨rfl, fun j t h => by simp at h⟩
  | _, _, .cons h r => ⟨by simp [r.get.1], fun j t' hj => by
    cases j with
    | zero => simp at hj; subst hj; exact ⟨_, rfl, h⟩
    | succ j => simpa using r.get.2 j t' (by simpa using hj)⟩
theorem LeV.nil (sz : Nat) : LeV .nil (.sl sz []) := ⟨fun H E v h => by rw [h.nil_inv]; exact .imm _ _ (.sl0 _ _ _ (Nat.zero_le _))⟩
theorem LeV.emp (sz : Nat) : LeV .emp (.sl sz []) := ⟨fun H E v h => by obtain ⟨a, rfl⟩ := h.emp_inv; exact .imm _ _ (.sl0 _ _ _ (Nat.zero_le _))⟩
theorem LeV.agg {xs ts : List AV} (h : LeVs xs ts) : LeV (.agg xs) (.agg ts) := ⟨fun H E v hv => by
  obtain ⟨h1, h2⟩ := h.get
  obtain ⟨vs, rfl, a, b, c⟩ := hv.agg_inv
  exact .agg _ vs (by rw [← h1]; exact a) b fun j t u hj hu => by
    obtain ⟨x, hx, hle⟩ := h2 j t hj
    exact hle.ok H E u (c j x u hx hu)⟩
theorem LeV.tup {xs ts : List AV} (h : LeVs xs ts) : LeV (.tup xs) (.tup ts) := ⟨fun H E v hv => by
  obtain ⟨h1, h2⟩ := h.get
  obtain ⟨vs, rfl, a, c⟩ := hv.tup_inv
  exact .tup _ vs (by rw [← h1]; exact a) fun j t u hj hu => by
    obtain ⟨x, hx, hle⟩ := h2 j t hj
    exact hle.ok H E u (c j x u hx hu)⟩
inductive LeEs : List AV → List AV → Prop
  | nil : LeEs [] []
  | cons {x t : AV} {xs ts : List AV} : LeL x.cells t.cells → LeEs xs ts → LeEs (x :: xs) (t :: ts)
theorem LeEs.refl : ∀ (xs : List AV), LeEs xs xs
  | [] => .nil
  | x :: xs => .cons (.refl _) (LeEs.refl xs)
theorem LeEs.of_eq {xs ts : List AV} (h : xs = ts) : LeEs xs ts := h ▸ .refl xs
theorem LeEs.get : ∀ {xs ts : List AV}, LeEs xs ts → xs.length = ts.length ∧ ∀ (j : Nat) (t : AV), ts[j]? = some t → ∃ x, xs[j]? = some x ∧ LeL x.cells t.cells
  | _, _, .nil => ⟨rfl, fun j t h => by simp at h⟩
  | _, _, .cons h r => ⟨by simp [r.get.1], fun j t' hj => by
    cases j with
    | zero => simp at hj; subst hj; exact ⟨_, rfl, h⟩
    | succ j => simpa using r.get.2 j t' (by simpa using hj)⟩
theorem LeT.sl {sz : Nat} {xs ts : List AV} (h : LeEs xs ts) : LeT (.sl sz xs) (.sl sz ts) := ⟨fun H v hv => by
  obtain ⟨h1, h2⟩ := h.get
  cases hv with
  | sl0 _ a cap hc =>
    have : ts = [] := List.eq_nil_of_length_eq_zero (by rw [← h1]; rfl)
    subst this
    exact .sl0 _ _ _ hc
  | sl _ _ b o cap val a0 a1 a2 a3 a4 a5 =>
    rw [h1] at a1 ⊢
    refine .sl sz ts b o cap val a0 a1 a2 (fun i t ht => ?_) (fun i t j c ht hc => ?_) (fun i t j c ht hc => ?_)
    · obtain ⟨x, hx, hl⟩ := h2 i t ht
      rw [← hl.get.1]; exact a3 i x hx
    · obtain ⟨x, hx, hl⟩ := h2 i t ht
      obtain ⟨c', hc', _⟩ := hl.get.2 j c hc
      exact a4 i x j c' hx hc'
    · obtain ⟨x, hx, hl⟩ := h2 i t ht
      obtain ⟨c', hc', hle⟩ := hl.get.2 j c hc
      exact hle.ok _ _ (a5 i x j c' hx hc')⟩
theorem LeV.sl {sz : Nat} {xs ts : List AV} (h : LeEs xs ts) : LeV (.sl sz xs) (.sl sz ts) := ⟨fun H E v hv => .imm _ _ ((LeT.sl h).ok H v hv.sl_inv)⟩
theorem LeEs.flat : ∀ {xs ts : List AV}, LeEs xs ts → LeL (xs.flatMap AV.cells) (ts.flatMap AV.cells)
  | _, _, .nil => .nil
  | _, _, .cons (x := x) (t := t) h r => by
    simp only [List.flatMap_cons]
    have := r.flat
    revert h
    generalize x.cells = a
    generalize t.cells = b
    intro h
    induction h with
    | nil => exact this
    | cons h _ ih => exact .cons h ih
inductive LeB : Box → Box → Prop
  | refl (b : Box) : LeB b b
  | cells (v : Nat) {cs ts : List AV} : LeVs cs ts → LeB (.cells v cs) (.cells v ts)
  | own (v sz : Nat) {xs ts : List AV} : LeEs xs ts → LeB (.own v sz xs) (.own v sz ts)
  | hol (v sz : Nat) (xs : List AV) (i c : Nat) {r t : AV} : LeV r t → LeB (.hol v sz xs i c r) (.hol v sz xs i c t)
inductive LeBs : List Box → List Box → Prop
  | nil : LeBs [] []
  | cons {x t : Box} {xs ts : List Box} : LeB x t → LeBs xs ts → LeBs (x :: xs) (t :: ts)
theorem LeBs.refl : ∀ (xs : List Box), LeBs xs xs
  | [] => .nil
  | x :: xs => .cons (.refl x) (LeBs.refl xs)
theorem LeBs.of_eq {xs ts : List Box} (h : xs = ts) : LeBs xs ts := h ▸ .refl xs
theorem LeBs.get : ∀ {xs ts : List Box}, LeBs xs ts → xs.length = ts.length ∧ ∀ (j : Nat) (t : Box), ts[j]? = some t → ∃ x, xs[j]? = some x ∧ LeB x t
  | _, _, .nil => ⟨rfl, fun j t h => by simp at h⟩
  | _, _, .cons h r => ⟨by simp [r.get.1], fun j t' hj => by
    cases j with
    | zero => simp at hj; subst hj; exact ⟨_, rfl, h⟩
    | succ j => simpa using r.get.2 j t' (by simpa using hj)⟩
theorem LeB.ver {b t : Box} (h : LeB b t) : b.ver? = t.ver? ∧ (∀ l, Real t l ↔ Real b l) := by
  cases h with
  | refl => exact ⟨rfl, fun _ => Iff.rfl⟩
  | cells v h => exact ⟨rfl, fun _ => Iff.rfl⟩
  | own v sz h => exact ⟨rfl, fun _ => Iff.rfl⟩
  | hol v sz xs i c h => exact ⟨rfl, fun _ => Iff.rfl⟩
theorem LeB.ok {b t : Box} (h : LeB b t) {H : HV} {E : Env} {l : Lc} {w : World} (hb : BoxOk H E b l w) : BoxOk H E t l w := by
  cases h with
  | refl => exact hb
  | cells v h =>
    obtain ⟨h1, h2⟩ := h.get
    obtain ⟨C, e, c1, c2, c3, c4⟩ := hb
    refine ⟨C, e, c1, c2, by rw [← h1]; exact c3, fun j t ht => ?_⟩
    obtain ⟨x, hx, hle⟩ := h2 j t ht
    obtain ⟨u, a1, a2, a3⟩ := c4 j x hx
    exact ⟨u, a1, a2, hle.ok _ _ _ a3⟩
  | own v sz h =>
    obtain ⟨h1, h2⟩ := h.get
    obtain ⟨h3, h4⟩ := h.flat.get
    obtain ⟨a0, a1, a2⟩ := hb
    refine ⟨a0, fun t ht => ?_, ?_⟩
    · obtain ⟨j, hj⟩ := List.getElem?_of_mem ht
      obtain ⟨x, hx, hl⟩ := h2 j t hj
      rw [← hl.get.1]; exact a1 x (List.mem_of_getElem? hx)
    · rcases a2 with ⟨b0, b1⟩ | ⟨b0, C, e, c1, c2, c3, c4⟩
      · subst b1
        exact .inl ⟨b0, List.eq_nil_of_length_eq_zero (by rw [← h1]; rfl)⟩
      · refine .inr ⟨b0, C, e, c1, c2, by rw [← h3]; exact c3, fun j c hj => ?_⟩
        obtain ⟨x, hx, hle⟩ := h4 j c hj
        obtain ⟨u, d1, d2, d3⟩ := c4 j x hx
        exact ⟨u, d1, d2, hle.ok _ _ d3⟩
  | hol v sz xs i c h =>
    obtain ⟨d1, d2, d3, d4, d5, C, e, c1, c2, c3, c4, u, b1, b2, b3⟩ := hb
    exact ⟨d1, d2, d3, d4, d5, C, e, c1, c2, c3, c4, u, b1, b2, h.ok _ _ _ b3⟩
def HpLe (hp hp' : Hp) : Prop := ∀ id, (hp id = none ∧ hp' id = none) ∨ ∃ b t, hp id = some b ∧ hp' id = some t ∧ LeB b t
theorem HpLe.inv {hp hp' : Hp} (h : HpLe hp hp') {id : Nat} {t : Box} (ht : hp' id = some t) : ∃ b, hp id = some b ∧ LeB b t := by
  rcases h id with ⟨_, h2⟩ | ⟨b, t', h1, h2, h3⟩
  · rw [ht] at h2; cases h2
  · rw [ht] at h2; cases h2; exact ⟨b, h1, h3⟩
theorem LeB.lp {b t : Box} (h : LeB b t) {m : Nat → Lc} {hp hp' : Hp} {id : Nat} (h1 : hp id = some b) (h2 : hp' id = some t) : (envOf hp m).lp id = (envOf hp' m).lp id := by
  cases h with
  | refl => simp only [envOf, h1, h2]
  | cells v h => simp only [envOf, h1, h2]
  | own v sz h => simp only [envOf, h1, h2]
  | hol v sz xs i c h => simp only [envOf, h1, h2]
theorem HpLe.env {hp hp' : Hp} (h : HpLe hp hp') (m : Nat → Lc) : Env.le (envOf hp m) (envOf hp' m) := by
  refine ⟨fun id ver ⟨b, h1, h2⟩ => ?_, fun id ver l _ hl => ?_, fun id l hl => ?_⟩
  · rcases h id with ⟨h3, _⟩ | ⟨b', t, h3, h4, h5⟩
    · rw [h1] at h3; cases h3
    · rw [h1] at h3; cases h3
      exact ⟨t, h4, fun v hv => h2 v (by rw [h5.ver.1]; exact hv)⟩
  · rcases h id with ⟨_, h4⟩ | ⟨b', t, h3, h4, h5⟩
    · simp only [envOf, h4] at hl; cases hl
    · simp only [envOf, h4] at hl
      simp only [envOf, h3, h5.ver.1]
      exact hl
  · rcases h id with ⟨h3, _⟩ | ⟨b', t, h3, h4, h5⟩
    · simp only [envOf, h3] at hl; cases hl
    · rw [← h5.lp h3 h4]; exact hl
section
variable {m : Nat → Lc} {H : HV} {B : Nat → Prop} {H0 : HV} {gl : Nat → AV} {w : World}
theorem RelH.le {hp hp' : Hp} {nx : Nat} (h : RelH m H B H0 gl hp nx w) (hle : HpLe hp hp') (hty : ∀ id v cs, hp' id = some (.cells v cs) → ∃ cs0, hp id = some (.cells v cs0)) : RelH m H B H0 gl hp' nx w where
  sat := h.sat
  old := h.old
  low := h.low
  fresh id hid := by
    rcases hle id with ⟨_, h2⟩ | ⟨b, t, h1, h2, _⟩
    · exact h2
    · rw [h.fresh id hid] at h1; cases h1
  box id t ht := by
    obtain ⟨b, hb, hle'⟩ := hle.inv ht
    exact hle'.ok ((h.box id b hb).mono (.refl _) (hle.env m) rfl)
  sepR id t ht hr := by
    obtain ⟨b, hb, hle'⟩ := hle.inv ht
    exact h.sepR id b hb ((hle'.ver.2 _).1 hr)
  injR i j b1 b2 h1 h2 r1 r2 he := by
    obtain ⟨c1, e1, l1⟩ := hle.inv h1
    obtain ⟨c2, e2, l2⟩ := hle.inv h2
    exact h.injR i j c1 c2 e1 e2 ((l1.ver.2 _).1 r1) ((l2.ver.2 _).1 r2) he
  gv := h.gv
  gl := h.gl
  ty id v cs hid := by
    obtain ⟨cs0, h0⟩ := hty id v cs hid
    exact h.ty id v cs0 h0
theorem LeB.cellsInv {b : Box} {v : Nat} {cs : List AV} (h : LeB b (.cells v cs)) : ∃ cs0, b = .cells v cs0 := by
  cases h with
  | refl => exact ⟨_, rfl⟩
  | cells _ _ => exact ⟨_, rfl⟩
theorem LeBs.hp {bs bs' : List Box} (h : LeBs bs bs') : HpLe (lkb (hpOf 0 bs)) (lkb (hpOf 0 bs')) := fun id => by
  obtain ⟨h1, h2⟩ := h.get
  rw [lkb_hpOf, lkb_hpOf]
  simp only [Nat.zero_le, if_true, Nat.sub_zero]
  cases ht : bs'[id]? with
  | none =>
    rw [List.getElem?_eq_none_iff] at ht
    exact .inl ⟨by rw [List.getElem?_eq_none_iff]; omega, rfl⟩
  | some t =>
    obtain ⟨b, hb, hle⟩ := h2 id t ht
    exact .inr ⟨b, t, hb, rfl, hle⟩
theorem RelH.leBs {bs bs' : List Box} {nx : Nat} (h : RelH m H B H0 gl (lkb (hpOf 0 bs)) nx w) (hle : LeBs bs bs') : RelH m H B H0 gl (lkb (hpOf 0 bs')) nx w :=
  h.le hle.hp fun id v cs hid => by
    obtain ⟨b, hb, hl⟩ := hle.hp.inv hid
    obtain ⟨cs0, rfl⟩ := hl.cellsInv
    exact ⟨cs0, hb⟩
theorem LeBs.pins : ∀ {bs bs' : List Box}, LeBs bs bs' → ∀ j, pinsOf j bs = pinsOf j bs'
  | _, _, .nil, _ => rfl
  | _, _, .cons (x := x) (t := t) h r, j => by
    have ih := r.pins (j + 1)
    cases h with
    | refl => cases x <;> simp only [pinsOf, ih]
    | cells v h => simp only [pinsOf, ih]
    | own v sz h => simp only [pinsOf, ih]
    | hol v sz xs i c h => simp only [pinsOf, ih]
theorem slOf_le : ∀ {ks : List Nat} {vs vs' : List AV}, LeVs vs vs' → ∀ k, LeV (lk .undef (slOf ks vs) k) (lk .undef (slOf ks vs') k)
  | [], vs, vs', h, k => by
    cases vs <;> cases vs' <;> exact .refl _
  | a :: ks, _, _, .nil, k => .refl _
  | a :: ks, _, _, .cons h r, k => by
    simp only [slOf]
    rw [lk_pt, lk_pt]
    by_cases e : a = k
    · rw [if_pos e, if_pos e]; exact h
    · rw [if_neg e, if_neg e]; exact slOf_le r k
theorem head_le {n : Nat} {ks : List Nat} {vs vs' : List AV} {bs bs' : List Box} (hv : LeVs vs vs') (hb : LeBs bs bs') : Conv gl (headSt n ks vs bs) (headSt n ks vs' bs') := ⟨rfl, fun m H B H0 rest tmps w h => by
  have hE := hb.hp.env m
  refine ⟨m, H, ?_, h.size, fun k => ?_, fun p hp => (h.rest p hp).mono (.refl _) hE⟩
  · have := h.heap.leBs hb
    show RelH m H B H0 gl (lkb (hpOf 0 bs')) bs'.length w
    rw [← hb.get.1]; exact this
  · exact ((slOf_le hv k).ok _ _ _ (h.slot k)).mono (.refl _) hE⟩
end
theorem PuH.le {P : Program} {gl : Nat → AV} {f : Nat} {args args' : List AV} {bs bs' bt bt' : List Box} {r r' : AV} (h : PuH P gl f args' bs' r bt) (ha : LeVs args args') (hb : LeBs bs bs') (hr : LeV r r') (ht : LeBs bt bt') : PuH P gl f args bs r' bt' := ⟨fun m H B H0 rest w vs hh hl hv hrest hrv => by
  have hE := hb.hp.env m
  obtain ⟨h1, h2⟩ := ha.get
  refine (h.ok m H B H0 rest w vs (by rw [← hb.get.1]; exact hh.leBs hb) (by rw [← h1]; exact hl) (fun j x v hx hv' => ?_) (by rw [hrest, hb.pins]) (fun p hp => (hrv p hp).mono (.refl _) hE)).mono fun e w' ⟨v, m', H', a, b, c, d, g⟩ => ?_
  · obtain ⟨y, hy, hle⟩ := h2 j x hx
    exact (hle.ok _ _ _ (hv j y v hy hv')).mono (.refl _) hE
  · have hE' := ht.hp.env m'
    exact ⟨v, m', H', a, b, by rw [← ht.get.1]; exact c.leBs ht, (hr.ok _ _ _ d).mono (.refl _) hE', fun p hp => (g p hp).mono (.refl _) hE'⟩⟩
end HY
end
section
namespace HY
open Go Go.RowKit
def BO (O : Nat → Prop) (w : World) : Nat → Prop := fun b => b < w.heap.size ∧ ¬ O b
def plusO (O : Nat → Prop) (w w' : World) : Nat → Prop := fun b => O b ∨ (w.heap.size ≤ b ∧ b < w'.heap.size)
def unH (Hc H : HV) : HV := fun b o => match Hc b o with
  | some v => some v
  | none => H b o
def lessO (O : Nat → Prop) (H : HV) : Nat → Prop := fun b => O b ∧ ∀ o, H b o = none
abbrev JT := Option Nat → (Nat → Prop) → HV → World → Prop
structure JOk (P : Program) (gl : Nat → AV) (l : Nat) (xs : List (List AV)) (J : JT) : Prop where
  sat : ∀ p O Hc w, J p O Hc w → HV.sat Hc w
  low : ∀ p O Hc w, J p O Hc w → ∀ b, O b → b < w.heap.size
  dis : ∀ p O Hc w, J p O Hc w → ∀ b, O b → ∀ o, Hc b o = none
  gls : ∀ p O Hc w, J p O Hc w → ∀ g, RelI Hc (gl g) (.pointer (some ⟨g, 0, none⟩))
  gv : ∀ p O Hc w, J p O Hc w → GvOk gl (BO O w) w
  own : ∀ p O Hc w w', J p O Hc w → BelowS (BO O w) w w' → J p (plusO O w w') Hc w'
  pub : ∀ p O Hc w H, J p O Hc w → HV.sat H w → (∀ b o v, H b o = some v → O b ∨ Hc b o = some v) → J p (lessO O H) (unH Hc H) w
  round : ∀ k O Hc w x (vs : Array Value), J (some k) O Hc w → xs[k]? = some x → x.length = vs.size → (∀ (j : Nat) (c : AV) (v : Value), x[j]? = some c → vs[j]? = some v → RelI Hc c v) →
    ∃ fn tmps azz bd, (Instr.yield l vs).run P w = .ok (.round l fn tmps azz bd) w ∧ ∀ ro n, RoundIn (FW ro) n P l fn tmps azz bd w fun e w' => ∃ b, e = .returned (.bool b) ∧ BelowS O w w' ∧ J (if b then some (k + 1) else none) O Hc w'
structure ItOk (P : Program) (gl : Nat → AV) (f : Nat) (caps : List AV) (xs : List (List AV)) : Prop where
  ok : ∀ l J, JOk P gl l xs J → ∀ Hc w (us : Array Value), J (some 0) (fun _ => False) Hc w → caps.length = us.size → (∀ (j : Nat) (c : AV) (v : Value), caps[j]? = some c → us[j]? = some v → RelI Hc c v) →
    Calls P f (#[.func (.yield l) #[] #[]] ++ us) w fun e w' => ∃ v p' O' Hc', e = .returned v ∧ (p' = some xs.length ∨ p' = none) ∧ J p' O' Hc' w'
section
variable {m : Nat → Lc} {H : HV} {B : Nat → Prop} {H0 : HV} {gl : Nat → AV} {hp : Nat → Option Box} {nx : Nat} {w : World} {rest : List (AV × Value)} {st : St} {tmps : Array Value}
theorem unH_l {Hc H : HV} : HV.le Hc (unH Hc H) := fun b o v h => by simp [unH, h]
theorem unH_r {Hc H : HV} {b o : Nat} {v : Value} (h : unH Hc H b o = some v) : Hc b o = some v ∨ (Hc b o = none ∧ H b o = some v) := by
  unfold unH at h
  split at h
  · rename_i h1; cases h; exact .inl h1
  · rename_i h1; exact .inr ⟨h1, h⟩
theorem unH_sat {Hc H : HV} (h1 : HV.sat Hc w) (h2 : HV.sat H w) : HV.sat (unH Hc H) w := fun b o v h => by
  rcases unH_r h with h | ⟨_, h⟩
  · exact h1 b o v h
  · exact h2 b o v h
theorem unH_le {Hc H : HV} (h1 : HV.sat Hc w) (h2 : HV.sat H w) : HV.le H (unH Hc H) := fun b o v h => by
  unfold unH
  split
  · rename_i u hu
    have e1 := h1 b o u hu
    have e2 := h2 b o v h
    rw [e1] at e2; exact e2
  · exact h
theorem BelowS.cell {B : Nat → Prop} {w w' : World} (h : BelowS B w w') {b o : Nat} (hb : B b) : w'.cell? ⟨b, o, none⟩ = w.cell? ⟨b, o, none⟩ := by
  unfold World.cell?
  rw [h.block b hb]
theorem RelH.base (h : RelH m H B H0 gl hp nx w) {B' : Nat → Prop} {H0' : HV} (old : ∀ b o, B' b → H b o = H0' b o) (low : ∀ b, B' b → b < w.heap.size) (sep : ∀ id b, hp id = some b → Real b (m id) → ¬ B' (m id).g) (gv : GvOk gl B' w) : RelH m H B' H0' gl hp nx w where
  sat := h.sat
  old := old
  low := low
  fresh := h.fresh
  box := h.box
  sepR id b hid hr := ⟨sep id b hid hr, (h.sepR id b hid hr).2⟩
  injR := h.injR
  gv := gv
  gl := h.gl
  ty := h.ty
theorem RelS.base (h : RelS m H B H0 gl rest st tmps w) {B' : Nat → Prop} {H0' : HV} (old : ∀ b o, B' b → H b o = H0' b o) (low : ∀ b, B' b → b < w.heap.size) (sep : ∀ id b, lkb st.hp id = some b → Real b (m id) → ¬ B' (m id).g) (gv : GvOk gl B' w) : RelS m H B' H0' gl rest st tmps w :=
  ⟨h.heap.base old low sep gv, h.size, h.slot, h.rest⟩
theorem RelS.down (h : RelS m H B H0 gl rest st tmps w) {B' : Nat → Prop} {H0' : HV} (hs : ∀ b, B' b → B b) (ho : ∀ b o, B' b → H0 b o = H0' b o) (gv : GvOk gl B' w) : RelS m H B' H0' gl rest st tmps w :=
  h.base (fun b o hb => (h.heap.old b o (hs b hb)).trans (ho b o hb)) (fun b hb => h.heap.low b (hs b hb)) (fun id b hid hr hb => (h.heap.sepR id b hid hr).1 (hs _ hb)) gv
theorem RelS.know (h : RelS m H B H0 gl rest st tmps w) {H' : HV} {H0' : HV} (hle : HV.le H H') (sat : HV.sat H' w) (old : ∀ b o, B b → H' b o = H0' b o) (sep : ∀ id b, lkb st.hp id = some b → Real b (m id) → ∀ o, H' (m id).g o = none) : RelS m H' B H0' gl rest st tmps w :=
  ⟨{ sat := sat, old := old, low := h.heap.low, fresh := h.heap.fresh, box := (fun id b hid => (h.heap.box id b hid).mono' hle (.refl _) fun _ => rfl), sepR := (fun id b hid hr => ⟨(h.heap.sepR id b hid hr).1, (h.heap.sepR id b hid hr).2.1, sep id b hid hr⟩), injR := h.heap.injR, gv := h.heap.gv, gl := (fun g => (h.heap.gl g).mono hle), ty := h.heap.ty }, h.size, fun k => (h.slot k).mono hle (.refl _), fun p hp => (h.rest p hp).mono hle (.refl _)⟩
theorem RelS.obj (h : RelS m H B H0 gl rest st tmps w) {g : Nat} {o1 o2 : Obj} (hb : B g) (h1 : w.heap[g]? = some o1) (hn : ∀ C e fr, o1 ≠ .cells C e fr) : RelS m H B H0 gl rest st tmps (w.putObj g o2) := by
  have hno : ∀ o v, H g o ≠ some v := fun o v hv => by
    have := h.heap.sat g o v hv
    unfold World.cell? at this
    rw [h1] at this
    cases o1 with
    | cells C e fr => exact hn C e fr rfl
    | _ => cases this
  have oth : ∀ k, k ≠ g → (w.putObj g o2).heap[k]? = w.heap[k]? := fun k hk => World.putObj_heap_other hk
  refine ⟨{ sat := (fun b o v hv => ?_), old := h.heap.old, low := (fun b hb => by rw [World.putObj_size]; exact h.heap.low b hb), fresh := h.heap.fresh, box := (fun id b hid => (h.heap.box id b hid).mono' (.refl _) (.refl _) fun hr => oth _ fun e => (h.heap.sepR id b hid hr).1 (e ▸ hb)), sepR := (fun id b hid hr => let ⟨x, y, z⟩ := h.heap.sepR id b hid hr; ⟨x, by rw [World.putObj_size]; exact y, z⟩), injR := h.heap.injR, gv := (fun k sz cs hk => ?_), gl := h.heap.gl, ty := (fun id v cs hid => (h.heap.ty id v cs hid).mono (oth _ fun e => (h.heap.sepR id _ hid trivial).1 (e ▸ hb))) }, h.size, h.slot, h.rest⟩
  · have hbg : b ≠ g := fun e => by subst e; exact hno o v hv
    have := h.heap.sat b o v hv
    unfold World.cell? at this ⊢
    simp only at this ⊢
    rw [oth b hbg]; exact this
  · obtain ⟨x, C, e, fr, y, z⟩ := h.heap.gv k sz cs hk
    exact ⟨x, C, e, fr, by rw [oth k (fun hk => by subst hk; rw [h1] at y; cases y; exact hn _ _ _ rfl)]; exact y, z⟩
theorem BelowS.obj {B' : Nat → Prop} {w0 : World} (h : BelowS B' w0 w) {g : Nat} {o1 o2 : Obj} (hb : ¬ B' g) (h1 : w.heap[g]? = some o1) (hn : ∀ C e fr, o1 ≠ .cells C e fr) : BelowS B' w0 (w.putObj g o2) :=
  h.trans ⟨rfl, rfl, rfl, by rw [World.putObj_size]; exact Nat.le_refl _, fun k hk => World.putObj_heap_other fun e => hb (e ▸ hk), fun k C e fr hk => ⟨C, fr, by rw [World.putObj_heap_other fun e' => by subst e'; rw [h1] at hk; cases hk; exact hn _ _ _ rfl]; exact hk, rfl⟩⟩
theorem GvOk.sup {B B' : Nat → Prop} (h : GvOk gl B w) (hs : ∀ b, B b → B' b) : GvOk gl B' w := fun g sz cs hg => let ⟨a, b⟩ := h g sz cs hg; ⟨hs g a, b⟩
theorem GvOk.to {B B' : Nat → Prop} {w w' : World} {B1 : Nat → Prop} (h : GvOk gl B w) (hb : BelowS B1 w w') (hs : ∀ b, b < w.heap.size → B b → B' b) : GvOk gl B' w' := fun g sz cs hg => by
  obtain ⟨a, C, e, fr, h1, h2⟩ := h g sz cs hg
  obtain ⟨C', fr', h3, h4⟩ := hb.rows g C e fr h1
  refine ⟨hs g ?_ a, C', e, fr', h3, by rw [h4, h2]⟩
  rcases Nat.lt_or_ge g w.heap.size with hlt | hge
  · exact hlt
  · rw [Array.getElem?_eq_none hge] at h1; cases h1
end
end HY
end
section
namespace HY
open Go Go.RowKit
def hasRange : Code → Bool
  | .seq a b => hasRange a || hasRange b
  | .cond _ a b => hasRange a || hasRange b
  | .block _ c => hasRange c
  | .loop c => hasRange c
  | .rangeFunc .. => true
  | _ => false
def marksG (D : List Nat) : List Deferred := D.map fun g => { target := .collected g, args := #[] }
structure Fin' (B : Nat → Prop) (H0 : HV) (a : Act) (w : World) (hr : Bool) (B' : Nat → Prop) (H0' : HV) (D : List Nat) (a' : Act) (w' : World) : Prop where
  sub : ∀ b, B b → B' b
  old : ∀ b o, B b → H0' b o = H0 b o
  dfr : a'.defers = marksG D ++ a.defers
  nod : D.Nodup
  opn : ∀ g ∈ D, B' g ∧ w.heap.size ≤ g ∧ w'.heap[g]? = some (.deferred (some []))
  non : hr = false → D = []
  bel : BelowS B w w'
section
variable {B : Nat → Prop} {H0 : HV} {a : Act} {w : World}
theorem Fin'.of {hr : Bool} {a' : Act} {w' : World} (hd : a'.defers = a.defers) (hb : BelowS B w w') : Fin' B H0 a w hr B H0 [] a' w' := ⟨fun _ h => h, fun _ _ _ => rfl, hd, List.nodup_nil, fun g hg => by simp at hg, fun _ => rfl, hb⟩
theorem Fin'.trans {h1 h2 h3 : Bool} {B1 B2 : Nat → Prop} {H1 H2 : HV} {D1 D2 : List Nat} {a1 a2 : Act} {w1 w2 : World} (k1 : Fin' B H0 a w h1 B1 H1 D1 a1 w1) (k2 : Fin' B1 H1 a1 w1 h2 B2 H2 D2 a2 w2) (hh : h3 = false → h1 = false ∧ h2 = false) : Fin' B H0 a w h3 B2 H2 (D2 ++ D1) a2 w2 where
  sub b hb := k2.sub b (k1.sub b hb)
  old b o hb := (k2.old b o (k1.sub b hb)).trans (k1.old b o hb)
  dfr := by rw [k2.dfr, k1.dfr, ← List.append_assoc]; simp [marksG]
  nod := by
    rw [List.nodup_append]
    refine ⟨k2.nod, k1.nod, fun x hx y hy e => ?_⟩
    subst e
    have h := (k1.opn x hy).2.2
    have h2 := (k2.opn x hx).2.1
    rw [Array.getElem?_eq_none h2] at h
    cases h
  opn g hg := by
    rcases List.mem_append.1 hg with hg | hg
    · obtain ⟨x, y, z⟩ := k2.opn g hg
      exact ⟨x, Nat.le_trans k1.bel.size y, z⟩
    · obtain ⟨x, y, z⟩ := k1.opn g hg
      exact ⟨k2.sub g x, y, by rw [k2.bel.block g x]; exact z⟩
  non h := by obtain ⟨e1, e2⟩ := hh h; rw [k1.non e1, k2.non e2]; rfl
  bel := k1.bel.trans (k2.bel.mono k1.sub)
theorem Fin'.up {h1 h3 : Bool} {B1 : Nat → Prop} {H1 : HV} {D1 : List Nat} {a1 : Act} {w1 : World} (k : Fin' B H0 a w h1 B1 H1 D1 a1 w1) (hh : h3 = false → h1 = false) : Fin' B H0 a w h3 B1 H1 D1 a1 w1 := { k with non := fun h => k.non (hh h) }
end
def Post (gl : Nat → AV) (B : Nat → Prop) (H0 : HV) (rest : List (AV × Value)) (hr : Bool) (a : Act) (w : World) (K : Exit → St → Prop) : Exit → Act → World → Prop := fun e a' w' =>
  ∃ st' m' H' B' H0' D, K e st' ∧ Fin' B H0 a w hr B' H0' D a' w' ∧ RelS m' H' B' H0' gl rest st' a'.tmps w'
theorem Post.of {gl : Nat → AV} {B : Nat → Prop} {H0 : HV} {rest : List (AV × Value)} {hr : Bool} {a : Act} {w : World} {K : Exit → St → Prop} {e : Exit} {st' : St} {m' : Nat → Lc} {H' : HV} {a' : Act} {w' : World} (hk : K e st') (hd : a'.defers = a.defers) (hb : BelowS B w w') (h : RelS m' H' B H0 gl rest st' a'.tmps w') : Post gl B H0 rest hr a w K e a' w' :=
  ⟨st', m', H', B, H0, [], hk, .of hd hb, h⟩
def Wk (P : Program) (gl : Nat → AV) (pins : Option (List AV)) (c : Code) (st : St) (K : Exit → St → Prop) : Prop :=
  ∀ (ro : Option Nat) (d : Nat), (hasRange c = true → ro = none) → ∀ (B : Nat → Prop) (H0 : HV) (rest : List (AV × Value)) (m : Nat → Lc) (H : HV) (a : Act) (w : World), (∀ ps, pins = some ps → rest.map (·.1) = ps) → RelS m H B H0 gl rest st a.tmps w →
    c.wpIn (FW ro) d P (Post gl B H0 rest (hasRange c) a w K) a w
def wpL (P : Program) (ro : Option Nat) (d : Nat) (c : Code) (Q : Exit → Act → World → Prop) (a : Act) (w : World) : Prop :=
  ∀ (b : Frame) (k : List Item) (cs : List Frame), b.roundOf = (FW ro).round → (FW ro).fn b.fn → (FW ro).room (cs.length + 1 + d) →
    ∃ e a' w', Q e a' w' ∧ ArrivesIn (Machine.fenced P (FW ro)) P (lone (b.atR a (.code c :: .inLoop c :: k)) cs w) b k cs e a' w'
section
variable {P : Program} {ro : Option Nat} {d : Nat} {c : Code} {Q : Exit → Act → World → Prop} {a : Act} {w : World}
theorem wpL.loop (h : wpL P ro d c Q a w) : (Code.loop c).wpIn (FW ro) d P Q a w := fun b k cs hro hb hr =>
  let ⟨e, a', w', hq, harr⟩ := h b k cs hro hb hr
  ⟨e, a', w', hq, .of_steps (.one (fenced_calm hb hr rfl) stepR_loop) harr⟩
theorem wpL.round (h : c.wpIn (FW ro) d P (Exit.then (wpL P ro d c Q) Q) a w) : wpL P ro d c Q a w := by
  intro b k cs hro hb hr
  obtain ⟨e, a₁, w₁, hq, harr⟩ := h b (.inLoop c :: k) cs hro hb hr
  cases e with
  | normal =>
    obtain ⟨e₂, a₂, w₂, hq₂, harr₂⟩ := hq b k cs hro hb hr
    exact ⟨e₂, a₂, w₂, hq₂, .of_steps (StepsIn.trans harr (.one (fenced_calm hb hr rfl) stepR_inLoop)) harr₂⟩
  | exit id => exact ⟨_, a₁, w₁, hq, .pass (x := .inLoop c) rfl (fun _ _ => .inl (by simp)) harr⟩
  | goto l => exact ⟨_, a₁, w₁, hq, .pass (x := .inLoop c) rfl (fun _ _ => .inl (by simp)) harr⟩
  | ret => exact ⟨_, a₁, w₁, hq, .pass (x := .inLoop c) rfl (fun _ _ => .inl (by simp)) harr⟩
  | panic ch => exact ⟨_, a₁, w₁, hq, .pass (x := .inLoop c) rfl (fun _ _ => .inl (by simp)) harr⟩
  | outgrown => exact ⟨_, a₁, w₁, hq, .pass (x := .inLoop c) rfl (fun _ _ => .inl (by simp)) harr⟩
theorem wpL.mono {Q' : Exit → Act → World → Prop} (h : wpL P ro d c Q a w) (hq : ∀ e a w, Q e a w → Q' e a w) : wpL P ro d c Q' a w := fun b k cs hro hb hr =>
  let ⟨e, a', w', q, r⟩ := h b k cs hro hb hr
  ⟨e, a', w', hq _ _ _ q, r⟩
end
structure LoopOk (P : Program) (gl : Nat → AV) (ps : List AV) (n : Nat) (c : Code) (ks : List Nat) (vs : List AV) (bs : List Box) (kx : List Nat) (alts : List Alt) : Prop where
  ok : ∀ (ro : Option Nat) (d : Nat), (hasRange c = true → ro = none) → ∀ (B : Nat → Prop) (H0 : HV) (rest : List (AV × Value)) (m : Nat → Lc) (H : HV) (a : Act) (w : World), rest.map (·.1) = ps → RelS m H B H0 gl rest (headSt n ks vs bs) a.tmps w →
    wpL P ro d c (Post gl B H0 rest (hasRange c) a w (fun e st' => ∃ alt ∈ alts, ∃ x, alt.φ x ∧ e = alt.ex ∧ st' = headSt n kx (alt.vs x) (alt.bs x))) a w
structure Out (alts : List Alt) (e : Exit) (vs : List AV) (bs : List Box) : Prop where
  ok : ∃ alt ∈ alts, ∃ x, alt.φ x ∧ e = alt.ex ∧ LeVs vs (alt.vs x) ∧ LeBs bs (alt.bs x)
theorem Out.here {α : Type} {φ : α → Prop} {e : Exit} {vs : List AV} {vs' : α → List AV} {bs : List Box} {bs' : α → List Box} {r : List Alt} (x : α) (h : φ x) (hv : LeVs vs (vs' x)) (hb : LeBs bs (bs' x)) : Out (⟨φ, e, vs', bs'⟩ :: r) e vs bs := ⟨⟨_, List.mem_cons_self, x, h, rfl, hv, hb⟩⟩
theorem Out.next {a : Alt} {r : List Alt} {e : Exit} {vs : List AV} {bs : List Box} (h : Out r e vs bs) : Out (a :: r) e vs bs := by
  obtain ⟨alt, h1, h2⟩ := h.ok
  exact ⟨alt, List.mem_cons_of_mem _ h1, h2⟩
def slotsOk (ks : List Nat) (vs : List AV) : Bool := nodN ks && Nat.beq ks.length vs.length
def Turn (gl : Nat → AV) (n : Nat) (ks : List Nat) (vs ps : List AV) (s : St) (bs' : List Box) : Prop :=
  ∀ (m : Nat → Lc) (H : HV) (B : Nat → Prop) (H0 : HV) (rest : List (AV × Value)) (tmps : Array Value) (w : World), rest.map (·.1) = ps → RelS m H B H0 gl rest ⟨n, slOf ks vs, s.hp, s.nx⟩ tmps w → ∃ m' H', RelS m' H' B H0 gl rest (headSt n ks vs bs') tmps w
def RngOk (P : Program) (gl : Nat → AV) (ps : List AV) (n : Nat) (prm : Array Tmp) (azz bd : Code) (ks : List Nat) (vs : List AV) (alts : List Alt) : List (List AV) → List Box → Prop
  | [], bs => slotsOk ks vs = true ∧ Out alts .normal vs bs
  | x :: xs, bs => slotsOk ks vs = true ∧ ∃ s0, putPs prm.toList x (headSt n ks vs bs) = some s0 ∧ Wk P gl (some (vs ++ ps)) azz s0 (fun e s1 => e = .normal ∧ Wk P gl (some (vs ++ ps)) bd s1 (fun e2 s2 =>
      ∃ j bs', roundEnd e2 = some j ∧ Turn gl n ks vs ps s2 bs' ∧ match j with
        | none => ∃ bs2, LeBs bs' bs2 ∧ RngOk P gl ps n prm azz bd ks vs alts xs bs2
        | some _ => Out alts e2 vs bs'))
end HY
end
section
namespace HY
open Go Go.RowKit
theorem slOf_at : ∀ {ks : List Nat} {vs : List AV}, nodN ks = true → ∀ {j k : Nat} {v : AV}, ks[j]? = some k → vs[j]? = some v → lk .undef (slOf ks vs) k = v
  | [], vs, _, j, k, v, h, _ => by simp at h
  | a :: ks, [], _, j, k, v, _, h => by simp at h
  | a :: ks, x :: vs, hn, j, k, v, hk, hv => by
    simp only [slOf]
    rw [lk_pt]
    cases j with
    | zero => simp at hk hv; subst hk; subst hv; simp
    | succ j =>
      have hne : a ≠ k := fun e => by
        subst e
        have := nodN_inj (ids := a :: ks) hn (i := 0) (j := j + 1) rfl hk
        omega
      rw [if_neg hne]
      refine slOf_at (ks := ks) (vs := vs) ?_ (by simpa using hk) (by simpa using hv)
      simp only [nodN] at hn
      split at hn
      · cases hn
      · exact hn
def kvs : List Nat → List AV → Array Value → List (AV × Value)
  | k :: ks, v :: vs, t => (v, t.getD k Go.undef) :: kvs ks vs t
  | _, _, _ => []
theorem kvs_fst : ∀ {ks : List Nat} {vs : List AV} {t : Array Value}, ks.length = vs.length → (kvs ks vs t).map (·.1) = vs
  | [], [], _, _ => rfl
  | [], _ :: _, _, h => by simp at h
  | _ :: _, [], _, h => by simp at h
  | k :: ks, v :: vs, t, h => by simp only [kvs, List.map_cons]; rw [kvs_fst (by simpa using h)]
theorem kvs_mem : ∀ {ks : List Nat} {vs : List AV} {t : Array Value} {p : AV × Value}, p ∈ kvs ks vs t → ∃ (j k : Nat), ks[j]? = some k ∧ vs[j]? = some p.1 ∧ p.2 = t.getD k Go.undef
  | [], [], _, _, h => by simp [kvs] at h
  | [], _ :: _, _, _, h => by simp [kvs] at h
  | _ :: _, [], _, _, h => by simp [kvs] at h
  | k :: ks, v :: vs, t, p, h => by
    simp only [kvs, List.mem_cons] at h
    rcases h with rfl | h
    · exact ⟨0, k, rfl, rfl, rfl⟩
    · obtain ⟨j, k', h1, h2, h3⟩ := kvs_mem h
      exact ⟨j + 1, k', by simpa using h1, by simpa using h2, h3⟩
theorem kvs_at : ∀ {ks : List Nat} {vs : List AV} {t : Array Value} {j k : Nat} {v : AV}, ks[j]? = some k → vs[j]? = some v → (v, t.getD k Go.undef) ∈ kvs ks vs t
  | [], _, _, j, k, v, h, _ => by simp at h
  | _ :: _, [], _, j, k, v, _, h => by simp at h
  | a :: ks, x :: vs, t, j, k, v, h1, h2 => by
    cases j with
    | zero => simp at h1 h2; subst h1; subst h2; exact List.mem_cons_self
    | succ j => exact List.mem_cons_of_mem _ (kvs_at (by simpa using h1) (by simpa using h2))
theorem slOf_or : ∀ (ks : List Nat) (vs : List AV) (k : Nat), lk .undef (slOf ks vs) k = .undef ∨ ∃ (j : Nat), ks[j]? = some k ∧ vs[j]? = some (lk .undef (slOf ks vs) k)
  | [], vs, k => .inl (lk_nil _ _)
  | a :: ks, [], k => .inl (lk_nil _ _)
  | a :: ks, x :: vs, k => by
    simp only [slOf]
    rw [lk_pt]
    by_cases h : a = k
    · subst h; rw [if_pos rfl]; exact .inr ⟨0, rfl, rfl⟩
    · rw [if_neg h]
      rcases slOf_or ks vs k with e | ⟨j, h1, h2⟩
      · exact .inl e
      · exact .inr ⟨j + 1, by simpa using h1, by simpa using h2⟩
theorem slotsOk_inv {ks : List Nat} {vs : List AV} (h : slotsOk ks vs = true) : nodN ks = true ∧ ks.length = vs.length := by
  unfold slotsOk at h
  rw [Bool.and_eq_true] at h
  exact ⟨h.1, Nat.eq_of_beq_eq_true h.2⟩
section
variable {P : Program} {m : Nat → Lc} {H : HV} {B : Nat → Prop} {H0 : HV} {gl : Nat → AV} {rest : List (AV × Value)} {w : World} {ks : List Nat} {vs : List AV} {bs : List Box} {n : Nat} {tmps : Array Value}
theorem RelS.hold2 (h : RelS m H B H0 gl rest (headSt n ks vs bs) tmps w) (hk : nodN ks = true) : RelS m H B H0 gl (kvs ks vs tmps ++ rest) (headSt n ks vs bs) tmps w :=
  ⟨h.heap, h.size, h.slot, fun p hp => by
    rcases List.mem_append.1 hp with hp | hp
    · obtain ⟨j, k, h1, h2, h3⟩ := kvs_mem hp
      have := h.slot k
      rw [show (headSt n ks vs bs).get k = p.1 from slOf_at hk h1 h2, ← h3] at this
      exact this
    · exact h.rest p hp⟩
theorem RelS.back2 {st : St} {t : Array Value} (h : RelS m H B H0 gl (kvs ks vs tmps ++ rest) st t w) (hsz : tmps.size = n) : RelS m H B H0 gl rest ⟨n, slOf ks vs, st.hp, st.nx⟩ tmps w :=
  ⟨h.heap, hsz, fun k => by
    show RV H _ (lk .undef (slOf ks vs) k) _
    rcases slOf_or ks vs k with e | ⟨j, h1, h2⟩
    · rw [e]; exact .imm _ _ (.undef _)
    · exact h.rest _ (List.mem_append_left _ (kvs_at h1 h2)), fun p hp => h.rest p (List.mem_append_right _ hp)⟩
theorem RelS.world {st : St} (h : RelS m H B H0 gl rest st tmps w) {w' : World} {K : Nat → Prop} (hb : BelowS K w w') (hH : ∀ b o v, H b o = some v → K b) (hBx : ∀ id b, lkb st.hp id = some b → Real b (m id) → K (m id).g) {B' : Nat → Prop} {H0' : HV} (old : ∀ b o, B' b → H b o = H0' b o) (low : ∀ b, B' b → b < w'.heap.size)
    (sep : ∀ id b, lkb st.hp id = some b → Real b (m id) → ¬ B' (m id).g) (gv : GvOk gl B' w') : RelS m H B' H0' gl rest st tmps w' :=
  ⟨{ sat := (fun b o v hv => by rw [hb.cell (hH b o v hv)]; exact h.heap.sat b o v hv), old := old, low := low, fresh := h.heap.fresh, box := (fun id b hid => (h.heap.box id b hid).mono' (.refl _) (.refl _) fun hr => hb.block _ (hBx id b hid hr)), sepR := (fun id b hid hr => ⟨sep id b hid hr, Nat.lt_of_lt_of_le (h.heap.sepR id b hid hr).2.1 hb.size, (h.heap.sepR id b hid hr).2.2⟩), injR := h.heap.injR, gv := gv, gl := h.heap.gl, ty := (fun id v cs hid => (h.heap.ty id v cs hid).mono (hb.block _ (hBx id _ hid trivial))) }, h.size, h.slot, h.rest⟩
theorem some_lt {w : World} {g : Nat} {o : Obj} (h : w.heap[g]? = some o) : g < w.heap.size := (Array.getElem?_eq_some_iff.1 h).1
theorem alloc_heap {w : World} (o : Obj) : (w.alloc o).heap[w.heap.size]? = some o := heap_alloc_new w o
end
section
variable {P : Program} {gl : Nat → AV}
structure JJ (P : Program) (gl : Nat → AV) (ps : List AV) (n : Nat) (ks : List Nat) (vs : List AV) (alts : List Alt) (xs : List (List AV)) (B : Nat → Prop) (H : HV) (rest : List (AV × Value)) (tmps : Array Value) (w : World) (l dg : Nat) (r0 : Loop) (B1 : Nat → Prop) (p : Option Nat) (O : Nat → Prop) (Hc : HV) (w' : World) : Prop where
  ex : ∃ (C : Nat → Prop) (m' : Nat → Lc) (H' H0' : HV) (bs' : List Box) (r : Loop), w'.heap[l]? = some (.loop r) ∧
    (match p with
      | some k => r = r0 ∧ RngOk P gl ps n r0.params r0.assign r0.body ks vs alts (xs.drop k) bs'
      | none => ∃ e c, roundEnd e = some (some c) ∧ r = { r0 with state := .done, pending := some c } ∧ Out alts e vs bs') ∧
    (∀ b, O b ∨ C b → dg + 2 ≤ b ∧ b < w'.heap.size) ∧ (∀ b, O b → ∀ o, H' b o = none) ∧ HV.le Hc H' ∧ (∀ b o v, Hc b o = some v → B1 b ∨ C b) ∧ (∀ b o, B1 b → H0' b o = H b o) ∧
    RelS m' H' (fun b => B1 b ∨ O b ∨ C b) H0' gl rest (headSt n ks vs bs') tmps w'
  dgo : w'.heap[dg]? = some (.deferred (some []))
  bel : BelowS B w w'
  leH : HV.le H Hc
variable {ps : List AV} {n : Nat} {ks : List Nat} {vs : List AV} {alts : List Alt} {xs : List (List AV)} {B : Nat → Prop} {H : HV} {rest : List (AV × Value)} {tmps : Array Value} {w : World} {l dg : Nat} {r0 : Loop} {B1 : Nat → Prop}
theorem HV.dom {H : HV} {b : Nat} (h : ¬ ∃ o v, H b o = some v) (o : Nat) : H b o = none := by
  cases hh : H b o with
  | none => rfl
  | some v => exact absurd ⟨o, v, hh⟩ h
theorem dropAt {α : Type} {xs : List α} {k : Nat} {x : α} (h : xs[k]? = some x) : xs.drop k = x :: xs.drop (k + 1) := by
  obtain ⟨h1, h2⟩ := List.getElem?_eq_some_iff.1 h
  rw [List.drop_eq_getElem_cons h1, h2]
theorem JJ.own (hl : l = dg + 1) (hB : ∀ b, B b → B1 b) (hBw : ∀ b, B b → b < w.heap.size) (hB1 : ∀ b, B1 b → b < dg + 2) {p : Option Nat} {O : Nat → Prop} {Hc : HV} {w' w'' : World} (h : JJ P gl ps n ks vs alts xs B H rest tmps w l dg r0 B1 p O Hc w') (hbl : BelowS (BO O w') w' w'') : JJ P gl ps n ks vs alts xs B H rest tmps w l dg r0 B1 p (plusO O w' w'') Hc w'' := by
  obtain ⟨⟨C, m', H', H0', bs', r, h1, h2, h3, h4, h5, h6, h7, h8⟩, hd, hbe, hle⟩ := h
  have hnO : ∀ b, b < dg + 2 → ¬ O b := fun b hb hO => by have := (h3 b (.inl hO)).1; omega
  have hlO : BO O w' l := ⟨some_lt h1, hnO l (by omega)⟩
  have hdO : BO O w' dg := ⟨some_lt hd, hnO dg (by omega)⟩
  have hsz : dg + 2 ≤ w'.heap.size := by have := some_lt h1; omega
  have hH' : ∀ b o v, H' b o = some v → BO O w' b := fun b o v hv => ⟨sat_lt h8.heap.sat hv, fun hO => by rw [h4 b hO o] at hv; cases hv⟩
  have hBx : ∀ id b, lkb (headSt n ks vs bs').hp id = some b → Real b (m' id) → (m' id).g < w'.heap.size ∧ ¬ (B1 (m' id).g ∨ O (m' id).g ∨ C (m' id).g) := fun id b hid hr => ⟨(h8.heap.sepR id b hid hr).2.1, (h8.heap.sepR id b hid hr).1⟩
  refine ⟨⟨C, m', H', H', bs', r, by rw [hbl.block l hlO]; exact h1, h2, fun b hb => ?_, fun b hb o => ?_, h5, h6, fun b o hb => ?_, ?_⟩, by rw [hbl.block dg hdO]; exact hd, hbe.trans (hbl.mono fun b hb => ⟨Nat.lt_of_lt_of_le (hBw b hb) hbe.size, hnO b (hB1 b (hB b hb))⟩), hle⟩
  · rcases hb with (hb | hb) | hb
    · exact ⟨(h3 b (.inl hb)).1, Nat.lt_of_lt_of_le (h3 b (.inl hb)).2 hbl.size⟩
    · exact ⟨by have := hb.1; omega, hb.2⟩
    · exact ⟨(h3 b (.inr hb)).1, Nat.lt_of_lt_of_le (h3 b (.inr hb)).2 hbl.size⟩
  · rcases hb with hb | hb
    · exact h4 b hb o
    · cases hh : H' b o with
      | none => rfl
      | some v => have := sat_lt h8.heap.sat hh; omega
  · rw [← h7 b o hb]; exact h8.heap.old b o (.inl hb)
  · refine h8.world hbl hH' (fun id b hid hr => ⟨(hBx id b hid hr).1, fun hO => (hBx id b hid hr).2 (.inr (.inl hO))⟩) (fun _ _ _ => rfl) (fun b hb => ?_) (fun id b hid hr hb => ?_) (h8.heap.gv.to hbl fun b _ hb => ?_)
    · rcases hb with hb | (hb | hb) | hb
      · have := hB1 b hb; have := hbl.size; omega
      · exact Nat.lt_of_lt_of_le (h3 b (.inl hb)).2 hbl.size
      · exact hb.2
      · exact Nat.lt_of_lt_of_le (h3 b (.inr hb)).2 hbl.size
    · obtain ⟨x, y⟩ := hBx id b hid hr
      rcases hb with hb | (hb | hb) | hb
      · exact y (.inl hb)
      · exact y (.inr (.inl hb))
      · have := hb.1; omega
      · exact y (.inr (.inr hb))
    · rcases hb with hb | hb | hb
      · exact .inl hb
      · exact .inr (.inl (.inl hb))
      · exact .inr (.inr hb)
theorem JJ.pub (hB1 : ∀ b, B1 b → b < dg + 2) {p : Option Nat} {O : Nat → Prop} {Hc : HV} {w' : World} {H2 : HV} (h : JJ P gl ps n ks vs alts xs B H rest tmps w l dg r0 B1 p O Hc w') (hs : HV.sat H2 w') (hk : ∀ b o v, H2 b o = some v → O b ∨ Hc b o = some v) : JJ P gl ps n ks vs alts xs B H rest tmps w l dg r0 B1 p (lessO O H2) (unH Hc H2) w' := by
  obtain ⟨⟨C, m', H', H0', bs', r, h1, h2, h3, h4, h5, h6, h7, h8⟩, hd, hbe, hle⟩ := h
  have hun : ∀ b o v, unH H' H2 b o = some v → H' b o = some v ∨ (O b ∧ H2 b o = some v) := fun b o v hv => by
    rcases unH_r hv with e | ⟨e1, e2⟩
    · exact .inl e
    · rcases hk b o v e2 with hO | hc
      · exact .inr ⟨hO, e2⟩
      · rw [h5 b o v hc] at e1; cases e1
  have hbx : ∀ id b, lkb (headSt n ks vs bs').hp id = some b → Real b (m' id) → ∀ o, unH H' H2 (m' id).g o = none := fun id b hid hr o => by
    obtain ⟨x, y, z⟩ := h8.heap.sepR id b hid hr
    cases hh : unH H' H2 (m' id).g o with
    | none => rfl
    | some v =>
      rcases hun _ _ _ hh with e | ⟨hO, _⟩
      · rw [z o] at e; cases e
      · exact absurd (.inr (.inl hO)) x
  have hkn := h8.know (H' := unH H' H2) (H0' := unH H' H2) unH_l (unH_sat h8.heap.sat hs) (fun _ _ _ => rfl) hbx
  have hB1n : ∀ b, b < dg + 2 → ¬ O b := fun b hb hO => by have := (h3 b (.inl hO)).1; omega
  have split : ∀ b, O b → lessO O H2 b ∨ (O b ∧ ∃ o v, H2 b o = some v) := fun b hO => by
    by_cases hx : ∃ o v, H2 b o = some v
    · exact .inr ⟨hO, hx⟩
    · exact .inl ⟨hO, HV.dom hx⟩
  refine ⟨⟨fun b => C b ∨ (O b ∧ ∃ o v, H2 b o = some v), m', unH H' H2, unH H' H2, bs', r, h1, h2, fun b hb => ?_, fun b hb o => ?_, fun b o v hv => ?_, fun b o v hv => ?_, fun b o hb => ?_, ?_⟩, hd, hbe, fun b o v hv => unH_l b o v (hle b o v hv)⟩
  · rcases hb with hb | hb | hb
    · exact h3 b (.inl hb.1)
    · exact h3 b (.inr hb)
    · exact h3 b (.inl hb.1)
  · simp [unH, h4 b hb.1 o, hb.2 o]
  · rcases unH_r hv with e | ⟨_, e2⟩
    · exact unH_l b o v (h5 b o v e)
    · rcases hk b o v e2 with hO | hc
      · simp [unH, h4 b hO o, e2]
      · exact unH_l b o v (h5 b o v hc)
  · rcases unH_r hv with e | ⟨_, e2⟩
    · rcases h6 b o v e with hb | hb
      · exact .inl hb
      · exact .inr (.inl hb)
    · rcases hk b o v e2 with hO | hc
      · exact .inr (.inr ⟨hO, o, v, e2⟩)
      · rcases h6 b o v hc with hb | hb
        · exact .inl hb
        · exact .inr (.inl hb)
  · have e1 : H' b o = H b o := (h8.heap.old b o (.inl hb)).trans (h7 b o hb)
    cases hh : unH H' H2 b o with
    | none =>
      cases h9 : H' b o with
      | none => rw [← e1, h9]
      | some v => rw [unH_l b o v h9] at hh; cases hh
    | some v =>
      rcases hun _ _ _ hh with e | ⟨hO, e⟩
      · rw [← e1, e]
      · exact absurd hO (hB1n b (hB1 b hb))
  · refine hkn.base (fun _ _ _ => rfl) (fun b hb => ?_) (fun id b hid hr hb => ?_) (h8.heap.gv.sup fun b hb => ?_)
    · refine h8.heap.low b ?_
      rcases hb with hb | hb | hb | hb
      · exact .inl hb
      · exact .inr (.inl hb.1)
      · exact .inr (.inr hb)
      · exact .inr (.inl hb.1)
    · refine (h8.heap.sepR id b hid hr).1 ?_
      rcases hb with hb | hb | hb | hb
      · exact .inl hb
      · exact .inr (.inl hb.1)
      · exact .inr (.inr hb)
      · exact .inr (.inl hb.1)
    · rcases hb with hb | hb | hb
      · exact .inl hb
      · rcases split b hb with hb | hb
        · exact .inr (.inl hb)
        · exact .inr (.inr (.inr hb))
      · exact .inr (.inr (.inl hb))
theorem JJ.round (hl : l = dg + 1) (hdg : dg = w.heap.size) (hB : ∀ b, B b → B1 b) (hBw : ∀ b, B b → b < w.heap.size) (hB1 : ∀ b, B1 b → b < dg + 2) (hBl : B1 l) (hBd : B1 dg) (hrest : rest.map (·.1) = ps) (hst : r0.state = .ready) (hpd : r0.pending = none) (htm : r0.tmps = tmps) (hsz : tmps.size = n)
    (ha : hasRange r0.assign = false) (hb : hasRange r0.body = false) {k : Nat} {O : Nat → Prop} {Hc : HV} {w' : World} {x : List AV} {us : Array Value} (h : JJ P gl ps n ks vs alts xs B H rest tmps w l dg r0 B1 (some k) O Hc w') (hx : xs[k]? = some x) (hxl : x.length = us.size) (hxr : ∀ (j : Nat) (c : AV) (v : Value), x[j]? = some c → us[j]? = some v → RelI Hc c v) :
    ∃ fn tm azz bd, (Instr.yield l us).run P w' = .ok (.round l fn tm azz bd) w' ∧ ∀ ro i, RoundIn (FW ro) i P l fn tm azz bd w' fun e w2 => ∃ b, e = .returned (.bool b) ∧ BelowS O w' w2 ∧ JJ P gl ps n ks vs alts xs B H rest tmps w l dg r0 B1 (if b then some (k + 1) else none) O Hc w2 := by
  obtain ⟨⟨C, m', H', H0', bs', r, h1, ⟨rfl, hR⟩, h3, h4, h5, h6, h7, h8⟩, hd, hbe, hle⟩ := h
  rw [dropAt hx] at hR
  obtain ⟨hsl, s0, hput, hW⟩ := hR
  obtain ⟨hnod, hlen⟩ := slotsOk_inv hsl
  have hB2 : RelS m' H' (fun b => B1 b ∨ O b ∨ C b) H' gl (kvs ks vs tmps ++ rest) (headSt n ks vs bs') tmps w' := (h8.base (fun _ _ _ => rfl) h8.heap.low (fun id b hid hr => (h8.heap.sepR id b hid hr).1) h8.heap.gv).hold2 hnod
  obtain ⟨hpl, hr1, e1, e2⟩ := putPs_ok r.params.toList x us.toList _ tmps s0 hB2 hput (by simpa using hxl) (fun j c v hc hv => .imm _ _ ((hxr j c v hc (by simpa using hv)).mono h5))
  have hfold : (r.params.zip us).foldl (fun tm (q : Nat × Value) => tm.setIfInBounds q.1 q.2) r.tmps = (r.params.toList.zip us.toList).foldl (fun tm (q : Nat × Value) => tm.setIfInBounds q.1 q.2) tmps := by
    rw [← Array.foldl_toList, Array.toList_zip, htm]
  rw [← hfold] at hr1
  have hpins : (kvs ks vs tmps ++ rest).map (·.1) = vs ++ ps := by rw [List.map_append, kvs_fst hlen, hrest]
  have hlw : l < dg + 2 := by omega
  refine ⟨r.fn, _, r.assign, r.body, run_yield h1 (by simpa using hpl.symm), fun ro i => ?_⟩
  refine roundIn_of_wpIn trivial ?_
  have hA := (hW (some l) i (fun e => by rw [ha] at e; cases e) _ _ _ m' H' { tmps := _, defers := [] } w' (fun ps' e => by cases e; exact hpins) hr1)
  refine wpIn_mono hA fun e a1 w1 hq => ?_
  obtain ⟨s1, m1, H1, B1', H01, D1, ⟨rfl, hW2⟩, hf1, hrel1⟩ := hq
  have hl1 : B1' l := hf1.sub l (.inl hBl)
  have hobj1 : w1.heap[l]? = some (.loop r) := by rw [hf1.bel.block l (.inl hBl)]; exact h1
  refine ⟨_, run_beginRound hobj1 hst, ?_⟩
  have hrel1' := hrel1.obj (o2 := .loop { r with state := .busy }) hl1 hobj1 (fun _ _ _ q => by cases q)
  have hBd2 := (hW2 (some l) i (fun e => by rw [hb] at e; cases e) _ _ _ m1 H1 a1 _ (fun ps' e => by cases e; exact hpins) hrel1')
  refine wpIn_mono hBd2 fun e a2 w2 hq => ?_
  obtain ⟨s2, m2, H2, B2', H02, D2, ⟨j, bs2, hj, hturn, hnext⟩, hf2, hrel2⟩ := hq
  have hl2 : B2' l := hf2.sub l hl1
  have hobj2 : w2.heap[l]? = some (.loop { r with state := .busy }) := by rw [hf2.bel.block l hl1]; exact World.putObj_heap_same (some_lt hobj1)
  have hend := run_endRound (P := P) j hobj2
  have hbase := hrel2.back2 (n := n) hsz
  obtain ⟨m3, H3, hrel3⟩ := hturn m2 H2 B2' H02 rest tmps w2 hrest hbase
  have hrel4 := hrel3.obj (o2 := .loop { r with state := if j.isNone then .ready else .done, pending := j }) hl2 hobj2 (fun _ _ _ q => by cases q)
  have hK : BelowS (fun b => (B1 b ∨ O b ∨ C b) ∧ b ≠ l) w' (w2.putObj l (.loop { r with state := if j.isNone then .ready else .done, pending := j })) := by
    have c1 := (hf1.bel.mono (B' := fun b => (B1 b ∨ O b ∨ C b) ∧ b ≠ l) fun b hb => hb.1).obj (g := l) (o2 := .loop { r with state := .busy }) (fun hb => hb.2 rfl) hobj1 (fun _ _ _ q => by cases q)
    exact (c1.trans (hf2.bel.mono fun b hb => hf1.sub b hb.1)).obj (g := l) (fun hb => hb.2 rfl) hobj2 (fun _ _ _ q => by cases q)
  have hold : ∀ b o, (B1 b ∨ O b ∨ C b) → H3 b o = H' b o := fun b o hb => (hrel3.heap.old b o (hf2.sub b (hf1.sub b hb))).trans ((hf2.old b o (hf1.sub b hb)).trans (hf1.old b o hb))
  have hnl : ∀ b, O b ∨ C b → b ≠ l := fun b hb e => by have := (h3 b hb).1; omega
  have hrel5 : RelS m3 H3 (fun b => B1 b ∨ O b ∨ C b) H3 gl rest (headSt n ks vs bs2) tmps (w2.putObj l (.loop { r with state := if j.isNone then .ready else .done, pending := j })) :=
    hrel4.base (fun _ _ _ => rfl) (fun b hb => hrel4.heap.low b (hf2.sub b (hf1.sub b hb))) (fun id b hid hr hb => (hrel4.heap.sepR id b hid hr).1 (hf2.sub _ (hf1.sub _ hb))) (h8.heap.gv.to hK fun b _ hb => hb)
  have hfin : ∃ b, Ending.returned (.bool j.isNone) = .returned (.bool b) ∧ BelowS O w' (w2.putObj l (.loop { r with state := if j.isNone then .ready else .done, pending := j })) ∧ JJ P gl ps n ks vs alts xs B H rest tmps w l dg r B1 (if b then some (k + 1) else none) O Hc (w2.putObj l (.loop { r with state := if j.isNone then .ready else .done, pending := j })) := by
    refine ⟨j.isNone, rfl, hK.mono fun b hb => ⟨.inr (.inl hb), hnl b (.inl hb)⟩, ?_⟩
    have hdg2 : (w2.putObj l (.loop { r with state := if j.isNone then .ready else .done, pending := j })).heap[dg]? = some (.deferred (some [])) := by rw [hK.block dg ⟨.inl hBd, by omega⟩]; exact hd
    have hobj3 : (w2.putObj l (.loop { r with state := if j.isNone then .ready else .done, pending := j })).heap[l]? = some (.loop { r with state := if j.isNone then .ready else .done, pending := j }) := World.putObj_heap_same (some_lt hobj2)
    have hbe3 : BelowS B w (w2.putObj l (.loop { r with state := if j.isNone then .ready else .done, pending := j })) := hbe.trans (hK.mono fun b hb => ⟨.inl (hB b hb), fun e => by have := hBw b hb; omega⟩)
    have hOC : ∀ b, O b ∨ C b → dg + 2 ≤ b ∧ b < (w2.putObj l (.loop { r with state := if j.isNone then .ready else .done, pending := j })).heap.size := fun b hb => ⟨(h3 b hb).1, Nat.lt_of_lt_of_le (h3 b hb).2 hK.size⟩
    have hO3 : ∀ b, O b → ∀ o, H3 b o = none := fun b hb o => (hold b o (.inr (.inl hb))).trans (h4 b hb o)
    have hHc : HV.le Hc H3 := fun b o v hv => by
      rw [hold b o (by rcases h6 b o v hv with q | q; exact .inl q; exact .inr (.inr q))]; exact h5 b o v hv
    have hHB : ∀ b o, B1 b → H3 b o = H b o := fun b o hb => (hold b o (.inl hb)).trans ((h8.heap.old b o (.inl hb)).trans (h7 b o hb))
    cases j with
    | none =>
      obtain ⟨bs3, hle3, hnx⟩ := hnext
      obtain ⟨m4, H4, hrel6⟩ := (head_le (gl := gl) (n := n) (ks := ks) (.refl vs) hle3).2 _ _ _ _ _ _ _ hrel5
      have hold4 : ∀ b o, (B1 b ∨ O b ∨ C b) → H4 b o = H3 b o := fun b o hb => hrel6.heap.old b o hb
      refine ⟨⟨C, m4, H4, H3, bs3, r, ?_, ⟨rfl, hnx⟩, hOC, fun b hb o => (hold4 b o (.inr (.inl hb))).trans (hO3 b hb o), fun b o v hv => ?_, h6, hHB, hrel6⟩, hdg2, hbe3, hle⟩
      · rw [hobj3]
        have : ({ r with state := if (none : Option Code).isNone then .ready else .done, pending := none } : Loop) = r := by
          cases r; simp only at hst hpd; subst hst; subst hpd; rfl
        rw [this]
      · rw [hold4 b o (by rcases h6 b o v hv with q | q; exact .inl q; exact .inr (.inr q))]; exact hHc b o v hv
    | some c =>
      exact ⟨⟨C, m3, H3, H3, bs2, _, hobj3, ⟨e, c, hj, rfl, hnext⟩, hOC, hO3, hHc, h6, hHB, hrel5⟩, hdg2, hbe3, hle⟩
  cases e with
  | normal => cases hj; exact ⟨_, _, hend, hfin⟩
  | ret => cases hj; exact ⟨_, _, hend, hfin⟩
  | exit i => cases hj; exact ⟨_, _, hend, hfin⟩
  | _ => cases hj
theorem JJ.ok (hl : l = dg + 1) (hdg : dg = w.heap.size) (hB : ∀ b, B b → B1 b) (hBw : ∀ b, B b → b < w.heap.size) (hB1 : ∀ b, B1 b → b < dg + 2) (hBl : B1 l) (hBd : B1 dg) (hgl : ∀ g, RelI H (gl g) (.pointer (some ⟨g, 0, none⟩))) (hgB : ∀ g sz cs, gl g = .ip sz [.agg cs] 0 0 → B g) (hrest : rest.map (·.1) = ps) (hst : r0.state = .ready) (hpd : r0.pending = none) (htm : r0.tmps = tmps) (hsz : tmps.size = n)
    (ha : hasRange r0.assign = false) (hb : hasRange r0.body = false) : JOk P gl l xs (JJ P gl ps n ks vs alts xs B H rest tmps w l dg r0 B1) where
  sat p O Hc w' h := by
    obtain ⟨⟨C, m', H', H0', bs', r, h1, h2, h3, h4, h5, h6, h7, h8⟩, _, _, _⟩ := h
    exact fun b o v hv => h8.heap.sat b o v (h5 b o v hv)
  low p O Hc w' h b hb := by
    obtain ⟨⟨C, m', H', H0', bs', r, h1, h2, h3, h4, h5, h6, h7, h8⟩, _, _, _⟩ := h
    exact (h3 b (.inl hb)).2
  dis p O Hc w' h b hb o := by
    obtain ⟨⟨C, m', H', H0', bs', r, h1, h2, h3, h4, h5, h6, h7, h8⟩, _, _, _⟩ := h
    cases hh : Hc b o with
    | none => rfl
    | some v => rw [← h4 b hb o, h5 b o v hh]
  gls p O Hc w' h g := (hgl g).mono h.leH
  gv p O Hc w' h := by
    obtain ⟨⟨C, m', H', H0', bs', r, h1, h2, h3, h4, h5, h6, h7, h8⟩, hd, _, _⟩ := h
    refine fun g sz cs hg => ?_
    obtain ⟨a, D, e, fr, x, y⟩ := h8.heap.gv g sz cs hg
    exact ⟨⟨some_lt x, fun hO => by have := (h3 g (.inl hO)).1; have := hB1 g (hB g (hgB g sz cs hg)); omega⟩, D, e, fr, x, y⟩
  own p O Hc w' w'' h hbl := h.own hl hB hBw hB1 hbl
  pub p O Hc w' H2 h hs hk := h.pub hB1 hs hk
  round k O Hc w' x us h hx hxl hxr := h.round hl hdg hB hBw hB1 hBl hBd hrest hst hpd htm hsz ha hb hx hxl hxr
set_option maxHeartbeats 1000000 in
theorem range_ok {m : Nat → Lc} {H0 : HV} {bs : List Box} {a : Act} {g : Operand} {prm : Array Tmp} {azz bd : Code} {f : Nat} {caps : List AV} {us : Array Value} (hr : RelS m H B H0 gl rest (headSt n ks vs bs) a.tmps w) (hev : a.eval g = .func (.func f) #[] us) (hcl : caps.length = us.size) (hcr : ∀ (j : Nat) (c : AV) (v : Value), caps[j]? = some c → us[j]? = some v → RelI H c v)
    (hent : Enters P f) (hit : ItOk P gl f caps xs) (hrng : RngOk P gl ps n prm azz bd ks vs alts xs bs) (hps : rest.map (·.1) = ps) (ha : hasRange azz = false) (hb : hasRange bd = false) (d : Nat) :
    (Code.rangeFunc g prm azz bd).wpIn (FW none) d P (Post gl B H0 rest true a w (fun e st' => ∃ alt ∈ alts, ∃ x, alt.φ x ∧ e = alt.ex ∧ st' = headSt n ks (alt.vs x) (alt.bs x))) a w := by
  refine wpIn_rangeFunc fun fn _ => ?_
  have henter : (Instr.enterLoop fn a.tmps prm azz bd (FW none).round).run P w = .ok (w.heap.size + 1, [{ target := .collected w.heap.size, args := #[] }]) ((w.alloc (.deferred (some []))).alloc (.loop { state := .ready, pending := none, fn := fn, tmps := a.tmps, params := prm, assign := azz, body := bd, defers := w.heap.size })) := run_enterLoop_outer fn a.tmps prm azz bd
  have hbel : BelowS (fun b => b < w.heap.size) w ((w.alloc (.deferred (some []))).alloc (.loop { state := .ready, pending := none, fn := fn, tmps := a.tmps, params := prm, assign := azz, body := bd, defers := w.heap.size })) :=
    ((BelowS.refl _ w).alloc (fun _ h => h) _).alloc (fun k hk => by simp; omega) _
  have hobj : ((w.alloc (.deferred (some []))).alloc (.loop { state := .ready, pending := none, fn := fn, tmps := a.tmps, params := prm, assign := azz, body := bd, defers := w.heap.size })).heap[w.heap.size + 1]? = some (.loop { state := .ready, pending := none, fn := fn, tmps := a.tmps, params := prm, assign := azz, body := bd, defers := w.heap.size }) := by
    have := heap_alloc_new (w.alloc (.deferred (some []))) (.loop { state := .ready, pending := none, fn := fn, tmps := a.tmps, params := prm, assign := azz, body := bd, defers := w.heap.size })
    rwa [World.size_alloc] at this
  have hdob : ((w.alloc (.deferred (some []))).alloc (.loop { state := .ready, pending := none, fn := fn, tmps := a.tmps, params := prm, assign := azz, body := bd, defers := w.heap.size })).heap[w.heap.size]? = some (.deferred (some [])) := by
    rw [heap_alloc_old _ _ _ (by simp)]; exact heap_alloc_new w _
  have hsz2 : ((w.alloc (.deferred (some []))).alloc (.loop { state := .ready, pending := none, fn := fn, tmps := a.tmps, params := prm, assign := azz, body := bd, defers := w.heap.size })).heap.size = w.heap.size + 2 := by simp
  generalize ((w.alloc (.deferred (some []))).alloc (.loop { state := .ready, pending := none, fn := fn, tmps := a.tmps, params := prm, assign := azz, body := bd, defers := w.heap.size })) = W2 at *
  have hres : (resolve a.eval (rangeCall g (w.heap.size + 1)) 0).run P W2 = .ok { target := .fn (.func f) us, args := #[.func (.yield (w.heap.size + 1)) #[] #[]] } W2 := by
    show (Deferred.ofValue (a.eval g) (#[Operand.const (.func (.yield (w.heap.size + 1)) #[] #[])].map a.eval)).run P W2 = _
    rw [hev]
    simp [Deferred.ofValue, Act.eval]
  have hinv : (invoke (.fn (.func f) us) #[.func (.yield (w.heap.size + 1)) #[] #[]]).run P W2 = .ok (.enter f (#[.func (.yield (w.heap.size + 1)) #[] #[]] ++ us)) W2 := by
    simp only [invoke]
    exact hent _ _
  generalize hB1 : (fun b => b < w.heap.size + 2 ∧ ∀ id b0, lkb (headSt n ks vs bs).hp id = some b0 → Real b0 (m id) → b ≠ (m id).g) = B1
  have hBB : ∀ b, B b → B1 b := fun b hb => by subst hB1; exact ⟨by have := hr.heap.low b hb; omega, fun id b0 hid hre e => (hr.heap.sepR id b0 hid hre).1 (e ▸ hb)⟩
  have hB1l : ∀ b, B1 b → b < w.heap.size + 2 := fun b hb => by subst hB1; exact hb.1
  have hnew : ∀ b, w.heap.size ≤ b → b < w.heap.size + 2 → B1 b := fun b h1 h2 => by subst hB1; exact ⟨h2, fun id b0 hid hre e => by have := (hr.heap.sepR id b0 hid hre).2.1; omega⟩
  have hB1x : ∀ id b0, lkb (headSt n ks vs bs).hp id = some b0 → Real b0 (m id) → ¬ B1 (m id).g := fun id b0 hid hre hb => by subst hB1; exact hb.2 id b0 hid hre rfl
  have hHB1 : ∀ b o v, H b o = some v → B1 b := fun b o v hv => by
    have hlt := sat_lt hr.heap.sat hv
    subst hB1
    exact ⟨by omega, fun id b0 hid hre e => by have := (hr.heap.sepR id b0 hid hre).2.2 o; rw [← e, hv] at this; cases this⟩
  have hj := JJ.ok (P := P) (gl := gl) (ps := ps) (n := n) (ks := ks) (vs := vs) (alts := alts) (xs := xs) (B := B) (H := H) (rest := rest) (tmps := a.tmps) (w := w) (l := w.heap.size + 1) (dg := w.heap.size) (r0 := { state := .ready, pending := none, fn := fn, tmps := a.tmps, params := prm, assign := azz, body := bd, defers := w.heap.size }) (B1 := B1)
    rfl rfl hBB hr.heap.low hB1l (hnew _ (by omega) (by omega)) (hnew _ (by omega) (by omega)) hr.heap.gl (fun g sz cs hg => (hr.heap.gv g sz cs hg).1) hps rfl rfl rfl hr.size ha hb
  have h0 : JJ P gl ps n ks vs alts xs B H rest a.tmps w (w.heap.size + 1) w.heap.size { state := .ready, pending := none, fn := fn, tmps := a.tmps, params := prm, assign := azz, body := bd, defers := w.heap.size } B1 (some 0) (fun _ => False) H W2 := by
    refine ⟨⟨fun _ => False, m, H, H, bs, _, hobj, ⟨rfl, hrng⟩, fun b hb => by rcases hb with h | h <;> exact h.elim, fun b hb => hb.elim, .refl _, fun b o v hv => .inl (hHB1 b o v hv), fun _ _ _ => rfl, ?_⟩, hdob, hbel.mono hr.heap.low, .refl _⟩
    refine hr.world hbel (fun b o v hv => sat_lt hr.heap.sat hv) (fun id b hid hre => (hr.heap.sepR id b hid hre).2.1) (fun _ _ _ => rfl) (fun b hb => ?_) (fun id b hid hre hb => ?_) (hr.heap.gv.to hbel fun b _ hb => .inl (hBB b hb))
    · rw [hsz2]
      rcases hb with h | h | h
      · exact hB1l b h
      · exact h.elim
      · exact h.elim
    · rcases hb with h | h | h
      · exact hB1x id b hid hre h
      · exact h.elim
      · exact h.elim
  refine ⟨_, _, _, _, _, _, _, _, henter, hres, fun _ _ => trivial, hinv, (fun hh => by simp [FW] at hh), callsIn_FW ((hit.ok _ _ hj H W2 us h0 hcl hcr).mono fun e w3 hpost => ?_)⟩
  obtain ⟨v, p', O', Hc', rfl, hp', ⟨⟨C, m', H', H0', bs', r, h1, h2, h3, h4, h5, h6, h7, h8⟩, hdo, hbe, hle⟩⟩ := hpost
  have fin : ∀ (e : Exit) (r : Loop), w3.heap[w.heap.size + 1]? = some (.loop r) → Out alts e vs bs' → Post gl B H0 rest true a w (fun e st' => ∃ alt ∈ alts, ∃ x, alt.φ x ∧ e = alt.ex ∧ st' = headSt n ks (alt.vs x) (alt.bs x)) e { a with defers := [{ target := .collected w.heap.size, args := #[] }] ++ a.defers } (w3.putObj (w.heap.size + 1) (.loop { r with state := .exhausted })) := fun e r h1 ho => by
    obtain ⟨alt, hal, x, hφ, rfl, lv, lb⟩ := ho.ok
    have hr2 := h8.obj (o2 := .loop { r with state := .exhausted }) (.inl (hnew _ (by omega) (by omega))) h1 (fun _ _ _ q => by cases q)
    obtain ⟨m4, H4, hr3⟩ := (head_le (gl := gl) (n := n) (ks := ks) lv lb).2 _ _ _ _ _ _ _ hr2
    refine ⟨_, m4, H4, _, H0', [w.heap.size], ⟨alt, hal, x, hφ, rfl, rfl⟩, ⟨fun b hb => .inl (hBB b hb), fun b o hb => ?_, rfl, by simp, fun k hk => ?_, fun hh => (by cases hh), ?_⟩, hr3⟩
    · rw [h7 b o (hBB b hb)]; exact hr.heap.old b o hb
    · simp only [List.mem_singleton] at hk
      subst hk
      exact ⟨.inl (hnew _ (by omega) (by omega)), Nat.le_refl _, by rw [World.putObj_heap_other (by omega)]; exact hdo⟩
    · exact hbe.obj (fun hb => by have := hr.heap.low _ hb; omega) h1 (fun _ _ _ q => by cases q)
  cases p' with
  | some k =>
    obtain ⟨rfl, hR⟩ := h2
    obtain rfl : k = xs.length := by rcases hp' with e | e <;> cases e; rfl
    rw [List.drop_length] at hR
    exact ⟨none, _, run_endLoop (P := P) h1 (by simp), fin .normal _ h1 hR.2⟩
  | none =>
    obtain ⟨e, c, hc, rfl, ho⟩ := h2
    refine ⟨some c, _, run_endLoop (P := P) h1 (by simp), ?_⟩
    have := fin e _ h1 ho
    cases e with
    | ret => cases hc; exact wpIn_ret this
    | exit i => cases hc; exact wpIn_exit this
    | _ => cases hc
end
end HY
end
section
namespace HY
open Go Go.RowKit
def wAlts : List Alt → (Exit → List AV → List Box → Prop) → Prop
  | [], _ => True
  | [a], K => ∀ x, a.φ x → K a.ex (a.vs x) (a.bs x)
  | a :: b :: r, K => (∀ x, a.φ x → K a.ex (a.vs x) (a.bs x)) ∧ wAlts (b :: r) K
theorem wAlts_ok : ∀ {l : List Alt} {K : Exit → List AV → List Box → Prop}, wAlts l K → ∀ a ∈ l, ∀ x, a.φ x → K a.ex (a.vs x) (a.bs x)
  | [], K, _, a, ha, _, _ => by simp at ha
  | [b], K, h, a, ha, x, hp => by simp at ha; subst ha; exact h x hp
  | b :: c :: r, K, h, a, ha, x, hp => by
    rcases List.mem_cons.1 ha with rfl | ha
    · exact h.1 x hp
    · exact wAlts_ok (l := c :: r) h.2 a ha x hp
def regId : Code → Nat
  | .region id _ _ => id + 1
  | .seq a b => match regId a with
    | 0 => regId b
    | k + 1 => k + 1
  | .cond _ a b => match regId a with
    | 0 => regId b
    | k + 1 => k + 1
  | .block _ c => regId c
  | .loop c => regId c
  | .rangeFunc _ _ a b => match regId a with
    | 0 => regId b
    | k + 1 => k + 1
  | _ => 0
def exNorm (e : Exit) : Bool := match e with | .normal => true | _ => false
def exIs (e : Exit) (id : Nat) : Bool := match e with | .exit i => Nat.beq i id | _ => false
def jKey : Code → Nat
  | .region id _ _ => 5000000 + id
  | .cond _ a b => 6000000 + regId (.cond (.tmp 0) a b)
  | .block id _ => 7000000 + id
  | .seq _ (.cond _ a b) => 6000000 + regId (.cond (.tmp 0) a b)
  | .seq _ (.block id _) => 7000000 + id
  | _ => 8000000
def Jn (_id : Nat) (p : Prop) : Prop := p
def wjoin (ps : List AV) (kx : List Nat) (kbx : List KB) (n : Nat) (alts : List Alt) (e : Exit) (s : St) : Prop :=
  match exNorm e with
  | true => match Nat.beq s.n n with
    | true => ghosts kbx s (fun s => wweak ps kx kbx s (Out alts .normal))
    | false => False
  | false => False
def wpre (hs : Hints) (id : Nat) (st : St) (K : St → Prop) : Prop := match lkH hs (7500000 + id) with
  | some (.z kb _) => ghosts kb st K
  | _ => K st
theorem wpre_ok {gl : Nat → AV} {hs : Hints} {id : Nat} {st : St} {K : St → Prop} (h : wpre hs id st K) : ∃ st', Conv gl st st' ∧ K st' := by
  unfold wpre at h
  split at h
  · exact ghosts_ok h
  · exact ⟨st, .refl, h⟩
def wcode (P : Program) (gl : Nat → AV) (ch0 : CallH) (wf : WF) (hs : Hints) (pins : Option (List AV)) : Nat → Code → St → (Exit → St → Prop) → Prop
  | 0, _, _, _ => False
  | k + 1, c, st, K => match c with
    | .skip => K .normal st
    | .label _ => K .normal st
    | .exit id => K (.exit id) st
    | .ret => K .ret st
    | .region id ops draw => match draw with
      | true => match tailAt ops.toList with
        | nf => wpre hs id st (fun st => wrunR P gl ch0 hs ops.toList st.nx nf (st.bump ops.toList.length) (fun s => wnrms hs (ops.toList.take nf) s (fun s => wseq P gl ch0 wf hs ops.toList (ops.toList.drop nf) s (K .normal))))
      | false => wseq P gl ch0 wf hs ops.toList ops.toList st (K .normal)
    | .seq a b => match lkH hs (jKey a) with
      | some (.l _ _ _ kx kbx alts) => match pins with
        | some ps => ∃ u o, Jn (jKey a) (wcode P gl ch0 wf hs pins k a st (wjoin ps kx kbx st.n (alts u o))) ∧ wAlts (alts u o) (fun _ vs bs => wcode P gl ch0 wf hs pins k b (headSt st.n kx vs bs) K)
        | none => False
      | _ => wcode P gl ch0 wf hs pins k a st (fun e s => match exNorm e with
        | true => wcode P gl ch0 wf hs pins k b s K
        | false => K e s)
    | .cond c a b => match st.ev gl c with
      | .bool t => match t with
        | true => wcode P gl ch0 wf hs pins k a st K
        | false => wcode P gl ch0 wf hs pins k b st K
      | _ => False
    | .block id c => wcode P gl ch0 wf hs pins k c st (fun e s => match exIs e id with
      | true => K .normal s
      | false => K e s)
    | .loop c => match lkH hs (3000000 + regId c) with
      | some (.l gs ks kb kx _ alts) => match pins with
        | some ps => ghosts gs st (fun s => ghosts kb s (fun s => wweak ps ks kb s (fun vs bs => ∃ u o, LoopOk P gl ps st.n c ks vs bs kx (alts u o) ∧ wAlts (alts u o) (fun e vs' bs' => K e (headSt st.n kx vs' bs')))))
        | none => False
      | _ => wcode P gl ch0 wf hs pins k c st (fun e s => match exNorm e with
        | true => wcode P gl ch0 wf hs pins k (.loop c) s K
        | false => K e s)
    | .rangeFunc g prm azz bd => match lkH hs (4000000 + regId (.seq azz bd)) with
      | some (.l gs ks kb _ _ alts) => match pins with
        | some ps => match hasRange azz || hasRange bd with
          | true => False
          | false => ghosts gs st (fun s => ghosts kb s (fun s => match s.ev gl g with
            | .fn f caps => match bodied P f, optL (tree (fun _ => none) false 12) caps with
              | true, some ts => wweak ps ks kb s (fun vs bs => ∃ xs u o, ItOk P gl f ts xs ∧ RngOk P gl ps st.n prm azz bd ks vs (alts u o) xs bs ∧ wAlts (alts u o) (fun e vs' bs' => K e (headSt st.n ks vs' bs')))
              | _, _ => False
            | _ => False))
        | none => False
      | _ => False
    | _ => False
section
variable {P : Program} {gl : Nat → AV} {ch0 : CallH} {wf : WF} {hs : Hints}
theorem Wk.mono {pins : Option (List AV)} {c : Code} {st : St} {K K' : Exit → St → Prop} (h : Wk P gl pins c st K) (hq : ∀ e s, K e s → K' e s) : Wk P gl pins c st K' := fun ro d hro B H0 rest m H a w ht hr =>
  wpIn_mono (h ro d hro B H0 rest m H a w ht hr) fun _ _ _ ⟨s, m', H', B', H0', D, q, f, r⟩ => ⟨s, m', H', B', H0', D, hq _ _ q, f, r⟩
theorem exNorm_t {e : Exit} (h : exNorm e = true) : e = .normal := by cases e <;> first | rfl | cases h
theorem exNorm_f {e : Exit} (h : exNorm e = false) : e ≠ .normal := fun he => by subst he; cases h
theorem exIs_t {e : Exit} {id : Nat} (h : exIs e id = true) : e = .exit id := by
  cases e with
  | exit i => rw [Nat.eq_of_beq_eq_true h]
  | _ => cases h
theorem exIs_f {i id : Nat} (h : exIs (.exit i) id = false) : i ≠ id := fun e => by
  subst e
  have : Nat.beq i i = true := Nat.beq_refl i
  simp only [exIs, this] at h; cases h
theorem wcode_ok (h0 : ch0.Ok P gl) (hwf : WF.Ok P gl wf) (hmix : P.follows .mixedOrders = true) (pins : Option (List AV)) : ∀ (J k : Nat), k ≤ J → ∀ (c : Code) (st : St) (K : Exit → St → Prop), okCode c = true → wcode P gl ch0 wf hs pins k c st K → Wk P gl pins c st K
  | _, 0, _, _, _, _, _, h => h.elim
  | 0, k + 1, hJ, _, _, _, _, _ => by omega
  | J + 1, k + 1, hJ, c, st, K, hok, h => by
    have ihS := wcode_ok h0 hwf hmix pins J
    have ih := ihS k (by omega)
    intro ro dp hro B H0 rest m H a w htop hr
    cases c with
    | skip => exact wpIn_skip (.of h rfl (BelowS.refl _ _) hr)
    | label l => exact wpIn_label (.of h rfl (BelowS.refl _ _) hr)
    | exit id => exact wpIn_exit (.of h rfl (BelowS.refl _ _) hr)
    | ret => exact wpIn_ret (.of h rfl (BelowS.refl _ _) hr)
    | region id ops draw =>
      simp only [wcode] at h
      cases draw with
      | true =>
        simp only [okCode, Bool.not_true, Bool.false_or, Bool.and_eq_true] at hok
        simp only at h
        obtain ⟨hnf, hbit⟩ := tailGo_spec (ms := masks ops.toList []) ops.toList.length
        obtain ⟨st0, hconv, h⟩ := wpre_ok (gl := gl) h
        obtain ⟨m, H, hr⟩ := hconv.2 _ _ _ _ _ _ _ hr
        obtain ⟨cb, F, s, hcb, hK, hrun, hF⟩ := wrunR_ok h0 h
        obtain ⟨s1, hK, hsame⟩ := wnrms_ok (gl := gl) hK
        have := region_draw_tail hcb hmix hok.1 (id := id) (nf := tailAt ops.toList) (ro := ro) (n := dp) (Q := Post gl B H0 rest false a w K) hnf hbit hr hrun hF fun listed a' w' m' H' hl1 hl2 hl3 hd hb hr' =>
          wtail_ok h0 hwf hok.1 hbit (d0 := a.defers) (w0 := w) (fun sF a2 w2 m2 H2 hk2 hd2 hb2 hr2 => .of hk2 hd2 hb2 hr2) _ (tailAt ops.toList) listed s1 a' w' m' H' (Nat.le_refl _) (Nat.add_sub_cancel' hnf) hl1 hl2 hl3 hK hd hb (hsame.rel _ _ _ _ _ _ _ hr')
        simpa [hasRange] using this
      | false =>
        refine wpIn_region ?_
        have := wseq_ok h0 hwf (all := ops.toList) (ro := ro) (n := dp) (d0 := a.defers) (w0 := w) (Q := Post gl B H0 rest false a w K) (fun s a' w' m' H' hk hd hb hr' => .of hk hd hb hr') [] ops.toList st a w m H rfl h rfl (BelowS.refl _ _) hr
        simpa [List.range_eq_range', hasRange] using this
    | seq x y =>
      simp only [wcode] at h
      simp only [okCode, Bool.and_eq_true] at hok
      have hrx : hasRange x = true → ro = none := fun e => hro (by simp [hasRange, e])
      have hry : hasRange y = true → ro = none := fun e => hro (by simp [hasRange, e])
      have hor : hasRange (.seq x y) = false → hasRange x = false ∧ hasRange y = false := fun e => by simpa [hasRange] using e
      split at h
      · rename_i kx kbx alts _
        split at h
        · rename_i ps
          obtain ⟨u, o, h, hal⟩ := h
          refine wpIn_seq (wpIn_mono (ih x st _ hok.1 h ro dp hrx B H0 rest m H a w htop hr) fun e a' w' hp => ?_)
          obtain ⟨s, m', H', B', H0', D, hq, hf, hr'⟩ := hp
          unfold wjoin at hq
          split at hq
          · rename_i he
            obtain rfl := exNorm_t he
            split at hq
            · rename_i hn
              have hn := Nat.eq_of_beq_eq_true hn
              obtain ⟨s2, hc, hq⟩ := ghosts_ok (gl := gl) hq
              obtain ⟨m3, H3, hr3⟩ := hc.2 _ _ _ _ _ _ _ hr'
              obtain ⟨vs', bs', m4, ho, hr4⟩ := wweak_ok hr3 (htop ps rfl) hq
              rw [hc.1, hn] at hr4
              obtain ⟨alt, h1, x0, h2, _, lv, lb⟩ := ho.ok
              obtain ⟨m5, H5, hr5⟩ := (head_le (gl := gl) (n := st.n) (ks := kx) lv lb).2 _ _ _ _ _ _ _ hr4
              refine wpIn_mono (ih y _ K hok.2 (wAlts_ok hal alt h1 x0 h2) ro dp hry B' H0' rest m5 H5 a' w' htop hr5) fun e a2 w2 hp2 => ?_
              obtain ⟨s2, m2, H2, B2, H02, D2, hq2, hf2, hr2⟩ := hp2
              exact ⟨s2, m2, H2, B2, H02, _, hq2, hf.trans hf2 hor, hr2⟩
            · cases hq
          · cases hq
        · cases h
      · refine wpIn_seq (wpIn_mono (ih x st _ hok.1 h ro dp hrx B H0 rest m H a w htop hr) fun e a' w' hp => ?_)
        obtain ⟨s, m', H', B', H0', D, hq, hf, hr'⟩ := hp
        split at hq
        · rename_i he
          obtain rfl := exNorm_t he
          refine wpIn_mono (ih y s K hok.2 hq ro dp hry B' H0' rest m' H' a' w' htop hr') fun e a2 w2 hp2 => ?_
          obtain ⟨s2, m2, H2, B2, H02, D2, hq2, hf2, hr2⟩ := hp2
          exact ⟨s2, m2, H2, B2, H02, _, hq2, hf.trans hf2 hor, hr2⟩
        · rename_i he
          have := exNorm_f he
          cases e with
          | normal => exact absurd rfl this
          | _ => exact ⟨s, m', H', B', H0', D, hq, hf.up fun e => (hor e).1, hr'⟩
    | cond c x y =>
      simp only [wcode] at h
      simp only [okCode, Bool.and_eq_true] at hok
      have hrx : hasRange x = true → ro = none := fun e => hro (by simp [hasRange, e])
      have hry : hasRange y = true → ro = none := fun e => hro (by simp [hasRange, e])
      have hor : hasRange (.cond c x y) = false → hasRange x = false ∧ hasRange y = false := fun e => by simpa [hasRange] using e
      split at h
      · rename_i t ht
        have hv := hr.ev c
        rw [ht] at hv
        cases t with
        | true => exact wpIn_cond hv.bool_inv (wpIn_mono (ih x st K hok.1 h ro dp hrx B H0 rest m H a w htop hr) fun e a2 w2 ⟨s2, m2, H2, B2, H02, D2, hq2, hf2, hr2⟩ => ⟨s2, m2, H2, B2, H02, D2, hq2, hf2.up fun e => (hor e).1, hr2⟩)
        | false => exact wpIn_cond hv.bool_inv (wpIn_mono (ih y st K hok.2 h ro dp hry B H0 rest m H a w htop hr) fun e a2 w2 ⟨s2, m2, H2, B2, H02, D2, hq2, hf2, hr2⟩ => ⟨s2, m2, H2, B2, H02, D2, hq2, hf2.up fun e => (hor e).2, hr2⟩)
      · cases h
    | block id c =>
      simp only [wcode] at h
      simp only [okCode] at hok
      refine wpIn_block (wpIn_mono (ih c st _ hok h ro dp hro B H0 rest m H a w htop hr) fun e a' w' hp => ?_)
      obtain ⟨s, m', H', B', H0', D, hq, hf, hr'⟩ := hp
      split at hq
      · rename_i he
        obtain rfl := exIs_t he
        simp only [Exit.inBlock, if_true]
        exact ⟨s, m', H', B', H0', D, hq, hf, hr'⟩
      · rename_i he
        cases e with
        | exit i =>
          simp only [Exit.inBlock, if_neg (exIs_f he)]
          exact ⟨s, m', H', B', H0', D, hq, hf, hr'⟩
        | _ => exact ⟨s, m', H', B', H0', D, hq, hf, hr'⟩
    | loop c =>
      have hok' := hok
      simp only [okCode] at hok
      have unroll : ∀ j, j ≤ k + 1 → ∀ (s : St) (m1 : Nat → Lc) (H1 : HV) (B1 : Nat → Prop) (H01 : HV) (D1 : List Nat) (a1 : Act) (w1 : World), Fin' B H0 a w (hasRange c) B1 H01 D1 a1 w1 → RelS m1 H1 B1 H01 gl rest s a1.tmps w1 →
          (∃ υ ω gs ks kb kx kbx, ∃ alts : υ → ω → List Alt, lkH hs (3000000 + regId c) = some (.l gs ks kb kx kbx alts)) ∨ (wcode P gl ch0 wf hs pins j (.loop c) s K → (Code.loop c).wpIn (FW ro) dp P (Post gl B H0 rest (hasRange c) a w K) a1 w1) := by
        intro j hj s m1 H1 B1 H01 D1 a1 w1 hf1 hr1
        by_cases hl : ∃ υ ω gs ks kb kx kbx, ∃ alts : υ → ω → List Alt, lkH hs (3000000 + regId c) = some (.l gs ks kb kx kbx alts)
        · exact .inl hl
        refine .inr fun h => ?_
        refine wpIn_loop_n (j := j) (fun i a' w' => i ≤ k + 1 ∧ ∃ st1 m1 H1 B1 H01 D1, wcode P gl ch0 wf hs pins i (.loop c) st1 K ∧ Fin' B H0 a w (hasRange c) B1 H01 D1 a' w' ∧ RelS m1 H1 B1 H01 gl rest st1 a'.tmps w') (fun i a1 w1 hI => ?_) ⟨hj, s, m1, H1, B1, H01, D1, h, hf1, hr1⟩
        obtain ⟨hi, st1, m1, H1, B1, H01, D1, hx, hf1, hr1⟩ := hI
        cases i with
        | zero => exact hx.elim
        | succ i =>
          simp only [wcode] at hx
          split at hx
          · rename_i hh; exact absurd ⟨_, _, _, _, _, _, _, _, hh⟩ hl
          · refine wpIn_mono (ihS i (by omega) c st1 _ hok hx ro dp hro B1 H01 rest m1 H1 a1 w1 htop hr1) fun e a2 w2 hp => ?_
            obtain ⟨s2, m2, H2, B2, H02, D2, hq, hf2, hr2⟩ := hp
            split at hq
            · rename_i he
              obtain rfl := exNorm_t he
              exact ⟨i, Nat.lt_succ_self _, by omega, s2, m2, H2, B2, H02, _, hq, hf1.trans hf2 fun e => ⟨e, e⟩, hr2⟩
            · rename_i he
              have := exNorm_f he
              cases e with
              | normal => exact absurd rfl this
              | _ => exact ⟨s2, m2, H2, B2, H02, _, hq, hf1.trans hf2 fun e => ⟨e, e⟩, hr2⟩
      rcases unroll (k + 1) (Nat.le_refl _) st m H B H0 [] a w (.of rfl (BelowS.refl _ _)) hr with ⟨υ, ω, gs, ks, kb, kx, kbx, alts, hl⟩ | hgo
      · simp only [wcode, hl] at h
        split at h
        · rename_i ps
          obtain ⟨s1, hc1, h⟩ := ghosts_ok (gl := gl) h
          obtain ⟨s2, hc2, h⟩ := ghosts_ok (gl := gl) h
          obtain ⟨m1, H1, hr1⟩ := (hc1.trans hc2).2 _ _ _ _ _ _ _ hr
          obtain ⟨vs, bs, m', hq, hr'⟩ := wweak_ok hr1 (htop ps rfl) h
          rw [(hc1.trans hc2).1] at hr'
          obtain ⟨u, o, hq⟩ := hq
          refine wpIn_mono (hq.1.ok ro dp hro B H0 rest m' H1 a w (htop ps rfl) hr').loop fun e a' w' hp => ?_
          obtain ⟨s, m2, H2, B2, H02, D2, ⟨alt, hal, x, hφ, rfl, rfl⟩, hf, hr2⟩ := hp
          exact ⟨_, m2, H2, B2, H02, D2, wAlts_ok hq.2 alt hal x hφ, hf, hr2⟩
        · cases h
      · exact hgo h
    | rangeFunc g prm azz bd =>
      simp only [wcode] at h
      obtain rfl := hro rfl
      split at h
      · rename_i gs ks kb kx kbx alts hl
        split at h
        · rename_i ps
          split at h
          · cases h
          · rename_i hran
            rw [Bool.or_eq_false_iff] at hran
            obtain ⟨s1, hc1, h⟩ := ghosts_ok (gl := gl) h
            obtain ⟨s2, hc2, h⟩ := ghosts_ok (gl := gl) h
            obtain ⟨m1, H1, hr1⟩ := (hc1.trans hc2).2 _ _ _ _ _ _ _ hr
            split at h
            · rename_i f caps hev
              split at h
              · rename_i ts hbod hts
                have hgv := hr1.ev g
                rw [hev] at hgv
                obtain ⟨us, hu, hul, hur⟩ := hgv.fn_inv
                obtain ⟨vs, bs, m', hq, hr'⟩ := wweak_ok hr1 (htop ps rfl) h
                rw [(hc1.trans hc2).1] at hr'
                obtain ⟨xs, u, o, hit, hrn, hal⟩ := hq
                obtain ⟨hl', hr2⟩ := optL_rel (R' := RelI (snap H1 (fun _ => none) m1 w)) hul hur hts fun x t v hx ht => tree_ok (H1 := H1) false (fun id ver cs hh => by cases hh) (fun id ver cs hh => by cases hh) (fun id bx hh => by cases hh) (fun _ => rfl) 12 x t v hx ht
                have hsn : snap H1 (fun _ => none) m1 w = H1 := by
                  funext b o; unfold snap; rw [if_neg]; rintro ⟨_, _, _, e, _⟩; cases e
                rw [hsn] at hr2
                refine wpIn_mono (range_ok hr' hu hl' hr2 (bodied_enters hbod) hit hrn (htop ps rfl) hran.1 hran.2 dp) fun e a' w' hp => ?_
                obtain ⟨s, m2, H2, B2, H02, D2, ⟨alt, hal', x, hφ, rfl, rfl⟩, hf, hr2⟩ := hp
                exact ⟨_, m2, H2, B2, H02, D2, wAlts_ok hal alt hal' x hφ, hf, hr2⟩
              · cases h
            · cases h
        · cases h
      · cases h
    | _ => exact h.elim
end
structure Nxt (P : Program) (gl : Nat → AV) (ps : List AV) (n : Nat) (c : Code) (ks : List Nat) (kx : List Nat) (alts : List Alt) (vs : List AV) (bs : List Box) : Prop where
  ok : ∃ vs' bs', LeVs vs vs' ∧ LeBs bs bs' ∧ LoopOk P gl ps n c ks vs' bs' kx alts
def wround (P : Program) (gl : Nat → AV) (ch0 : CallH) (wf : WF) (hs : Hints) (ps : List AV) (k n : Nat) (c : Code) (ks : List Nat) (kb : List KB) (kx : List Nat) (kbx : List KB) (alts : List Alt) (vs : List AV) (bs : List Box) (N : List AV → List Box → Prop) : Prop :=
  wcode P gl ch0 wf hs (some ps) k c (headSt n ks vs bs) (fun e s => match Nat.beq s.n n with
    | true => match exNorm e with
      | true => ghosts kb s (fun s => wweak ps ks kb s N)
      | false => ghosts kbx s (fun s => wweak ps kx kbx s (Out alts e))
    | false => False)
section
variable {P : Program} {gl : Nat → AV} {ch0 : CallH} {wf : WF} {hs : Hints}
theorem wcode_n {pins : Option (List AV)} (h0 : ch0.Ok P gl) (hwf : WF.Ok P gl wf) (hmix : P.follows .mixedOrders = true) {k : Nat} {c : Code} {st : St} {K : Exit → St → Prop} (hok : okCode c = true) (h : wcode P gl ch0 wf hs pins k c st K) : Wk P gl pins c st K :=
  wcode_ok h0 hwf hmix pins k k (Nat.le_refl _) c st K hok h
theorem LoopOk.step {P : Program} {gl : Nat → AV} {ch0 : CallH} {wf : WF} {hs : Hints} (h0 : ch0.Ok P gl) (hwf : WF.Ok P gl wf) (hmix : P.follows .mixedOrders = true) {ps : List AV} {n : Nat} {c : Code} {ks : List Nat} {kb : List KB} {kx : List Nat} {kbx : List KB} {alts : List Alt} (hok : okCode c = true) {k : Nat} {vs : List AV} {bs : List Box}
    (hw : wround P gl ch0 wf hs ps k n c ks kb kx kbx alts vs bs (Nxt P gl ps n c ks kx alts)) : LoopOk P gl ps n c ks vs bs kx alts := by
  refine ⟨fun ro dp hro B H0 rest m H a w hrest hr => wpL.round ?_⟩
  refine wpIn_mono (wcode_n h0 hwf hmix hok hw ro dp hro B H0 rest m H a w (fun ps' e => by cases e; exact hrest) hr) fun e a2 w2 hp => ?_
  obtain ⟨s, m2, H2, B2, H02, D2, hq, hf2, hr2⟩ := hp
  split at hq
  · rename_i hn
    have hn := Nat.eq_of_beq_eq_true hn
    split at hq
    · rename_i he
      obtain rfl := exNorm_t he
      obtain ⟨s2, hc, hq⟩ := ghosts_ok (gl := gl) hq
      obtain ⟨m3, H3, hr3⟩ := hc.2 _ _ _ _ _ _ _ hr2
      obtain ⟨vs', bs', m4, hI', hr4⟩ := wweak_ok hr3 hrest hq
      rw [hc.1, hn] at hr4
      obtain ⟨vs2, bs2, lv, lb, hI'⟩ := hI'.ok
      obtain ⟨m5, H5, hr5⟩ := (head_le (gl := gl) (n := n) (ks := ks) lv lb).2 _ _ _ _ _ _ _ hr4
      refine wpL.mono (hI'.ok ro dp hro B2 H02 rest m5 H5 a2 w2 hrest hr5) fun e a3 w3 hp3 => ?_
      obtain ⟨s3, m6, H6, B3, H03, D3, h1, hf3, h4⟩ := hp3
      exact ⟨s3, m6, H6, B3, H03, _, h1, hf2.trans hf3 fun e => ⟨e, e⟩, h4⟩
    · rename_i he
      have := exNorm_f he
      obtain ⟨s2, hc, hq⟩ := ghosts_ok (gl := gl) hq
      obtain ⟨m3, H3, hr3⟩ := hc.2 _ _ _ _ _ _ _ hr2
      obtain ⟨vs', bs', m4, ho, hr4⟩ := wweak_ok hr3 hrest hq
      rw [hc.1, hn] at hr4
      obtain ⟨alt, h1, x, h2, rfl, lv, lb⟩ := ho.ok
      obtain ⟨m5, H5, hr5⟩ := (head_le (gl := gl) (n := n) (ks := kx) lv lb).2 _ _ _ _ _ _ _ hr4
      cases e' : alt.ex with
      | normal => exact absurd e' this
      | _ => exact ⟨_, m5, H5, B2, H02, D2, ⟨alt, h1, x, h2, e'.symm, rfl⟩, hf2, hr5⟩
  · cases hq
end
structure NxtR (P : Program) (gl : Nat → AV) (ps : List AV) (n : Nat) (prm : Array Tmp) (azz bd : Code) (ks : List Nat) (vs : List AV) (alts : List Alt) (xs : List (List AV)) (bs : List Box) : Prop where
  ok : ∃ bs2, LeBs bs bs2 ∧ RngOk P gl ps n prm azz bd ks vs alts xs bs2
def wrng (P : Program) (gl : Nat → AV) (ch0 : CallH) (wf : WF) (hs : Hints) (ps : List AV) (k n : Nat) (prm : Array Tmp) (azz bd : Code) (ks : List Nat) (kb kbx : List KB) (vs : List AV) (alts : List Alt) (x : List AV) (bs : List Box) (N : List Box → Prop) : Prop :=
  match slotsOk ks vs with
  | true => match putPs prm.toList x (headSt n ks vs bs) with
    | some s0 => wcode P gl ch0 wf hs (some (vs ++ ps)) k azz s0 (fun e s1 => match exNorm e with
      | true => wcode P gl ch0 wf hs (some (vs ++ ps)) k bd s1 (fun e s2 => match roundEnd e with
        | some j => match j with
          | none => ghosts kb ⟨n, slOf ks vs, s2.hp, s2.nx⟩ (fun s => wweak ps ks kb s (fun vs' bs' => LeVs vs' vs ∧ N bs'))
          | some _ => ghosts kbx ⟨n, slOf ks vs, s2.hp, s2.nx⟩ (fun s => wweak ps ks kbx s (fun vs' bs' => LeVs vs' vs ∧ Out alts e vs bs'))
        | none => False)
      | false => False)
    | none => False
  | false => False
section
variable {P : Program} {gl : Nat → AV} {ch0 : CallH} {wf : WF} {hs : Hints}
theorem turn_ok {ps : List AV} {n : Nat} {ks : List Nat} {vs : List AV} {kb : List KB} {s : St} {N : List Box → Prop} (h : ghosts kb ⟨n, slOf ks vs, s.hp, s.nx⟩ (fun s => wweak ps ks kb s (fun vs' bs' => LeVs vs' vs ∧ N bs'))) : ∃ bs', Turn gl n ks vs ps s bs' ∧ N bs' := by
  obtain ⟨s2, hc, hw⟩ := ghosts_ok (gl := gl) h
  have hw0 := hw
  unfold wweak at hw0
  split at hw0
  · split at hw0
    · rename_i hcc _ bs hbs
      refine ⟨bs, fun m H B H0 rest tmps w hps hr => ?_, hw0.2⟩
      obtain ⟨m1, H1, hr1⟩ := hc.2 _ _ _ _ _ _ _ hr
      have hw1 : wweak ps ks kb s2 (fun vs' bs' => LeVs vs' vs ∧ bs' = bs) := by
        unfold wweak
        rw [hcc, hbs]
        exact ⟨hw0.1, rfl⟩
      obtain ⟨vs', bs', m2, ⟨lv, rfl⟩, hr2⟩ := wweak_ok hr1 hps hw1
      rw [show s2.n = n from hc.1] at hr2
      exact (head_le (gl := gl) (n := n) (ks := ks) lv (.refl _)).2 _ _ _ _ _ _ _ hr2
    · cases hw0
  · cases hw0
theorem RngOk.step (h0 : ch0.Ok P gl) (hwf : WF.Ok P gl wf) (hmix : P.follows .mixedOrders = true) {ps : List AV} {k n : Nat} {prm : Array Tmp} {azz bd : Code} {ks : List Nat} {kb kbx : List KB} {vs : List AV} {alts : List Alt} {x : List AV} {xs : List (List AV)} {bs : List Box} (ha : okCode azz = true) (hb : okCode bd = true)
    (hw : wrng P gl ch0 wf hs ps k n prm azz bd ks kb kbx vs alts x bs (NxtR P gl ps n prm azz bd ks vs alts xs)) : RngOk P gl ps n prm azz bd ks vs alts (x :: xs) bs := by
  unfold wrng at hw
  split at hw
  · rename_i hsl
    split at hw
    · rename_i s0 hs0
      refine ⟨hsl, s0, hs0, (wcode_n h0 hwf hmix ha hw).mono fun e s1 h1 => ?_⟩
      split at h1
      · rename_i he
        refine ⟨exNorm_t he, (wcode_n h0 hwf hmix hb h1).mono fun e s2 h2 => ?_⟩
        split at h2
        · rename_i j hj
          split at h2
          · obtain ⟨bs', ht, hN⟩ := turn_ok (gl := gl) h2
            exact ⟨none, bs', hj, ht, hN.ok⟩
          · rename_i c
            obtain ⟨bs', ht, hN⟩ := turn_ok (gl := gl) h2
            exact ⟨some c, bs', hj, ht, hN⟩
        · cases h2
      · cases h1
    · cases hw
  · cases hw
end
end HY
end
section
namespace HY
open Go Go.RowKit
def wfunB (P : Program) (gl : Nat → AV) (ch0 : CallH) (wf : WF) (gd : Nat → Bool) (pins : Option (List AV)) (fl f : Nat) (hs : Hints) (args : List AV) (hp : Tr Box) (nx : Nat) (K : AV → St → Prop) : Prop :=
  match gd f with
  | true => match P.funcs[f]? with
    | some fn => match fn.body with
      | some c => match Nat.ble args.length fn.ntmps with
        | true => wcode P gl ch0 wf hs pins fl c ⟨fn.ntmps, argSl 0 args, hp, nx⟩ (fun e s => match endsFn e with
          | true => match resOf P s fn.results.toList with
            | some r => K r s
            | none => False
          | false => False)
        | false => False
      | none => False
    | none => False
  | false => False
def wlev (P : Program) (gl : Nat → AV) (ch0 : CallH) (gd : Nat → Bool) (fl : Nat) (ex : WF) : Nat → WF
  | 0 => ex
  | k + 1 => fun f hs args hp nx K => match gd f with
    | true => wfunB P gl ch0 (wlev P gl ch0 gd fl ex k) gd none fl f hs args hp nx (fun r s => K r s.hp s.nx)
    | false => ex f hs args hp nx K
def exId (nf : Nat) : WF := fun f _ args hp nx K => match Nat.beq f nf with
  | true => match args with
    | [x] => K x hp nx
    | _ => False
  | false => False
theorem exId_ok {P : Program} {gl : Nat → AV} {nf : Nat} (h : ∀ (x : Value) (w : World), (callFunc nf #[x]).run P w = .ok (.value x) w) : WF.Ok P gl (exId nf) := by
  intro f hs args hp nx K hk
  unfold exId at hk
  split at hk
  · rename_i hf
    obtain rfl := Nat.eq_of_beq_eq_true hf
    split at hk
    · rename_i x
      intro m H B H0 rest w vs hh hl hargs hrest
      have hv : vs = #[vs[0]'(by rw [← hl]; simp)] := by
        apply Array.ext
        · simp [← hl]
        · intro i h1 h2; simp at h2; subst h2; rfl
      have h0 := hargs 0 x (vs[0]'(by rw [← hl]; simp)) rfl (Array.getElem?_eq_getElem _)
      generalize vs[0]'(by rw [← hl]; simp) = v0 at hv h0
      rw [hv]
      exact .inr ⟨_, w, h _ w, _, m, H, x, hp, nx, hk, rfl, BelowS.refl _ _, hh, h0, hrest⟩
    · cases hk
  · cases hk
section
variable {P : Program} {gl : Nat → AV} {ch0 : CallH} {wf : WF} {hs : Hints} {gd : Nat → Bool} {fl : Nat}
theorem marks_leave {F : Fence} {n : Nat} {fn : Func} {tmps : Array Value} {R : Ending → World → Prop} {I : World → Prop} : ∀ (D : List Nat) (w : World), D.Nodup → I w → (∀ g ∈ D, w.heap[g]? = some (.deferred (some []))) → (∀ g ∈ D, ∀ w, I w → w.heap[g]? = some (.deferred (some [])) → I (w.putObj g (.deferred none))) →
    (∀ w', I w' → ∃ v, (results fn tmps).run P w' = .ok v w' ∧ R (.returned v) w') → LeavesInM F n P fn tmps R (marksG D) .returning w
  | [], w, _, hI, _, _, hQ => hQ w hI
  | g :: D, w, hn, hI, ho, hs, hQ => by
    rw [List.nodup_cons] at hn
    have hg := ho g (by simp)
    refine ⟨by simp, .inl ⟨g, _, rfl, run_takeDeferred hg, ?_⟩⟩
    refine marks_leave D _ hn.2 (hs g (by simp) w hI hg) (fun k hk => ?_) (fun k hk => hs k (List.mem_cons_of_mem _ hk)) hQ
    rw [World.putObj_heap_other (fun e : k = g => by subst e; exact hn.1 hk)]
    exact ho k (List.mem_cons_of_mem _ hk)
theorem wfunB_ok (h0 : ch0.Ok P gl) (hwf : WF.Ok P gl wf) (hp : ProgOk P gd) {pins : Option (List AV)} {f : Nat} {args : List AV} {hpx : Tr Box} {nx : Nat} {K : AV → St → Prop} (hw : wfunB P gl ch0 wf gd pins fl f hs args hpx nx K)
    (m : Nat → Lc) (H : HV) (B : Nat → Prop) (H0 : HV) (rest : List (AV × Value)) (w : World) (vs : Array Value) (htop : ∀ ps, pins = some ps → rest.map (·.1) = ps) (hh : RelH m H B H0 gl (lkb hpx) nx w) (hl : args.length = vs.size)
    (hargs : ∀ (j : Nat) (x : AV) (v : Value), args[j]? = some x → vs[j]? = some v → RV H (envOf (lkb hpx) m) x v) (hrest : ∀ p ∈ rest, RV H (envOf (lkb hpx) m) p.1 p.2) :
    Ans P f vs w fun e w' => ∃ v m' H' r s tmps, K r s ∧ e = .returned v ∧ BelowS B w w' ∧ RelS m' H' B H0 gl rest s tmps w' ∧ RV H' (s.env m') r v := by
  unfold wfunB at hw
  split at hw
  · rename_i hg
    have hok := hp.fn f hg
    unfold okFn at hok
    split at hw
    · rename_i fn hf
      rw [hf] at hok
      simp only [Bool.and_eq_true, bne_iff_ne] at hok
      obtain ⟨hname, hok⟩ := hok
      split at hw
      · rename_i c hb
        rw [hb] at hok
        simp only at hok
        split at hw
        · rename_i hle
          have hle := Nat.le_of_ble_eq_true hle
          refine .inl ⟨enters_of hf (by simpa using hname) (by rw [hb]; rfl), ?_⟩
          have hr0 : RelS m H B H0 gl rest ⟨fn.ntmps, argSl 0 args, hpx, nx⟩ (Act.mk (vs ++ Array.replicate (fn.ntmps - vs.size) Go.undef) []).tmps w := by
            refine ⟨hh, by simp; omega, fun k => ?_, hrest⟩
            show RV H _ (lk .undef (argSl 0 args) k) _
            rw [lk_argSl, if_pos (Nat.zero_le _), Nat.sub_zero]
            cases hx : args[k]? with
            | none => exact .imm _ _ (.undef _)
            | some x =>
              have hk : k < vs.size := by rw [← hl]; exact (List.getElem?_eq_some_iff.1 hx).1
              have hv : (vs ++ Array.replicate (fn.ntmps - vs.size) Go.undef).getD k Go.undef = vs[k] := by
                rw [Array.getD_eq_getD_getElem?, Array.getElem?_append_left hk, Array.getElem?_eq_getElem hk]; rfl
              rw [hv]
              exact hargs k x _ hx (Array.getElem?_eq_getElem hk)
          refine CallsIn.calls (F := FW none) (n := 0) (callsIn_of_wp_marks hf hb trivial (wpIn_mono (wcode_n h0 hwf hp.mix hok hw none 0 (fun _ => rfl) B H0 rest m H _ w htop hr0) fun e a' w' hq => ?_)) (fun k d hd => by simp [FW] at hd)
          obtain ⟨s, m', H', B', H0', D, hK, hf', hr⟩ := hq
          split at hK
          · rename_i hex
            split at hK
            · rename_i r hres
              have hgo : LeavesInM (FW none) 0 P fn a'.tmps (fun e w' => ∃ v m' H' r s tmps, K r s ∧ e = .returned v ∧ BelowS B w w' ∧ RelS m' H' B H0 gl rest s tmps w' ∧ RV H' (s.env m') r v) a'.defers .returning w' := by
                rw [hf'.dfr]
                show LeavesInM _ _ _ _ _ _ (marksG D ++ []) _ _
                rw [List.append_nil]
                refine marks_leave (I := fun w2 => BelowS B w w2 ∧ RelS m' H' B' H0' gl rest s a'.tmps w2) D w' hf'.nod ⟨hf'.bel, hr⟩ (fun g hg => (hf'.opn g hg).2.2) (fun g hg w2 hI ho => ⟨hI.1.obj (fun hB => by have := hr0.heap.low g hB; have := (hf'.opn g hg).2.1; omega) ho (fun _ _ _ q => by cases q), hI.2.obj (hf'.opn g hg).1 ho (fun _ _ _ q => by cases q)⟩) fun w2 hI => ?_
                obtain ⟨v, hv, hrv⟩ := res_all hI.2 hres
                exact ⟨v, hv, v, m', H', r, s, a'.tmps, hK, rfl, hI.1, hI.2.down hf'.sub (fun b o hb => hf'.old b o hb) (hh.gv.to hI.1 fun _ _ hb => hb), hrv⟩
              cases e with
              | normal => exact hgo
              | ret => exact hgo
              | _ => cases hex
            · cases hK
          · cases hK
        · cases hw
      · cases hw
    · cases hw
  · cases hw
theorem wlev_ok {ex : WF} (h0 : ch0.Ok P gl) (hp : ProgOk P gd) (hex : WF.Ok P gl ex) : ∀ k, WF.Ok P gl (wlev P gl ch0 gd fl ex k)
  | 0 => hex
  | k + 1 => fun f hs args hpx nx K h => by
    simp only [wlev] at h
    split at h
    · intro m H B H0 rest w vs hh hl hargs hrest
      refine (wfunB_ok h0 (wlev_ok h0 hp hex k) hp h m H B H0 rest w vs (fun _ e => nomatch e) hh hl hargs hrest).mono fun e w' hq => ?_
      obtain ⟨v, m', H', r, s, tmps, hK, rfl, hb, hr, hrv⟩ := hq
      exact ⟨v, m', H', r, s.hp, s.nx, hK, rfl, hb, hr.heap, hrv, hr.rest⟩
    · exact hex f hs args hpx nx K h
def endP (r : AV) (r0 : AV) (s : St) : Prop := treeW (lkb s.hp) 12 r0 (fun t => LeT t r)
def endH (ps : List AV) (kb : List KB) (r : AV) (bs' : List Box) (r0 : AV) (s : St) : Prop :=
  ghosts kb ⟨ps.length + 1, argSl 0 (r0 :: ps), s.hp, s.nx⟩ (fun s => wweak ps [0] kb s (fun vs bs => LeVs vs [r] ∧ LeBs bs bs'))
def wpure (P : Program) (gl : Nat → AV) (ch0 : CallH) (wf : WF) (gd : Nat → Bool) (fl f : Nat) (hs : Hints) (args : List AV) (r : AV) : Prop :=
  wfunB P gl ch0 wf gd (some []) fl f hs args .nil 0 (endP r)
def wpureH (P : Program) (gl : Nat → AV) (ch0 : CallH) (wf : WF) (gd : Nat → Bool) (fl f : Nat) (hs : Hints) (kb : List KB) (args : List AV) (bs : List Box) (r : AV) (bs' : List Box) : Prop :=
  wfunB P gl ch0 wf gd (some (pinsOf 0 bs)) fl f hs args (hpOf 0 bs) bs.length (endH (pinsOf 0 bs) kb r bs')
theorem relH_nil {m : Nat → Lc} {H : HV} {B : Nat → Prop} {H0 : HV} {hp : Tr Box} {nx : Nat} {w : World} (h : RelH m H B H0 gl (lkb hp) nx w) : RelH m (snap H (lkb hp) m w) B H0 gl (lkb .nil) 0 w where
  sat := snap_sat h.sat
  old b o hlt := by
    unfold snap
    rw [if_neg ?_]
    · exact h.old b o hlt
    · rintro ⟨id, bx, ver, h1, _, h3, rfl⟩
      exact (h.sepR id _ h1 h3).1 hlt
  low := h.low
  fresh _ _ := lkb_nil _
  box _ _ hh := by rw [lkb_nil] at hh; cases hh
  sepR _ _ hh := by rw [lkb_nil] at hh; cases hh
  injR _ _ _ _ hh := by rw [lkb_nil] at hh; cases hh
  gl g := (h.gl g).mono (snap_le fun id bx hh hr => (h.sepR id bx hh hr).2.2)
  ty _ _ _ hh := by rw [lkb_nil] at hh; cases hh
  gv := h.gv
theorem Pu.of (h0 : ch0.Ok P gl) (hwf : WF.Ok P gl wf) (hp : ProgOk P gd) {f : Nat} {args : List AV} {r : AV} (hw : wpure P gl ch0 wf gd fl f hs args r) : Pu P gl f args r := by
  refine ⟨fun m H B H0 w vs hh hl hargs => ?_⟩
  refine (wfunB_ok h0 hwf hp hw m H B H0 [] w vs (fun ps e => by cases e; rfl) hh hl hargs (fun p hp => by simp at hp)).mono fun e w' hq => ?_
  obtain ⟨v, m', H', r0, s, tmps, hK, rfl, hb, hr, hrv⟩ := hq
  obtain ⟨t, ht, hrel⟩ := treeW_ok (fun id b hid => hr.heap.box id b hid) (fun id bx hid hr' => (hr.heap.sepR id bx hid hr').2.2) 12 r0 v _ hrv hK
  exact ⟨v, m', snap H' (lkb s.hp) m' w', rfl, hb, relH_nil hr.heap, .imm _ _ (ht.ok _ _ hrel)⟩
theorem PuH.of (h0 : ch0.Ok P gl) (hwf : WF.Ok P gl wf) (hp : ProgOk P gd) {f : Nat} {kb : List KB} {args : List AV} {bs bs' : List Box} {r : AV} (hw : wpureH P gl ch0 wf gd fl f hs kb args bs r bs') : PuH P gl f args bs r bs' := by
  refine ⟨fun m H B H0 rest w vs hh hl hargs hrest hrv => ?_⟩
  refine (wfunB_ok h0 hwf hp hw m H B H0 rest w vs (fun ps e => by cases e; exact hrest) hh hl hargs hrv).mono fun e w' hq => ?_
  obtain ⟨v, m', H', r0, s, tmps, hK, rfl, hb, hr, hrv⟩ := hq
  unfold endH at hK
  obtain ⟨s2, hc, hK⟩ := ghosts_ok (gl := gl) hK
  have hs : RelS m' H' B H0 gl rest ⟨(pinsOf 0 bs).length + 1, argSl 0 (r0 :: pinsOf 0 bs), s.hp, s.nx⟩ (v :: rest.map (·.2)).toArray w' := by
    refine ⟨hr.heap, by simp [← hrest], fun k => ?_, hr.rest⟩
    show RV H' _ (lk .undef (argSl 0 (r0 :: pinsOf 0 bs)) k) _
    rw [lk_argSl, if_pos (Nat.zero_le _), Nat.sub_zero]
    cases k with
    | zero => exact hrv
    | succ k =>
      rw [List.getElem?_cons_succ, ← hrest, List.getElem?_map]
      cases hk : rest[k]? with
      | none => exact .imm _ _ (.undef _)
      | some p =>
        have : ((v :: rest.map (·.2)).toArray).getD (k + 1) Go.undef = p.2 := by
          rw [Array.getD_eq_getD_getElem?, List.getElem?_toArray, List.getElem?_cons_succ, List.getElem?_map, hk]; rfl
        rw [this]
        exact hr.rest p (List.mem_of_getElem? hk)
  obtain ⟨m2, H2, hr2⟩ := hc.2 _ _ _ _ _ _ _ hs
  obtain ⟨vs', bs2, m3, ⟨lv, lb⟩, hr3⟩ := wweak_ok hr2 hrest hK
  obtain ⟨m4, H4, hr4⟩ := (head_le (gl := gl) (n := s2.n) (ks := [0]) lv lb).2 _ _ _ _ _ _ _ hr3
  refine ⟨v, m4, H4, rfl, hb, hr4.heap, ?_, hr4.rest⟩
  have := hr4.slot 0
  have e : St.get (headSt s2.n [0] [r] bs') 0 = r := by
    show lk .undef (pt (slOf [] []) 0 r) 0 = r
    rw [lk_pt]; simp
  rw [e] at this
  exact this
theorem Pu.ofCall {f : Nat} {args : List AV} {r0 r : AV} {hp' : Tr Box} {nx' : Nat} (h : CallOk0 P gl f args r0 hp' nx') (ht : tree (lkb hp') false 12 r0 = some r) : Pu P gl f args r := by
  refine ⟨fun m H B H0 w vs hh hl hargs => (h m H B H0 w vs hh hl hargs).mono fun e w' hq => ?_⟩
  obtain ⟨v, m', H', rfl, hb, hH, hrv⟩ := hq
  exact ⟨v, m', snap H' (lkb hp') m' w', rfl, hb, relH_nil hH, .imm _ _ (tree_ok (H1 := H') false (fun id ver cs hh => live_loc hh) (fun id ver cs hh => hH.box id _ hh) (fun id bx hh hr => (hH.sepR id bx hh hr).2.2) (fun _ => rfl) 12 r0 r v hrv ht)⟩
theorem Pu.ofH {f : Nat} {args : List AV} {r r' : AV} {bs' : List Box} (h : PuH P gl f args [] r bs') (ht : treeW (lkb (hpOf 0 bs')) 12 r (fun t => LeT t r')) : Pu P gl f args r' := by
  refine ⟨fun m H B H0 w vs hh hl hargs => (h.zero m H B H0 w vs hh hl hargs).mono fun e w' hq => ?_⟩
  obtain ⟨v, m', H', rfl, hb, hH, hrv⟩ := hq
  obtain ⟨t, ht, hrel⟩ := treeW_ok (fun id b hid => hH.box id b hid) (fun id bx hid hr' => (hH.sepR id bx hid hr').2.2) 12 r v _ hrv ht
  exact ⟨v, m', snap H' (lkb (hpOf 0 bs')) m' w', rfl, hb, relH_nil hH, .imm _ _ (ht.ok _ _ hrel)⟩
def runR (r : Option (AV × Tr Box × Nat)) : Option AV := match r with
  | some (r0, hp', _) => tree (lkb hp') false 12 r0
  | none => none
theorem Pu.run {fl k : Nat} (hp : ProgOk P gd) {f : Nat} {args : List AV} {r : AV} (h : runR (xcall P gl gd fl k f args .nil 0) = some r) : Pu P gl f args r := by
  unfold runR at h
  split at h
  · rename_i r0 hp' nx' hx
    exact Pu.ofCall (xcall_ok hp k _ _ _ _ _ _ _ hx).zero h
  · cases h
end
def findLoop (r : Nat) : Code → Option Code
  | .loop c => match Nat.beq (regId c) r with
    | true => some c
    | false => findLoop r c
  | .seq a b => match findLoop r a with
    | some c => some c
    | none => findLoop r b
  | .cond _ a b => match findLoop r a with
    | some c => some c
    | none => findLoop r b
  | .block _ c => findLoop r c
  | _ => none
def lcode (P : Program) (f r : Nat) : Code := match P.funcs[f]? with
  | some fn => match fn.body with
    | some c => match findLoop r c with
      | some c => c
      | none => .skip
    | none => .skip
  | none => .skip
end HY
end
section
namespace HY
open Go Go.RowKit
theorem Pu.ofCalls {P : Program} {gl : Nat → AV} {f : Nat} {args : List AV} {r : AV} (hent : Enters P f)
    (h : ∀ (m : Nat → Lc) (H : HV) (w : World) (vs : Array Value), HV.sat H w → (∀ g, RelI H (gl g) (.pointer (some ⟨g, 0, none⟩))) → GvOk gl (fun k => k < w.heap.size) w → args.length = vs.size →
      (∀ (j : Nat) (x : AV) (v : Value), args[j]? = some x → vs[j]? = some v → RV H (envOf (lkb .nil) m) x v) →
      Calls P f vs w fun e w' => ∃ v, e = .returned v ∧ Below w.heap.size w w' ∧ ∀ H', HV.le H H' → (∀ b o, w.heap.size ≤ b → H' b o = w'.cell? ⟨b, o, none⟩) → RelI H' r v) : Pu P gl f args r := by
  refine ⟨fun m H B H0 w vs hh hl hargs => .inl ⟨hent, (h m H w vs hh.sat hh.gl (fun g sz cs hg => let ⟨h1, h2⟩ := hh.gv g sz cs hg; ⟨hh.low _ h1, h2⟩) hl hargs).mono fun e w' hq => ?_⟩⟩
  obtain ⟨v, rfl, hb, hr⟩ := hq
  have hr0 : RelS m H B H0 gl [] ⟨1, .nil, .nil, 0⟩ (Act.mk #[Go.undef] []).tmps w := by
    refine ⟨hh, rfl, fun k => ?_, fun p hp => by simp at hp⟩
    have : St.get ⟨1, .nil, .nil, 0⟩ k = AV.undef := by show lk AV.undef .nil k = AV.undef; exact lk_nil _ _
    rw [this]; exact .imm _ _ (.undef _)
  obtain ⟨hA, hle⟩ := hr0.after hb (fun b o => w'.cell? ⟨b, o, none⟩) (fun _ _ _ hk => hk)
  exact ⟨v, m, _, rfl, .of hb hh.low, hA.heap, .imm _ _ (hr _ hle fun b o hbo => by simp only [if_neg (show ¬ b < w.heap.size by omega)])⟩
theorem one_v {vs : Array Value} {x : AV} (hl : [x].length = vs.size) : ∃ v, vs = #[v] := by
  have h : vs.size = 1 := hl.symm
  refine ⟨vs[0], ?_⟩
  apply Array.ext
  · simp [h]
  · intro i h1 h2
    have : i = 0 := by omega
    subst this; rfl
theorem two_v {vs : Array Value} {x y : AV} (hl : [x, y].length = vs.size) : ∃ u v, vs = #[u, v] := by
  have h : vs.size = 2 := hl.symm
  refine ⟨vs[0], vs[1], ?_⟩
  apply Array.ext
  · simp [h]
  · intro i h1 h2
    have : i = 0 ∨ i = 1 := by omega
    rcases this with rfl | rfl <;> rfl
theorem tab_cell {H : HV} {w : World} (hs : HV.sat H w) {n g : Nat} {cs : List AV} (h : RelI H (.ip n [.agg cs] 0 0) (.pointer (some ⟨g, 0, none⟩))) {j : Nat} {k : IntKind} {x : Int} (hj : cs[j]? = some (.int k x)) : w.cell? ⟨g, j, none⟩ = some (.int k x) := by
  generalize hv : Value.pointer (some ⟨g, 0, none⟩) = v at h
  cases h with
  | ip _ _ b o _ _ val h0 h1 h2 h3 h4 =>
    simp only [Value.pointer.injEq, Option.some.injEq, Addr.mk.injEq] at hv
    obtain ⟨rfl, ho, _⟩ := hv
    have ho : o = 0 := by omega
    subst ho
    have h5 := h3 0 _ j _ rfl (show (AV.agg cs).cells[j]? = _ from hj)
    have h6 := h4 0 _ j _ rfl (show (AV.agg cs).cells[j]? = _ from hj)
    have := hs _ _ _ h5.1
    simp only [Nat.zero_mul, Nat.zero_add, Nat.add_zero] at this
    rw [this]
    generalize val 0 j = u at h6
    cases h6; rfl
theorem tab_row {P : Program} {H : HV} {w : World} (hs : HV.sat H w) {gl : Nat → AV} {g : Nat} {name : String} (hg : P.globalNamed name = some g) {k : IntKind} {zs : List Int} (hgl : gl g = .ip zs.length [.agg (zs.map fun z => .int k z)] 0 0)
    (hr : RelI H (gl g) (.pointer (some ⟨g, 0, none⟩))) (hv : GvOk gl (fun k => k < w.heap.size) w) : w.var? P name = some (zs.map fun z => Value.int k z).toArray := by
  obtain ⟨_, C, e, fr, h1, h2⟩ := hv g _ _ hgl
  rw [hgl] at hr
  unfold World.var?
  rw [hg]
  simp only [Option.bind_some, h1, Option.some.injEq]
  apply Array.ext
  · simp [h2]
  · intro j hj1 hj2
    have hj : j < zs.length := by simpa using hj2
    have := tab_cell hs hr (j := j) (k := k) (x := zs[j]) (by simp [hj])
    rw [cell_of_row _ _ _ _ _ _ h1, Array.getElem?_eq_getElem hj1] at this
    simp only [Option.some.injEq] at this
    simp [this]
end HY
end
section
namespace HY
open Go Go.RowKit
abbrev Str := List UInt8
def ix {α : Type} (l : List α) (k : Int) : Option α := if 0 ≤ k then l[k.toNat]? else none
@[reducible] def w6 (n : Int) : Int := IntKind.u64.wrap n
@[reducible] def wr (n : Int) : Int := IntKind.i64.wrap n
@[reducible] def ii (n : Int) : AV := .int .i64 n
@[reducible] def kk (n : Nat) : KB := { slot := n }
theorem lr {x : AV} : LeV x x := .refl x
@[reducible] def jb (o : Bool) (v : Bool → List AV) (b : List Box) : List Alt := [⟨fun (_ : Unit) => true = o, .normal, fun _ => v true, fun _ => b⟩, ⟨fun (_ : Unit) => false = o, .normal, fun _ => v false, fun _ => b⟩]
@[reducible] def lp {α β : Type} (o : α ⊕ β) (e : Exit) (v : α → List AV) (b : α → List Box) (e' : Exit) (v' : β → List AV) (b' : β → List Box) : List Alt := [⟨fun x => Sum.inl x = o, e, v, b⟩, ⟨fun x => Sum.inr x = o, e', v', b'⟩]
@[reducible] def l1 {α : Type} (o : α) (e : Exit) (v : α → List AV) (b : α → List Box) : List Alt := [⟨fun x => x = o, e, v, b⟩]
section
variable {ρ : Type} {r : ρ}
theorem kIf {c : Bool} {x y : Option ρ} {A B : Prop} (hA : x = some r → A) (hB : y = some r → B) (h : (if c = true then x else y) = some r) : (c = true → A) ∧ (c = false → B) := by
  cases c with
  | true => exact ⟨fun _ => hA h, nofun⟩
  | false => exact ⟨nofun, fun _ => hB h⟩
theorem kIfD {p : Prop} [Decidable p] {x y : Option ρ} {A B : Prop} (hA : x = some r → A) (hB : y = some r → B) (h : (if p then x else y) = some r) : (decide p = true → A) ∧ (decide p = false → B) := by
  by_cases hp : p
  · rw [if_pos hp] at h; exact ⟨fun _ => hA h, fun e => absurd hp (of_decide_eq_false e)⟩
  · rw [if_neg hp] at h; exact ⟨fun e => absurd (of_decide_eq_true e) hp, fun _ => hB h⟩
theorem kG {p : Prop} [Decidable p] {x : Option ρ} {A : Prop} (hA : x = some r → A) (h : (if p then x else none) = some r) : p ∧ A := by
  by_cases hp : p
  · rw [if_pos hp] at h; exact ⟨hp, hA h⟩
  · rw [if_neg hp] at h; cases h
theorem kA {α : Type} {sh : α → AV} {l : List α} {q : Prop} [Decidable q] {x : Option ρ} {A : Prop} (hA : x = some r → A) (h : (if q then x else none) = some r) : (l.length = (List.map sh l).length ∧ q) ∧ A := by
  by_cases hp : q
  · rw [if_pos hp] at h; exact ⟨⟨by simp, hp⟩, hA h⟩
  · rw [if_neg hp] at h; cases h
theorem kT {p : Prop} {x : Option ρ} {A : Prop} (hp : p) (hA : x = some r → A) (h : x = some r) : p ∧ A := ⟨hp, hA h⟩
theorem kNone {A : Prop} (h : (none : Option ρ) = some r) : A := by cases h
theorem kIx {α : Type} {enc : α → AV} {l : List α} {k : Int} {f : α → Option ρ} {A : α → Prop} (hA : ∀ x, f x = some r → A x) (h : (ix l k >>= f) = some r) : ∃ x, (0 ≤ k ∧ (List.map enc l)[k.toNat]? = some (enc x)) ∧ A x := by
  unfold ix at h
  split at h
  · rename_i h0
    cases hx : l[k.toNat]? with
    | none => rw [hx] at h; cases h
    | some x => rw [hx] at h; exact ⟨x, ⟨h0, by rw [List.getElem?_map, hx]; rfl⟩, hA x h⟩
  · cases h
theorem kIxR {α τ : Type} {enc : α → AV} {sh : τ → AV} {un : α → τ} {l : List α} {k : Int} {f : τ → Option ρ} {A : τ → Prop} (hv : ∀ a, enc a = sh (un a)) (hA : ∀ x, f x = some r → A x) (h : (Option.map un (ix l k) >>= f) = some r) : ∃ x, (0 ≤ k ∧ (List.map enc l)[k.toNat]? = some (sh x)) ∧ A x := by
  unfold ix at h
  split at h
  · rename_i h0
    cases hx : l[k.toNat]? with
    | none => rw [hx] at h; cases h
    | some x => rw [hx] at h; exact ⟨un x, ⟨h0, by rw [List.getElem?_map, hx, Option.map_some, hv]⟩, hA _ h⟩
  · cases h
theorem kOx {α : Type} {enc : α → AV} {l : List α} {k : Nat} {f : α → Option ρ} {A : α → Prop} (hA : ∀ x, f x = some r → A x) (h : (l[k]? >>= f) = some r) : ∃ x, (List.map enc l)[k]? = some (enc x) ∧ A x := by
  cases hx : l[k]? with
  | none => rw [hx] at h; cases h
  | some x => rw [hx] at h; exact ⟨x, by rw [List.getElem?_map, hx]; rfl, hA x h⟩
theorem kOxR {α τ : Type} {enc : α → AV} {sh : τ → AV} {un : α → τ} {l : List α} {k : Nat} {f : τ → Option ρ} {A : τ → Prop} (hv : ∀ a, enc a = sh (un a)) (hA : ∀ x, f x = some r → A x) (h : (Option.map un l[k]? >>= f) = some r) : ∃ x, (List.map enc l)[k]? = some (sh x) ∧ A x := by
  cases hx : l[k]? with
  | none => rw [hx] at h; cases h
  | some x => rw [hx] at h; exact ⟨un x, by rw [List.getElem?_map, hx, Option.map_some, hv], hA _ h⟩
theorem kU {s : Str} {k : Int} {f : UInt8 → Option ρ} {A : UInt8 → Prop} (hA : ∀ x, f x = some r → A x) (h : (ix s k >>= f) = some r) : ∃ x, (0 ≤ k ∧ s[k.toNat]? = some x) ∧ A x := by
  unfold ix at h
  split at h
  · rename_i h0
    cases hx : s[k.toNat]? with
    | none => rw [hx] at h; cases h
    | some x => rw [hx] at h; exact ⟨x, ⟨h0, rfl⟩, hA x h⟩
  · cases h
theorem kC {P : Program} {gl : Nat → AV} {g : Nat} {args : List AV} {τ : Type} {sh : τ → AV} {x : Option τ} {f : τ → Option ρ} {A : τ → Prop} (hP : ∀ y, x = some y → Pu P gl g args (sh y)) (hA : ∀ y, f y = some r → A y) (h : (x >>= f) = some r) : ∃ y, Pu P gl g args (sh y) ∧ A y := by
  cases x with
  | none => cases h
  | some y => exact ⟨y, hP y rfl, hA y h⟩
theorem kCb {P : Program} {gl : Nat → AV} {g : Nat} {args : List AV} {c : Option Bool} {x y : Option ρ} {A B : Prop} (hP : ∀ u, c = some u → Pu P gl g args (.bool u)) (hA : x = some r → A) (hB : y = some r → B) (h : (c >>= fun u => if u = true then x else y) = some r) : ∃ u, Pu P gl g args (.bool u) ∧ (u = true → A) ∧ (u = false → B) := by
  cases c with
  | none => cases h
  | some u => exact ⟨u, hP u rfl, kIf hA hB h⟩
theorem kN {α : Type} {m : α} {f : α → Option ρ} {A : α → Prop} (n : α) (e : n = m) (hA : ∀ n, f n = some r → A n) (h : (some n >>= f) = some r) : ∃ n, n = m ∧ A n := ⟨n, e, hA n h⟩
theorem kW {α : Type} {sh : α → AV} {v : AV} {f : α → Option ρ} {A : α → Prop} (x : α) (e : LeV v (sh x)) (hA : ∀ x, f x = some r → A x) (h : (some x >>= f) = some r) : ∃ x, LeV v (sh x) ∧ A x := ⟨x, e, hA x h⟩
theorem kB {α : Type} {sh : α → AV} {xs : List AV} {f : List α → Option ρ} {A : List α → Prop} (l : List α) (e : List.map sh l = xs) (hA : ∀ l, f l = some r → A l) (h : (some l >>= f) = some r) : ∃ l, List.map sh l = xs ∧ A l := ⟨l, e, hA l h⟩
theorem kBE {α : Type} {sh : α → AV} {xs : List AV} {f : List α → Option ρ} {A : List α → Prop} (l0 : List α) (e : List.map sh l0 = xs) (hA : ∀ l, l = l0 → f l = some r → A l) (h : (some l0 >>= f) = some r) : ∃ l, List.map sh l = xs ∧ A l := ⟨l0, e, hA l0 rfl h⟩
theorem kO {α : Type} {sh : α → AV} {xs : List AV} {n : Nat} {f : List α → Option ρ} {A : List α → Prop} (l : List α) (e : List.map sh l = xs) (hn : l.length = n) (hA : ∀ l, f l = some r → A l) (h : (some l >>= f) = some r) : ∃ l, (List.map sh l = xs ∧ l.length = n) ∧ A l := ⟨l, ⟨e, hn⟩, hA l h⟩
theorem kL1 {P : Program} {gl : Nat → AV} {ps : List AV} {n : Nat} {c : Code} {ks : List Nat} {vs : List AV} {bs : List Box} {kx : List Nat} {υ α : Type} {alts : υ → α → List Alt} {x : Option α} {f : υ → α → Option ρ} {A : υ → α → Prop} (u : υ) (hL : ∀ o, x = some o → LoopOk P gl ps n c ks vs bs kx (alts u o)) (hA : ∀ u a, f u a = some r → A u a) (h : (some u >>= fun u => x >>= f u) = some r) :
    ∃ u o, LoopOk P gl ps n c ks vs bs kx (alts u o) ∧ ∀ a, a = o → A u a := by
  cases x with
  | none => cases h
  | some o => exact ⟨u, o, hL o rfl, fun a e => by subst e; exact hA u a h⟩
theorem kL2 {P : Program} {gl : Nat → AV} {ps : List AV} {n : Nat} {c : Code} {ks : List Nat} {vs : List AV} {bs : List Box} {kx : List Nat} {υ α β : Type} {alts : υ → α ⊕ β → List Alt} {x : Option (α ⊕ β)} {f : υ → α → Option ρ} {g : υ → β → Option ρ} {A : υ → α → Prop} {B : υ → β → Prop} (u : υ) {m : υ → α ⊕ β → Option ρ} (e1 : ∀ u a, m u (.inl a) = f u a := by intros; rfl) (e2 : ∀ u a, m u (.inr a) = g u a := by intros; rfl) (hL : ∀ o, x = some o → LoopOk P gl ps n c ks vs bs kx (alts u o)) (hA : ∀ u a, f u a = some r → A u a) (hB : ∀ u b, g u b = some r → B u b)
    (h : (some u >>= fun u => x >>= m u) = some r) : ∃ u o, LoopOk P gl ps n c ks vs bs kx (alts u o) ∧ (∀ a, Sum.inl a = o → A u a) ∧ ∀ b, Sum.inr b = o → B u b := by
  cases x with
  | none => cases h
  | some o => exact ⟨u, o, hL o rfl, fun a e => by subst e; exact hA u a ((e1 u a).symm.trans h), fun b e => by subst e; exact hB u b ((e2 u b).symm.trans h)⟩
theorem kL3 {P : Program} {gl : Nat → AV} {ps : List AV} {n : Nat} {c : Code} {ks : List Nat} {vs : List AV} {bs : List Box} {kx : List Nat} {υ α β γ : Type} {alts : υ → α ⊕ β ⊕ γ → List Alt} {x : Option (α ⊕ β ⊕ γ)} {f : υ → α → Option ρ} {g : υ → β → Option ρ} {k : υ → γ → Option ρ} {A : υ → α → Prop} {B : υ → β → Prop} {C : υ → γ → Prop} (u : υ) {m : υ → α ⊕ β ⊕ γ → Option ρ} (e1 : ∀ u a, m u (.inl a) = f u a := by intros; rfl) (e2 : ∀ u a, m u (.inr (.inl a)) = g u a := by intros; rfl) (e3 : ∀ u a, m u (.inr (.inr a)) = k u a := by intros; rfl) (hL : ∀ o, x = some o → LoopOk P gl ps n c ks vs bs kx (alts u o)) (hA : ∀ u a, f u a = some r → A u a) (hB : ∀ u b, g u b = some r → B u b) (hC : ∀ u b, k u b = some r → C u b)
    (h : (some u >>= fun u => x >>= m u) = some r) : ∃ u o, LoopOk P gl ps n c ks vs bs kx (alts u o) ∧ (∀ a, Sum.inl a = o → A u a) ∧ (∀ b, Sum.inr (Sum.inl b) = o → B u b) ∧ ∀ b, Sum.inr (Sum.inr b) = o → C u b := by
  cases x with
  | none => cases h
  | some o => exact ⟨u, o, hL o rfl, fun a e => by subst e; exact hA u a ((e1 u a).symm.trans h), fun b e => by subst e; exact hB u b ((e2 u b).symm.trans h), fun b e => by subst e; exact hC u b ((e3 u b).symm.trans h)⟩
theorem kJb {id : Nat} {υ : Type} {y : Option Bool} {f g : υ → Option ρ} {I : υ → Bool → Prop} {A B : υ → Prop} (u0 : υ) (hI : ∀ u, u = u0 → ∀ o, y = some o → I u o) (hA : ∀ u, f u = some r → A u) (hB : ∀ u, g u = some r → B u) (h : (some u0 >>= fun u => y >>= fun o => if o = true then f u else g u) = some r) :
    ∃ u o, Jn id (I u o) ∧ (∀ _ : Unit, true = o → A u) ∧ ∀ _ : Unit, false = o → B u := by
  cases y with
  | none => cases h
  | some o =>
    refine ⟨u0, o, hI u0 rfl o rfl, fun _ e => ?_, fun _ e => ?_⟩
    · subst e; exact hA u0 h
    · subst e; exact hB u0 h
theorem kJ1 {id : Nat} {υ α : Type} {y : Option α} {f : υ → α → Option ρ} {I : υ → α → Prop} {A : υ → α → Prop} (u0 : υ) (hI : ∀ u, u = u0 → ∀ o, y = some o → I u o) (hA : ∀ u a, f u a = some r → A u a) (h : (some u0 >>= fun u => y >>= f u) = some r) :
    ∃ u o, Jn id (I u o) ∧ ∀ a, a = o → A u a := by
  cases y with
  | none => cases h
  | some o => exact ⟨u0, o, hI u0 rfl o rfl, fun a e => by subst e; exact hA u0 a h⟩
theorem kL1E {P : Program} {gl : Nat → AV} {ps : List AV} {n : Nat} {c : Code} {ks : List Nat} {vs : List AV} {bs : List Box} {kx : List Nat} {υ α : Type} {alts : υ → α → List Alt} {x : Option α} {f : υ → α → Option ρ} {A : υ → α → Prop} (u0 : υ) (hL : ∀ o, x = some o → LoopOk P gl ps n c ks vs bs kx (alts u0 o)) (hA : ∀ u, u = u0 → ∀ a, f u a = some r → A u a) (h : (some u0 >>= fun u => x >>= f u) = some r) :
    ∃ u o, LoopOk P gl ps n c ks vs bs kx (alts u o) ∧ ∀ a, a = o → A u a := by
  cases x with
  | none => cases h
  | some o => exact ⟨u0, o, hL o rfl, fun a e => by subst e; exact hA u0 rfl a h⟩
theorem kL2E {P : Program} {gl : Nat → AV} {ps : List AV} {n : Nat} {c : Code} {ks : List Nat} {vs : List AV} {bs : List Box} {kx : List Nat} {υ α β : Type} {alts : υ → α ⊕ β → List Alt} {x : Option (α ⊕ β)} {f : υ → α → Option ρ} {g : υ → β → Option ρ} {A : υ → α → Prop} {B : υ → β → Prop} (u0 : υ) {m : υ → α ⊕ β → Option ρ} (e1 : ∀ u a, m u (.inl a) = f u a := by intros; rfl) (e2 : ∀ u a, m u (.inr a) = g u a := by intros; rfl) (hL : ∀ o, x = some o → LoopOk P gl ps n c ks vs bs kx (alts u0 o)) (hA : ∀ u, u = u0 → ∀ a, f u a = some r → A u a) (hB : ∀ u, u = u0 → ∀ b, g u b = some r → B u b)
    (h : (some u0 >>= fun u => x >>= m u) = some r) : ∃ u o, LoopOk P gl ps n c ks vs bs kx (alts u o) ∧ (∀ a, Sum.inl a = o → A u a) ∧ ∀ b, Sum.inr b = o → B u b := by
  cases x with
  | none => cases h
  | some o => exact ⟨u0, o, hL o rfl, fun a e => by subst e; exact hA u0 rfl a ((e1 u0 a).symm.trans h), fun b e => by subst e; exact hB u0 rfl b ((e2 u0 b).symm.trans h)⟩
theorem kJbE {id : Nat} {υ : Type} {y : Option Bool} {f g : υ → Option ρ} {I : υ → Bool → Prop} {A B : υ → Prop} (u0 : υ) (hI : ∀ u, u = u0 → ∀ o, y = some o → I u o) (hA : ∀ u, u = u0 → f u = some r → A u) (hB : ∀ u, u = u0 → g u = some r → B u) (h : (some u0 >>= fun u => y >>= fun o => if o = true then f u else g u) = some r) :
    ∃ u o, Jn id (I u o) ∧ (∀ _ : Unit, true = o → A u) ∧ ∀ _ : Unit, false = o → B u := by
  cases y with
  | none => cases h
  | some o =>
    refine ⟨u0, o, hI u0 rfl o rfl, fun _ e => ?_, fun _ e => ?_⟩
    · subst e; exact hA u0 rfl h
    · subst e; exact hB u0 rfl h
theorem kJ1E {id : Nat} {υ α : Type} {y : Option α} {f : υ → α → Option ρ} {I : υ → α → Prop} {A : υ → α → Prop} (u0 : υ) (hI : ∀ u, u = u0 → ∀ o, y = some o → I u o) (hA : ∀ u, u = u0 → ∀ a, f u a = some r → A u a) (h : (some u0 >>= fun u => y >>= f u) = some r) :
    ∃ u o, Jn id (I u o) ∧ ∀ a, a = o → A u a := by
  cases y with
  | none => cases h
  | some o => exact ⟨u0, o, hI u0 rfl o rfl, fun a e => by subst e; exact hA u0 rfl a h⟩
theorem kXj {υ : Type} {alts : υ → ρ → List Alt} {e : Exit} {vs : List AV} {bs : List Box} {u u0 : υ} (he : u = u0) (o : ρ) (hO : Out (alts u0 o) e vs bs) (h : some o = some r) : Out (alts u r) e vs bs := by cases h; rw [he]; exact hO
theorem kE {enc : ρ → AV} {t : AV} (v : ρ) (e : LeT t (enc v)) (h : some v = some r) : LeT t (enc r) := by cases h; exact e
theorem kEr {enc : ρ → AV} (v : ρ) (h : some v = some r) : LeT (enc v) (enc r) := by cases h; exact ⟨fun _ _ h => h⟩
theorem kX {alts : ρ → List Alt} {e : Exit} {vs : List AV} {bs : List Box} (o : ρ) (hO : Out (alts o) e vs bs) (h : some o = some r) : Out (alts r) e vs bs := by cases h; exact hO
theorem kM {P : Program} {gl : Nat → AV} {ps : List AV} {n : Nat} {c : Code} {ks : List Nat} {vs vs' : List AV} {bs bs' : List Box} {kx : List Nat} {alts : ρ → List Alt} {x : Option ρ} (hv : LeVs vs vs') (hb : LeBs bs bs') (hL : ∀ o, x = some o → LoopOk P gl ps n c ks vs' bs' kx (alts o)) (h : x = some r) : Nxt P gl ps n c ks kx (alts r) vs bs := ⟨⟨vs', bs', hv, hb, hL r h⟩⟩
theorem kM0 {P : Program} {gl : Nat → AV} {ps : List AV} {n : Nat} {c : Code} {ks : List Nat} {vs : List AV} {bs : List Box} {kx : List Nat} {alts : ρ → List Alt} {x : Option ρ} (hL : ∀ o, x = some o → LoopOk P gl ps n c ks vs bs kx (alts o)) (h : x = some r) : Nxt P gl ps n c ks kx (alts r) vs bs := ⟨⟨vs, bs, .refl _, .refl _, hL r h⟩⟩
end
theorem LoopOk.le {P : Program} {gl : Nat → AV} {ps : List AV} {n : Nat} {c : Code} {ks : List Nat} {vs vs' : List AV} {bs bs' : List Box} {kx : List Nat} {alts : List Alt} (hv : LeVs vs vs') (hb : LeBs bs bs') (h : LoopOk P gl ps n c ks vs' bs' kx alts) : LoopOk P gl ps n c ks vs bs kx alts := ⟨fun ro d hro B H0 rest m H a w hrest hr => by
  obtain ⟨m5, H5, hr5⟩ := (head_le (gl := gl) (n := n) (ks := ks) hv hb).2 _ _ _ _ _ _ _ hr
  exact h.ok ro d hro B H0 rest m5 H5 a w hrest hr5⟩
theorem hpOf_snoc (bs : List Box) (b : Box) : lkb (pt (hpOf 0 bs) bs.length b) = lkb (hpOf 0 (bs ++ [b])) := by
  funext k
  rw [lkb_pt, lkb_hpOf]
  unfold updF
  simp only [Nat.zero_le, if_true, Nat.sub_zero, lkb_hpOf, List.getElem?_append]
  split
  · rename_i e; subst e; simp
  · split
    · rfl
    · rename_i h1 h2
      rw [List.getElem?_eq_none (by omega), List.getElem?_eq_none (by simp; omega)]
theorem PuH.pad {P : Program} {gl : Nat → AV} {f : Nat} {args : List AV} {bs bs' : List Box} {r : AV} (h : PuH P gl f args bs r bs') (sz : Nat) (hpos : 0 < sz) : PuH P gl f args bs r (bs' ++ [.own 0 sz []]) := ⟨fun m H B H0 rest w vs hh hl hv hrest hrv => by
  refine (h.ok m H B H0 rest w vs hh hl hv hrest hrv).mono fun e w' ⟨v, m', H', a, b, c, d, g⟩ => ?_
  have hs : RelS m' H' B H0 gl rest ⟨1, argSl 0 [r], hpOf 0 bs', bs'.length⟩ #[v] w' := by
    refine ⟨c, rfl, fun k => ?_, g⟩
    show RV H' _ (lk .undef (argSl 0 [r]) k) _
    rw [lk_argSl, if_pos (Nat.zero_le _), Nat.sub_zero]
    cases k with
    | zero => exact d
    | succ k => exact .imm _ _ (.undef _)
  obtain ⟨h2, hE⟩ := hs.newOwn sz hpos
  have hE : Env.le (envOf (lkb (hpOf 0 bs')) m') (envOf (lkb (pt (hpOf 0 bs') bs'.length (.own 0 sz []))) (updF m' bs'.length ⟨0, 0, 0⟩)) := hE
  have h3 := h2.heap
  simp only [hpOf_snoc] at hE h3
  exact ⟨v, _, H', a, b, by rw [List.length_append]; exact h3, d.mono (.refl _) hE, fun p hp => (g p hp).mono (.refl _) hE⟩⟩
section
variable {ρ : Type} {r : ρ}
theorem kH {P : Program} {gl : Nat → AV} {g : Nat} {args : List AV} {bs : List Box} {τ : Type} {sh : τ → AV} {bt : τ → List Box} {x : Option τ} {f : τ → Option ρ} {A : τ → Prop} (hP : ∀ y, x = some y → PuH P gl g args bs (sh y) (bt y)) (hA : ∀ y, f y = some r → A y) (h : (x >>= f) = some r) : ∃ y, PuH P gl g args bs (sh y) (bt y) ∧ A y := by
  cases x with
  | none => cases h
  | some y => exact ⟨y, hP y rfl, hA y h⟩
theorem leEnd {vs ts : List AV} {bs bt : List Box} (h : LeVs vs ts) (k : LeBs bs bt) : LeVs vs ts ∧ LeBs bs bt := ⟨h, k⟩
theorem kEH {enc : ρ → AV} {bt : ρ → List Box} {vs : List AV} {bs : List Box} (v : ρ) (e : LeVs vs [enc v] ∧ LeBs bs (bt v)) (h : some v = some r) : LeVs vs [enc r] ∧ LeBs bs (bt r) := by cases h; exact e
end
theorem LeV.owl {id ver sz n n' : Nat} (h : n = n') : LeV (.ow id ver sz n) (.ow id ver sz n') := h ▸ .refl _
theorem LeB.ownEq {v sz : Nat} {xs ys : List AV} (h : ys = xs) : LeB (.own v sz xs) (.own v sz ys) := h ▸ .refl _
section
variable {α : Type} {sh : α → AV}
theorem mA (l : List α) (x : α) : List.map sh (l ++ [x]) = List.map sh l ++ [sh x] := by simp
theorem mAA (l m : List α) : List.map sh (l ++ m) = List.map sh l ++ List.map sh m := List.map_append
theorem mAp {l m : List α} {A B : List AV} (h : List.map sh l = A) (k : List.map sh m = B) : List.map sh (l ++ m) = A ++ B := by rw [List.map_append, h, k]
theorem mTD (l : List α) (h k : Nat) : List.map sh ((l.take h).drop k) = ((List.map sh l).take h).drop k := by simp
theorem mT (l : List α) (h : Nat) : List.map sh (l.take h) = (List.map sh l).take h := by simp
theorem mD (l : List α) (k : Nat) : List.map sh (l.drop k) = (List.map sh l).drop k := by simp
theorem mS (l : List α) (k : Nat) (x : α) : List.map sh (l.set k x) = (List.map sh l).set k (sh x) := by simp
theorem leSl {sz : Nat} {xs ys : List AV} (h : xs = ys) : LeV (.sl sz ys) (.sl sz xs) := LeV.of_eq (by rw [h])
theorem leSlT {sz : Nat} {xs ys : List AV} (h : xs = ys) : LeT (.sl sz ys) (.sl sz xs) := LeT.of_eq (by rw [h])
theorem mLen (l : List α) : (l.length : Int) = ((List.map sh l).length : Int) := by simp
theorem mAR {τ : Type} {hh : τ → AV} {mk : τ → α} (hm : ∀ x, sh (mk x) = hh x) (l : List α) (x : τ) : List.map sh (l ++ [mk x]) = List.map sh l ++ [hh x] := by simp [hm]
theorem m1R {τ : Type} {hh : τ → AV} {mk : τ → α} (hm : ∀ x, sh (mk x) = hh x) (x : τ) : List.map sh [mk x] = [hh x] := by simp [hm]
theorem mSR {τ : Type} {hh : τ → AV} {mk : τ → α} (hm : ∀ x, sh (mk x) = hh x) (l : List α) (k : Nat) (x : τ) : List.map sh (l.set k (mk x)) = (List.map sh l).set k (hh x) := by simp [hm]
theorem nM (l : List α) : l.length = (List.map sh l).length := by simp
theorem nA (l : List α) (x : α) : (l ++ [x]).length = l.length + 1 := by simp
theorem nAB (l m : List α) : (l ++ m).length = l.length + m.length := by simp
theorem nAA (l m : List α) : (l ++ m).length = l.length + (List.map sh m).length := by simp
end
end HY
end
section
namespace HY
set_option linter.unusedVariables false
def eT_ (x : Unit) : AV := .tup []
def eI (x : Int) : AV := .int .i64 x
def eB (x : Bool) : AV := .bool x
def eU8 (x : Int) : AV := .int .u8 x
def eS (x : Str) : AV := .str x
def eU64 (x : Int) : AV := .int .u64 x
def eI32 (x : Int) : AV := .int .i32 x
def eLI (x : List Int) : AV := .sl 1 (List.map eI x)
def eT_B_I (x : (Bool × Int)) : AV := .tup [eB x.1, eI x.2]
def eT_I_B (x : (Int × Bool)) : AV := .tup [eI x.1, eB x.2]
def eT_LI_I (x : (List Int × Int)) : AV := .tup [eLI x.1, eI x.2]
def eLLI (x : List (List Int)) : AV := .sl 1 (List.map eLI x)
def eLS (x : List Str) : AV := .sl 1 (List.map eS x)
def eLI32 (x : List Int) : AV := .sl 1 (List.map eI32 x)
def eT_I_I (x : (Int × Int)) : AV := .tup [eI x.1, eI x.2]
def eT_U64_U64 (x : (Int × Int)) : AV := .tup [eU64 x.1, eU64 x.2]
def eU32 (x : Int) : AV := .int .u32 x
def eU16 (x : Int) : AV := .int .u16 x
structure gType where
  fKind : Int
  fBits : Int
  fFrac : Int
  fRound : Int
  fOver : Int
  deriving Inhabited, DecidableEq
def egType (x : gType) : AV := .agg [.int .i64 x.fKind, .int .i64 x.fBits, .int .i64 x.fFrac, .int .i64 x.fRound, .int .i64 x.fOver]
structure gBuffer where
  fName : Str
  fType : gType
  fDims : List Int
  fUse : Int
  deriving Inhabited, DecidableEq
def egBuffer (x : gBuffer) : AV := .agg [.str x.fName, .int .i64 x.fType.fKind, .int .i64 x.fType.fBits, .int .i64 x.fType.fFrac, .int .i64 x.fType.fRound, .int .i64 x.fType.fOver, .sl 1 (List.map eI x.fDims), .int .i64 x.fUse]
structure gMono where
  fName : Str
  fBy : Int
  deriving Inhabited, DecidableEq
def egMono (x : gMono) : AV := .agg [.str x.fName, .int .i64 x.fBy]
structure gLin where
  fK : Int
  fL : List gMono
  deriving Inhabited, DecidableEq
def egLin (x : gLin) : AV := .agg [.int .i64 x.fK, .sl 2 (List.map egMono x.fL)]
structure gIndex where
  fLin : gLin
  fFrom : Str
  fAt : List gLin
  deriving Inhabited, DecidableEq
def egIndex (x : gIndex) : AV := .agg [.int .i64 x.fLin.fK, .sl 2 (List.map egMono x.fLin.fL), .str x.fFrom, .sl 2 (List.map egLin x.fAt)]
structure gVal where
  fN : Int
  fD : Int
  deriving Inhabited, DecidableEq
def egVal (x : gVal) : AV := .agg [.int .i64 x.fN, .int .i64 x.fD]
structure gExprF (α : Type) where
  fOp : Int
  fName : Str
  fVal : gVal
  fType : gType
  fLin : gLin
  fIdx : List gIndex
  fArgs : List α
inductive gExpr where
  | mk (x : gExprF gExpr)
abbrev gExprS := gExprF gExpr
def gExpr.f : gExpr → gExprS
  | .mk x => x
@[simp] theorem gExpr.mk_f (e : gExpr) : gExpr.mk e.f = e := by cases e; rfl
@[simp] theorem gExpr.f_mk (x : gExprS) : (gExpr.mk x).f = x := rfl
theorem gExpr.lt {x : gExprS} {a : gExpr} (h : a ∈ x.fArgs) : sizeOf a < sizeOf (gExpr.mk x) := by
  have := List.sizeOf_lt_of_mem h
  cases x; simp only [gExpr.mk.sizeOf_spec, gExprF.mk.sizeOf_spec] at *; omega
def egExpr : gExpr → AV
  | .mk x => .agg [.int .i64 x.fOp, .str x.fName, .int .i64 x.fVal.fN, .int .i64 x.fVal.fD, .int .i64 x.fType.fKind, .int .i64 x.fType.fBits, .int .i64 x.fType.fFrac, .int .i64 x.fType.fRound, .int .i64 x.fType.fOver, .int .i64 x.fLin.fK, .sl 2 (List.map egMono x.fLin.fL), .sl 4 (List.map egIndex x.fIdx), .sl 13 (x.fArgs.attach.map fun a => egExpr a.1)]
 termination_by e => sizeOf e
 decreasing_by exact gExpr.lt a.2
def hgExpr (x : gExprS) : AV := .agg [.int .i64 x.fOp, .str x.fName, .int .i64 x.fVal.fN, .int .i64 x.fVal.fD, .int .i64 x.fType.fKind, .int .i64 x.fType.fBits, .int .i64 x.fType.fFrac, .int .i64 x.fType.fRound, .int .i64 x.fType.fOver, .int .i64 x.fLin.fK, .sl 2 (List.map egMono x.fLin.fL), .sl 4 (List.map egIndex x.fIdx), .sl 13 (List.map egExpr x.fArgs)]
theorem egExpr_f (e : gExpr) : egExpr e = hgExpr e.f := by
  cases e with
  | mk x => rw [egExpr]; simp [hgExpr, gExpr.f]
structure gStmtF (α : Type) where
  fOp : Int
  fName : Str
  fMany : Int
  fMark : Int
  fFold : Int
  fIdx : List gIndex
  fExpr : gExprS
  fBody : List α
inductive gStmt where
  | mk (x : gStmtF gStmt)
abbrev gStmtS := gStmtF gStmt
def gStmt.f : gStmt → gStmtS
  | .mk x => x
@[simp] theorem gStmt.mk_f (e : gStmt) : gStmt.mk e.f = e := by cases e; rfl
@[simp] theorem gStmt.f_mk (x : gStmtS) : (gStmt.mk x).f = x := rfl
theorem gStmt.lt {x : gStmtS} {a : gStmt} (h : a ∈ x.fBody) : sizeOf a < sizeOf (gStmt.mk x) := by
  have := List.sizeOf_lt_of_mem h
  cases x; simp only [gStmt.mk.sizeOf_spec, gStmtF.mk.sizeOf_spec] at *; omega
def egStmt : gStmt → AV
  | .mk x => .agg [.int .i64 x.fOp, .str x.fName, .int .i64 x.fMany, .int .i64 x.fMark, .int .i64 x.fFold, .sl 4 (List.map egIndex x.fIdx), .int .i64 x.fExpr.fOp, .str x.fExpr.fName, .int .i64 x.fExpr.fVal.fN, .int .i64 x.fExpr.fVal.fD, .int .i64 x.fExpr.fType.fKind, .int .i64 x.fExpr.fType.fBits, .int .i64 x.fExpr.fType.fFrac, .int .i64 x.fExpr.fType.fRound, .int .i64 x.fExpr.fType.fOver, .int .i64 x.fExpr.fLin.fK, .sl 2 (List.map egMono x.fExpr.fLin.fL), .sl 4 (List.map egIndex x.fExpr.fIdx), .sl 13 (List.map egExpr x.fExpr.fArgs), .sl 20 (x.fBody.attach.map fun a => egStmt a.1)]
 termination_by e => sizeOf e
 decreasing_by exact gStmt.lt a.2
def hgStmt (x : gStmtS) : AV := .agg [.int .i64 x.fOp, .str x.fName, .int .i64 x.fMany, .int .i64 x.fMark, .int .i64 x.fFold, .sl 4 (List.map egIndex x.fIdx), .int .i64 x.fExpr.fOp, .str x.fExpr.fName, .int .i64 x.fExpr.fVal.fN, .int .i64 x.fExpr.fVal.fD, .int .i64 x.fExpr.fType.fKind, .int .i64 x.fExpr.fType.fBits, .int .i64 x.fExpr.fType.fFrac, .int .i64 x.fExpr.fType.fRound, .int .i64 x.fExpr.fType.fOver, .int .i64 x.fExpr.fLin.fK, .sl 2 (List.map egMono x.fExpr.fLin.fL), .sl 4 (List.map egIndex x.fExpr.fIdx), .sl 13 (List.map egExpr x.fExpr.fArgs), .sl 20 (List.map egStmt x.fBody)]
theorem egStmt_f (e : gStmt) : egStmt e = hgStmt e.f := by
  cases e with
  | mk x => rw [egStmt]; simp [hgStmt, gStmt.f]
structure gNest where
  fBufs : List gBuffer
  fBody : List gStmt
def egNest (x : gNest) : AV := .agg [.sl 8 (List.map egBuffer x.fBufs), .sl 20 (List.map egStmt x.fBody)]
structure gRegion where
  fBuffer : Str
  fFrom : Int
  fTo : Int
  deriving Inhabited, DecidableEq
def egRegion (x : gRegion) : AV := .agg [.str x.fBuffer, .int .i64 x.fFrom, .int .i64 x.fTo]
structure gInstance where
  fStmt : Int
  fAt : List Int
  fOp : gStmtS
def egInstance (x : gInstance) : AV := .agg [.int .i64 x.fStmt, .sl 1 (List.map eI x.fAt), .int .i64 x.fOp.fOp, .str x.fOp.fName, .int .i64 x.fOp.fMany, .int .i64 x.fOp.fMark, .int .i64 x.fOp.fFold, .sl 4 (List.map egIndex x.fOp.fIdx), .int .i64 x.fOp.fExpr.fOp, .str x.fOp.fExpr.fName, .int .i64 x.fOp.fExpr.fVal.fN, .int .i64 x.fOp.fExpr.fVal.fD, .int .i64 x.fOp.fExpr.fType.fKind, .int .i64 x.fOp.fExpr.fType.fBits, .int .i64 x.fOp.fExpr.fType.fFrac, .int .i64 x.fOp.fExpr.fType.fRound, .int .i64 x.fOp.fExpr.fType.fOver, .int .i64 x.fOp.fExpr.fLin.fK, .sl 2 (List.map egMono x.fOp.fExpr.fLin.fL), .sl 4 (List.map egIndex x.fOp.fExpr.fIdx), .sl 13 (List.map egExpr x.fOp.fExpr.fArgs), .sl 20 (List.map egStmt x.fOp.fBody)]
structure glegality_group where
  fat : List Int
  fused : Int
  deriving Inhabited, DecidableEq
def eglegality_group (x : glegality_group) : AV := .agg [.sl 1 (List.map eI x.fat), .int .i64 x.fused]
structure gloopnest_checker where
  fnest : gNest
  floops : List Str
  fscope : List Str
  fpath : List Int
def egloopnest_checker (x : gloopnest_checker) : AV := .agg [.sl 8 (List.map egBuffer x.fnest.fBufs), .sl 20 (List.map egStmt x.fnest.fBody), .sl 1 (List.map eS x.floops), .sl 1 (List.map eS x.fscope), .sl 1 (List.map eI x.fpath)]
structure gdepend_access where
  fwrites : List gRegion
  freads : List gRegion
  fcore : gStmtS
def egdepend_access (x : gdepend_access) : AV := .agg [.sl 3 (List.map egRegion x.fwrites), .sl 3 (List.map egRegion x.freads), .int .i64 x.fcore.fOp, .str x.fcore.fName, .int .i64 x.fcore.fMany, .int .i64 x.fcore.fMark, .int .i64 x.fcore.fFold, .sl 4 (List.map egIndex x.fcore.fIdx), .int .i64 x.fcore.fExpr.fOp, .str x.fcore.fExpr.fName, .int .i64 x.fcore.fExpr.fVal.fN, .int .i64 x.fcore.fExpr.fVal.fD, .int .i64 x.fcore.fExpr.fType.fKind, .int .i64 x.fcore.fExpr.fType.fBits, .int .i64 x.fcore.fExpr.fType.fFrac, .int .i64 x.fcore.fExpr.fType.fRound, .int .i64 x.fcore.fExpr.fType.fOver, .int .i64 x.fcore.fExpr.fLin.fK, .sl 2 (List.map egMono x.fcore.fExpr.fLin.fL), .sl 4 (List.map egIndex x.fcore.fExpr.fIdx), .sl 13 (List.map egExpr x.fcore.fExpr.fArgs), .sl 20 (List.map egStmt x.fcore.fBody)]
structure gBinding where
  fName : Str
  fVal : Int
  deriving Inhabited, DecidableEq
def egBinding (x : gBinding) : AV := .agg [.str x.fName, .int .i64 x.fVal]
structure geval_typed where
  fval : gVal
  ftyp : gType
  deriving Inhabited, DecidableEq
def egeval_typed (x : geval_typed) : AV := .agg [.int .i64 x.fval.fN, .int .i64 x.fval.fD, .int .i64 x.ftyp.fKind, .int .i64 x.ftyp.fBits, .int .i64 x.ftyp.fFrac, .int .i64 x.ftyp.fRound, .int .i64 x.ftyp.fOver]
structure gTensor where
  fType : gType
  fDims : List Int
  fVals : List gVal
  deriving Inhabited, DecidableEq
def egTensor (x : gTensor) : AV := .agg [.int .i64 x.fType.fKind, .int .i64 x.fType.fBits, .int .i64 x.fType.fFrac, .int .i64 x.fType.fRound, .int .i64 x.fType.fOver, .sl 1 (List.map eI x.fDims), .sl 2 (List.map egVal x.fVals)]
structure gNamed where
  fName : Str
  fTensor : gTensor
  deriving Inhabited, DecidableEq
def egNamed (x : gNamed) : AV := .agg [.str x.fName, .int .i64 x.fTensor.fType.fKind, .int .i64 x.fTensor.fType.fBits, .int .i64 x.fTensor.fType.fFrac, .int .i64 x.fTensor.fType.fRound, .int .i64 x.fTensor.fType.fOver, .sl 1 (List.map eI x.fTensor.fDims), .sl 2 (List.map egVal x.fTensor.fVals)]
structure glin_wide where
  fhigh : Int
  fmid : Int
  flow : Int
  deriving Inhabited, DecidableEq
def eglin_wide (x : glin_wide) : AV := .agg [.int .u64 x.fhigh, .int .u64 x.fmid, .int .u64 x.flow]
structure gA2u64 where
  f_0 : Int
  f_1 : Int
  deriving Inhabited, DecidableEq
def egA2u64 (x : gA2u64) : AV := .agg [.int .u64 x.f_0, .int .u64 x.f_1]
theorem egExpr_mk (x : gExprS) : egExpr (.mk x) = hgExpr x := egExpr_f _
theorem legExpr (x : gExprS) : LeL (AV.cells (hgExpr x)) (AV.cells (egExpr (.mk x))) := by rw [egExpr_mk]; exact .refl _
theorem egStmt_mk (x : gStmtS) : egStmt (.mk x) = hgStmt x := egStmt_f _
theorem legStmt (x : gStmtS) : LeL (AV.cells (hgStmt x)) (AV.cells (egStmt (.mk x))) := by rw [egStmt_mk]; exact .refl _
def eLgBuffer (x : List gBuffer) : AV := .sl 8 (List.map egBuffer x)
def eLgStmt (x : List gStmt) : AV := .sl 20 (List.map egStmt x)
def eLgIndex (x : List gIndex) : AV := .sl 4 (List.map egIndex x)
def eLgMono (x : List gMono) : AV := .sl 2 (List.map egMono x)
def eLgExpr (x : List gExpr) : AV := .sl 13 (List.map egExpr x)
def eT_gBuffer_B (x : (gBuffer × Bool)) : AV := .tup [egBuffer x.1, eB x.2]
def eLgRegion (x : List gRegion) : AV := .sl 3 (List.map egRegion x)
def eLgInstance (x : List gInstance) : AV := .sl 22 (List.map egInstance x)
def eT_LgInstance_I (x : (List gInstance × Int)) : AV := .tup [eLgInstance x.1, eI x.2]
def eLgLin (x : List gLin) : AV := .sl 2 (List.map egLin x)
def eLgBinding (x : List gBinding) : AV := .sl 2 (List.map egBinding x)
def eT_gStmt_I (x : (gStmtS × Int)) : AV := .tup [hgStmt x.1, eI x.2]
def eT_gType_I (x : (gType × Int)) : AV := .tup [egType x.1, eI x.2]
def eLgNamed (x : List gNamed) : AV := .sl 8 (List.map egNamed x)
def eT_LgStmt_I (x : (List gStmt × Int)) : AV := .tup [eLgStmt x.1, eI x.2]
def eT_geval_typed_I (x : (geval_typed × Int)) : AV := .tup [egeval_typed x.1, eI x.2]
def eLgVal (x : List gVal) : AV := .sl 2 (List.map egVal x)
def eT_gTensor_B (x : (gTensor × Bool)) : AV := .tup [egTensor x.1, eB x.2]
def eT_gLin_I (x : (gLin × Int)) : AV := .tup [egLin x.1, eI x.2]
def eLgType (x : List gType) : AV := .sl 5 (List.map egType x)
def eT_geval_typed_geval_typed_I (x : (geval_typed × geval_typed × Int)) : AV := .tup [egeval_typed x.1, egeval_typed x.2.1, eI x.2.2]
def eT_gVal_I (x : (gVal × Int)) : AV := .tup [egVal x.1, eI x.2]
def eT_LgIndex_I (x : (List gIndex × Int)) : AV := .tup [eLgIndex x.1, eI x.2]
def eT_gExpr_I (x : (gExprS × Int)) : AV := .tup [hgExpr x.1, eI x.2]
def eT_gTensor_I (x : (gTensor × Int)) : AV := .tup [egTensor x.1, eI x.2]
end HY
end
section
namespace HY
open Go Go.RowKit
def defOp (o : Oper) (st : St) (gl : Nat → AV) : Option (Nat × List AV) :=
  match o.op with
  | .defer c => match o.guard with
    | none => match o.dst with
      | none => match c.callee with
        | .value x => match c.args.toList with
          | [] => match st.ev gl x with
            | .fn g caps => some (g, caps)
            | _ => none
          | _ => none
        | _ => none
      | some _ => none
    | some _ => none
  | _ => none
def xseqD (P : Program) (gl : Nat → AV) (ch : CallH) (rd : RoundH) : List Oper → St → Option (St × Nat × List AV)
  | [], _ => none
  | o :: l, st => match l with
    | [] => match defOp o st gl with
      | some x => some (st, x)
      | none => none
    | o2 :: l2 => if dstOk o.dst st.n then (match o.guard with
      | none => match xseqO P gl ch rd o st with
        | some s => xseqD P gl ch rd (o2 :: l2) s
        | none => none
      | some _ => none) else none
def xcodeD (P : Program) (gl : Nat → AV) (ch : CallH) (rd : RoundH) (fl : Nat) : Code → St → Option (St × Nat × List AV × List Code)
  | .region _ ops false, st => match xseqD P gl ch rd ops.toList st with
    | some (s, g, caps) => some (s, g, caps, [])
    | none => none
  | .seq a b, st => match xcodeD P gl ch rd fl a st with
    | some (s, g, caps, r) => some (s, g, caps, r ++ [b])
    | none => match xcode P gl ch rd true fl a st with
      | some (.normal, s, []) => xcodeD P gl ch rd fl b s
      | _ => none
  | _, _ => none
def xcodes (P : Program) (gl : Nat → AV) (ch : CallH) (rd : RoundH) (fl : Nat) : List Code → St → Option (Exit × St × List Nat)
  | [], st => some (.normal, st, [])
  | c :: cs, st => match xcode P gl ch rd true fl c st with
    | some (.normal, s, d) => match xcodes P gl ch rd fl cs s with
      | some (e, s', d') => some (e, s', d' ++ d)
      | none => none
    | r => r
def wpInL (F : Fence) (n : Nat) (P : Program) (Q : Exit → Act → World → Prop) : List Code → Act → World → Prop
  | [], a, w => Q .normal a w
  | c :: cs, a, w => c.wpIn F n P (Exit.then (wpInL F n P Q cs) Q) a w
theorem wpInL_snoc {F : Fence} {n : Nat} {P : Program} {Q : Exit → Act → World → Prop} {y : Code} : ∀ (l : List Code) (a : Act) (w : World), wpInL F n P Q (l ++ [y]) a w → wpInL F n P (Exit.then (y.wpIn F n P Q) Q) l a w
  | [], a, w, h => wpIn_mono (show y.wpIn F n P (Exit.then (wpInL F n P Q []) Q) a w from h) fun e a' w' hq => by cases e <;> exact hq
  | c :: cs, a, w, h => wpIn_mono (show c.wpIn F n P (Exit.then (wpInL F n P Q (cs ++ [y])) Q) a w from h) fun e a' w' hq => by
    cases e with
    | normal => exact wpInL_snoc cs a' w' hq
    | _ => exact hq
theorem wpInL_mono {F : Fence} {n : Nat} {P : Program} {Q Q' : Exit → Act → World → Prop} : ∀ (l : List Code) (a : Act) (w : World), wpInL F n P Q l a w → (∀ e a w, Q e a w → Q' e a w) → wpInL F n P Q' l a w
  | [], a, w, h, hq => hq _ _ _ h
  | c :: cs, a, w, h, hq => wpIn_mono (show c.wpIn F n P (Exit.then (wpInL F n P Q cs) Q) a w from h) fun e a' w' h' => by
    cases e with
    | normal => exact wpInL_mono cs a' w' h' hq
    | _ => exact hq _ _ _ h'
section
variable {P : Program} {H0 : HV} {B : Nat → Prop} {gl : Nat → AV} {rest : List (AV × Value)} {ch : CallH} {rd : RoundH}
theorem run_resolve_fn {ρ : Operand → Value} {c : Call} {x : Operand} {g : Nat} {vs : Array Value} {ty : TypeId} {w : World} (hc : c.callee = .value x) (ha : c.args.toList = []) (hx : ρ x = .func (.func g) #[] vs) :
    (resolve ρ c ty).run P w = .ok { target := .fn (.func g) vs, args := #[] } w := by
  have he : c.args = #[] := by cases hh : c.args with | mk l => rw [hh] at ha; simp at ha; subst ha; rfl
  simp [resolve, hc, he, hx, Deferred.ofValue]
theorem xseqD_ok (hch : ch.Ok P gl) (hrd : rd.Ok P gl) {all : List Oper} {n : Nat} {d0 : List Deferred} {w0 : World} {sF : St} {g : Nat} {caps : List AV} {Q : Exit → Act → World → Prop}
    (hQ : ∀ (a : Act) (w : World) (m : Nat → Lc) (H : HV) (vs : Array Value), a.defers = { target := .fn (.func g) vs, args := #[] } :: d0 → BelowS B w0 w → RelS m H B H0 gl rest sF a.tmps w → caps.length = vs.size →
      (∀ (j : Nat) (x : AV) (v : Value), caps[j]? = some x → vs[j]? = some v → RV H (sF.env m) x v) → Q .normal a w) :
    ∀ (pre l : List Oper) (st : St) (a : Act) (w : World) (m : Nat → Lc) (H : HV), all = pre ++ l → xseqD P gl ch rd l st = some (sF, g, caps) → a.defers = d0 → BelowS B w0 w → RelS m H B H0 gl rest st a.tmps w →
      wpOpsIn (FW none) n P all.toArray Q (List.range' pre.length l.length) a w
  | pre, [], st, a, w, m, H, _, hk, _, _, _ => by cases hk
  | pre, [o], st, a, w, m, H, he, hk, hd, hb, hr => by
    simp only [xseqD] at hk
    split at hk
    · rename_i x hx
      cases hk
      unfold defOp at hx
      split at hx <;> first | cases hx | skip
      rename_i c ho
      split at hx <;> first | cases hx | skip
      rename_i hg
      split at hx <;> first | cases hx | skip
      rename_i hdst
      split at hx <;> first | cases hx | skip
      rename_i x hc
      split at hx <;> first | cases hx | skip
      rename_i hargs
      split at hx <;> first | cases hx | skip
      rename_i hev
      have hrv := hr.ev x
      rw [hev] at hrv
      obtain ⟨vs, hu, hl, hrel⟩ := hrv.fn_inv
      have hoa : all.toArray[pre.length]? = some o := by rw [List.getElem?_toArray, he, List.getElem?_append_right (Nat.le_refl _)]; simp
      simp only [List.length_cons, List.length_nil, List.range'_succ, List.range'_zero, wpOpsIn, hoa]
      rw [if_pos (by simp [Region.wanted, hg])]
      refine ⟨fun _ _ => trivial, ?_⟩
      have hsem : (o.semAt (FW none).round a.eval).run P w = .ok (.defer { target := .fn (.func g) vs, args := #[] }) w := by
        show (execOp a.eval o).run P w = _
        unfold execOp
        simp only [ho, Sem.run_bind, run_resolve_fn hc hargs hu, Result.andThen_ok, Sem.run_pure]
      rw [hsem, Oper.uponIn_defer, hdst]
      exact hQ _ w m H vs (by show _ :: a.defers = _; rw [hd]) hb hr hl hrel
    · cases hk
  | pre, o :: o2 :: l2, st, a, w, m, H, he, hk, hd, hb, hr => by
    rw [List.length_cons, List.range'_succ]
    simp only [wpOpsIn]
    have ho : all.toArray[pre.length]? = some o := by rw [List.getElem?_toArray, he, List.getElem?_append_right (Nat.le_refl _)]; simp
    simp only [ho]
    have ih := xseqD_ok hch hrd (all := all) (n := n) hQ (pre ++ [o]) (o2 :: l2)
    simp only [List.length_append, List.length_cons, List.length_nil, Nat.zero_add, List.append_assoc, List.singleton_append] at ih
    simp only [xseqD] at hk
    split at hk
    · rename_i hdst
      split at hk
      · rename_i hg
        rw [if_pos (by simp [Region.wanted, hg])]
        split at hk
        · rename_i s hs
          exact xseqO_ok hch hrd hr hdst hs none n _ _ fun a' w' m' H' hd' hb' hr' => ih s a' w' m' H' he hk (hd'.trans hd) (hb.trans hb') hr'
        · cases hk
      · cases hk
    · cases hk
theorem xcodeD_ok (hch : ch.Ok P gl) (hrd : rd.Ok P gl) (hmix : P.follows .mixedOrders = true) (n fl : Nat) : ∀ (c : Code) (st s1 : St) (g : Nat) (caps : List AV) (r : List Code), okCode c = true → xcodeD P gl ch rd fl c st = some (s1, g, caps, r) →
    (∀ x ∈ r, okCode x = true) ∧ ∀ (m : Nat → Lc) (H : HV) (a : Act) (w : World), RelS m H B H0 gl rest st a.tmps w → ∀ Q : Exit → Act → World → Prop,
      (∀ (a' : Act) (w' : World) (m' : Nat → Lc) (H' : HV) (vs : Array Value), a'.defers = { target := .fn (.func g) vs, args := #[] } :: a.defers → BelowS B w w' → RelS m' H' B H0 gl rest s1 a'.tmps w' → caps.length = vs.size →
        (∀ (j : Nat) (x : AV) (v : Value), caps[j]? = some x → vs[j]? = some v → RV H' (s1.env m') x v) → wpInL (FW none) n P Q r a' w') → c.wpIn (FW none) n P Q a w
  | .region id ops false, st, s1, g, caps, r, hok, hk => by
    simp only [xcodeD] at hk
    split at hk
    · rename_i s g' caps' hs
      cases hk
      refine ⟨by simp, fun m H a w hr Q hQ => wpIn_region ?_⟩
      have := xseqD_ok hch hrd (all := ops.toList) (n := n) (d0 := a.defers) (w0 := w) (Q := Q) (fun a' w' m' H' vs h1 h2 h3 h4 h5 => hQ a' w' m' H' vs h1 h2 h3 h4 h5) [] ops.toList st a w m H rfl hs rfl (BelowS.refl _ _) hr
      simpa [List.range_eq_range'] using this
    · cases hk
  | .seq x y, st, s1, g, caps, r, hok, hk => by
    simp only [xcodeD] at hk
    simp only [okCode, Bool.and_eq_true] at hok
    split at hk
    · rename_i s g' caps' r' hs
      cases hk
      obtain ⟨o1, h1⟩ := xcodeD_ok hch hrd hmix n fl x st _ _ _ _ hok.1 hs
      refine ⟨fun z hz => (List.mem_append.1 hz).elim (o1 z) fun h => by simp at h; subst h; exact hok.2, fun m H a w hr Q hQ => wpIn_seq (h1 m H a w hr _ fun a' w' m' H' vs q1 q2 q3 q4 q5 => wpInL_snoc _ _ _ (hQ a' w' m' H' vs q1 q2 q3 q4 q5))⟩
    · split at hk
      · rename_i s hs
        obtain ⟨o1, h1⟩ := xcodeD_ok hch hrd hmix n fl y s _ _ _ _ hok.2 hk
        refine ⟨o1, fun m H a w hr Q hQ => wpIn_seq (wpIn_mono (xcode_ok hch hrd hmix true none (fun _ => rfl) n fl x st .normal s [] hok.1 hs B H0 rest m H a w hr) fun e a' w' hq => ?_)⟩
        obtain ⟨rfl, m', H', D, hD, hd, hlp, hb, hr'⟩ := hq
        have : D = [] := by cases D with | nil => rfl | cons _ _ => simp at hD
        subst this
        exact h1 m' H' a' w' hr' Q fun a2 w2 m2 H2 vs q1 q2 q3 q4 q5 => hQ a2 w2 m2 H2 vs (by rw [q1, hd]; rfl) (hb.trans q2) q3 q4 q5
      · cases hk
  | .skip, _, _, _, _, _, _, hk => by cases hk
  | .label _, _, _, _, _, _, _, hk => by cases hk
  | .exit _, _, _, _, _, _, _, hk => by cases hk
  | .ret, _, _, _, _, _, _, hk => by cases hk
  | .region _ _ true, _, _, _, _, _, _, hk => by cases hk
  | .cond .., _, _, _, _, _, _, hk => by cases hk
  | .block .., _, _, _, _, _, _, hk => by cases hk
  | .loop _, _, _, _, _, _, _, hk => by cases hk
  | .rangeFunc .., _, _, _, _, _, _, hk => by cases hk
  | .scope _, _, _, _, _, _, _, hk => by cases hk
  | .goto _, _, _, _, _, _, _, hk => by cases hk
  | .refuse _, _, _, _, _, _, _, hk => by cases hk
theorem xcodes_ok (hch : ch.Ok P gl) (hrd : rd.Ok P gl) (hmix : P.follows .mixedOrders = true) (n fl : Nat) : ∀ (l : List Code) (st : St) (ex : Exit) (st' : St) (ds : List Nat), (∀ x ∈ l, okCode x = true) → xcodes P gl ch rd fl l st = some (ex, st', ds) →
    ∀ (rest : List (AV × Value)) (m : Nat → Lc) (H : HV) (a : Act) (w : World), RelS m H B H0 gl rest st a.tmps w → wpInL (FW none) n P (fun e a' w' => e = ex ∧ CPost gl B H0 rest a w st' ds a' w') l a w
  | [], st, ex, st', ds, _, hk, rest, m, H, a, w, hr => by cases hk; exact ⟨rfl, .nil rfl (BelowS.refl _ _) hr⟩
  | c :: cs, st, ex, st', ds, hok, hk, rest, m, H, a, w, hr => by
    simp only [xcodes] at hk
    have hx := fun e s d h => xcode_ok hch hrd hmix true none (fun _ => rfl) n fl c st e s d (hok c (by simp)) h B H0 rest m H a w hr
    split at hk
    · rename_i s d hs
      split at hk
      · rename_i e2 s2 d2 hs2
        cases hk
        refine wpIn_mono (hx _ _ _ hs) fun e a' w' hq => ?_
        obtain ⟨rfl, m', H', D, hD, hd, hlp, hb, hr'⟩ := hq
        have ih := xcodes_ok hch hrd hmix n fl cs s _ _ _ (fun x hx => hok x (by simp [hx])) hs2 _ m' H' a' w' (hr'.more hlp)
        exact wpInL_mono cs _ _ ih fun e a2 w2 hq => ⟨hq.1, CPost.then (s1 := s) hD hd hb hq.2⟩
      · cases hk
    · rename_i hno
      refine wpIn_mono (hx _ _ _ hk) fun e a' w' hq => ?_
      obtain ⟨rfl, hq⟩ := hq
      cases e with
      | normal => exact absurd hk (hno _ _)
      | _ => exact ⟨rfl, hq⟩
def xdef (P : Program) (gl : Nat → AV) (gd : Nat → Bool) (fl : Nat) (ch : CallH) (rd : RoundH) (g : Nat) (caps : List AV) (hp : Tr Box) (nx : Nat) : Option (Tr Box × Nat) :=
  bif gd g then (match P.funcs[g]? with
    | some fn => match fn.body with
      | some c => bif Nat.ble caps.length fn.ntmps then (match xcode P gl ch rd true fl c ⟨fn.ntmps, argSl 0 caps, hp, nx⟩ with
        | some (ex, s, []) => bif endsFn ex then (match resOf P s fn.results.toList with
          | some _ => some (s.hp, s.nx)
          | none => none) else none
        | _ => none) else none
      | none => none
    | none => none) else none
def xfunD (P : Program) (gl : Nat → AV) (gd : Nat → Bool) (fl : Nat) (ch : CallH) (rd : RoundH) : CallH := fun f args hp nx =>
  bif gd f then (match P.funcs[f]? with
    | some fn => match fn.body with
      | some c => bif Nat.ble args.length fn.ntmps then (match xcodeD P gl ch rd fl c ⟨fn.ntmps, argSl 0 args, hp, nx⟩ with
        | some (s1, g, caps, r) => match xcodes P gl ch rd fl r s1 with
          | some (ex, s, ds) => bif endsFn ex then (match shut ds s.hp with
            | some hp1 => match xdef P gl gd fl ch rd g caps hp1 s.nx with
              | some (hp2, nx2) => match resOf P (s.setHp hp2 nx2) fn.results.toList with
                | some r => some (r, hp2, nx2)
                | none => none
              | none => none
            | none => none) else none
          | none => none
        | none => none) else none
      | none => none
    | none => none) else none
theorem shut_okT {m : Nat → Lc} {H : HV} {F : Fence} {n : Nat} {fn : Func} {tmps : Array Value} {R : Ending → World → Prop} {nx : Nat} {hp' : Tr Box} {T : List Deferred} : ∀ (D : List (Nat × Nat)) (hp : Tr Box) (w : World), RelH m H B H0 gl (lkb hp) nx w → (∀ p ∈ D, (envOf (lkb hp) m).lp p.1 = some p.2) → shut (D.map (·.1)) hp = some hp' →
    (∀ w', RelH m H B H0 gl (lkb hp') nx w' → Env.le (envOf (lkb hp) m) (envOf (lkb hp') m) → BelowS B w w' → LeavesInM F n P fn tmps R T .returning w') → LeavesInM F n P fn tmps R (marks D ++ T) .returning w
  | [], hp, w, h, _, hk, hQ => by
    cases hk
    exact hQ w h (.refl _) (BelowS.refl _ _)
  | (id, l) :: D, hp, w, h, hD, hk, hQ => by
    simp only [List.map_cons, shut] at hk
    split at hk
    · rename_i hid
      have hl : (m id).g = l := by
        have := hD (id, l) (by simp)
        rw [lp_defb hid] at this
        simpa using this
      have hobj : w.heap[(m id).g]? = some (.deferred (some [])) := h.box _ _ hid
      obtain ⟨hh2, hE2, hb2⟩ := h.putObj hid rfl (b' := .defb false) rfl (.deferred none) (fun C e fr q => by rw [hobj] at q; cases q) (fun E' hE' => World.putObj_heap_same (h.sep _ _ hid).2.1)
      rw [← lkb_pt] at hh2 hE2
      rw [hl] at hobj hh2 hb2
      refine ⟨by simp, .inl ⟨l, _, rfl, run_takeDeferred hobj, ?_⟩⟩
      exact shut_okT D _ _ hh2 (fun p hp => hE2.lp _ _ (hD p (List.mem_cons_of_mem _ hp))) hk (fun w' h3 hE3 hb3 => hQ w' h3 (hE2.trans hE3) (hb2.trans hb3))
    · cases hk
theorem RelS.frame {m : Nat → Lc} {H : HV} {hp : Tr Box} {nx : Nat} {w : World} (hh : RelH m H B H0 gl (lkb hp) nx w) {n : Nat} {args : List AV} {vs : Array Value} (hle : args.length ≤ n) (hl : args.length = vs.size) (hv : ∀ (j : Nat) (x : AV) (v : Value), args[j]? = some x → vs[j]? = some v → RV H (envOf (lkb hp) m) x v)
    (hrest : ∀ p ∈ rest, RV H (envOf (lkb hp) m) p.1 p.2) : RelS m H B H0 gl rest ⟨n, argSl 0 args, hp, nx⟩ (vs ++ Array.replicate (n - vs.size) Go.undef) w := by
  refine ⟨hh, by simp; omega, fun k => ?_, hrest⟩
  show RV H _ (lk .undef (argSl 0 args) k) _
  rw [lk_argSl, if_pos (Nat.zero_le _), Nat.sub_zero]
  cases hx : args[k]? with
  | none => exact .imm _ _ (.undef _)
  | some x =>
    have hk : k < vs.size := by rw [← hl]; exact (List.getElem?_eq_some_iff.1 hx).1
    have hv' : (vs ++ Array.replicate (n - vs.size) Go.undef).getD k Go.undef = vs[k] := by
      rw [Array.getD_eq_getD_getElem?, Array.getElem?_append_left hk, Array.getElem?_eq_getElem hk]; rfl
    rw [hv']
    exact hv k x _ hx (Array.getElem?_eq_getElem hk)
theorem xdef_ok {gd : Nat → Bool} {fl : Nat} (hp : ProgOk P gd) (hch : ch.Ok P gl) (hrd : rd.Ok P gl) {g : Nat} {caps : List AV} {hp1 hp2 : Tr Box} {nx nx2 : Nat} (hk : xdef P gl gd fl ch rd g caps hp1 nx = some (hp2, nx2)) {m : Nat → Lc} {H : HV} {w : World} {us : Array Value}
    (hh : RelH m H B H0 gl (lkb hp1) nx w) (hl : caps.length = us.size) (hv : ∀ (j : Nat) (x : AV) (v : Value), caps[j]? = some x → us[j]? = some v → RV H (envOf (lkb hp1) m) x v) (hrest : ∀ p ∈ rest, RV H (envOf (lkb hp1) m) p.1 p.2) :
    (callFunc g us).run P w = .ok (.enter g us) w ∧ CallsDIn (FW none) 0 P g us .returning w fun e u' w' => u' = .returning ∧ ∃ v m' H', e = .returned v ∧ BelowS B w w' ∧ RelH m' H' B H0 gl (lkb hp2) nx2 w' ∧ ∀ p ∈ rest, RV H' (envOf (lkb hp2) m') p.1 p.2 := by
  unfold xdef at hk
  cases hg : gd g with
  | false => rw [hg] at hk; cases hk
  | true =>
  rw [hg] at hk
  simp only [cond_true] at hk
  have hok := hp.fn g hg
  unfold okFn at hok
  split at hk <;> first | cases hk | skip
  rename_i fn hf
  rw [hf] at hok
  simp only [Bool.and_eq_true, bne_iff_ne] at hok
  obtain ⟨hname, hok⟩ := hok
  split at hk <;> first | cases hk | skip
  rename_i c hb
  rw [hb] at hok
  simp only at hok
  cases hle : Nat.ble caps.length fn.ntmps with
  | false => rw [hle] at hk; cases hk
  | true =>
  rw [hle] at hk
  simp only [cond_true] at hk
  have hle := Nat.le_of_ble_eq_true hle
  split at hk <;> first | cases hk | skip
  rename_i ex s hx
  cases hex : endsFn ex with
  | false => rw [hex] at hk; cases hk
  | true =>
  rw [hex] at hk
  simp only [cond_true] at hk
  split at hk <;> first | cases hk | skip
  rename_i r hr
  refine ⟨enters_of hf (by simpa using hname) (by rw [hb]; rfl) us w, ?_⟩
  have h0 := RelS.frame (rest := rest) hh hle hl hv hrest
  have hcode := xcode_ok hch hrd hp.mix true none (fun _ => rfl) 0 fl c _ ex s [] hok hx B H0 rest m H { tmps := us ++ Array.replicate (fn.ntmps - us.size) Go.undef, defers := [] } w h0
  refine callsDIn_of_wp hf hb trivial (wpIn_mono hcode fun e a' w' hq => ?_)
  obtain ⟨rfl, m', H', D, hD, hd, hlp, hbl, hr2⟩ := hq
  have : D = [] := by cases D with | nil => rfl | cons _ _ => simp at hD
  subst this
  obtain ⟨v, hv1, _⟩ := res_all hr2 hr
  have hgo : a'.defers = [] ∧ ∃ v, (results fn a'.tmps).run P w' = .ok v w' ∧ ∃ v' m' H', Ending.returned v = .returned v' ∧ BelowS B w w' ∧ RelH m' H' B H0 gl (lkb s.hp) s.nx w' ∧ ∀ p ∈ rest, RV H' (envOf (lkb s.hp) m') p.1 p.2 :=
    ⟨by rw [hd]; rfl, v, hv1, v, m', H', rfl, hbl, hr2.heap, hr2.rest⟩
  cases e with
  | normal => exact hgo
  | ret => exact hgo
  | _ => cases hex
theorem xfunD_ok {gd : Nat → Bool} {fl : Nat} (hp : ProgOk P gd) (hch : ch.Ok P gl) (hrd : rd.Ok P gl) : CallH.Ok P gl (xfunD P gl gd fl ch rd) := by
  intro f args hpx nx r hp' nx' hk
  unfold xfunD at hk
  cases hg : gd f with
  | false => rw [hg] at hk; cases hk
  | true =>
  rw [hg] at hk
  simp only [cond_true] at hk
  have hok := hp.fn f hg
  unfold okFn at hok
  split at hk <;> first | cases hk | skip
  rename_i fn hf
  rw [hf] at hok
  simp only [Bool.and_eq_true, bne_iff_ne] at hok
  obtain ⟨hname, hok⟩ := hok
  split at hk <;> first | cases hk | skip
  rename_i c hb
  rw [hb] at hok
  simp only at hok
  cases hle : Nat.ble args.length fn.ntmps with
  | false => rw [hle] at hk; cases hk
  | true =>
  rw [hle] at hk
  simp only [cond_true] at hk
  have hle := Nat.le_of_ble_eq_true hle
  split at hk <;> first | cases hk | skip
  rename_i s1 g caps l hx
  split at hk <;> first | cases hk | skip
  rename_i ex s ds hxs
  cases hex : endsFn ex with
  | false => rw [hex] at hk; cases hk
  | true =>
  rw [hex] at hk
  simp only [cond_true] at hk
  split at hk <;> first | cases hk | skip
  rename_i hp1 hshut
  split at hk <;> first | cases hk | skip
  rename_i hp2 nx2 hdef
  split at hk <;> first | cases hk | skip
  rename_i hr'
  intro m H B H0 rest w vs hh hl hargs hrest
  refine .inl ⟨enters_of hf (by simpa using hname) (by rw [hb]; rfl), ?_⟩
  have h0 := RelS.frame (rest := rest) hh hle hl hargs hrest
  obtain ⟨hokl, hD⟩ := xcodeD_ok (B := B) (H0 := H0) (rest := rest) hch hrd hp.mix 0 fl c _ s1 g caps l hok hx
  refine CallsIn.calls (F := FW none) (callsIn_of_wp_marks hf hb trivial (hD m H { tmps := vs ++ Array.replicate (fn.ntmps - vs.size) Go.undef, defers := [] } w h0 _ fun a1 w1 m1 H1 us hdf hb1 hr1 hcl hcv => ?_)) (fun k d hd => by simp [FW] at hd)
  have hz : ∀ p ∈ caps.zip us.toList, RV H1 (s1.env m1) p.1 p.2 := fun p hp => by
    obtain ⟨j, hj⟩ := List.getElem?_of_mem hp
    rw [List.getElem?_zip_eq_some] at hj
    exact hcv j _ _ hj.1 (by simpa using hj.2)
  refine wpInL_mono _ _ _ (xcodes_ok hch hrd hp.mix 0 fl l s1 ex s ds hokl hxs (caps.zip us.toList ++ rest) m1 H1 a1 w1 ⟨hr1.heap, hr1.size, hr1.slot, fun p hp => (List.mem_append.1 hp).elim (hz p) (hr1.rest p)⟩) fun e a' w' hq => ?_
  obtain ⟨rfl, m', H', D, hD', hd, hlp, hbl, hr2⟩ := hq
  subst hD'
  have hgo : LeavesInM (FW none) 0 P fn a'.tmps (fun e w' => ∃ v m' H', e = .returned v ∧ BelowS B w w' ∧ RelH m' H' B H0 gl (lkb hp') nx' w' ∧ RV H' (envOf (lkb hp') m') r v ∧ ∀ p ∈ rest, RV H' (envOf (lkb hp') m') p.1 p.2) a'.defers .returning w' := by
    rw [hd, hdf]
    refine shut_okT D _ w' hr2.heap hlp hshut fun w3 h3 hE3 hb3 => ?_
    have hr3 : RelS m' H' B H0 gl (caps.zip us.toList ++ rest) (s.setHp hp1 s.nx) a'.tmps w3 := ⟨h3, hr2.size, fun k => (hr2.slot k).mono (.refl _) hE3, fun p hp => (hr2.rest p hp).mono (.refl _) hE3⟩
    obtain ⟨hent, hcd⟩ := xdef_ok (rest := (List.range s.n).map (fun k => (s.get k, a'.tmps.getD k Go.undef)) ++ rest) hp hch hrd hdef h3 hcl (fun j x v hx hv => by
      refine hr3.rest (x, v) (List.mem_append_left _ (List.mem_of_getElem? (i := j) ?_))
      rw [List.getElem?_zip_eq_some]; exact ⟨hx, by simpa using hv⟩) (fun p hp => by
      rcases List.mem_append.1 hp with hp | hp
      · obtain ⟨k, _, rfl⟩ := List.mem_map.1 hp
        exact hr3.slot k
      · exact hr3.rest p (List.mem_append_right _ hp))
    refine ⟨by simp, .inr ⟨fun h => by simp [FW] at h, .func g, us, g, us, rfl, ?_, fun _ _ => trivial, hcd.mono fun e u' w4 ⟨hu, v, m2, H2, he, hb4, hh4, hrest4⟩ => ?_⟩⟩
    · show (callFunc g (#[] ++ us)).run P w3 = _
      rw [Array.empty_append]; exact hent
    · subst hu; subst he
      have hr4 : RelS m2 H2 B H0 gl rest (s.setHp hp' nx') a'.tmps w4 := by
        refine ⟨hh4, hr3.size, fun k => ?_, fun p hp => hrest4 p (List.mem_append_right _ hp)⟩
        rcases Nat.lt_or_ge k s.n with hlt | hge
        · exact hrest4 (s.get k, a'.tmps.getD k Go.undef) (List.mem_append_left _ (List.mem_map.2 ⟨k, List.mem_range.2 hlt, rfl⟩))
        · have hu : a'.tmps.getD k Go.undef = Go.undef := by rw [Array.getD_eq_getD_getElem?, Array.getElem?_eq_none (by rw [hr3.size]; exact hge)]; rfl
          have := hr3.slot k
          rw [hu] at this ⊢
          exact undef_any this
      obtain ⟨v, hv, hrv⟩ := res_all hr4 hr'
      exact ⟨v, hv, v, m2, H2, rfl, (hb1.trans hbl).trans (hb3.trans hb4), hh4, hrv, hr4.rest⟩
  cases e with
  | normal => exact hgo
  | ret => exact hgo
  | _ => cases hex
def xlevD (P : Program) (gl : Nat → AV) (gd : Nat → Bool) (fl : Nat) (xe : CallH) : Nat → CallH × RoundH
  | 0 => (fun _ _ _ _ => none, fun _ _ _ _ => none)
  | k + 1 => (fun f args hp nx => bif gd f then (match xfun P gl gd fl (xlevD P gl gd fl xe k).1 (xlevD P gl gd fl xe k).2 f args hp nx with
    | some r => some r
    | none => xfunD P gl gd fl (xlevD P gl gd fl xe k).1 (xlevD P gl gd fl xe k).2 f args hp nx) else xe f args hp nx, fun id args hp nx => xround P gl fl (xlevD P gl gd fl xe k).1 (xlevD P gl gd fl xe k).2 id args hp nx)
def xcallD (P : Program) (gl : Nat → AV) (gd : Nat → Bool) (fl : Nat) (xe : CallH) (k : Nat) : CallH := (xlevD P gl gd fl xe k).1
theorem xlevD_ok {gd : Nat → Bool} {fl : Nat} {xe : CallH} (hp : ProgOk P gd) (he : xe.Ok P gl) : ∀ k, CallH.Ok P gl (xlevD P gl gd fl xe k).1 ∧ RoundH.Ok P gl (xlevD P gl gd fl xe k).2
  | 0 => ⟨fun _ _ _ _ _ _ _ h => (by cases h), fun _ _ _ _ _ _ _ h => (by cases h)⟩
  | k + 1 => ⟨fun f args hpx nx r hp' nx' h => by
      simp only [xlevD] at h
      cases hg : gd f with
      | false => rw [hg] at h; exact he _ _ _ _ _ _ _ h
      | true =>
        rw [hg] at h
        simp only [cond_true] at h
        split at h
        · rename_i r0 hr; cases h; exact xfun_ok hp (xlevD_ok hp he k).1 (xlevD_ok hp he k).2 _ _ _ _ _ _ _ hr
        · exact xfunD_ok hp (xlevD_ok hp he k).1 (xlevD_ok hp he k).2 _ _ _ _ _ _ _ h, xround_ok (xlevD_ok hp he k).1 (xlevD_ok hp he k).2 hp.mix fl⟩
theorem xcallD_ok {gd : Nat → Bool} {fl : Nat} {xe : CallH} (hp : ProgOk P gd) (he : xe.Ok P gl) (k : Nat) : CallH.Ok P gl (xcallD P gl gd fl xe k) := (xlevD_ok hp he k).1
def xcmp (nf : Nat) : CallH := fun f args hp nx => bif Nat.beq f nf then (match args with
  | [.str a, .str b] => some (.int .i64 (Lib.compareBytes a b), hp, nx)
  | _ => none) else none
theorem xcmp_ok {nf : Nat} {P : Program} {gl : Nat → AV} (h : ∀ (a b : ByteArray) (w : World), (callFunc nf #[.string a, .string b]).run P w = .ok (.value (.int .i64 (Lib.compareBytes a.data.toList b.data.toList))) w) : CallH.Ok P gl (xcmp nf) := by
  intro f args hp nx r hp' nx' hk
  unfold xcmp at hk
  cases hf : Nat.beq f nf with
  | false => rw [hf] at hk; cases hk
  | true =>
    rw [hf] at hk
    obtain rfl := Nat.eq_of_beq_eq_true hf
    simp only [cond_true] at hk
    split at hk <;> first | cases hk | skip
    rename_i a b
    intro m H B H0 rest w vs hh hl hargs hrest
    obtain ⟨v0, v1, rfl⟩ : ∃ v0 v1, vs = #[v0, v1] := by
      rcases vs with ⟨_ | ⟨a, _ | ⟨b, _ | ⟨c, r⟩⟩⟩⟩ <;> simp at hl
      exact ⟨a, b, rfl⟩
    have h0 := (hargs 0 _ v0 rfl rfl).str_inv
    have h1 := (hargs 1 _ v1 rfl rfl).str_inv
    subst h0; subst h1
    exact .inr ⟨_, w, h _ _ w, _, m, H, rfl, BelowS.refl _ _, hh, .imm _ _ (.int _ _), hrest⟩
end
end HY
end
section
namespace HY
open Go Go.RowKit
abbrev MemoT := List (Nat × List AV × AV × Tr Box × Nat)
def memoFind (f : Nat) (ts : List AV) : MemoT → Option (AV × Tr Box × Nat)
  | [] => none
  | e :: r => match Nat.beq e.1 f && listEq (avEq 12) e.2.1 ts with
    | true => some e.2.2
    | false => memoFind f ts r
def memoHas (f : Nat) (T : MemoT) : Bool := T.any fun e => Nat.beq e.1 f
def memoCh (T : MemoT) : CallH := fun f ts _ _ => memoFind f ts T
def MemoOk (P : Program) (gl : Nat → AV) (T : MemoT) : Prop := ∀ e ∈ T, CallOk0 P gl e.1 e.2.1 e.2.2.1 e.2.2.2.1 e.2.2.2.2
theorem memoFind_ok {P : Program} {gl : Nat → AV} {f : Nat} {ts : List AV} {r : AV} {hp' : Tr Box} {nx' : Nat} : ∀ {T : MemoT}, MemoOk P gl T → memoFind f ts T = some (r, hp', nx') → CallOk0 P gl f ts r hp' nx'
  | [], _, h => by cases h
  | ⟨f', ts', r', hp2, nx2⟩ :: T, hT, h => by
    simp only [memoFind] at h
    split at h
    · rename_i hc
      rw [Bool.and_eq_true] at hc
      have h1 := Nat.eq_of_beq_eq_true hc.1
      have h2 := listEq_eq (avEq_eq 12) hc.2
      cases h
      have := hT _ (List.mem_cons_self ..)
      subst h1; subst h2
      exact this
    · exact memoFind_ok (fun e he => hT e (by simp [he])) h
def xback (hp : Tr Box) (nx : Nat) (o : Option (AV × Option (Nat × Box))) : Option (AV × Tr Box × Nat) := match o with
  | some (v, some (id, b)) => some (v, pt hp id b, nx + 1)
  | some (v, none) => some (v, hp, nx + 1)
  | none => none
theorem xback_ok {P : Program} {gl : Nat → AV} {ch : CallH} (hch : ∀ f ts r0 hp' nx', ch f ts .nil 0 = some (r0, hp', nx') → CallOk0 P gl f ts r0 hp' nx') {f : Nat} {args : List AV} {hp : Tr Box} {nx : Nat} {r : AV} {hp' : Tr Box} {nx' : Nat}
    (hk : xback hp nx (xpure ch (lkb hp) nx f args) = some (r, hp', nx')) : CallOk P gl f args hp nx r hp' nx' := by
  intro m H B H0 rest w vs hh hl hargs hrest
  have key : ∀ (v : AV) (ob : Option (Nat × Box)), xpure ch (lkb hp) nx f args = some (v, ob) → v = r → (match ob with | some (id, b) => pt hp id b | none => hp) = hp' → nx + 1 = nx' →
      Ans P f vs w fun e w' => ∃ v m' H', e = .returned v ∧ BelowS B w w' ∧ RelH m' H' B H0 gl (lkb hp') nx' w' ∧ RV H' (envOf (lkb hp') m') r v ∧ ∀ p ∈ rest, RV H' (envOf (lkb hp') m') p.1 p.2 := by
    intro v ob hx e1 e2 e3
    let st : St := ⟨1, .nil, hp, nx + 1⟩
    let a : Act := { tmps := #[Go.undef], defers := [] }
    have hr : RelS m H B H0 gl rest st a.tmps w := by
      refine ⟨{ hh with fresh := fun id hid => hh.fresh id (Nat.le_of_succ_le hid) }, rfl, fun k => ?_, hrest⟩
      have : st.get k = AV.undef := by show lk AV.undef .nil k = _; unfold lk; cases path k <;> rfl
      rw [this]; exact .imm _ _ (.undef _)
    have := xpure_ok0 (P := P) (st := st) (a := a) (dst := some 0) hch hr rfl (hh.fresh nx (Nat.le_refl _)) (Nat.lt_succ_self nx) hl hargs hx
    refine this.mono fun e w' ⟨u, m', H', he, hb, hrel⟩ => ?_
    have hs := hrel.slot 0
    have hhp : (st.eff (some 0) (v, ob)).hp = hp' := by
      rw [← e2]; cases ob with
      | none => rfl
      | some b => rfl
    have hnx : (st.eff (some 0) (v, ob)).nx = nx' := by rw [eff_nx, ← e3]
    have hg : (st.eff (some 0) (v, ob)).get 0 = r := by rw [get_eff, if_pos rfl, e1]
    rw [hg] at hs
    unfold St.env at hs
    rw [hhp] at hs
    have ht : (a.put (some 0) u).tmps.getD 0 Go.undef = u := rfl
    rw [ht] at hs
    have hheap := hrel.heap
    rw [hhp, hnx] at hheap
    refine ⟨u, m', H', he, hb, hheap, hs, fun p hp => ?_⟩
    have := hrel.rest p hp
    unfold St.env at this
    rwa [hhp] at this
  unfold xback at hk
  split at hk
  · rename_i v id b hx
    cases hk
    exact key _ _ hx rfl rfl rfl
  · rename_i v hx
    cases hk
    exact key _ _ hx rfl rfl rfl
  · cases hk
def xmemo (T : MemoT) : CallH := fun f args hp nx => match memoHas f T with
  | true => xback hp nx (xpure (memoCh T) (lkb hp) nx f args)
  | false => none
theorem xmemo_ok {P : Program} {gl : Nat → AV} {T : MemoT} (hT : MemoOk P gl T) : CallH.Ok P gl (xmemo T) := by
  intro f args hp nx r hp' nx' hk
  unfold xmemo at hk
  split at hk
  · exact xback_ok (fun f ts r0 hp' nx' h => memoFind_ok hT h) hk
  · cases hk
theorem memo_norm {P : Program} {gl : Nat → AV} {ch : CallH} (hch : ch.Ok P gl) {f : Nat} {ts : List AV} {r : AV} {hp' : Tr Box} {nx' : Nat} (h : xback .nil 0 (xpure ch (lkb .nil) 0 f ts) = some (r, hp', nx')) : CallOk0 P gl f ts r hp' nx' :=
  (xback_ok (fun _ _ _ _ _ h => (hch _ _ _ _ _ _ _ h).zero) h).zero
def xlevM (P : Program) (gl : Nat → AV) (gd : Nat → Bool) (fl : Nat) (xe : CallH) (T : MemoT) : Nat → CallH × RoundH
  | 0 => (fun _ _ _ _ => none, fun _ _ _ _ => none)
  | k + 1 => (fun f args hp nx => match xmemo T f args hp nx with
    | some r => some r
    | none => bif gd f then (match xfun P gl gd fl (xlevM P gl gd fl xe T k).1 (xlevM P gl gd fl xe T k).2 f args hp nx with
      | some r => some r
      | none => xfunD P gl gd fl (xlevM P gl gd fl xe T k).1 (xlevM P gl gd fl xe T k).2 f args hp nx) else xe f args hp nx, fun id args hp nx => xround P gl fl (xlevM P gl gd fl xe T k).1 (xlevM P gl gd fl xe T k).2 id args hp nx)
def xcallM (P : Program) (gl : Nat → AV) (gd : Nat → Bool) (fl : Nat) (xe : CallH) (T : MemoT) (k : Nat) : CallH := (xlevM P gl gd fl xe T k).1
theorem xlevM_ok {P : Program} {gl : Nat → AV} {gd : Nat → Bool} {fl : Nat} {xe : CallH} {T : MemoT} (hp : ProgOk P gd) (he : xe.Ok P gl) (hT : MemoOk P gl T) : ∀ k, CallH.Ok P gl (xlevM P gl gd fl xe T k).1 ∧ RoundH.Ok P gl (xlevM P gl gd fl xe T k).2
  | 0 => ⟨fun _ _ _ _ _ _ _ h => (by cases h), fun _ _ _ _ _ _ _ h => (by cases h)⟩
  | k + 1 => ⟨fun f args hpx nx r hp' nx' h => by
      simp only [xlevM] at h
      split at h
      · rename_i r0 hm
        cases h
        exact xmemo_ok hT _ _ _ _ _ _ _ hm
      · cases hg : gd f with
        | false => rw [hg] at h; exact he _ _ _ _ _ _ _ h
        | true =>
          rw [hg] at h
          simp only [cond_true] at h
          split at h
          · rename_i r0 hr; cases h; exact xfun_ok hp (xlevM_ok hp he hT k).1 (xlevM_ok hp he hT k).2 _ _ _ _ _ _ _ hr
          · exact xfunD_ok hp (xlevM_ok hp he hT k).1 (xlevM_ok hp he hT k).2 _ _ _ _ _ _ _ h, xround_ok (xlevM_ok hp he hT k).1 (xlevM_ok hp he hT k).2 hp.mix fl⟩
theorem xcallM_ok {P : Program} {gl : Nat → AV} {gd : Nat → Bool} {fl : Nat} {xe : CallH} {T : MemoT} (hp : ProgOk P gd) (he : xe.Ok P gl) (hT : MemoOk P gl T) (k : Nat) : CallH.Ok P gl (xcallM P gl gd fl xe T k) := (xlevM_ok hp he hT k).1
def isTrue (r : Option (AV × Tr Box × Nat)) : Bool := match r with | some (.bool true, _) => true | _ => false
end HY
end
section
namespace Go.Proofs.YtfpegbpngbchfaaGreatDoor
open Go HY
def spaces : List AV := (List.replicate 9 (.int .u8 0)) ++ (List.replicate 5 (.int .u8 1)) ++ (List.replicate 18 (.int .u8 0)) ++ [.int .u8 1] ++ (List.replicate 223 (.int .u8 0))
def gls : Nat → AV := fun g => bif Nat.beq g 1 then .ip 256 [.agg spaces] 0 0 else .undef
def gdMask : Nat := 16296289753344780915876636426736932105800671628270773623795256738046223402536022365941268476
def gds : Nat → Bool := fun f => Nat.blt f 304 && Nat.testBit gdMask f
set_option maxRecDepth 1000000
theorem gds_all : ((List.range 304).all fun f => !gds f || okFn Tryz.prog f) = true := by kernel_rfl
theorem mixed : Tryz.prog.follows .mixedOrders = true := by kernel_rfl
theorem progOk : ProgOk Tryz.prog gds := ⟨mixed, fun f hf => by
  have h : f < 304 := by
    unfold gds at hf
    rw [Bool.and_eq_true] at hf
    exact Nat.le_of_ble_eq_true hf.1
  have := List.all_eq_true.1 gds_all f (List.mem_range.2 h)
  rw [hf] at this
  simpa using this⟩
end Go.Proofs.YtfpegbpngbchfaaGreatDoor
end
section
namespace Go.Proofs.YtfpegbpngbchfaaGreatDoor
open Go HY
set_option maxRecDepth 1000000
def ch0 : CallH := fun _ _ _ _ => none
theorem ch0_ok : CallH.Ok Tryz.prog gls ch0 := fun _ _ _ _ _ _ _ h => by cases h
noncomputable def wf0 : WF := wlev Tryz.prog gls ch0 gds 2000 (fun _ _ _ _ _ _ => False) 4
theorem wf0_ok : WF.Ok Tryz.prog gls wf0 := wlev_ok ch0_ok progOk (fun _ _ _ _ _ _ h => h.elim) 4
noncomputable def W (f : Nat) (hs : Hints) (args : List AV) (r : AV) : Prop := wpure Tryz.prog gls ch0 wf0 gds 2000 f hs args r
noncomputable def WR (f r n : Nat) (hs : Hints) (ks : List Nat) (kb : List KB) (kx : List Nat) (kbx : List KB) (alts : List Alt) (vs : List AV) (bs : List Box) : Prop :=
  wround Tryz.prog gls ch0 wf0 hs [] 2000 n (lcode Tryz.prog f (r + 1)) ks kb kx kbx alts vs bs (Nxt Tryz.prog gls [] n (lcode Tryz.prog f (r + 1)) ks kx alts)
theorem Pu1 {φ : Prop} {f : Nat} {hs : Hints} {args : List AV} {r : AV} (e : φ = W f hs args r) (h : φ) : Pu Tryz.prog gls f args r := Pu.of (hs := hs) ch0_ok wf0_ok progOk (show W f hs args r from e ▸ h)
theorem Lp1 {φ : Prop} {f r n : Nat} {hs : Hints} {ks : List Nat} {kb : List KB} {kx : List Nat} {kbx : List KB} {alts : List Alt} {vs : List AV} {bs : List Box} (hok : okCode (lcode Tryz.prog f (r + 1)) = true) (e : φ = WR f r n hs ks kb kx kbx alts vs bs) (h : φ) : LoopOk Tryz.prog gls [] n (lcode Tryz.prog f (r + 1)) ks vs bs kx alts :=
  LoopOk.step ch0_ok wf0_ok mixed hok (show WR f r n hs ks kb kx kbx alts vs bs from e ▸ h)
noncomputable def WH (f : Nat) (hs : Hints) (kb : List KB) (args : List AV) (bs : List Box) (r : AV) (bs' : List Box) : Prop := wpureH Tryz.prog gls ch0 wf0 gds 2000 f hs kb args bs r bs'
theorem PuH1 {φ : Prop} {f : Nat} {hs : Hints} {kb : List KB} {args : List AV} {bs bs' : List Box} {r : AV} (e : φ = WH f hs kb args bs r bs') (h : φ) : PuH Tryz.prog gls f args bs r bs' := PuH.of (hs := hs) ch0_ok wf0_ok progOk (show WH f hs kb args bs r bs' from e ▸ h)
abbrev PH (f : Nat) (args : List AV) (bs : List Box) (r : AV) (bs' : List Box) : Prop := PuH Tryz.prog gls f args bs r bs'
abbrev PU (f : Nat) (args : List AV) (r : AV) : Prop := Pu Tryz.prog gls f args r
theorem PuT1 {φ : Prop} {f : Nat} {args : List AV} {bs' : List Box} {r r' : AV} (h : PH f args [] r bs') (e : φ = treeW (lkb (hpOf 0 bs')) 12 r (fun t => LeT t r')) (hφ : φ) : PU f args r' := Pu.ofH h (e ▸ hφ)
abbrev LO (f r n : Nat) (ks : List Nat) (vs : List AV) (bs : List Box) (kx : List Nat) (alts : List Alt) : Prop := LoopOk Tryz.prog gls [] n (lcode Tryz.prog f (r + 1)) ks vs bs kx alts
theorem Lp2 {φ : Prop} {f r n : Nat} {hs : Hints} {ks : List Nat} {kb : List KB} {kx : List Nat} {kbx : List KB} {alts : List Alt} {vs : List AV} {bs : List Box} (h : φ) (hok : okCode (lcode Tryz.prog f (r + 1)) = true := by kernel_rfl) (e : φ = WR f r n hs ks kb kx kbx alts vs bs := by kernel_rfl) : LoopOk Tryz.prog gls [] n (lcode Tryz.prog f (r + 1)) ks vs bs kx alts :=
  LoopOk.step ch0_ok wf0_ok mixed hok (show WR f r n hs ks kb kx kbx alts vs bs from e ▸ h)
theorem Pu2 {φ : Prop} {f : Nat} {hs : Hints} {args : List AV} {r : AV} (h : φ) (e : φ = W f hs args r := by kernel_rfl) : Pu Tryz.prog gls f args r := Pu.of (hs := hs) ch0_ok wf0_ok progOk (show W f hs args r from e ▸ h)
theorem PuH2 {φ : Prop} {f : Nat} {hs : Hints} {kb : List KB} {args : List AV} {bs bs' : List Box} {r : AV} (h : φ) (e : φ = WH f hs kb args bs r bs' := by kernel_rfl) : PuH Tryz.prog gls f args bs r bs' := PuH.of (hs := hs) ch0_ok wf0_ok progOk (show WH f hs kb args bs r bs' from e ▸ h)
end Go.Proofs.YtfpegbpngbchfaaGreatDoor
end
section
namespace Go.Proofs.YtfpegbpngbchfaaGreatDoor
open Go HY
set_option maxRecDepth 1000000
noncomputable def F_slices_Clone_int (x0 : List Int) : Option (List Int) := if x0.length * 8 ≤ 140737488355328 ∧ x0.length ≤ 9223372036854775807 then some x0 else none
theorem P_slices_Clone_int (x0 : List Int) (r : List Int) (h : F_slices_Clone_int x0 = some r) : PU 52 [eLI x0] (eLI r) := by
  unfold F_slices_Clone_int at h
  split at h
  · rename_i hc
    cases h
    exact Pu1 (φ := (List.map eI x0 = [] → LeT .nil (.sl 1 (List.map eI x0))) ∧ (0 = 0 ∧ (0 + List.length (List.map eI x0)) * 8 ≤ 140737488355328 ∧ 0 + List.length (List.map eI x0) ≤ 9223372036854775807) ∧ ∃ l, (List.map eI l = [] ++ List.map eI x0 ∧ List.length l = 0 + List.length (List.map eI x0)) ∧ List.length l = List.length (List.map eI l) ∧ LeT (.sl 1 (List.map eI l)) (.sl 1 (List.map eI x0)))
      (hs := [(4, .nn), (7, .z [{ slot := 5, own := 1 }] (some (.n eI 7 (some .a))))]) (by kernel_rfl)
      ⟨fun e => by rw [e]; exact .nil 1, ⟨rfl, by simpa using hc⟩, x0, ⟨rfl, by simp⟩, by simp, .refl _⟩
  · cases h
end Go.Proofs.YtfpegbpngbchfaaGreatDoor
end
