/- Two operations that do not stand in each other's way can be carried out in either order. -/
import Derived.Test.YtcphiogbjdehhaaDoorHxDraw
namespace HX
open Go Go.RowKit

section
variable {P : Program} {m : Nat → Lc} {H : HV} {B : Nat} {H0 : HV} {gl : Nat → AV} {rest : List (AV × Value)} {st : St} {a : Act} {w : World} {ch : CallB}

theorem callee_congr {op : Op} {ev ev' : Operand → AV} (h : ∀ x ∈ op.operands, ev x = ev' x) : callee? ev op = callee? ev' op := by
  unfold callee?
  split
  · rename_i c
    split
    · rename_i x hx
      have hx' : ev x = ev' x := h x (by simp [Op.operands, Call.operands, hx])
      have hl : c.args.toList.map ev = c.args.toList.map ev' := List.map_congr_left fun y hy => h y (by simp [Op.operands, Call.operands, hx]; right; simpa using hy)
      rw [hx', hl]
    · rfl
  · rfl

theorem xo_congr {bid : Nat} {dst : Option Nat} {op : Op} {ev ev' : Operand → AV} {hp : Hp} (h : ∀ x ∈ op.operands, ev x = ev' x) : xo P ch bid dst op ev hp = xo P ch bid dst op ev' hp := by
  unfold xo; rw [callee_congr h, xop_congr h]

/-- An operation that neither reads nor writes boxes. -/
theorem xo_hk0 {bid : Nat} {dst : Option Nat} {op : Op} {ev : Operand → AV} {hp hp' : Hp} (h : hk op = 0) : xo P ch bid dst op ev hp = xo P ch bid dst op ev hp' := by
  unfold xo
  split
  · rename_i hc
    unfold isCall at hc
    split at hc
    · rename_i c
      split at hc
      · cases hc
      · rename_i hnb
        exfalso
        cases hcc : c.callee with
        | builtin b => exact hnb _ hcc
        | value x => simp [hk, hcc] at h
        | invoke x y => simp [hk, hcc] at h
    · cases hc
  · rename_i hnc
    clear hnc
    unfold xop
    have e0 : xop0 P bid dst op ev hp = xop0 P bid dst op ev hp' := by
      cases op <;> first | rfl | (cases h; done) | skip
      case makeFunc fn first caps => cases fn <;> rfl
      case call c =>
        simp only [xop0]
        cases hcc : c.callee with
        | builtin b =>
          simp only
          cases b <;> first | rfl | (simp [hk, hcc] at h; done)
        | value x => rfl
        | invoke x y => rfl
    have e1 : xopX P bid op ev hp = xopX P bid op ev hp' := by
      cases op <;> first | rfl | (cases h; done) | skip
      case binOp o t x y ty =>
        have hno : ∀ hp, xptrEq P o t (ev x) (ev y) hp = none := fun hp => by
          have ho : ∀ b, xeqOp o b = none := fun b => by cases o <;> first | rfl | (cases h; done)
          unfold xptrEq
          split
          · split
            · split
              · split
                · exact ho _
                · rfl
              · rfl
            · rfl
          · rfl
        simp only [xopX, hno]
      case call c =>
        simp only [xopX]
        cases hcc : c.callee with
        | builtin b =>
          simp only
          cases b <;> first | rfl | (simp [hk, hcc] at h; done)
        | value x => rfl
        | invoke x y => rfl
    rw [e0, e1]

/-- hp' knows all boxes of hp. -/
def Ext (hp hp' : Hp) : Prop := ∀ id b, hp id = some b → hp' id = some b

theorem ext_upd {hp : Hp} {id : Nat} {b : Box} (h : hp id = none) : Ext hp (updF hp id (some b)) := fun id' b' h' => by
  have : id' ≠ id := fun e => by rw [e, h] at h'; cases h'
  rw [updF_ne _ _ this]; exact h'

theorem ptr_al {E : Env} {id ver off : Nat} {v : Value} (h : RV H E (.ptr id ver off) v) : E.al id ver := let ⟨_, _, h, _⟩ := h.ptr_inv; h
theorem bs_al {E : Env} {id ver sz off len : Nat} {v : Value} (h : RV H E (.bs id ver sz off len) v) : E.al id ver := let ⟨_, _, _, h, _⟩ := h.bs_inv; h

theorem al_some {hp : Hp} {m : Nat → Lc} {id ver : Nat} (h : (envOf hp m).al id ver) : ∃ b, hp id = some b := let ⟨b, h, _⟩ := h; ⟨b, h⟩

theorem optL_congr {f g : AV → Option AV} : ∀ {l : List AV}, (∀ x ∈ l, f x = g x) → optL f l = optL g l
  | [], _ => rfl
  | x :: l, h => by
    simp only [optL]
    rw [h x (by simp), optL_congr (l := l) fun y hy => h y (by simp [hy])]

theorem tree_ext {hp hp' : Hp} (hb : ∀ id b, hp id = some b → BoxOk H (envOf hp m) b (m id) w) (he : Ext hp hp') (s : Bool) : ∀ (k : Nat) (x : AV) (v : Value), RV H (envOf hp m) x v → tree hp' s k x = tree hp s k x
  | 0, _, _, _ => rfl
  | k + 1, x, v, hx => by
    have ih := tree_ext hb he s k
    cases x with
    | bs id ver sz off len =>
      obtain ⟨b, hid⟩ := al_some (bs_al hx)
      simp only [tree, he _ _ hid, hid]
      cases b with
      | cells v' cs =>
        obtain ⟨C, e, hC, _, _, hcs⟩ := hb _ _ hid
        have : optL (tree hp' s k) ((cs.drop off).take (len * sz)) = optL (tree hp s k) ((cs.drop off).take (len * sz)) := optL_congr fun y hy => by
          obtain ⟨j, hj⟩ := List.getElem?_of_mem (List.mem_of_mem_drop (List.mem_of_mem_take hy))
          obtain ⟨u, _, _, hr⟩ := hcs j y hj
          exact ih y u hr
        simp only [this]
      | loop => rfl
      | defb => rfl
      | dead => rfl
    | agg cs =>
      obtain ⟨vs, rfl, hl, _, hc⟩ := hx.agg_inv
      simp only [tree]
      rw [optL_congr fun y hy => ?_]
      obtain ⟨j, hj⟩ := List.getElem?_of_mem hy
      exact ih y _ (hc j y _ hj (Array.getElem?_eq_getElem (by rw [← hl]; exact (List.getElem?_eq_some_iff.1 hj).1)))
    | tup cs =>
      obtain ⟨vs, rfl, hl, hc⟩ := hx.tup_inv
      simp only [tree]
      rw [optL_congr fun y hy => ?_]
      obtain ⟨j, hj⟩ := List.getElem?_of_mem hy
      exact ih y _ (hc j y _ hj (Array.getElem?_eq_getElem (by rw [← hl]; exact (List.getElem?_eq_some_iff.1 hj).1)))
    | _ => rfl

theorem xsrc_ext {hp hp' : Hp} (he : Ext hp hp') {sz : Nat} {x : AV} {v : Value} (hx : RV H (envOf hp m) x v) : xsrc sz x hp' = xsrc sz x hp := by
  cases x with
  | bs id ver z off len =>
    obtain ⟨b, hid⟩ := al_some (bs_al hx)
    simp only [xsrc, he _ _ hid, hid]
  | _ => rfl

theorem xappend_ext {hp hp' : Hp} (he : Ext hp hp') {bid : Nat} {t t' : TypeId} {s x : AV} {u v : Value} (hs : RV H (envOf hp m) s u) (hx : RV H (envOf hp m) x v) : xappend P bid t t' s x hp' = xappend P bid t t' s x hp := by
  unfold xappend
  split
  · split
    · rw [xsrc_ext he hx]
      split
      · split
        · rfl
        · cases s with
          | bs id ver z off len =>
            obtain ⟨b, hid⟩ := al_some (bs_al hs)
            simp only [xappT, he _ _ hid, hid]
          | _ => rfl
      · rfl
    · rfl
  · rfl

theorem xop0_ext (h : RelS m H B H0 gl rest st a.tmps w) {hp' : Hp} (he : Ext (lkb st.hp) hp') {bid : Nat} {dst : Option Nat} {op : Op} : xop0 P bid dst op (st.ev gl) hp' = xop0 P bid dst op (st.ev gl) (lkb st.hp) := by
      cases op <;> first | rfl | skip
      case makeFunc fn first caps => cases fn <;> rfl
      case load t x =>
        simp only [xop0, xload]
        have hx := h.ev x
        generalize st.ev gl x = y at hx ⊢
        cases y <;> first | rfl | skip
        obtain ⟨b, hid⟩ := al_some (ptr_al hx)
        simp only [he _ _ hid, hid]
      case store t x y =>
        simp only [xop0, xstore]
        have hx := h.ev x
        generalize st.ev gl x = z at hx ⊢
        cases z <;> first | rfl | skip
        obtain ⟨b, hid⟩ := al_some (ptr_al hx)
        simp only [he _ _ hid, hid]
      case call c =>
        simp only [xop0]
        cases hcc : c.callee <;> first | rfl | skip
        rename_i b
        cases b <;> first | rfl | skip
        simp only [xbuiltin]
        split
        · rename_i t t' s x ht hx
          match hh : c.args.toList with
          | [] => rw [hh] at hx; cases hx
          | [y] => rw [hh] at hx; simp at hx
          | [y, z] =>
            rw [hh] at hx; simp only [List.map_cons, List.map_nil, List.cons.injEq, and_true] at hx
            obtain ⟨rfl, rfl⟩ := hx
            exact xappend_ext he (h.ev y) (h.ev z)
          | _ :: _ :: _ :: _ => rw [hh] at hx; simp at hx
        · rfl

theorem xustr_congr {pt : TypeId} {p n : AV} {hp hp' : Hp} (h : ∀ id ver off, p = .ptr id ver off → hp id = hp' id) : xustr P pt p n hp = xustr P pt p n hp' := by
  unfold xustr
  split
  · rfl
  · rw [h _ _ _ rfl]
  · rfl

theorem xopX_ext (h : RelS m H B H0 gl rest st a.tmps w) {hp' : Hp} (he : Ext (lkb st.hp) hp') {bid : Nat} {op : Op} : xopX P bid op (st.ev gl) hp' = xopX P bid op (st.ev gl) (lkb st.hp) := by
  cases op <;> first | rfl | skip
  case binOp o t x y ty =>
    simp only [xopX]
    congr 1
    have hx := h.ev x
    generalize st.ev gl x = z at hx ⊢
    cases z <;> first | rfl | skip
    obtain ⟨b, hid⟩ := al_some (ptr_al hx)
    generalize st.ev gl y = y'
    cases y' <;> first | rfl | simp only [xptrEq, he _ _ hid, hid]
  case convert src to x =>
    simp only [xopX]
    congr 1
    have hx := h.ev x
    generalize st.ev gl x = z at hx ⊢
    cases z <;> first | rfl | skip
    · obtain ⟨b, hid⟩ := al_some (ptr_al hx)
      simp only [xconvP, he _ _ hid, hid]
    · obtain ⟨b, hid⟩ := al_some (bs_al hx)
      simp only [xconvP, he _ _ hid, hid]
  case call c =>
    simp only [xopX]
    cases hcc : c.callee <;> first | rfl | skip
    rename_i b
    cases b <;> first | rfl | skip
    · simp only
      split
      · rename_i t t' s x ht hx
        obtain ⟨y, z, _, rfl, rfl⟩ := two_args hx
        unfold xappS
        split
        · split
          · split
            · split
              · rfl
              · have hs := h.ev y
                generalize st.ev gl y = y' at hs ⊢
                cases y' <;> first | rfl | skip
                obtain ⟨b, hid⟩ := al_some (bs_al hs)
                simp only [xappT, he _ _ hid, hid]
            · rfl
          · rfl
        · rfl
      · rfl
    · simp only
      split
      · rename_i pt it p n ht hx
        obtain ⟨y, z, _, rfl, rfl⟩ := two_args hx
        refine xustr_congr fun id ver off e => ?_
        have hs := h.ev y
        rw [e] at hs
        obtain ⟨b, hid⟩ := al_some (ptr_al hs)
        rw [he _ _ hid, hid]
      · rfl

theorem xo_ext (h : RelS m H B H0 gl rest st a.tmps w) {hp' : Hp} (he : Ext (lkb st.hp) hp') {bid : Nat} {dst : Option Nat} {op : Op} : xo P ch bid dst op (st.ev gl) hp' = xo P ch bid dst op (st.ev gl) (lkb st.hp) := by
  by_cases h0 : hk op = 0
  · exact xo_hk0 h0
  · unfold xo
    split
    · split
      · rename_i f args hc
        obtain ⟨c, x, caps, ho, hx, hf, rfl⟩ := callee_inv hc
        unfold xpure
        have : optL (tree hp' false 12) (c.args.toList.map (st.ev gl) ++ caps) = optL (tree (lkb st.hp) false 12) (c.args.toList.map (st.ev gl) ++ caps) := optL_congr fun y hy => by
          rw [List.mem_append, List.mem_map] at hy
          rcases hy with ⟨z, _, rfl⟩ | hy
          · exact tree_ext (fun id b hid => h.heap.box id b hid) he false 12 _ _ (h.ev z)
          · have hfx := h.ev x
            rw [hf] at hfx
            obtain ⟨us, _, hul, hur⟩ := hfx.fn_inv
            obtain ⟨j, hj⟩ := List.getElem?_of_mem hy
            exact tree_ext (fun id b hid => h.heap.box id b hid) he false 12 _ _ (hur j y _ hj (Array.getElem?_eq_getElem (by rw [← hul]; exact (List.getElem?_eq_some_iff.1 hj).1)))
        rw [this]
      · rfl
    · rename_i hnc
      clear hnc
      unfold xop
      rw [xop0_ext h he, xopX_ext h he]

theorem xappT_box {bid e tg sz by_ n : Nat} {ds : List AV} {s : AV} {hp : Hp} {v : AV} {id : Nat} {b : Box} (h : xappT bid e tg sz by_ n ds s hp = some (v, some (id, b))) : id = bid ∨ ∃ b', hp id = some b' := by
  unfold xappT at h
  split at h
  · split at h
    · cases h; exact .inl rfl
    · cases h
  · split at h
    · cases h; exact .inl rfl
    · cases h
  · split at h
    · rename_i hid
      split at h
      · cases h; exact .inr ⟨_, hid⟩
      · cases h
    · cases h
  · cases h
theorem xopX_box {bid : Nat} {op : Op} {ev : Operand → AV} {hp : Hp} {v : AV} {id : Nat} {b : Box} (h : xopX P bid op ev hp = some (v, some (id, b))) : id = bid ∨ (hk op = 2 ∧ ∃ b', hp id = some b') := by
  have xvno : ∀ o : Option AV, xv o ≠ some (v, some (id, b)) := fun o e => by cases o <;> simp [xv] at e
  unfold xopX at h
  split at h
  · exact absurd h (xvno _)
  · exact absurd h (xvno _)
  · rename_i c
    split at h
    · rename_i bb hbb
      split at h
      · split at h
        · unfold xappS at h
          split at h
          · split at h
            · split at h
              · split at h
                · cases h
                · exact (xappT_box h).imp (fun x => x) fun hh => ⟨by simp [hk, hbb], hh⟩
              · cases h
            · cases h
          · cases h
        · cases h
      · split at h
        · exact absurd h (xvno _)
        · cases h
      · split at h
        · unfold xustr at h
          split at h
          · cases h
          · split at h
            · rename_i hid
              split at h
              · split at h
                · split at h
                  · cases h; exact .inr ⟨by simp [hk, hbb], _, hid⟩
                  · cases h
                · cases h
              · cases h
            · cases h
          · cases h
        · cases h
      · cases h
    · cases h
  · cases h

/-- Which box an operation fills. -/
theorem xo_box {bid : Nat} {dst : Option Nat} {op : Op} {ev : Operand → AV} {hp : Hp} {v : AV} {id : Nat} {b : Box} (h : xo P ch bid dst op ev hp = some (v, some (id, b))) : id = bid ∨ (hk op = 2 ∧ ∃ b', hp id = some b') := by
  have xvno : ∀ o : Option AV, xv o ≠ some (v, some (id, b)) := fun o e => by cases o <;> simp [xv] at e
  unfold xo at h
  split at h
  · split at h
    · rename_i f args hc
      left
      have key : ∀ s o, xpureR s bid o = some (v, some (id, b)) → id = bid := fun s o hh => by
        unfold xpureR at hh
        split at hh
        · split at hh
          · split at hh
            · split at hh
              · split at hh
                · cases hh; rfl
                · cases hh
              · cases hh
            · cases hh
          · exact absurd hh (xvno _)
        · cases hh
      unfold xpure at h
      split at h
      · exact key _ _ h
      · split at h
        · exact key _ _ h
        · cases h
    · cases h
  · unfold xop at h
    split at h
    rotate_left
    · exact xopX_box h
    rename_i r0 h0
    cases h
    have h := h0
    unfold xop0 at h
    split at h <;> first
      | (cases h; done)
      | exact absurd h (xvno _)
      | skip
    · split at h <;> cases h
    · split at h
      · split at h
        · cases h; exact .inl rfl
        · cases h
      · cases h
    · split at h
      · cases h; exact .inl rfl
      · cases h
    · unfold xbuildSlice at h
      split at h
      · split at h
        · split at h
          · cases h; exact .inl rfl
          · cases h
        · cases h
      · cases h
    · rename_i t x y
      split at h
      · right
        unfold xstore at h
        split at h
        · split at h
          · split at h
            · rename_i hid
              split at h
              · cases h; exact ⟨rfl, _, hid⟩
              · cases h
            · cases h
          · cases h
        · cases h
      · cases h
    · split at h <;> cases h
    · unfold xmakeSlice at h
      split at h
      · split at h
        · split at h
          · cases h; exact .inl rfl
          · cases h
        · cases h
      · cases h
    · split at h <;> cases h
    · rename_i c
      split at h
      · rename_i bb hbb
        unfold xbuiltin at h
        split at h
        · split at h
          · exact absurd h (xvno _)
          · cases h
        · exact absurd h (xvno _)
        · exact absurd h (xvno _)
        · split at h
          · unfold xappend at h
            split at h
            · split at h
              · split at h
                · split at h
                  · split at h <;> cases h
                  · exact (xappT_box h).imp (fun x => x) fun hh => ⟨by simp [hk, hbb], hh⟩
                · cases h
              · cases h
            · cases h
          · cases h
        · cases h
      · cases h
end
end HX
