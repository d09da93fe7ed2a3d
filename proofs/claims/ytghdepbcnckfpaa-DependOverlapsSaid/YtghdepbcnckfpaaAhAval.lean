/- The builtins; one operation as a whole. -/
import Derived.Test.YtghdepbcnckfpaaAhExec4
namespace AH
open Go Go.RowKit

section
variable {P : Program} {G : Gh} {B : Nat} {H0 : HV} {rest : List (AV × Value)} {st : St} {a : Act} {w : World} {dst : Option Nat} {K : AV → St → Prop}

theorem alen_sound (h : RelG G B H0 rest st a.tmps w) {t ty : TypeId} {x : Operand} {L : AV → Prop} (hk : alen P t (st.ev x) L) :
    ∃ n : Int, (Builtin.len_ #[t] ty #[a.eval x]).run P w = .ok (.int .i64 n) w ∧ L (.int .i64 n) := by
  have hx := h.ev x
  unfold alen at hk
  split at hk
  · rename_i s he
    rw [he] at hx
    rw [hx.str_inv]
    have hsz : (ByteArray.mk s.toArray).size = s.length := by simp [ByteArray.size]
    exact ⟨s.length, by simp [Builtin.len_, run_underlying hk.1, goInt, hsz], hk.2⟩
  · rename_i sz xs he
    rw [he] at hx
    obtain ⟨y, hy⟩ := Option.isSome_iff_exists.1 hk.1
    obtain ⟨e, i, h1, h2, _⟩ := elI_inv (show elI P t = some (y.1, y.2) from hy)
    obtain ⟨ad, cap, hv, _⟩ := hx.sl_inv.len_inv
    rw [hv]
    exact ⟨xs.length, by simp [Builtin.len_, run_underlying h1, goInt], hk.2⟩
  · rename_i sz xs he
    rw [he] at hx
    obtain ⟨y, hy⟩ := Option.isSome_iff_exists.1 hk.1
    obtain ⟨e, i, h1, h2, _⟩ := elI_inv (show elI P t = some (y.1, y.2) from hy)
    obtain ⟨ad, cap, hv, _⟩ := (show Rel0 G.H G.io (.sl sz xs) (a.eval x) from hx).sl_inv.len_inv
    rw [hv]
    exact ⟨xs.length, by simp [Builtin.len_, run_underlying h1, goInt], hk.2⟩
  · rename_i he
    rw [he] at hx
    obtain ⟨y, hy⟩ := Option.isSome_iff_exists.1 hk.1
    obtain ⟨e, i, h1, h2, _⟩ := elI_inv (show elI P t = some (y.1, y.2) from hy)
    rw [hx.nil_inv]
    exact ⟨0, by simp [Builtin.len_, run_underlying h1, goInt], hk.2⟩
  · exact hk.elim

theorem amaxL_sound (h : RelG G B H0 rest st a.tmps w) (big : Bool) {L : AV → Prop} : ∀ (xs : List Operand) (k : IntKind) (n : Int), amaxL big k n (xs.map st.ev) L →
    ∃ m : Int, ((xs.map a.eval).foldlM (if big then Builtin.max2 else Builtin.min2) (.int k n)).run P w = .ok (.int k m) w ∧ L (.int k m)
  | [], k, n, hk => ⟨n, by simp, hk⟩
  | x :: xs, k, n, hk => by
    have hx := h.ev x
    simp only [List.map_cons] at hk ⊢
    cases he : st.ev x with
    | int k' b =>
      rw [he] at hk hx
      simp only [amaxL] at hk
      obtain ⟨rfl, hk⟩ := hk
      rw [hx.int_inv]
      obtain ⟨m, h1, h2⟩ := amaxL_sound h big xs k _ hk
      refine ⟨m, ?_, h2⟩
      have : ((if big then Builtin.max2 else Builtin.min2) (.int k n) (.int k b)).run P w = .ok (.int k (if big then max n b else min n b)) w := by
        cases big
        · simp only [Bool.false_eq_true, if_false, Builtin.min2, Sem.run_pure]
          congr 2
          rw [Int.min_def]
          split <;> split <;> omega
        · simp only [if_true, Builtin.max2, Sem.run_pure]
          congr 2
          rw [Int.max_def]
          split <;> split <;> omega
      rw [List.foldlM_cons, Sem.run_bind, this]
      exact h1
    | _ => rw [he] at hk; exact hk.elim

theorem amax_sound (h : RelG G B H0 rest st a.tmps w) (big : Bool) {L : AV → Prop} {xs : List Operand} (ts : Array TypeId) (ty : TypeId) (hk : amax big (xs.map st.ev) L) :
    ∃ k m, (if big then Builtin.max_ ts ty (xs.map a.eval).toArray else Builtin.min_ ts ty (xs.map a.eval).toArray).run P w = .ok (.int k m) w ∧ L (.int k m) := by
  cases xs with
  | nil => exact hk.elim
  | cons x xs =>
    have hx := h.ev x
    simp only [List.map_cons] at hk ⊢
    cases he : st.ev x with
    | int k n =>
      rw [he] at hk hx
      rw [hx.int_inv]
      obtain ⟨m, h1, h2⟩ := amaxL_sound h big xs k n hk
      refine ⟨k, m, ?_, h2⟩
      cases big
      · simpa [Builtin.min_] using h1
      · simpa [Builtin.max_] using h1
    | _ => rw [he] at hk; exact hk.elim

theorem RelG.dropSlot (h : RelG G B H0 rest st a.tmps w) (d : Nat) : RelG G B H0 rest (st.put d .undef) a.tmps w := h.weaken RelV.undef

theorem aappend_sound (h : RelG G B H0 rest st a.tmps w) (hd : dstOk dst st.n = true) {t t' ty : TypeId} {s x : Operand} (hk : aappend P t t' s (st.evD x) st dst K) :
    OpOk P B H0 rest st.n a w dst K (do pure (.value (← Builtin.append_ #[t, t'] ty #[a.eval s, a.eval x]))) := by
  unfold aappend at hk
  split at hk
  · rename_i sz by_ ht
    obtain ⟨⟨rfl, hds⟩, hk⟩ := hk
    obtain ⟨dd, rfl⟩ := Option.isSome_iff_exists.1 hds
    have hdn : dd < st.n := by simpa [dstOk] using hd
    obtain ⟨e, i, z, hte, hi, hz, hzs, hpos, hsize, hby⟩ := elG_inv ht
    have hx : Rel0 G.H G.io (st.evD x) (a.eval x) := h.ev x
    -- the source
    have hsrc : ∀ ys, (match st.evD x with | .sl z ys => some (z, ys) | .nil => some (sz, []) | _ => none) = some (sz, ys) → RelI G.H (.sl sz ys) (a.eval x) := by
      intro ys hm
      split at hm
      · rename_i z' ys' he
        rw [he] at hx
        cases hm
        exact hx.sl_inv
      · rename_i he
        rw [he] at hx
        cases hm
        rw [hx.nil_inv]
        exact .sl0 _ _ _ (Nat.zero_le _)
      · cases hm
    split at hk
    · rename_i z' ys hm
      obtain ⟨rfl, hk⟩ := hk
      have hy := hsrc ys hm
      -- the slot dd is let go first: no one else holds what is appended to
      have finish : ∀ (st1 : St) (G1 : Gh) (xs : List AV) (vs : Value), RelG G1 B H0 rest st1 a.tmps w → st1.n = st.n → st1.get dd = .undef → G1.H = G.H → OwnRel G1 B w [0, dd] z' xs vs → a.eval s = vs →
          (xs.length + ys.length) * by_ ≤ 140737488355328 → xs.length + ys.length ≤ maxLen → ∀ st2, st2.n = st.n → (∀ k v, st2.get k = v → k ≠ dd → st1.get k = v ∨ v = .undef) → st2.hp = st1.hp → st2.fl = st1.fl → K (.own z' (xs ++ ys)) st2 →
          OpOk P B H0 rest st.n a w (some dd) K (do pure (.value (← Builtin.append_ #[t', t'] ty #[a.eval s, a.eval x]))) := by
        intro st1 G1 xs vs h1 hn hdd hH ho hvs hb hm st2 hn2 hget hhp hfl hk
        obtain ⟨v', w', G', hr, hbl, h2, ho', _, _⟩ := h1.append (ty := ty) ht hdd ho (by rw [hH]; exact hy) hb hm
        refine ⟨_, v', w', G', .own z' (xs ++ ys), st2, by rw [Sem.run_bind, hvs, hr]; rfl, .inl rfl, hbl, hk, hn2, ?_⟩
        have h3 : RelG G' B H0 rest (st1.put dd (.own z' (xs ++ ys))) (a.tmps.setIfInBounds dd v') w' := h2.put (by omega) ho'
        refine ⟨?_, ?_, fun k => ?_, (by show ∀ (k : Nat) (x : AV) (v : Value), rest[k]? = some (x, v) → RelV (G'.res st2.fl) B w' [1, k] x v; rw [hfl]; exact h3.rest), fun id sz xs hx => h3.heap id sz xs (by rw [← hx]; exact congrArg (·[id]?) hhp.symm)⟩
        · show (a.tmps.setIfInBounds dd v').size = st2.n
          rw [hn2, ← hn]; exact h3.size
        · show GWf G' B H0 st2.hp.length w'
          rw [hhp]; exact h3.wf
        · have := h3.slot k
          show RelV G' B w' [0, k] ((st2.put dd (.own z' (xs ++ ys))).get k) _
          rw [St.get_put] at this ⊢
          by_cases hk : dd = k
          · rw [if_pos hk] at this ⊢; exact this
          · rw [if_neg hk] at this ⊢
            rcases hget k _ rfl (Ne.symm hk) with e | e
            · rw [← e]; exact this
            · rw [e]; exact RelV.undef
      split at hk
      · -- nil
        rename_i he
        obtain ⟨⟨hb, hm⟩, hk⟩ := hk
        have hs := h.ev s
        rw [he] at hs
        split at hk
        · rename_i hemp
          have : ys = [] := by simpa using hemp
          subst this
          obtain ⟨ad, cap, hv, _⟩ := hy.len_inv
          refine OpOk.val h hd (v := .slice none 0 0) ?_ (.imm _ _ .nil) hk
          rw [Sem.run_bind, hs.nil_inv, hv]
          have := run_append_zero (P := P) (w := w) t' ty e i hte hi none 0 0 (Nat.le_refl _) ad cap
          simp only [List.length_nil] at this ⊢
          rw [this]; rfl
        · exact finish (st.put dd .undef) G [] _ (h.dropSlot dd) rfl (by rw [St.get_put, if_pos rfl]) rfl (.inl ⟨rfl, none, hs.nil_inv⟩) rfl (by simpa using hb) (by simp only [maxLen]; simpa using hm) st rfl
            (fun k v hv hne => .inl (by rw [St.get_put, if_neg (Ne.symm hne)]; exact hv)) rfl rfl (by simpa using hk)
      · -- own
        rename_i z2 xs he
        obtain ⟨⟨rfl, hb, hm⟩, hk⟩ := hk
        split at hk
        · rename_i k
          obtain ⟨G1, h1, ho, hH, _⟩ := h.take (s := k) he [0, dd]
          refine finish ((st.put k (.sl z2 xs)).put dd .undef) G1 xs _ (h1.dropSlot dd) rfl (by rw [St.get_put, if_pos rfl]) hH ho rfl hb (by simp only [maxLen]; exact hm) (st.put k .undef) rfl (fun k' v hv hne => ?_) rfl rfl hk
          rw [St.get_put] at hv
          rw [St.get_put, if_neg (Ne.symm hne), St.get_put]
          by_cases hkk : k = k'
          · rw [if_pos hkk] at hv; exact .inr hv.symm
          · rw [if_neg hkk] at hv ⊢; exact .inl hv
        · exact hk.elim
      · exact hk.elim
    · exact hk.elim
  · exact hk.elim

/-- One operation but calls of functions. 'fut': the value is on its way to an append. -/
def aval (P : Program) (fut : Bool) (dst : Option Nat) (op : Op) (st : St) (K : AV → St → Prop) : Prop :=
  match op with
  | .move x => amove fut x st K
  | .assign x => amove true x st K
  | .pick c x y => match st.ev c with
    | .bool b => if b = true then K (st.evD x) st else K (st.evD y) st
    | _ => False
  | .alloc t => match zeroI P t with
    | some z => z.okc = true ∧ K (.ptr st.hp.length z.cells.length 0 0) { st with hp := st.hp ++ [(z.cells.length, [z])] }
    | none => False
  | .box _ x => (st.ev x).okc = true ∧ K (.ptr st.hp.length (st.ev x).cells.length 0 0) { st with hp := st.hp ++ [((st.ev x).cells.length, [(st.ev x).dem0])] }
  | .build t parts => abuild P t (parts.toList.map fun p => (p.1, st.evD p.2)) (kst K st)
  | .buildSlice t len parts => abuildSlice P t len (parts.toList.map fun p => (p.1, st.evD p.2)) (kst K st)
  | .load t x => aload P fut t (st.ev x) st K
  | .store t x y => dst = none ∧ astore P t (st.ev x) y st K
  | .binOp op t x y _ => abin P op t (st.ev x) (st.ev y) (kst K st)
  | .unOp op _ x => aun op (st.ev x) (kst K st)
  | .convert src to x => aconv P src to (st.ev x) (kst K st)
  | .makeFunc (.func f) first caps => first.size = 0 ∧ K (.fn f (caps.toList.map st.evD)) st
  | .slice t x lo hi mx => aslice P t (st.evD x) (lo.map st.evD) (hi.map st.evD) (mx.map st.evD) (kst K st)
  | .fieldAddr s x f => afieldAddr P s (st.ev x) f (kst K st)
  | .field s x f => afield P s (st.ev x) f (kst K st)
  | .indexAddr t x i => aindexAddr P t (st.ev x).dem0 (st.ev i) (kst K st)
  | .index t x i => aindex (P.underlying t) (st.ev x) (st.ev i) (kst K st)
  | .extract x j => aextract x j st K
  | .nilCheck x => match st.ev x with
    | .ptr id sz i off => K (.ptr id sz i off) st
    | .ip sz xs i off => K (.ip sz xs i off) st
    | .fn f cs => K (.fn f cs) st
    | _ => False
  | .call c => match c.callee with
    | .builtin b => abuiltin P b c.argTypes.toList c.args.toList st dst K
    | _ => False
  | _ => False

theorem aval_sound (h : RelG G B H0 rest st a.tmps w) {o : Oper} (hd : dstOk o.dst st.n = true) {fut : Bool} (hk : aval P fut o.dst o.op st K) : OpOk P B H0 rest st.n a w o.dst K (execOp a.eval o) := by
  unfold aval at hk
  unfold execOp
  split at hk
  · rename_i x ho; simp only [ho]; exact amove_sound h hd hk rfl
  · rename_i x ho; simp only [ho]; exact amove_sound h hd hk rfl
  · rename_i c x y ho
    simp only [ho]
    split at hk
    · rename_i b hb
      have hc := h.evBool hb
      cases b
      · exact OpOk.val h hd (by simp [hc, asBool]) (h.ev y) (by simpa [St.evD] using hk)
      · exact OpOk.val h hd (by simp [hc, asBool]) (h.ev x) (by simpa [St.evD] using hk)
    · exact hk.elim
  · rename_i t ho
    simp only [ho]
    split at hk
    · rename_i z hz; exact alloc_sound h hd hz hk.1 hk.2
    · exact hk.elim
  · rename_i t x ho; simp only [ho]; exact box_sound h hd hk.1 hk.2
  · rename_i t ps ho; simp only [ho]; exact abuild_sound h hd hk
  · rename_i t len ps ho; simp only [ho]; exact abuildSlice_sound h hd hk
  · rename_i t x ho; simp only [ho]; exact aload_sound h hd hk
  · rename_i t x y ho; simp only [ho]; exact astore_sound h hk.1 hk.2
  · rename_i op t x y ty ho; simp only [ho]; exact abin_sound h hd hk
  · rename_i op t x ho; simp only [ho]; exact aun_sound h hd hk
  · rename_i src to x ho; simp only [ho]; exact aconv_sound h hd hk
  · rename_i f first caps ho
    simp only [ho]
    obtain ⟨h0, hk⟩ := hk
    have : first = #[] := Array.eq_empty_of_size_eq_zero h0
    subst this
    refine OpOk.val h hd (v := .func (.func f) #[] (caps.map a.eval)) (by simp [Instr.makeFunc]) ?_ hk
    refine .fn f _ _ (by simp) fun j c v hj hv => ?_
    simp only [List.getElem?_map, Array.getElem?_toList, Option.map_eq_some_iff, Array.getElem?_map] at hj hv
    obtain ⟨x, hx, rfl⟩ := hj
    obtain ⟨y, hy, rfl⟩ := hv
    rw [hx] at hy; cases hy
    exact h.ev x
  · rename_i t x lo hi mx ho; simp only [ho]; exact aslice_sound h hd hk
  · rename_i s x f ho; simp only [ho]; exact afieldAddr_sound h hd hk
  · rename_i s x f ho; simp only [ho]; exact afield_sound h hd hk
  · rename_i t x i ho; simp only [ho]; exact aindexAddr_sound h hd hk
  · rename_i t x i ho; simp only [ho]; exact aindex_sound h hd hk
  · rename_i x j ho; simp only [ho]; exact aextract_sound h hd hk
  · rename_i x ho
    simp only [ho]
    have hx := h.ev x
    split at hk
    · rename_i id sz i off he
      rw [he] at hx
      have hx' := hx
      obtain ⟨g, hg, hp⟩ := hx.ptr_inv
      exact OpOk.val h hd (v := a.eval x) (by rw [hp]; rfl) hx' hk
    · rename_i sz xs i off he
      rw [he] at hx
      have hx' := hx
      obtain ⟨b, o', val, hp, _⟩ := (Rel0.ip_inv hx).ip_inv
      exact OpOk.val h hd (v := a.eval x) (by rw [hp]; rfl) hx' hk
    · rename_i f cs he
      rw [he] at hx
      have hx : Rel0 G.H G.io (.fn f cs) (a.eval x) := hx
      have : ∃ vs, a.eval x = .func (.func f) #[] vs := by
        generalize a.eval x = vx at hx
        cases hx with
        | imm _ _ hx => cases hx with | fn _ _ vs => exact ⟨vs, rfl⟩
        | fn _ _ vs => exact ⟨vs, rfl⟩
      obtain ⟨vs, hp⟩ := this
      exact OpOk.val h hd (v := a.eval x) (by rw [hp]; rfl) hx hk
    · exact hk.elim
  · rename_i c ho
    simp only [ho]
    split at hk
    · rename_i b hb
      obtain ⟨callee, args, argTypes⟩ := c
      dsimp only at hb
      subst hb
      simp only [resolve]
      have hargs : args.map a.eval = (args.toList.map a.eval).toArray := by apply Array.ext'; rw [Array.toList_map]
      unfold abuiltin at hk
      split at hk
      · split at hk
        · rename_i t x ht hx
          obtain ⟨n, h1, h2⟩ := alen_sound (ty := o.type) h hk
          have e1 : argTypes = #[t] := by cases argTypes; simpa using ht
          have e2 : args = #[x] := by cases args; simpa using hx
          subst e1; subst e2
          refine OpOk.val h hd (v := .int .i64 n) ?_ (.imm _ _ (.int _ _)) h2
          simp only [Sem.run_bind, Sem.run_pure, Result.andThen_ok, invoke, builtin, List.map_toArray, List.map_cons, List.map_nil, h1]
        · exact hk.elim
      · obtain ⟨k, m, h1, h2⟩ := amax_sound h true argTypes o.type hk
        refine OpOk.val h hd (v := .int k m) ?_ (.imm _ _ (.int _ _)) h2
        rw [if_pos rfl] at h1
        simp only [Sem.run_bind, Sem.run_pure, Result.andThen_ok, invoke, builtin]
        rw [hargs, h1]; rfl
      · obtain ⟨k, m, h1, h2⟩ := amax_sound h false argTypes o.type hk
        refine OpOk.val h hd (v := .int k m) ?_ (.imm _ _ (.int _ _)) h2
        rw [if_neg (by simp)] at h1
        simp only [Sem.run_bind, Sem.run_pure, Result.andThen_ok, invoke, builtin]
        rw [hargs, h1]; rfl
      · split at hk
        · rename_i t t' s x ht hx
          have e1 : argTypes = #[t, t'] := by cases argTypes; simpa using ht
          have e2 : args = #[s, x] := by cases args; simpa using hx
          subst e1; subst e2
          have := aappend_sound (ty := o.type) h hd hk
          obtain ⟨nx, v, w', G', av, st', hr, rest'⟩ := this
          refine ⟨nx, v, w', G', av, st', ?_, rest'⟩
          rw [← hr]
          simp only [Sem.run_bind, Sem.run_pure, Result.andThen_ok, invoke, builtin, List.map_toArray, List.map_cons, List.map_nil]
        · exact hk.elim
      · exact hk.elim
    · exact hk.elim
  · exact hk.elim
end
end AH
