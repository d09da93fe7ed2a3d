/- Parts of slices, len, max, min, literals of structs. -/
import Derived.Test.YtcphiogbjdehhaaDoorHxVal2
namespace HX
open Go Go.RowKit

section
variable {P : Program} {w : World} {H : HV} {E : Env}

/-- The bounds of a part. -/
theorem run_sB (isSlice : Bool) {len cap l h m : Nat} {low high max : Option Value} (hl : (low = none ∧ l = 0) ∨ ∃ k, low = some (.int k l)) (hh : (high = none ∧ max = none ∧ h = len) ∨ ∃ k, high = some (.int k h))
    (hm : (max = none ∧ m = cap) ∨ ∃ k, max = some (.int k m)) (h1 : l ≤ h) (h2 : h ≤ m) (h3 : m ≤ cap) : (Instr.sliceBounds isSlice len cap low high max).run P w = .ok (l, h, m) w := by
  have bound : ∀ (k : IntKind) (x y : Nat) (c : BoundsCode), x ≤ y → (Instr.sliceBound (.int k (x : Int)) y c).run P w = .ok x w := fun k x y c hxy => by
    have : (0 : Int) ≤ x ∧ (x : Int) ≤ y := ⟨by omega, by omega⟩
    simp only [Instr.sliceBound, asIntOf, Sem.run_bind, Sem.run_pure, Result.andThen_ok, if_pos this, Int.toNat_natCast]
  rcases hm with ⟨rfl, rfl⟩ | ⟨km, rfl⟩
  · rcases hh with ⟨rfl, _, rfl⟩ | ⟨kh, rfl⟩
    · rcases hl with ⟨rfl, rfl⟩ | ⟨kl, rfl⟩
      · simp [Instr.sliceBounds]
      · simp [Instr.sliceBounds, bound kl _ _ _ h1]
    · rcases hl with ⟨rfl, rfl⟩ | ⟨kl, rfl⟩
      · simp [Instr.sliceBounds, bound kh _ _ _ h2]
      · simp [Instr.sliceBounds, bound kh _ _ _ h2, bound kl _ _ _ h1]
  · rcases hh with ⟨rfl, e, _⟩ | ⟨kh, rfl⟩
    · cases e
    · rcases hl with ⟨rfl, rfl⟩ | ⟨kl, rfl⟩
      · simp [Instr.sliceBounds, bound km _ _ _ h3, bound kh _ _ _ h2]
      · simp [Instr.sliceBounds, bound km _ _ _ h3, bound kh _ _ _ h2, bound kl _ _ _ h1]

theorem bndN_ok {d n : Nat} {o : Option AV} {v : Option Value} (hr : (o = none ∧ v = none) ∨ ∃ x u, o = some x ∧ v = some u ∧ RV H E x u) (h : bndN d o = some n) : (o = none ∧ v = none ∧ n = d) ∨ ∃ k, v = some (.int k n) ∧ o.isSome = true := by
  rcases hr with ⟨rfl, rfl⟩ | ⟨x, u, rfl, rfl, hx⟩
  · simp only [bndN, Option.some.injEq] at h; exact .inl ⟨rfl, rfl, h.symm⟩
  · unfold bndN at h
    split at h
    · rename_i e; cases e
    · rename_i k n' e
      cases e
      split at h
      · rename_i h0
        cases h
        rw [hx.int_inv]
        exact .inr ⟨k, by rw [Int.toNat_of_nonneg h0], rfl⟩
      · cases h
    · cases h

theorem sliceAt_eq {t : TypeId} {x : Value} {lo hi mx : Option Value} {d : TypeDesc} (hn : ∀ n e, d ≠ .array n e) (hd : P.underlying t = some d) : (Instr.sliceAt t x lo hi mx).run P w = (Instr.slice t x lo hi mx).run P w := by
  simp only [Instr.sliceAt, Sem.run_bind, run_underlying hd, Result.andThen_ok]

/-- A part of a slice that never changes. -/
theorem RelI.sub {sz : Nat} {xs : List AV} {a : Option Addr} {n cap : Nat} (h : RelI H (.sl sz xs) (.slice a n cap)) {l r : Nat} (hl : l ≤ r) (hr : r ≤ xs.length) :
    RelI H (.sl sz ((xs.take r).drop l)) (.slice (if cap = l then a else a.map (·.add (l * sz))) (r - l) (cap - l)) := by
  have hn := h.len_inv
  obtain ⟨_, _, e, hc1, hc2⟩ := hn
  cases e
  have hlen : ((xs.take r).drop l).length = r - l := by simp; omega
  by_cases h0 : r = l
  · subst h0
    have : (xs.take r).drop r = [] := List.drop_of_length_le (by simp; omega)
    rw [this, Nat.sub_self]
    exact .sl0 _ _ _ (by omega)
  · generalize hnl : xs.length = nl at *
    cases h with
    | sl0 => simp at hnl; omega
    | sl _ _ b o _ val hs h1 h2 h3 h4 h5 =>
      rw [if_neg (by omega)]
      have := RelI.sl sz ((xs.take r).drop l) b (o + l * sz) (cap - l) (fun i j => val (l + i) j) hs (by omega) (by omega)
        (fun i x hx => by
          rw [List.getElem?_drop, List.getElem?_take] at hx
          split at hx
          · exact h3 _ _ hx
          · cases hx)
        (fun i x j c hx hj => by
          rw [List.getElem?_drop, List.getElem?_take] at hx
          split at hx
          · have := h4 _ _ j c hx hj
            rw [show o + l * sz + i * sz + j = o + (l + i) * sz + j by rw [Nat.add_mul]; omega]
            exact this
          · cases hx)
        (fun i x j c hx hj => by
          rw [List.getElem?_drop, List.getElem?_take] at hx
          split at hx
          · exact h5 _ _ j c hx hj
          · cases hx)
      rw [hlen] at this
      simpa [add_none] using this

theorem xslice_ok {t : TypeId} {x : AV} {lo hi mx : Option AV} {u : Value} {vl vh vm : Option Value} {av : AV} (hx : RV H E x u) (rl : (lo = none ∧ vl = none) ∨ ∃ x u, lo = some x ∧ vl = some u ∧ RV H E x u) (rh : (hi = none ∧ vh = none) ∨ ∃ x u, hi = some x ∧ vh = some u ∧ RV H E x u)
    (rm : (mx = none ∧ vm = none) ∨ ∃ x u, mx = some x ∧ vm = some u ∧ RV H E x u) (h : xslice P t x lo hi mx = some av) : ∃ v, (Instr.sliceAt t u vl vh vm).run P w = .ok v w ∧ RV H E av v := by
  unfold xslice at h
  split at h
  · rename_i l hl
    have bl : (vl = none ∧ l = 0) ∨ ∃ k, vl = some (.int k l) := (bndN_ok rl hl).imp (fun ⟨_, b, c⟩ => ⟨b, c⟩) fun ⟨k, hk, _⟩ => ⟨k, hk⟩
    have nomx : mx = none → vm = none := fun e => by
      rcases rm with ⟨_, h⟩ | ⟨x, u, h, _⟩
      · exact h
      · rw [e] at h; cases h
    split at h
    · rename_i s
      split at h
      · rename_i r hr
        split at h
        · rename_i hc
          cases h
          obtain ⟨ht, hm, h1, h2⟩ := hc
          have ht := isStrT_ok ht
          have hvm := nomx (by simpa using hm)
          have bh : (vh = none ∧ vm = none ∧ r = s.length) ∨ ∃ k, vh = some (.int k r) := (bndN_ok rh hr).imp (fun ⟨_, b, c⟩ => ⟨b, hvm, c⟩) fun ⟨k, hk, _⟩ => ⟨k, hk⟩
          rw [hx.str_inv]
          have hb := run_sB (P := P) (w := w) false (len := s.length) (cap := s.length) bl bh (.inl ⟨hvm, rfl⟩) h1 h2 (Nat.le_refl _)
          subst hvm
          refine ⟨.string ⟨((s.take r).drop l).toArray⟩, ?_, .imm _ _ (.str _)⟩
          rw [sliceAt_eq (fun n e => by simp) ht]
          simp only [Instr.slice, Sem.run_bind, run_underlying ht, Result.andThen_ok, Option.isSome_none, Bool.false_eq_true, if_false, Sem.run_pure]
          have hsz : (ByteArray.mk s.toArray).size = s.length := by simp [ByteArray.size]
          rw [hsz, hb]
          simp only [Result.andThen_ok]
          congr 2
          apply ByteArray.ext
          apply Array.ext'
          simp [List.drop_take]
        · cases h
      · cases h
    · rename_i sz xs
      split at h
      · rename_i r hr
        obtain ⟨ad, cap, hv, hc1, hc2⟩ := hx.sl_inv.len_inv
        have hr' := hx.sl_inv
        rw [hv] at hr' ⊢
        split at h
        · split at h
          · rename_i hc
            cases h
            obtain ⟨he, h1, h2⟩ := hc
            obtain ⟨e, inf, ht, hin, hsz⟩ := elI_inv he
            have hvm := nomx rfl
            have bh : (vh = none ∧ vm = none ∧ r = xs.length) ∨ ∃ k, vh = some (.int k r) := (bndN_ok rh hr).imp (fun ⟨_, b, c⟩ => ⟨b, hvm, c⟩) fun ⟨k, hk, _⟩ => ⟨k, hk⟩
            have hb := run_sB (P := P) (w := w) true (len := xs.length) (cap := cap) bl bh (.inl ⟨hvm, rfl⟩) h1 (Nat.le_trans h2 hc1) (Nat.le_refl _)
            refine ⟨_, ?_, .imm _ _ (hr'.sub h1 h2)⟩
            rw [sliceAt_eq (fun n e => by simp) ht]
            simp only [Instr.slice, Sem.run_bind, run_underlying ht, Result.andThen_ok, hb, Go.sizeOf, typeInfo, run_program, hin, Sem.run_pure, hsz]
          · cases h
        · rename_i m
          split at h
          · rename_i hc
            cases h
            obtain ⟨hs, he, hm, h1, h2⟩ := hc
            obtain ⟨e, inf, ht, hin, hsz⟩ := elI_inv he
            rcases rm with ⟨e', _⟩ | ⟨y, u', e', rfl, hy⟩
            · cases e'
            cases e'
            have bm := bndN_ok (d := 0) (H := H) (E := E) (o := some m) (v := some u') (.inr ⟨_, _, rfl, rfl, hy⟩) hm
            rcases bm with ⟨e', _⟩ | ⟨k, hk, _⟩
            · cases e'
            rcases bndN_ok rh hr with ⟨e', _⟩ | ⟨k', hk', _⟩
            · rw [e'] at hs; cases hs
            have hb := run_sB (P := P) (w := w) true (len := xs.length) (cap := cap) (m := 0) (max := some u') bl (.inr ⟨k', hk'⟩) (.inr ⟨k, hk⟩) h1 h2 (Nat.zero_le _)
            have hl0 : l = 0 := by omega
            have hr0 : r = 0 := by omega
            subst hl0; subst hr0
            refine ⟨.slice ad 0 0, ?_, .imm _ _ (.emp _)⟩
            rw [sliceAt_eq (fun n e => by simp) ht]
            simp only [Instr.slice, Sem.run_bind, run_underlying ht, Result.andThen_ok, hb, Go.sizeOf, typeInfo, run_program, hin, Sem.run_pure, if_true, Nat.sub_self]
          · cases h
      · cases h
    · rename_i id ver sz off len
      obtain ⟨a, cap, hv, ha, hlc, hcm, hloc⟩ := hx.bs_inv
      subst hv
      split at h
      · rename_i r hr
        split at h
        · split at h
          · rename_i hc
            obtain ⟨he, h1, h2⟩ := hc
            obtain ⟨e, inf, ht, hin, hsz⟩ := elI_inv he
            have hvm := nomx rfl
            have bh : (vh = none ∧ vm = none ∧ r = len) ∨ ∃ k, vh = some (.int k r) := (bndN_ok rh hr).imp (fun ⟨_, b, c⟩ => ⟨b, hvm, c⟩) fun ⟨k, hk, _⟩ => ⟨k, hk⟩
            have hb := run_sB (P := P) (w := w) true (len := len) (cap := cap) bl bh (.inl ⟨hvm, rfl⟩) h1 (Nat.le_trans h2 hlc) (Nat.le_refl _)
            have hrun : (Instr.sliceAt t (.slice (some a) len cap) vl vh vm).run P w = .ok (.slice (if cap = l then some a else some (a.add (l * sz))) (r - l) (cap - l)) w := by
              rw [sliceAt_eq (fun n e => by simp) ht]
              simp only [Instr.slice, Sem.run_bind, run_underlying ht, Result.andThen_ok, hb, Go.sizeOf, typeInfo, run_program, hin, Sem.run_pure, hsz, Option.map_some]
            refine ⟨_, hrun, ?_⟩
            split at h
            · rename_i hrl
              subst hrl
              split at h
              · rename_i hl0
                cases h
                subst hl0
                have e1 : (if cap = 0 then some a else some (a.add (0 * sz))) = some a := by split <;> simp [add_zero']
                rw [e1]
                exact .bs id ver sz off 0 a cap ha (Nat.zero_le _) hcm hloc
              · cases h
                rw [Nat.sub_self]
                exact .imm _ _ (.sl0 _ _ _ (by omega))
            · rename_i hrl
              cases h
              rw [if_neg (by omega)]
              refine .bs id ver sz _ _ _ _ ha (by omega) (by omega) fun l' hl' => ?_
              obtain ⟨e1, e2⟩ := hloc l' hl'
              refine ⟨by rw [e1, add_none, Nat.add_assoc], ?_⟩
              rw [Nat.sub_mul]
              have : l * sz ≤ cap * sz := Nat.mul_le_mul_right _ (by omega)
              omega
          · cases h
        · rename_i m
          split at h
          · rename_i m' hm
            split at h
            · rename_i hc
              obtain ⟨hs, he, hml, h1, h2⟩ := hc
              obtain ⟨e, inf, ht, hin, hsz⟩ := elI_inv he
              rcases rm with ⟨e', _⟩ | ⟨y, u', e', rfl, hy⟩
              · cases e'
              cases e'
              have bm := bndN_ok (d := 0) (H := H) (E := E) (o := some m) (v := some u') (.inr ⟨_, _, rfl, rfl, hy⟩) hm
              rcases bm with ⟨e', _⟩ | ⟨k, hk, _⟩
              · cases e'
              rcases bndN_ok rh hr with ⟨e', _⟩ | ⟨k', hk', _⟩
              · rw [e'] at hs; cases hs
              have hb := run_sB (P := P) (w := w) true (len := len) (cap := cap) (m := m') (max := some u') bl (.inr ⟨k', hk'⟩) (.inr ⟨k, hk⟩) h1 h2 (by omega)
              have hrun : (Instr.sliceAt t (.slice (some a) len cap) vl vh (some u')).run P w = .ok (.slice (if m' = l then some a else some (a.add (l * sz))) (r - l) (m' - l)) w := by
                rw [sliceAt_eq (fun n e => by simp) ht]
                simp only [Instr.slice, Sem.run_bind, run_underlying ht, Result.andThen_ok, hb, Go.sizeOf, typeInfo, run_program, hin, Sem.run_pure, hsz, Option.map_some]
              refine ⟨_, hrun, ?_⟩
              split at h
              · rename_i hm0
                cases h
                rw [if_pos hm0]
                have e1 : r - l = 0 := by omega
                have e2 : m' - l = 0 := by omega
                rw [e1, e2]
                exact .imm _ _ (.emp _)
              · rename_i hm0
                cases h
                rw [if_neg hm0]
                refine .bs id ver sz _ _ _ _ ha (by omega) (by omega) fun l' hl' => ?_
                obtain ⟨e1, e2⟩ := hloc l' hl'
                refine ⟨by rw [e1, add_none, Nat.add_assoc], ?_⟩
                have : m' * sz ≤ cap * sz := Nat.mul_le_mul_right _ (by omega)
                have : l * sz ≤ m' * sz := Nat.mul_le_mul_right _ (by omega)
                rw [Nat.sub_mul]
                omega
            · cases h
          · cases h
      · cases h
    · split at h
      · rename_i r hr
        split at h
        · rename_i hc
          cases h
          obtain ⟨he, rfl, rfl, hm⟩ := hc
          obtain ⟨z, he⟩ := Option.isSome_iff_exists.1 he
          obtain ⟨e, inf, ht, hin, hsz⟩ := elI_inv he
          have hvm := nomx (by simpa using hm)
          have bh : (vh = none ∧ vm = none ∧ 0 = 0) ∨ ∃ k, vh = some (.int k (0 : Nat)) := (bndN_ok rh hr).imp (fun ⟨_, b, c⟩ => ⟨b, hvm, rfl⟩) fun ⟨k, hk, _⟩ => ⟨k, hk⟩
          have hb := run_sB (P := P) (w := w) true (len := 0) (cap := 0) bl bh (.inl ⟨hvm, rfl⟩) (Nat.le_refl _) (Nat.le_refl _) (Nat.le_refl _)
          rw [hx.nil_inv]
          refine ⟨.slice none 0 0, ?_, .imm _ _ .nil⟩
          rw [sliceAt_eq (fun n e => by simp) ht]
          simp [Instr.slice, Sem.run_bind, run_underlying ht, Result.andThen_ok, hb, Go.sizeOf, typeInfo, run_program, hin, Sem.run_pure]
        · cases h
      · cases h
    · split at h
      · rename_i r hr
        split at h
        · rename_i hc
          cases h
          obtain ⟨he, rfl, rfl, hm⟩ := hc
          obtain ⟨z, he⟩ := Option.isSome_iff_exists.1 he
          obtain ⟨e, inf, ht, hin, hsz⟩ := elI_inv he
          have hvm := nomx (by simpa using hm)
          have bh : (vh = none ∧ vm = none ∧ 0 = 0) ∨ ∃ k, vh = some (.int k (0 : Nat)) := (bndN_ok rh hr).imp (fun ⟨_, b, c⟩ => ⟨b, hvm, rfl⟩) fun ⟨k, hk, _⟩ => ⟨k, hk⟩
          have hb := run_sB (P := P) (w := w) true (len := 0) (cap := 0) bl bh (.inl ⟨hvm, rfl⟩) (Nat.le_refl _) (Nat.le_refl _) (Nat.le_refl _)
          obtain ⟨a, ha⟩ := hx.emp_inv
          rw [ha]
          refine ⟨.slice a 0 0, ?_, .imm _ _ (.emp _)⟩
          rw [sliceAt_eq (fun n e => by simp) ht]
          simp [Instr.slice, Sem.run_bind, run_underlying ht, Result.andThen_ok, hb, Go.sizeOf, typeInfo, run_program, hin, Sem.run_pure]
        · cases h
      · cases h
    · cases h
  · cases h

theorem xmaxL_ok (big : Bool) {k : IntKind} : ∀ (l : List AV) (us : List Value) (n : Int) (av : AV), (l.length = us.length ∧ ∀ (j : Nat) (c : AV) (v : Value), l[j]? = some c → us[j]? = some v → RV H E c v) → xmaxL big k n l = some av →
    ∃ m : Int, av = .int k m ∧ (us.foldlM (if big then Builtin.max2 else Builtin.min2) (.int k n)).run P w = .ok (.int k m) w
  | [], us, n, av, hr, h => by
    have : us = [] := List.eq_nil_of_length_eq_zero (by simpa using hr.1.symm)
    subst this
    simp only [xmaxL, Option.some.injEq] at h
    exact ⟨n, h.symm, by simp⟩
  | x :: l, us, n, av, hr, h => by
    cases us with
    | nil => simp at hr
    | cons u us =>
      have hx := hr.2 0 x u rfl rfl
      unfold xmaxL at h
      split at h
      · rename_i e; cases e
      · rename_i k' b r e
        cases e
        split at h
        · rename_i ek
          subst ek
          rw [hx.int_inv]
          obtain ⟨m, h1, h2⟩ := xmaxL_ok big l us _ av ⟨by simpa using hr.1, fun j c v hj hv => hr.2 (j + 1) c v (by simpa using hj) (by simpa using hv)⟩ h
          refine ⟨m, h1, ?_⟩
          have : ((if big then Builtin.max2 else Builtin.min2) (.int k n) (.int k b)).run P w = .ok (.int k (if big then max n b else min n b)) w := by
            cases big
            · simp only [Bool.false_eq_true, if_false, Builtin.min2, Sem.run_pure]
              congr 2
              rw [Int.min_def]
              split <;> split <;> omega
            · simp only [if_true, Builtin.max2, Sem.run_pure]
              congr 2
              rw [Int.max_def]
              split <;> split <;> omega
          rw [List.foldlM_cons, Sem.run_bind, this]
          exact h2
        · cases h
      · cases h

theorem xmax_ok (big : Bool) {l : List AV} {us : List Value} {av : AV} (hr : l.length = us.length ∧ ∀ (j : Nat) (c : AV) (v : Value), l[j]? = some c → us[j]? = some v → RV H E c v) (h : xmax big l = some av) (ts : Array TypeId) (ty : TypeId) :
    ∃ v, (if big then Builtin.max_ ts ty us.toArray else Builtin.min_ ts ty us.toArray).run P w = .ok v w ∧ ∀ H, RelI H av v := by
  unfold xmax at h
  split at h
  · rename_i k a r
    cases us with
    | nil => simp at hr
    | cons u us =>
      have hx := hr.2 0 _ u rfl rfl
      rw [hx.int_inv]
      obtain ⟨m, rfl, h2⟩ := xmaxL_ok (P := P) (w := w) big r us a av ⟨by simpa using hr.1, fun j c v hj hv => hr.2 (j + 1) c v (by simpa using hj) (by simpa using hv)⟩ h
      refine ⟨.int k m, ?_, fun _ => .int _ _⟩
      cases big
      · simpa [Builtin.min_] using h2
      · simpa [Builtin.max_] using h2
  · cases h

theorem xlen_ok {t ty : TypeId} {x : AV} {u : Value} {av : AV} (hx : RV H E x u) (h : xlen P t x = some av) : ∃ v, (Builtin.len_ #[t] ty #[u]).run P w = .ok v w ∧ ∀ H, RelI H av v := by
  have sl : ∀ (a : Option Addr) (n cap : Nat), (elI P t).isSome = true → (Builtin.len_ #[t] ty #[.slice a n cap]).run P w = .ok (.int .i64 n) w := fun a n cap he => by
    obtain ⟨z, he⟩ := Option.isSome_iff_exists.1 he
    obtain ⟨e, i, h1, h2, _⟩ := elI_inv he
    simp [Builtin.len_, run_underlying h1, goInt]
  unfold xlen at h
  split at h <;> first | cases h | skip
  · rename_i s
    split at h
    · rename_i ht
      cases h
      rw [hx.str_inv]
      have hsz : (ByteArray.mk s.toArray).size = s.length := by simp [ByteArray.size]
      exact ⟨_, by simp [Builtin.len_, run_underlying (isStrT_ok ht), goInt, hsz], fun _ => .int _ _⟩
    · cases h
  · split at h
    · rename_i he
      cases h
      obtain ⟨ad, cap, hv, _⟩ := hx.sl_inv.len_inv
      rw [hv]; exact ⟨_, sl _ _ _ he, fun _ => .int _ _⟩
    · cases h
  · split at h
    · rename_i he
      cases h
      obtain ⟨a, cap, rfl, _⟩ := hx.bs_inv
      exact ⟨_, sl _ _ _ he, fun _ => .int _ _⟩
    · cases h
  · split at h
    · rename_i he
      cases h
      rw [hx.nil_inv]; exact ⟨_, sl _ _ _ he, fun _ => .int _ _⟩
    · cases h
  · split at h
    · rename_i he
      cases h
      obtain ⟨a, ha⟩ := hx.emp_inv
      rw [ha]; exact ⟨_, sl _ _ _ he, fun _ => .int _ _⟩
    · cases h

/- literals -/
theorem fold_set (off : Nat) : ∀ (l : List Value) (s : Nat) (arr : Array Value), off + s + l.length ≤ arr.size →
    ((l.zipIdx s).foldl (fun cs (x : Value × Nat) => cs.setIfInBounds (off + x.2) x.1) arr).toList = arr.toList.take (off + s) ++ (l ++ arr.toList.drop (off + s + l.length))
  | [], s, arr, _ => by simp
  | v :: l, s, arr, h => by
    simp only [List.zipIdx_cons, List.foldl_cons]
    rw [fold_set off l (s + 1) _ (by simp at h ⊢; omega)]
    simp only [Array.toList_setIfInBounds, List.length_cons]
    have e := list_seg_step arr.toList (off + s) v l (by simp at h ⊢; omega)
    simp only [List.append_assoc, List.cons_append] at e ⊢
    rw [show off + (s + 1) = off + s + 1 by omega, e]

theorem fold_set' (off : Nat) (v arr : Array Value) (h : off + v.size ≤ arr.size) :
    (v.zipIdx.foldl (fun cs (x : Value × Nat) => cs.setIfInBounds (off + x.2) x.1) arr).toList = arr.toList.take off ++ (v.toList ++ arr.toList.drop (off + v.size)) := by
  rw [← Array.foldl_toList, Array.toList_zipIdx]
  have := fold_set off v.toList 0 arr (by simpa using h)
  simpa using this

def CellsRel (R : AV → Value → Prop) (cs : List AV) (vs : List Value) : Prop :=
  cs.length = vs.length ∧ ∀ (j : Nat) (c : AV), cs[j]? = some c → ∃ u, vs[j]? = some u ∧ u.oneCell' = true ∧ R c u

theorem CellsRel.put {R : AV → Value → Prop} {cs ds : List AV} {vs us : List Value} {o n : Nat} (h : CellsRel R cs vs) (h' : CellsRel R ds us) (hn : ds.length = n) (ho : o + n ≤ cs.length) :
    CellsRel R (cs.take o ++ (ds ++ cs.drop (o + n))) (vs.take o ++ (us ++ vs.drop (o + n))) := by
  have e1 := h.1
  have e2 := h'.1
  refine ⟨by simp; omega, fun j c hj => ?_⟩
  simp only [List.getElem?_append, List.length_take, List.getElem?_take, List.getElem?_drop] at hj ⊢
  have m1 : min o cs.length = o := by omega
  have m2 : min o vs.length = o := by omega
  rw [m1] at hj; rw [m2]
  by_cases c1 : j < o
  · rw [if_pos c1, if_pos c1] at hj
    rw [if_pos c1, if_pos c1]
    exact h.2 j c hj
  · rw [if_neg c1] at hj
    rw [if_neg c1]
    by_cases c2 : j - o < ds.length
    · rw [if_pos c2] at hj
      rw [if_pos (by omega)]
      exact h'.2 _ c hj
    · rw [if_neg c2] at hj
      rw [if_neg (by omega), ← e2]
      exact h.2 _ c hj

theorem RV.cellsRel {av : AV} {v : Value} (h : RV H E av v) (h1 : av.okc = true) : CellsRel (RV H E) av.cells v.cells.toList := by
  obtain ⟨a, b⟩ := h.cells h1
  exact ⟨by simpa using a, fun j c hj => by simpa using b j c hj⟩

theorem CellsRel.agg {cs : List AV} {vs : Array Value} (h : CellsRel (RV H E) cs vs.toList) : RV H E (.agg cs) (.agg vs) := by
  refine .agg cs vs (by simpa using h.1) (fun u hu => ?_) (fun j c u hj hu => ?_)
  · obtain ⟨j, hj, rfl⟩ := Array.mem_iff_getElem.1 hu
    have hjc : j < cs.length := by have := h.1; simp at this; omega
    obtain ⟨u', h5, h6, _⟩ := h.2 j _ (List.getElem?_eq_getElem hjc)
    rw [Array.getElem?_toList, Array.getElem?_eq_getElem hj] at h5
    cases h5; exact h6
  · obtain ⟨u', h5, h6, h7⟩ := h.2 j c hj
    rw [Array.getElem?_toList, hu] at h5
    cases h5; exact h7

theorem fill_rel (place : Nat → Option (Nat × Nat)) : ∀ (avs : List (Nat × AV)) (parts : List (Nat × Value)) (cs cs' : List AV) (vs : Array Value),
    (avs.length = parts.length ∧ ∀ (k : Nat) (x : Nat × AV) (y : Nat × Value), avs[k]? = some x → parts[k]? = some y → x.1 = y.1 ∧ RV H E x.2 y.2) → CellsRel (RV H E) cs vs.toList → afill place cs avs = some cs' →
    ∃ vs', Instr.fill place vs parts = some vs' ∧ CellsRel (RV H E) cs' vs'.toList
  | [], parts, cs, cs', vs, hp, hc, hf => by
    have : parts = [] := List.eq_nil_of_length_eq_zero (by simpa using hp.1.symm)
    subst this
    simp only [afill, Option.some.injEq] at hf
    subst hf
    exact ⟨vs, rfl, hc⟩
  | (i, x) :: avs, parts, cs, cs', vs, hp, hc, hf => by
    cases parts with
    | nil => simp at hp
    | cons y parts =>
      obtain ⟨k, v⟩ := y
      obtain ⟨h1, h2⟩ := hp.2 0 _ _ rfl rfl
      simp only at h1 h2
      subst h1
      simp only [afill] at hf
      split at hf
      · rename_i o n hpl
        split at hf
        · rename_i hcond
          obtain ⟨hok, hn, hle⟩ := hcond
          have hv := h2.cellsRel hok
          have hcs := hc.1
          simp only [Array.length_toList] at hcs
          have hsz : v.cells.size = n := by rw [← hn, hv.1]; simp
          have hfit : o + v.cells.size ≤ vs.size := by omega
          obtain ⟨vs', h3, h4⟩ := fill_rel place avs parts _ cs' (v.cells.zipIdx.foldl (fun cs (x : Value × Nat) => cs.setIfInBounds (o + x.2) x.1) vs)
            ⟨by simpa using hp.1, fun k x y hx hy => hp.2 (k + 1) x y hx hy⟩ (by
              rw [fold_set' o v.cells vs hfit, hsz]
              exact hc.put hv hn hle) hf
          refine ⟨vs', ?_, h4⟩
          simp only [Instr.fill, hpl]
          rw [if_neg (by simp [hsz]; omega)]
          exact h3
        · cases hf
      · cases hf

theorem mapM_places : ∀ (l : List Field), (∀ f ∈ l, (tyI P f.type).isSome = true) →
    (l.mapM (fun f => do pure (f.offset, ← Go.sizeOf f.type) : Field → Sem (Nat × Nat))).run P w = .ok (l.map fun f => (f.offset, ((tyI P f.type).map (·.1)).getD 0)) w
  | [], _ => by simp
  | f :: l, h => by
    obtain ⟨x, hx⟩ := Option.isSome_iff_exists.1 (h f (by simp))
    have ih := mapM_places l (fun g hg => h g (by simp [hg]))
    simp only [List.mapM_cons, Sem.run_bind, run_sizeOf' (show tyI P f.type = some (x.1, x.2) from hx), Result.andThen_ok, Sem.run_pure, ih, List.map_cons, hx, Option.map_some, Option.getD_some]

theorem xbuild_ok {t : TypeId} {avs : List (Nat × AV)} {parts : Array (Nat × Value)} {av : AV} (hp : avs.length = parts.toList.length ∧ ∀ (k : Nat) (x : Nat × AV) (y : Nat × Value), avs[k]? = some x → parts.toList[k]? = some y → x.1 = y.1 ∧ RV H E x.2 y.2)
    (h : xbuild P t avs = some av) : ∃ v, (Instr.build t parts).run P w = .ok v w ∧ RV H E av v := by
  unfold xbuild at h
  split at h
  · rename_i zs hz
    obtain ⟨i, v, hi, hv, hzv⟩ := zeroI_inv hz
    have hzr : RV H E (.agg zs) v := by rw [hzv]; exact .imm _ _ (ofV_rel H v)
    have hzc := hzr.cellsRel rfl
    split at h
    · rename_i fs ht
      split at h
      · rename_i hfo
        have hfs : ∀ f ∈ fs.toList, (tyI P f.type).isSome = true := by simpa only [fldsOk, List.all_eq_true] using hfo
        split at h
        · rename_i cs hf
          cases h
          have hpl : ∀ k, ((fs.toList.map fun f => (f.offset, ((tyI P f.type).map (·.1)).getD 0)).toArray[k]?) = (fldI P t k).map fun x => (x.1, x.2.1) := fun k => by
            simp only [List.getElem?_toArray, List.getElem?_map, Array.getElem?_toList, fldI, ht]
            cases hfk : fs[k]? with
            | none => rfl
            | some f =>
              obtain ⟨x, hx⟩ := Option.isSome_iff_exists.1 (hfs f (Array.mem_toList_iff.2 (Array.mem_of_getElem? hfk)))
              simp [hx]
          have hpl' : (fun k => (fs.toList.map fun f => (f.offset, ((tyI P f.type).map (·.1)).getD 0)).toArray[k]?) = fun k => (fldI P t k).map fun x => (x.1, x.2.1) := funext hpl
          obtain ⟨vs', h3, h4⟩ := fill_rel (fun i => (fldI P t i).map fun x => (x.1, x.2.1)) avs parts.toList zs cs v.cells hp hzc hf
          have hm := mapM_places (P := P) (w := w) fs.toList (fun f hf => hfs f hf)
          refine ⟨.agg vs', ?_, h4.agg⟩
          simp only [Instr.build, Sem.run_bind, zeroValue, typeInfo, run_program, Result.andThen_ok, hi, Sem.run_pure, hv, run_underlying ht]
          rw [← Array.toArray_toList (xs := fs)]
          simp only [List.mapM_toArray, Sem.run_map, hm, Result.andThen_ok]
          rw [hpl', h3]
          rfl
        · cases h
      · cases h
    · rename_i n e ht
      split at h
      · rename_i z g hte
        split at h
        · rename_i cs hf
          cases h
          obtain ⟨vs', h3, h4⟩ := fill_rel (fun i => some (i * z, z)) avs parts.toList zs cs v.cells hp hzc hf
          refine ⟨.agg vs', ?_, h4.agg⟩
          simp only [Instr.build, Sem.run_bind, zeroValue, typeInfo, run_program, Result.andThen_ok, hi, Sem.run_pure, hv, run_underlying ht, run_sizeOf' hte, h3]
        · cases h
      · cases h
    · cases h
  · cases h
end
end HX
