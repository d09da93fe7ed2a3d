/- A schedule's text and its steps: each says the other. -/
import Derived.Test.YtcphiogbjdehhaaDoorS6
namespace Go.Proofs.YtcphiogbjdehhaaDoor
open Go HX

/- numerals -/
def valN (t : Str) : Nat := t.foldl (fun n c => n * 10 + (c.toNat - 48)) 0
theorem valN_snoc (t : Str) (c : UInt8) : valN (t ++ [c]) = valN t * 10 + (c.toNat - 48) := by simp [valN]
theorem numN_snoc (t : Str) (c : UInt8) : numN (t ++ [c]) = numF (numN t) c := by simp [numN]
theorem dgB_iff {c : UInt8} : dgB c = true ↔ 48 ≤ c.toNat ∧ c.toNat ≤ 57 := by
  unfold dgB digitB u8i; simp; omega
theorem numN_val : ∀ (n : Nat) (t : Str), t.length = n → t.all dgB = true → numN t = min (valN t : Int) 2147483648
  | 0, t, h, _ => by
    have : t = [] := List.eq_nil_of_length_eq_zero h
    subst this; rfl
  | n + 1, t, h, ha => by
    rcases List.eq_nil_or_concat t with rfl | ⟨t', c, rfl⟩
    · simp at h
    · rw [List.concat_eq_append] at *
      simp only [List.all_append, List.all_cons, List.all_nil, Bool.and_true, Bool.and_eq_true] at ha
      have ih := numN_val n t' (by simpa using h) ha.1
      have hc := dgB_iff.1 ha.2
      rw [numN_snoc, valN_snoc, ih]
      unfold numF u8i
      omega
theorem decDigits_val : ∀ (u : Nat), (Lib.decDigits u).all dgB = true ∧ valN (Lib.decDigits u) = u ∧ Lib.decDigits u ≠ [] ∧ ((Lib.decDigits u).headD 0 = 48 → u = 0)
  | u => by
    by_cases h : u < 10
    · rw [Lib.decDigits_one h]
      have ht : (UInt8.ofNat (48 + u)).toNat = 48 + u := by rw [UInt8.toNat_ofNat']; omega
      refine ⟨?_, ?_, by simp, fun h0 => ?_⟩
      · simp only [List.all_cons, List.all_nil, Bool.and_true]; rw [dgB_iff, ht]; omega
      · show valN ([] ++ [_]) = u
        rw [valN_snoc, ht]; show 0 * 10 + _ = u; omega
      · have h0 : UInt8.ofNat (48 + u) = 48 := h0
        have := congrArg UInt8.toNat h0
        rw [ht] at this
        have h48 : (48 : UInt8).toNat = 48 := rfl
        omega
    · obtain ⟨h1, h2, h3, h4⟩ := decDigits_val (u / 10)
      have e : Lib.decDigits u = Lib.decDigits (u / 10) ++ [UInt8.ofNat (48 + u % 10)] := by conv => lhs; rw [Lib.decDigits, dif_neg h]
      have ht : (UInt8.ofNat (48 + u % 10)).toNat = 48 + u % 10 := by rw [UInt8.toNat_ofNat']; omega
      rw [e]
      refine ⟨?_, ?_, by simp, fun h0 => ?_⟩
      · simp only [List.all_append, h1, List.all_cons, List.all_nil, Bool.and_true, Bool.true_and]; rw [dgB_iff, ht]; omega
      · rw [valN_snoc, ht, h2]; omega
      · have : (Lib.decDigits (u / 10) ++ [UInt8.ofNat (48 + u % 10)]).headD 0 = (Lib.decDigits (u / 10)).headD 0 := by
          cases hd : Lib.decDigits (u / 10) with
          | nil => exact absurd hd h3
          | cons a t => rfl
        rw [this] at h0
        have := h4 h0
        omega
termination_by u => u
decreasing_by omega
theorem valN_pos : ∀ (n : Nat) (t : Str), t.length = n → t ≠ [] → t.all dgB = true → t.headD 0 ≠ 48 → 1 ≤ valN t
  | 0, t, h, hn, _, _ => absurd (List.eq_nil_of_length_eq_zero h) hn
  | n + 1, t, h, hn, ha, h0 => by
    rcases List.eq_nil_or_concat t with rfl | ⟨t', c, rfl⟩
    · exact absurd rfl hn
    · rw [List.concat_eq_append] at *
      simp only [List.all_append, List.all_cons, List.all_nil, Bool.and_true, Bool.and_eq_true] at ha
      have hc := dgB_iff.1 ha.2
      rw [valN_snoc]
      cases t' with
      | nil =>
        have h0 : c ≠ 48 := h0
        have : c.toNat ≠ 48 := fun e => h0 (UInt8.toNat_inj.1 e)
        omega
      | cons a t =>
        have := valN_pos n (a :: t) (by simpa using h) (by simp) ha.1 h0
        omega
theorem decDigits_of : ∀ (n : Nat) (t : Str), t.length = n → t ≠ [] → t.all dgB = true → (t.headD 0 = 48 → t.length = 1) → Lib.decDigits (valN t) = t
  | 0, t, h, hn, _, _ => absurd (List.eq_nil_of_length_eq_zero h) hn
  | n + 1, t, h, hn, ha, h0 => by
    rcases List.eq_nil_or_concat t with rfl | ⟨t', c, rfl⟩
    · exact absurd rfl hn
    · rw [List.concat_eq_append] at *
      simp only [List.all_append, List.all_cons, List.all_nil, Bool.and_true, Bool.and_eq_true] at ha
      have hc := dgB_iff.1 ha.2
      rw [valN_snoc]
      cases t' with
      | nil =>
        show Lib.decDigits (0 * 10 + _) = [c]
        rw [Lib.decDigits_one (by omega)]
        congr 1
        apply UInt8.toNat_inj.1
        rw [UInt8.toNat_ofNat']; omega
      | cons a t =>
        have hh : (a :: t).headD 0 ≠ 48 := fun e => by have := h0 e; simp at this
        have hp := valN_pos n (a :: t) (by simpa using h) (by simp) ha.1 hh
        have ih := decDigits_of n (a :: t) (by simpa using h) (by simp) ha.1 (fun e => absurd e hh)
        rw [Lib.decDigits, dif_neg (by omega)]
        have e1 : (valN (a :: t) * 10 + (c.toNat - 48)) / 10 = valN (a :: t) := by omega
        have e2 : (valN (a :: t) * 10 + (c.toNat - 48)) % 10 = c.toNat - 48 := by omega
        rw [e1, e2, ih]
        congr 2
        apply UInt8.toNat_inj.1
        rw [UInt8.toNat_ofNat']; omega

theorem num_back {w : Str} (h : numE w = 0) : Lib.itoa (numV w) = w := by
  have hV : numV w = if negS w then -(numN (digS w)) else numN (digS w) := by unfold numV; rw [if_pos h]
  unfold numE at h
  split at h
  · omega
  · rename_i hc
    split at h
    · rename_i ha
      split at h
      · omega
      · rename_i hb
        have hne : digS w ≠ [] := fun e => hc (.inl e)
        have hz : (digS w).headD 0 = 48 → (digS w).length = 1 ∧ negS w = false := fun e => by
          have hnot : ¬ (1 < (digS w).length ∨ negS w = true) := fun e2 => hc (.inr ⟨e, e2⟩)
          have hl : 0 < (digS w).length := List.length_pos_iff.2 hne
          refine ⟨by by_cases h1 : 1 < (digS w).length
                     · exact absurd (.inl h1) hnot
                     · omega, by cases hn : negS w with | false => rfl | true => exact absurd (.inr hn) hnot⟩
        have hval := numN_val _ (digS w) rfl ha
        have hd := decDigits_of _ (digS w) rfl hne ha (fun e => (hz e).1)
        have hv : numN (digS w) = (valN (digS w) : Int) := by omega
        rw [hV, hv]
        cases w with
        | nil => exact absurd rfl hne
        | cons a t =>
          by_cases ha' : a = 45
          · subst ha'
            have e1 : digS (45 :: t) = t := rfl
            have e2 : negS (45 :: t) = true := rfl
            rw [e1] at hd hz hne ha ⊢
            rw [e2] at hz ⊢
            have hp : 1 ≤ valN t := valN_pos _ t rfl hne ha (fun e => by have := (hz e).2; cases this)
            simp only [if_true]
            unfold Lib.itoa
            rw [if_pos (by omega)]
            have : (-(valN t : Int)).natAbs = valN t := by omega
            rw [this, hd]
          · have e1 : digS (a :: t) = a :: t := by
              unfold digS; split
              · rename_i e; cases e; exact absurd rfl ha'
              · rfl
            have e2 : negS (a :: t) = false := by
              unfold negS; split
              · rename_i e; cases e; exact absurd rfl ha'
              · rfl
            rw [e1] at hd ⊢
            rw [e2]
            simp only [Bool.false_eq_true, if_false]
            unfold Lib.itoa
            rw [if_neg (by omega)]
            have : ((valN (a :: t) : Int)).toNat = valN (a :: t) := by omega
            rw [this, hd]
    · omega

theorem num_forth {n : Int} (h0 : -2147483647 ≤ n) (h1 : n ≤ 2147483647) : numE (Lib.itoa n) = 0 ∧ numV (Lib.itoa n) = n := by
  have key : ∀ (w t : Str) (u : Nat) (q : Bool), digS w = t → negS w = q → t = Lib.decDigits u → u ≤ 2147483647 → (q = true → u ≠ 0) → numE w = 0 ∧ numN t = u := fun w t u q e1 e2 e3 hu hq => by
    obtain ⟨d1, d2, d3, d4⟩ := decDigits_val u
    rw [← e3] at d1 d2 d3 d4
    have hval := numN_val _ t rfl d1
    have hv : numN t = (u : Int) := by omega
    refine ⟨?_, hv⟩
    unfold numE
    rw [e1, e2, if_neg ?_, if_pos d1, if_neg (by omega)]
    rintro (h | ⟨h, h2⟩)
    · exact d3 h
    · have hz := d4 h
      rcases h2 with h2 | h2
      · rw [e3, hz, Lib.decDigits_one (by omega)] at h2; simp at h2
      · exact hq h2 hz
  unfold Lib.itoa
  by_cases hn : n < 0
  · rw [if_pos hn]
    obtain ⟨k1, k2⟩ := key (45 :: Lib.decDigits n.natAbs) (Lib.decDigits n.natAbs) n.natAbs true rfl rfl rfl (by omega) (fun _ => by omega)
    refine ⟨k1, ?_⟩
    unfold numV
    rw [if_pos k1]
    show -(numN (Lib.decDigits n.natAbs)) = n
    omega
  · rw [if_neg hn]
    obtain ⟨d1, d2, d3, d4⟩ := decDigits_val n.toNat
    have hh : ∀ t, Lib.decDigits n.toNat ≠ 45 :: t := fun t e => by rw [e] at d1; simp [dgB, digitB, u8i] at d1
    have e1 : digS (Lib.decDigits n.toNat) = Lib.decDigits n.toNat := by
      unfold digS; split
      · rename_i t e; exact absurd e (hh t)
      · rfl
    have e2 : negS (Lib.decDigits n.toNat) = false := by
      unfold negS; split
      · rename_i t e; exact absurd e (hh t)
      · rfl
    obtain ⟨k1, k2⟩ := key (Lib.decDigits n.toNat) (Lib.decDigits n.toNat) n.toNat false e1 e2 rfl (by omega) (fun h => by cases h)
    refine ⟨k1, ?_⟩
    unfold numV
    rw [if_pos k1, e1, e2, k2]
    simp; omega

/- words -/
theorem joinT_eq (k : UInt8) (l : List Str) : Lib.joinTail [k] l = l.flatMap (k :: ·) := by unfold Lib.joinTail; rw [List.flatMap_def]; rfl
theorem splS_join (k : UInt8) : ∀ (s : Str), Lib.join (splS k s) [k] = s ∧ ∀ w ∈ splS k s, ∀ x ∈ w, x ≠ k
  | [] => by simp [splS, Lib.join_one]
  | a :: s => by
    obtain ⟨h1, h2⟩ := splS_join k s
    have hn := splS_ne k s
    unfold splS
    by_cases h : a = k
    · subst h
      rw [if_pos rfl]
      refine ⟨?_, fun w hw => ?_⟩
      · cases hs : splS a s with
        | nil => exact absurd hs hn
        | cons b t =>
          rw [hs, Lib.join_cons, joinT_eq] at h1
          rw [Lib.join_cons, joinT_eq]
          simp [h1]
      · rcases List.mem_cons.1 hw with rfl | hw
        · simp
        · exact h2 w hw
    · rw [if_neg h]
      cases hs : splS k s with
      | nil => exact absurd hs hn
      | cons b t =>
        rw [hs] at h1 h2
        rw [Lib.join_cons] at h1
        refine ⟨by simp only; rw [Lib.join_cons, List.cons_append, h1], fun w hw => ?_⟩
        simp only at hw
        rcases List.mem_cons.1 hw with rfl | hw
        · intro x hx
          rcases List.mem_cons.1 hx with rfl | hx
          · exact h
          · exact h2 b (by simp) x hx
        · exact h2 w (by simp [hw])
theorem spl_no' {k : UInt8} : ∀ {p : Str}, (∀ c ∈ p, c ≠ k) → splS k p = [p]
  | [], _ => rfl
  | a :: p, h => by
    unfold splS
    rw [if_neg (h a List.mem_cons_self), spl_no' fun c hc => h c (List.mem_cons_of_mem _ hc)]
theorem spl_at' {k : UInt8} : ∀ {p r : Str}, (∀ c ∈ p, c ≠ k) → splS k (p ++ k :: r) = p :: splS k r
  | [], r, _ => by simp [splS]
  | a :: p, r, h => by
    have ih := spl_at' (p := p) (r := r) fun c hc => h c (List.mem_cons_of_mem _ hc)
    rw [List.cons_append]
    conv => lhs; unfold splS
    rw [if_neg (h a List.mem_cons_self), ih]
theorem splS_of (k : UInt8) : ∀ (l : List Str) (a : Str), (∀ w ∈ a :: l, ∀ x ∈ w, x ≠ k) → splS k (Lib.join (a :: l) [k]) = a :: l
  | [], a, h => by rw [Lib.join_one]; exact spl_no' (h a (by simp))
  | b :: l, a, h => by
    have ih := splS_of k l b fun w hw => h w (List.mem_cons_of_mem _ hw)
    rw [Lib.join_cons, joinT_eq, List.flatMap_cons, List.cons_append]
    rw [spl_at' (h a (by simp))]
    rw [Lib.join_cons, joinT_eq] at ih
    rw [ih]

/- lines -/
theorem opN_kw (w : Str) : ∀ n, opN w n ≠ 0 → kwB (opN w n) = w
  | 0, h => absurd rfl h
  | n + 1, h => by
    unfold opN at h ⊢
    split
    · rename_i e; exact e
    · rename_i e; rw [if_neg e] at h; exact opN_kw w n h
theorem op_kw {op : Int} (h1 : 1 ≤ op) (h2 : op ≤ 13) : opOf (kwB op) = op := by
  have : op = 1 ∨ op = 2 ∨ op = 3 ∨ op = 4 ∨ op = 5 ∨ op = 6 ∨ op = 7 ∨ op = 8 ∨ op = 9 ∨ op = 10 ∨ op = 11 ∨ op = 12 ∨ op = 13 := by omega
  rcases this with rfl | rfl | rfl | rfl | rfl | rfl | rfl | rfl | rfl | rfl | rfl | rfl | rfl <;> decide

theorem line_back {s : Str} (h : linE s = 0) : lineS (linX s) = s ++ [10] ∧ okS (linX s) = true := by
  obtain ⟨h1, _⟩ := splS_join 32 s
  have hn := splS_ne 32 s
  unfold linE at h
  split at h
  · omega
  · rename_i hc
    have hop : linOp s ≠ 0 := fun e => hc (.inl e)
    have hlen : ((linW s).length : Int) = linM s := by
      by_cases e : ((linW s).length : Int) = linM s
      · exact e
      · exact absurd (.inr e) hc
    have hkw : kwB (linOp s) = (linW s).headD [] := opN_kw _ 13 hop
    have hW : linW s = splS 32 s := rfl
    rw [← hW] at h1 hn
    have hvalid : validZ (linX s) = 0 := by
      split at h
      · omega
      · exact h
    refine ⟨?_, by unfold okS; rw [hvalid]; rfl⟩
    have hwords : lineWords (linX s) = linW s := by
      unfold lineWords linX
      cases hC : linC s with
      | true =>
        have hC' : cntB (linOp s) = true := hC
        have hE : numE (((linW s)[2]?).getD []) = 0 := by
          split at h
          · rename_i e; exact absurd h e.2
          · rename_i e
            by_cases e2 : numE (((linW s)[2]?).getD []) = 0
            · exact e2
            · exact absurd ⟨hC, e2⟩ e
        simp only [if_true, hC']
        rw [num_back hE, hkw]
        have hM : linM s = 3 + nmZ (linOp s) := by unfold linM; rw [if_pos hC]; omega
        have hz : 0 ≤ nmZ (linOp s) := by unfold nmZ; split <;> (try split) <;> omega
        match hl : linW s with
        | [] => rw [hl] at hlen; simp at hlen; omega
        | [a] => rw [hl] at hlen; simp at hlen; omega
        | [a, b] => rw [hl] at hlen; simp at hlen; omega
        | a :: b :: c :: t => rfl
      | false =>
        have hC' : cntB (linOp s) = false := hC
        simp only [hC', Bool.false_eq_true, if_false]
        rw [hkw]
        have hM : linM s = 2 + nmZ (linOp s) := by unfold linM; rw [if_neg (by simp [hC])]; omega
        have hz : 0 ≤ nmZ (linOp s) := by unfold nmZ; split <;> (try split) <;> omega
        match hl : linW s with
        | [] => rw [hl] at hlen; simp at hlen; omega
        | [a] => rw [hl] at hlen; simp at hlen; omega
        | a :: b :: t => rfl
    unfold lineS
    rw [hwords, h1]

theorem name_chars {s : Str} (h : isName s = true) : ∀ x ∈ s, x ≠ 32 ∧ x ≠ 10 := fun x hx => by
  unfold isName at h
  simp only [Bool.and_eq_true] at h
  have := List.all_eq_true.1 h.1.2 x hx
  refine ⟨fun e => ?_, fun e => ?_⟩ <;> subst e <;> simp [wordB, letterB, digitB, u8i] at this
theorem kw_chars {op : Int} (h1 : 1 ≤ op) (h2 : op ≤ 13) : ∀ x ∈ kwB op, x ≠ 32 ∧ x ≠ 10 := by
  have : op = 1 ∨ op = 2 ∨ op = 3 ∨ op = 4 ∨ op = 5 ∨ op = 6 ∨ op = 7 ∨ op = 8 ∨ op = 9 ∨ op = 10 ∨ op = 11 ∨ op = 12 ∨ op = 13 := by omega
  rcases this with rfl | rfl | rfl | rfl | rfl | rfl | rfl | rfl | rfl | rfl | rfl | rfl | rfl <;> decide
theorem itoa_chars (n : Int) : ∀ x ∈ Lib.itoa n, x ≠ 32 ∧ x ≠ 10 := by
  have hd : ∀ u, ∀ x ∈ Lib.decDigits u, x ≠ 32 ∧ x ≠ 10 := fun u x hx => by
    have := dgB_iff.1 (List.all_eq_true.1 (decDigits_val u).1 x hx)
    refine ⟨fun e => ?_, fun e => ?_⟩ <;> subst e <;> simp at this
  unfold Lib.itoa
  split
  · intro x hx
    rcases List.mem_cons.1 hx with rfl | hx
    · decide
    · exact hd _ x hx
  · exact hd _
theorem join_chars {P : UInt8 → Prop} (k : UInt8) (hk : P k) : ∀ (l : List Str), (∀ w ∈ l, ∀ x ∈ w, P x) → ∀ x ∈ Lib.join l [k], P x
  | [], _, x, hx => by simp [Lib.join_nil] at hx
  | a :: l, h, x, hx => by
    rw [Lib.join_cons, joinT_eq] at hx
    rcases List.mem_append.1 hx with hx | hx
    · exact h a (by simp) x hx
    · obtain ⟨w, hw, hx⟩ := List.mem_flatMap.1 hx
      rcases List.mem_cons.1 hx with rfl | hx
      · exact hk
      · exact h w (by simp [hw]) x hx

/-- The line without its end. -/
def lineB (x : Step) : Str := Lib.join (lineWords x) [32]
theorem ok_inv {x : Step} (h : okS x = true) : (1 ≤ x.op ∧ x.op ≤ 13) ∧ (x.names.length : Int) = nmZ x.op ∧ (x.by_ = 0 ∨ cntB x.op = true) ∧ isName x.loop = true ∧ x.names.all isName = true := by
  unfold okS validZ at h
  split at h
  · simp at h
  · rename_i hc
    split at h
    · rename_i hn
      simp only [Bool.and_eq_true] at hn
      refine ⟨by omega, by omega, ?_, hn.1, hn.2⟩
      cases hq : cntB x.op with
      | true => exact .inr rfl
      | false =>
        by_cases h0 : x.by_ = 0
        · exact .inl h0
        · exact absurd (.inr (.inr (.inr ⟨h0, hq⟩))) hc
    · simp at h
theorem words_chars {x : Step} (h : okS x = true) : ∀ w ∈ lineWords x, ∀ c ∈ w, c ≠ 32 ∧ c ≠ 10 := by
  obtain ⟨⟨o1, o2⟩, _, _, h4, h5⟩ := ok_inv h
  intro w hw
  unfold lineWords at hw
  simp only [List.cons_append, List.nil_append, List.mem_cons, List.mem_append] at hw
  rcases hw with rfl | rfl | hw | hw
  · exact kw_chars o1 o2
  · exact name_chars h4
  · split at hw
    · simp at hw; subst hw; exact itoa_chars _
    · simp at hw
  · exact name_chars (List.all_eq_true.1 h5 w hw)
theorem line_no {x : Step} (h : okS x = true) : ∀ c ∈ lineB x, c ≠ 10 :=
  join_chars 32 (by decide) _ fun w hw c hc => (words_chars h w hw c hc).2
theorem line_forth {x : Step} (h : okS x = true) (h0 : -2147483647 ≤ x.by_) (h1 : x.by_ ≤ 2147483647) : linE (lineB x) = 0 ∧ linX (lineB x) = x := by
  obtain ⟨⟨o1, o2⟩, o3, o4, _, _⟩ := ok_inv h
  have hW : linW (lineB x) = lineWords x := by
    have hc := words_chars h
    have hl : lineWords x = kwB x.op :: (x.loop :: ((if cntB x.op then [Lib.itoa x.by_] else []) ++ x.names)) := rfl
    unfold linW lineB
    rw [hl] at hc ⊢
    exact splS_of 32 _ _ fun w hw c hcc => (hc w hw c hcc).1
  have hop : linOp (lineB x) = x.op := by
    show opOf ((linW (lineB x)).headD []) = _
    rw [hW]; exact op_kw o1 o2
  have hC : linC (lineB x) = cntB x.op := by show cntB (linOp _) = _; rw [hop]
  obtain ⟨n1, n2⟩ := num_forth h0 h1
  have hv : validZ x = 0 := by unfold okS at h; simpa using h
  cases hq : cntB x.op with
  | true =>
    have hl : lineWords x = kwB x.op :: x.loop :: Lib.itoa x.by_ :: x.names := by unfold lineWords; rw [hq]; rfl
    have hX : linX (lineB x) = x := by unfold linX; rw [hC, hq, if_pos rfl, hop, hW, hl]; show (⟨_, x.loop, numV (Lib.itoa x.by_), x.names⟩ : Step) = x; rw [n2]
    refine ⟨?_, hX⟩
    unfold linE
    rw [hop, hW, hC, hq, hX, hv, hl]
    rw [if_neg, if_neg]
    · rintro ⟨_, h⟩; exact h n1
    · have hM : linM (lineB x) = 3 + nmZ x.op := by unfold linM; rw [hC, hq, hop, if_pos rfl]; omega
      rw [hM]
      simp only [List.length_cons]
      omega
  | false =>
    have hb : x.by_ = 0 := by rcases o4 with h | h
                              · exact h
                              · rw [hq] at h; cases h
    have hl : lineWords x = kwB x.op :: x.loop :: x.names := by unfold lineWords; rw [hq]; rfl
    have hX : linX (lineB x) = x := by unfold linX; rw [hC, hq, if_neg (by simp), hop, hW, hl]; show (⟨_, x.loop, 0, x.names⟩ : Step) = x; rw [← hb]
    refine ⟨?_, hX⟩
    unfold linE
    rw [hop, hW, hC, hq, hX, hv, hl]
    rw [if_neg, if_neg]
    · rintro ⟨h, _⟩; cases h
    · have hM : linM (lineB x) = 2 + nmZ x.op := by unfold linM; rw [hC, hq, hop, if_neg (by simp)]; omega
      rw [hM]
      simp only [List.length_cons]
      omega

/- texts -/
theorem text_back : ∀ (n : Nat) (out : List Step) (s : Str), s.length ≤ n → (parS out s).e = 0 → textS (parS out s).o = textS out ++ s ∧ (out.all okS = true → (parS out s).o.all okS = true)
  | n, out, [], _, _ => by simp [parS_nil]
  | 0, out, a :: s, h, _ => by simp at h
  | n + 1, out, a :: s, h, he => by
    have h0 : a :: s ≠ [] := by simp
    by_cases h1 : out.length = 64
    · rw [parS_64 h0 h1] at he; simp at he
    · cases hc : cutS 10 (a :: s) with
      | none => rw [parS_no h0 h1 hc] at he; simp at he
      | some p =>
        obtain ⟨l, r⟩ := p
        have hs := cutS_len 10 _ _ _ hc
        have hl := congrArg List.length hs
        simp only [List.length_append, List.length_cons] at hl h
        by_cases hE : linE l = 0
        · rw [parS_go h0 h1 hc hE] at he ⊢
          obtain ⟨i1, i2⟩ := text_back n (out ++ [linX l]) r (by omega) he
          obtain ⟨b1, b2⟩ := line_back hE
          refine ⟨?_, fun ho => i2 (by simp [ho, b2])⟩
          rw [i1, hs]
          simp [textS, b1]
        · rw [parS_bad h0 h1 hc hE] at he; exact absurd he hE
theorem textS_cons (x : Step) (l : List Step) : textS (x :: l) = lineB x ++ 10 :: textS l := by
  simp [textS, lineS, lineB]
theorem text_forth : ∀ (l out : List Step), out.length + l.length ≤ 64 → l.all okS = true → (∀ x ∈ l, -2147483647 ≤ x.by_ ∧ x.by_ ≤ 2147483647) → parS out (textS l) = ⟨out ++ l, 0, []⟩
  | [], out, _, _, _ => by simp [textS, parS_nil]
  | x :: l, out, hl, ha, hb => by
    simp only [List.all_cons, Bool.and_eq_true, List.length_cons] at ha hl
    obtain ⟨b1, b2⟩ := hb x (by simp)
    obtain ⟨e1, e2⟩ := line_forth ha.1 b1 b2
    rw [textS_cons, parS_go (by simp) (by omega) (cutS_at 10 _ _ (line_no ha.1)) e1, e2, text_forth l _ (by simp; omega) ha.2 fun y hy => hb y (by simp [hy])]
    simp
theorem parS_olen : ∀ (n : Nat) (out : List Step) (s : Str), s.length ≤ n → out.length ≤ 64 → (parS out s).o.length ≤ 64
  | n, out, [], _, ho => by simpa [parS_nil] using ho
  | 0, out, a :: s, h, _ => by simp at h
  | n + 1, out, a :: s, h, ho => by
    have h0 : a :: s ≠ [] := by simp
    by_cases h1 : out.length = 64
    · rw [parS_64 h0 h1]; exact ho
    · cases hc : cutS 10 (a :: s) with
      | none => rw [parS_no h0 h1 hc]; exact ho
      | some p =>
        obtain ⟨l, r⟩ := p
        have hl := congrArg List.length (cutS_len 10 _ _ _ hc)
        simp only [List.length_append, List.length_cons] at hl h
        by_cases he : linE l = 0
        · rw [parS_go h0 h1 hc he]
          exact parS_olen n (out ++ [linX l]) r (by omega) (by simp; omega)
        · rw [parS_bad h0 h1 hc he]; exact ho
theorem numV_in (w : Str) : -2147483648 ≤ numV w ∧ numV w ≤ 2147483648 := by
  unfold numV
  split
  · rename_i h
    unfold numE at h
    split at h
    · omega
    · split at h
      · rename_i ha
        have := numN_val _ (digS w) rfl ha
        split <;> omega
      · omega
  · omega
theorem linX_by (s : Str) : -9223372036854775808 ≤ (linX s).by_ ∧ (linX s).by_ ≤ 9223372036854775807 := by
  unfold linX
  split
  · have := numV_in (((linW s)[2]?).getD []); simp only; omega
  · simp
theorem parS_by : ∀ (n : Nat) (out : List Step) (s : Str), s.length ≤ n → (∀ x ∈ out, -9223372036854775808 ≤ x.by_ ∧ x.by_ ≤ 9223372036854775807) → ∀ x ∈ (parS out s).o, -9223372036854775808 ≤ x.by_ ∧ x.by_ ≤ 9223372036854775807
  | n, out, [], _, ho => by simpa [parS_nil] using ho
  | 0, out, a :: s, h, _ => by simp at h
  | n + 1, out, a :: s, h, ho => by
    have h0 : a :: s ≠ [] := by simp
    by_cases h1 : out.length = 64
    · rw [parS_64 h0 h1]; exact ho
    · cases hc : cutS 10 (a :: s) with
      | none => rw [parS_no h0 h1 hc]; exact ho
      | some p =>
        obtain ⟨l, r⟩ := p
        have hl := congrArg List.length (cutS_len 10 _ _ _ hc)
        simp only [List.length_append, List.length_cons] at hl h
        by_cases he : linE l = 0
        · rw [parS_go h0 h1 hc he]
          exact parS_by n (out ++ [linX l]) r (by omega) fun x hx => by
            rcases List.mem_append.1 hx with hx | hx
            · exact ho x hx
            · simp at hx; subst hx; exact linX_by l
        · rw [parS_bad h0 h1 hc he]; exact ho

def lv1 : Step := ⟨1, [105], 4, [[105, 111], [105, 105]]⟩
def lv2 : Step := ⟨4, [105, 111], 0, []⟩
def lvT : Str := [115, 112, 108, 105, 116, 32, 105, 32, 52, 32, 105, 111, 32, 105, 105, 10, 114, 101, 118, 101, 114, 115, 101, 32, 105, 111, 10]
end Go.Proofs.YtcphiogbjdehhaaDoor
