/- Proved here: for every input the law TraceOrder returns true, and its arguments read afterwards as they read before. Condition: none beyond the statement's own. -/
import Derived.Test.YtkgphhemcglgnaaGreatDoorP7
import Derived.HandedShaped
import Derived.Handy
import Derived.Lay
import Derived.ProofKit
import Derived.SevenTiedAt
import Derived.Shelf.Vars
import Derived.Test.YtkgphhemcglgnaaGreatDoorCards
import Derived.Test.YtkgphhemcglgnaaGreatDoorRows
import Derived.Test.YtkgphhemcglgnaaGreatDoorTie
import Derived.WalkKit
set_option linter.unusedVariables false
set_option linter.unusedSimpArgs false
set_option linter.unusedSectionVars false
set_option linter.defProp false
namespace Go.Proofs.YtkgphhemcglgnaaGreatDoor
open Go HY
def Ch (l : List Q0) : List Int → List Q0 → Prop
 | [], ss => ss = []
 | i :: q, ss => ∃ (a : Q0) (t : List Q0), 0 ≤ i ∧ l[i.toNat]? = some a ∧ ss = a :: t ∧ Ch a.f.fd q t
def bsOf : List Q0 → List Qg
 | [] => []
 | [_] => []
 | a :: b :: t => (if a.f.fOp = 1 then [⟨a.f.fc, a.f.fE⟩] else []) ++ bsOf (b :: t)
def Rng : List Qg → List Int → Prop
 | [], r => r = []
 | b :: t, r => ∃ v r', r = v :: r' ∧ 0 ≤ v ∧ v < b.fp ∧ Rng t r'
theorem ch_of : ∀ (q : List Int) (a : Q0) (r : List Int), InS a.f q r → ∃ ss, Ch a.f.fd q ss ∧ ss.length = q.length ∧ Rng (bsOf (a :: ss)) r
 | [], a, r, h => ⟨[], rfl, rfl, h⟩
 | i :: q, a, r, h => by
  obtain ⟨b, h1, h2, h3⟩ := h
  by_cases h0 : a.f.fOp = 1
  ·rw [if_pos h0] at h3
   obtain ⟨v, r', rfl, h4, h5, h6⟩ := h3
   obtain ⟨ss, g1, g2, g3⟩ := ch_of q b r' h6
   refine ⟨b :: ss, ⟨b, ss, h1, h2, rfl, g1⟩, by simp [g2], ?_⟩
   rw [bsOf, if_pos h0]
   exact ⟨v, r', rfl, h4, h5, g3⟩
  ·rw [if_neg h0] at h3
   obtain ⟨ss, g1, g2, g3⟩ := ch_of q b r h3
   refine ⟨b :: ss, ⟨b, ss, h1, h2, rfl, g1⟩, by simp [g2], ?_⟩
   rw [bsOf, if_neg h0]
   exact g3
theorem ch_B {l : List Q0} {q r : List Int} (h : InB l q r) : ∃ ss, Ch l q ss ∧ ss.length = q.length ∧ ss ≠ [] ∧ Rng (bsOf ss) r := by
 cases q with
 | nil => exact absurd h id
 | cons i q =>
  obtain ⟨a, h1, h2, h3⟩ := h
  obtain ⟨ss, g1, g2, g3⟩ := ch_of q a r h3
  exact ⟨a :: ss, ⟨a, ss, h1, h2, rfl, g1⟩, by simp [g2], by simp, g3⟩
theorem LS : ∀ {bs : List Qg} {r : List Int}, Rng bs r → bs.length = r.length
 | [], r, h => by rw [show r = [] from h]; rfl
 | b :: t, r, h => by
  obtain ⟨v, r', rfl, _, _, h⟩ := h
  simp [LS h]
theorem Q30 : ∀ {bs : List Qg} {r : List Int}, Rng bs r → ∀ (k : Nat) (v : Int) (b : Qg), r[k]? = some v → bs[k]? = some b → 0 ≤ v ∧ v < b.fp
 | [], r, h, k, v, b, hv, hb => by simp at hb
 | c :: t, r, h, k, v, b, hv, hb => by
  obtain ⟨w, r', rfl, h1, h2, h⟩ := h
  cases k with
  | zero => simp at hv hb; subst hv; subst hb; exact ⟨h1, h2⟩
  | succ k => exact Q30 h k v b (by simpa using hv) (by simpa using hb)
theorem Q3v (path : List Int) (hp : path.length ≤ 1000) : ∀ (q p : List Int) (l acc ss : List Q0), path = p ++ q → Ch l q ss → acc.length = p.length → XW l acc path path.length p.length = some (.inl (acc ++ ss))
 | [], p, l, acc, ss, e, hc, ha => by
  rw [XW, if_neg (by rw [e]; simp), show ss = [] from hc]; simp
 | i :: q, p, l, acc, ss, e, hc, ha => by
  obtain ⟨a, t, h1, h2, rfl, h3⟩ := hc
  have hlen : (p.length : Int) < (path.length : Int) := by rw [e]; simp; omega
  have hil : i.toNat < l.length := (cqd.1 h2).1
  have hix : ix l i = some a := by unfold ix; rw [if_pos h1]; exact h2
  rw [XW, if_pos hlen, Vo e, bS, bS, if_neg (by omega), bS, if_neg (by omega), bS, if_neg (by decide)]
  simp only [hix, omS, bS]
  rw [if_pos (by omega), YU (by omega) hlen (by omega), Q0.mk_f]
  have := Q3v path hp q (p ++ [i]) a.f.fd (acc ++ [a]) t (by rw [e]; simp) h3 (by simp [ha])
  rw [show ((p ++ [i]).length : Int) = (p.length : Int) + 1 by simp] at this
  rw [this]; simp
theorem Q3t (ss : List Q0) (hs : ss.length ≤ 1000) : ∀ (t p : List Q0) (acc : List Qg), ss = p ++ t → t ≠ [] → acc.length ≤ p.length → X1 acc ss ((ss.length : Int) - 1) p.length = some (acc ++ bsOf t)
 | [a], p, acc, e, _, ha => by
  rw [X1, if_neg (by rw [e]; simp)]; simp [bsOf]
 | a :: b :: t, p, acc, e, _, ha => by
  have hl2 : ss.length = p.length + (t.length + 2) := by rw [e]; simp
  have hlen : (p.length : Int) < (ss.length : Int) - 1 := by omega
  have ih := fun acc' (h : acc'.length ≤ (p ++ [a]).length) => Q3t ss hs (b :: t) (p ++ [a]) acc' (by rw [e]; simp) (by simp) h
  rw [show ((p ++ [a]).length : Int) = (p.length : Int) + 1 by simp] at ih
  rw [X1, if_pos hlen, bS]
  simp only [Vo e, omS, bS]
  rw [bsOf, ZB (by omega)]
  by_cases h1 : a.f.fOp = 1
  ·have := ih (acc ++ [⟨a.f.fc, a.f.fE⟩]) (by simp; omega)
   rw [if_pos (by simpa using h1), if_pos (by omega)]
   simp only [bS]
   rw [if_pos h1, this]; simp
  ·have := ih acc (by simp; omega)
   rw [if_neg (by simpa using h1)]
   simp only [bS]
   rw [if_neg h1, this]; simp
theorem s_encl (n : Qp) (q r : List Int) (hq : q.length ≤ 900) (h : InB n.fd q r) : ∃ bs, V4 n q = some bs ∧ Rng bs r := by
 obtain ⟨ss, h1, h2, h3, h4⟩ := ch_B h
 refine ⟨bsOf ss, ?_, h4⟩
 have e1 : JP n.fd q = some ss := by
  unfold JP
  rw [bS, bS]
  have := Q3v q (by omega) q [] n.fd [] ss rfl h1 rfl
  rw [show (([] : List Int).length : Int) = 0 from rfl] at this
  rw [this, bS]; rfl
 have hpos := List.length_pos_iff.2 h3
 have e2 : (if true = true then max (0 : Int) (wr ((ss.length : Int) - 1)) else min (0 : Int) (wr ((ss.length : Int) - 1))) = (ss.length : Int) - 1 := by
  rw [if_pos rfl, ZB (by omega)]; omega
 unfold V4
 rw [e1, bS, bS, bS, e2]
 have := Q3t ss (by omega) ss [] [] rfl h3 (by simp)
 rw [show (([] : List Q0).length : Int) = 0 from rfl] at this
 rw [this, bS]; rfl
theorem Q2m (n : Qp) (hb : okBs n.fq) (hl : okSs n.fd) : wp (Jc n) (fun r => (r.2 ≠ 0 ∧ r.1 = []) ∨ (r.2 = 0 ∧ r.1.length ≤ 2048 ∧ ∃ P, K9 n = some P ∧ P.length ≤ 2000 ∧ (∀ p ∈ P, IsP p) ∧ Seg P [] [] (InB n.fd) r.1)) := by
 unfold Jc
 rw [p_valid n hb hl, bS]
 by_cases h0 : (vd n).2 = 0
 ·rw [if_neg (by simpa using h0)]
  obtain ⟨v1, v2, v3⟩ := vd_0 hl h0
  obtain ⟨P, h1, h2, h3, h4⟩ := s_stms n.fd hl [] [] (by simp; omega) (by simp; omega)
  rw [List.nil_append] at h1
  have hst : K9 n = some P := by unfold K9; rw [h1, bS]
  have hP : ∀ p ∈ P, IsP p := fun p hp => by
   obtain ⟨q, q1, q2, q3⟩ := h3 p hp
   rw [List.nil_append] at q1
   subst q1
   exact ⟨by omega, fun k hk => by have := q3 k hk; omega⟩
  obtain ⟨m, g1, g2⟩ := s_nums P (by omega) hP
  rw [hst, bS, bS, bS, g1, bS]
  refine Zv.2 (Qj (s_all P hP n.fd hl 0 [] ⟨m, 0, [], [], []⟩ v3 (by omega) (by simp; omega) (fun q hq => by simpa using h4 q hq) g2 ⟨by simp, by simp, by simp, by simp, by simp, by simp⟩) fun r hr => ?_)
  obtain ⟨a1, a2, a3, a4⟩ := hr
  by_cases h : r.1 = 0
  ·rw [if_neg (by simpa using h)]
   obtain ⟨a5, o, a6, a7, a8⟩ := a4 h
   rw [List.nil_append] at a6
   exact QG.2 (.inr ⟨rfl, a7, P, rfl, by omega, hP, by rw [a6]; exact a8⟩)
  ·rw [if_pos (by simpa using h)]
   exact QG.2 (.inl ⟨h, rfl⟩)
 ·rw [if_pos (by simpa using h0)]
  exact QG.2 (.inl ⟨h0, rfl⟩)
theorem t_Long (n : Qp) (hb : n.fq.length ≤ 140737488351232) (hl : okSs n.fd) : wp (DW n 400) (fun _ => True) := by
 have L : ∀ i : Int, 0 ≤ i → i ≤ n.fq.length → wp (Kv n i) (fun _ => True) := Pf n.fq.length (by
  rw [Kv]; repeat' (first | exact trivial | (intro _) | (refine WC (by omega) (by omega) fun _ _ => ?_) | (simp only [zz, ↓reduceIte]) | (split))) (by
  intro i h0 h1 ih
  have hw : wr (i + 1) = i + 1 := ZB (by omega)
  rw [Kv]
  repeat' (first | exact trivial | (intro _) | (rw [hw]; exact ih) | (refine WC (by omega) (by omega) fun _ _ => ?_) | (simp only [zz, ↓reduceIte]) | (split)))
 have hll := hl.1
 have hwe := Fg n.fd (by omega) hl.2 (fun a ha m => Qa3 a (hl.2 a ha) m) 400
 unfold DW
 repeat' (first | exact trivial | (intro _) | (refine Qj (L 0 (by omega) (by omega)) fun _ _ => ?_) | (refine Qj (hwe) fun _ _ => ?_) | (refine WC (by omega) (by omega) fun _ _ => ?_) | (simp only [zz, ↓reduceIte]) | (split))
set_option maxRecDepth 1000000
theorem IP {e : Nat × List AV × AV × Tr Box × Nat} {T : Uy} (hT : DX Tryz.prog gls T) (he : Vr Tryz.prog gls e.1 e.2.1 e.2.2.1 e.2.2.2.1 e.2.2.2.2) : DX Tryz.prog gls (e :: T) := fun e he2 => by
 rcases List.mem_cons.1 he2 with rfl | h
 ·exact he
 ·exact hT e h
def e0 : Nat × List AV × AV × Tr Box × Nat := (115, [.str [97]], .bool true, .nil, 1)
def memo0 : Uy := e0 :: BZ
theorem BW : DX Tryz.prog gls memo0 := IP RN (La (Nv Jg Iv RN 60 (fl := 100000)) (by kernel_rfl))
def e1 : Nat × List AV × AV × Tr Box × Nat := (115, [.str [99]], .bool true, .nil, 1)
def memo1 : Uy := e1 :: memo0
theorem BX : DX Tryz.prog gls memo1 := IP BW (La (Nv Jg Iv BW 60 (fl := 100000)) (by kernel_rfl))
def e2 : Nat × List AV × AV × Tr Box × Nat := (115, [.str [105]], .bool true, .nil, 1)
def memo2 : Uy := e2 :: memo1
theorem BY : DX Tryz.prog gls memo2 := IP BX (La (Nv Jg Iv BX 60 (fl := 100000)) (by kernel_rfl))
def e3 : Nat × List AV × AV × Tr Box × Nat := (29, [.agg [.sl 8 [.agg [.str [97], .int .i64 1, .int .i64 0, .int .i64 0, .int .i64 0, .int .i64 0, .sl 1 [.agg [.int .i64 2]], .int .i64 1], .agg [.str [99], .int .i64 1, .int .i64 0, .int .i64 0, .int .i64 0, .int .i64 0, .sl 1 [.agg [.int .i64 2]], .int .i64 2]], .sl 20 [.agg [.int .i64 1, .str [105], .int .i64 2, .int .i64 0, .int .i64 0, .nil, .int .i64 0, .str [], .int .i64 0, .int .i64 0, .int .i64 0, .int .i64 0, .int .i64 0, .int .i64 0, .int .i64 0, .int .i64 0, .nil, .nil, .nil, .sl 20 [.agg [.int .i64 2, .str [99], .int .i64 0, .int .i64 0, .int .i64 0, .sl 4 [.agg [.int .i64 0, .sl 2 [.agg [.str [105], .int .i64 1]], .str [], .nil]], .int .i64 3, .str [97], .int .i64 0, .int .i64 0, .int .i64 0, .int .i64 0, .int .i64 0, .int .i64 0, .int .i64 0, .int .i64 0, .nil, .sl 4 [.agg [.int .i64 0, .sl 2 [.agg [.str [105], .int .i64 1]], .str [], .nil]], .nil, .nil]]]]]], .tup [.nil, .int .i64 0], .nil, 1)
def memo3 : Uy := e3 :: memo2
theorem Q9d : DX Tryz.prog gls memo3 := IP BY (La (Nv Jg Iv BY 60 (fl := 100000)) (by kernel_rfl))
theorem ex_run : HY.isTrue (xcallM Tryz.prog gls gds 100000 xe0 memo3 60 12 [] .nil 0) = true := by kernel_rfl
theorem ex_ok : Pu Tryz.prog gls 12 [] (.bool true) := by
 have h := ex_run
 unfold HY.isTrue at h
 split at h
 ·rename_i r hr
  exact Pu.ofCall (Nv Jg Iv Q9d 60 _ _ _ _ _ _ _ hr).zero rfl
 ·cases h
noncomputable def JM : Option Bool := some true
theorem N7 (r : Bool) (h : JM = some r) : PU 12 [] (.bool r) := by
 cases h
 exact ex_ok
end Go.Proofs.YtkgphhemcglgnaaGreatDoor
noncomputable section
namespace Go.Proofs.YtkgphhemcglgnaaGreatDoor
open Go HY
set_option maxRecDepth 1000000
abbrev YD (s : (Qp × (List QE) × (List (List Int)))) (u : ((List (List Int)) × (List Bool) × Int × Int × (List Qg))) (o : Int ⊕ Bool) : List Alt := [⟨fun (x : Int) => (Sum.inl x : Int ⊕ Bool) = o, .exit 2, fun x => [.ptr 0 0 0, .undef, .sl 22 (List.map Qk s.2.1), .sl 1 (List.map eLI s.2.2), .ow 1 0 1 (List.length u.1), .ow 2 0 1 (List.length u.2.1), ii u.2.2.1, ii u.2.2.2.1, .sl 2 (List.map Qe u.2.2.2.2), ii x], fun x => [.cells 0 (Zf s.1).cells, .own 0 1 (List.map eLI u.1), .own 0 1 (List.map eB u.2.1)]⟩, ⟨fun (x : Bool) => (Sum.inr x : Int ⊕ Bool) = o, .ret, fun x => [.ptr 0 0 0, .bool x, .sl 22 (List.map Qk s.2.1), .sl 1 (List.map eLI s.2.2), .ow 1 0 1 (List.length u.1), .ow 2 0 1 (List.length u.2.1), ii u.2.2.1, ii u.2.2.2.1, .sl 2 (List.map Qe u.2.2.2.2), .undef], fun x => [.cells 0 (Zf s.1).cells, .own 0 1 (List.map eLI u.1), .own 0 1 (List.map eB u.2.1)]⟩]
abbrev Gl (s : (Qp × (List QE) × (List (List Int)) × (List (List Int)) × (List Bool) × Int × Int × (List Qg))) (u : (Int × Int)) (o : Bool) : List Alt := jb o (fun b => [.ptr 0 0 0, .sl 22 (List.map Qk (s.2.1)), .sl 1 (List.map eLI (s.2.2.1)), .ow 1 0 1 (List.length (s.2.2.2.1)), .ow 2 0 1 (List.length (s.2.2.2.2.1)), ii (s.2.2.2.2.2.1), ii (s.2.2.2.2.2.2.1), .sl 2 (List.map Qe (s.2.2.2.2.2.2.2)), ii (u.1), ii (u.2), .bool b]) [.cells 0 (Zf (s.1)).cells, .own 0 1 (List.map eLI (s.2.2.2.1)), .own 0 1 (List.map eB (s.2.2.2.2.1))]
abbrev Gm (s : (Qp × (List QE) × (List (List Int)) × (List (List Int)) × (List Bool) × Int × Int × (List Qg))) (u : (Int × Int)) (o : Bool) : List Alt := jb o (fun b => [.ptr 0 0 0, .sl 22 (List.map Qk (s.2.1)), .sl 1 (List.map eLI (s.2.2.1)), .ow 1 0 1 (List.length (s.2.2.2.1)), .ow 2 0 1 (List.length (s.2.2.2.2.1)), ii (s.2.2.2.2.2.1), ii (s.2.2.2.2.2.2.1), .sl 2 (List.map Qe (s.2.2.2.2.2.2.2)), ii (u.1), ii (u.2), .bool b]) [.cells 0 (Zf (s.1)).cells, .own 0 1 (List.map eLI (s.2.2.2.1)), .own 0 1 (List.map eB (s.2.2.2.2.1))]
def ZL (x3 : List QE) (x6 : List (List Int)) (x7 : List Bool) (x8 : Int) (x9 : Int) (x10 : List Qg) (x11 : Int) (x12 : Int) : Option (Int ⊕ Bool) :=
 some (List.length x10 : Int) >>= fun v0 =>
 if x12 < v0 then
 some (x11, x12) >>= fun v1 =>
 (ix x3 x8 >>= fun v3 =>
 ix v3.fAt x12 >>= fun v4 =>
 if v4 < 0 then
 some true
 else
 ix x3 x8 >>= fun v5 =>
 ix v5.fAt x12 >>= fun v6 =>
 ix x10 x12 >>= fun v7 =>
 if v7.fp ≤ v6 then
 some true
 else
 some false) >>= fun v2 => if v2 then
 some (.inr false)
 else
 some (v1.fst, v1.snd) >>= fun v10 =>
 (if 0 ≤ x9 ∧ x9 < (↑x7.length : Int) then
 x7[x9.toNat]? >>= fun v12 =>
 if v12 then
 if v1.fst == v1.snd then
 if 0 ≤ x9 ∧ x9 < (↑x6.length : Int) then
 x6[x9.toNat]? >>= fun v13 =>
 ix v13 v1.snd >>= fun v14 =>
 ix x3 x8 >>= fun v15 =>
 ix v15.fAt v1.snd >>= fun v16 =>
 if v14 == v16 then
 some true
 else
 some false
 else none
 else
 some false
 else
 some false
 else none) >>= fun v11 => if v11 then
 ZL x3 x6 x7 x8 x9 x10 (wr (v10.fst + 1)) (wr (v10.snd + 1))
 else
 ZL x3 x6 x7 x8 x9 x10 v10.fst (wr (v10.snd + 1))
 else
 some (.inl x11)
 partial_fixpoint
theorem Hd (x1 : Qp) (x3 : List QE) (x5 : List (List Int)) (x6 : List (List Int)) (x7 : List Bool) (x8 : Int) (x9 : Int) (x10 : List Qg) (x11 : Int) (x12 : Int) (o : Int ⊕ Bool) (h : ZL x3 x6 x7 x8 x9 x10 x11 x12 = some o) : LO 6 20 171 [1, 3, 5, 6, 7, 8, 9, 10, 11, 12] [.ptr 0 0 0, .sl 22 (List.map Qk x3), .sl 1 (List.map eLI x5), .ow 1 0 1 (List.length x6), .ow 2 0 1 (List.length x7), ii x8, ii x9, .sl 2 (List.map Qe x10), ii x11, ii x12] [.cells 0 (Zf x1).cells, .own 0 1 (List.map eLI x6), .own 0 1 (List.map eB x7)] [1, 2, 3, 5, 6, 7, 8, 9, 10, 11] (YD (x1, x3, x5) (x6, x7, x8, x9, x10) o) :=
 ZL.partial_correctness x3 x6 x7 x8 x9 x10 (fun x11 x12 o => ∀ (x1 : Qp) (x5 : List (List Int)), LO 6 20 171 [1, 3, 5, 6, 7, 8, 9, 10, 11, 12] [.ptr 0 0 0, .sl 22 (List.map Qk x3), .sl 1 (List.map eLI x5), .ow 1 0 1 (List.length x6), .ow 2 0 1 (List.length x7), ii x8, ii x9, .sl 2 (List.map Qe x10), ii x11, ii x12] [.cells 0 (Zf x1).cells, .own 0 1 (List.map eLI x6), .own 0 1 (List.map eB x7)] [1, 2, 3, 5, 6, 7, 8, 9, 10, 11] (YD (x1, x3, x5) (x6, x7, x8, x9, x10) o))
 (fun ZL Qd0 x11 x12 o h x1 x5 =>
 Lp4 (hs := [(73, .n eI 73 none), (74, .split), (79, .e Qk), (83, .e eI), (85, .split), (89, .e Qk), (93, .e eI), (97, .e Qe), (100, .split), (104, .s), (105, .e eB), (106, .split), (109, .split), (114, .s), (115, .e eLI), (117, .e eI), (121, .e Qk), (125, .e eI), (127, .split), (5000022, .l [] [] [] [1, 3, 5, 6, 7, 8, 9, 10, 11, 12, 101] [kk 1, { slot := 6, own := 1 }, { slot := 7, own := 1 }] (Gl (x1, x3, x5, x6, x7, x8, x9, x10))), (5000024, .l [] [] [] [1, 3, 5, 6, 7, 8, 9, 10, 11, 12, 128] [kk 1, { slot := 6, own := 1 }, { slot := 7, own := 1 }] (Gm (x1, x3, x5, x6, x7, x8, x9, x10)))]) (kb := [kk 1, { slot := 6, own := 1 }, { slot := 7, own := 1 }]) (kbx := [kk 1, { slot := 6, own := 1 }, { slot := 7, own := 1 }]) rfl h (q := qN (hA := fun v0 => qD (hA := qB (Gl (x1, x3, x5, x6, x7, x8, x9, x10)) (hA := fun v1 => ⟨fun _ => kX (alts := YD (x1, x3, x5) (x6, x7, x8, x9, x10)) (.inr false) (.next (.here _ rfl (.cons lr (.cons lr (.cons lr (.cons lr (.cons lr (.cons lr (.cons lr (.cons lr (.cons lr (.cons (LeV.undef (ii v1.fst)) .nil)))))))))) (.refl _)))⟩) (hB := fun v1 => qB (Gm (x1, x3, x5, x6, x7, x8, x9, x10)) (hA := fun v10 => ⟨fun _ => kM0 (alts := YD (x1, x3, x5) (x6, x7, x8, x9, x10)) (fun y hy => Qd0 (wr (v10.fst + 1)) (wr (v10.snd + 1)) y hy x1 x5)⟩) (hB := fun v10 => ⟨fun _ => kM0 (alts := YD (x1, x3, x5) (x6, x7, x8, x9, x10)) (fun y hy => Qd0 v10.fst (wr (v10.snd + 1)) y hy x1 x5)⟩)))))) x11 x12 o h x1 x5
abbrev VB (s : Qp) (u : ((List QE) × (List (List Int)))) (o : Unit ⊕ Bool) : List Alt := [⟨fun (x : Unit) => (Sum.inl x : Unit ⊕ Bool) = o, .exit 0, fun x => [.undef], fun x => []⟩, ⟨fun (x : Bool) => (Sum.inr x : Unit ⊕ Bool) = o, .ret, fun x => [.bool x], fun x => []⟩]
abbrev Gk (s : (Qp × (List QE) × (List (List Int)))) (u : ((List (List Int)) × (List Bool) × Int × Int)) (o : Bool) : List Alt := jb o (fun b => [.ptr 0 0 0, .sl 22 (List.map Qk (s.2.1)), .sl 1 (List.map eLI (s.2.2)), .ow 1 0 1 (List.length (u.1)), .ow 2 0 1 (List.length (u.2.1)), ii (u.2.2.1), ii (u.2.2.2), .bool b]) [.cells 0 (Zf (s.1)).cells, .own 0 1 (List.map eLI (u.1)), .own 0 1 (List.map eB (u.2.1))]
abbrev Gn (s : (Qp × (List QE) × (List (List Int)))) (u : ((List (List Int)) × (List Bool) × Int × Int)) (o : Bool) : List Alt := jb o (fun b => [.ptr 0 0 0, .sl 22 (List.map Qk (s.2.1)), .sl 1 (List.map eLI (s.2.2)), .ow 1 0 1 (List.length (u.1)), .ow 2 0 1 (List.length (u.2.1)), ii (u.2.2.1), ii (u.2.2.2), .bool b]) [.cells 0 (Zf (s.1)).cells, .own 0 1 (List.map eLI (u.1)), .own 0 1 (List.map eB (u.2.1))]
def ZK (x1 : Qp) (x3 : List QE) (x5 : List (List Int)) (x6 : List (List Int)) (x7 : List Bool) (x8 : Int) : Option (Unit ⊕ Bool) :=
 some (List.length x3 : Int) >>= fun v0 =>
 if x8 < v0 then
 ix x3 x8 >>= fun v1 =>
 some (x6, x7, x8, v1.fM) >>= fun v2 =>
 (if v1.fM < 0 then
 some true
 else
 some (List.length x5 : Int) >>= fun v4 =>
 if v4 ≤ v1.fM then
 some true
 else
 some false) >>= fun v3 => if v3 then
 some (.inr false)
 else
 ix x5 v2.snd.snd.snd >>= fun v7 =>
 V4 x1 v7 >>= fun v8 =>
 some (List.length v8 : Int) >>= fun v9 =>
 ix x3 v2.snd.snd.fst >>= fun v10 =>
 some (List.length v10.fAt : Int) >>= fun v11 =>
 if v9 != v11 then
 some (.inr false)
 else
 some (v2.fst, v2.snd.fst, v2.snd.snd.fst, v2.snd.snd.snd, v8) >>= fun v12 =>
 ZL x3 v2.fst v2.snd.fst v2.snd.snd.fst v2.snd.snd.snd v8 0 0 >>= fun v13 => (match v13 with
 | (.inl v14) =>
 some (v12.fst, v12.snd.fst, v12.snd.snd.fst, v12.snd.snd.snd.fst) >>= fun v15 =>
 (if 0 ≤ v12.snd.snd.snd.fst ∧ v12.snd.snd.snd.fst < (↑v12.snd.fst.length : Int) then
 v12.snd.fst[v12.snd.snd.snd.fst.toNat]? >>= fun v17 =>
 if v17 then
 if v14 == (↑(List.map Qe v12.snd.snd.snd.snd).length : Int) then
 some (List.length v12.snd.snd.snd.snd : Int) >>= fun v18 =>
 some true
 else
 if 0 ≤ v12.snd.snd.snd.fst ∧ v12.snd.snd.snd.fst < (↑v12.fst.length : Int) then
 v12.fst[v12.snd.snd.snd.fst.toNat]? >>= fun v19 =>
 ix v19 v14 >>= fun v20 =>
 ix x3 v12.snd.snd.fst >>= fun v21 =>
 ix v21.fAt v14 >>= fun v22 =>
 some (List.length v12.snd.snd.snd.snd : Int) >>= fun v23 =>
 if v22 < v20 then
 some true
 else
 some false
 else none
 else
 some false
 else none) >>= fun v16 => if v16 then
 some (.inr false)
 else
 ix x3 v15.snd.snd.fst >>= fun v26 =>
 if 0 ≤ v15.snd.snd.snd ∧ v15.snd.snd.snd < (↑v15.fst.length : Int) then
 if v15.snd.snd.snd.toNat < (List.map eLI v15.fst).length then
 some (List.set v15.fst v15.snd.snd.snd.toNat v26.fAt) >>= fun v27 =>
 if 0 ≤ v15.snd.snd.snd ∧ v15.snd.snd.snd < (↑v15.snd.fst.length : Int) then
 if v15.snd.snd.snd.toNat < (List.map eB v15.snd.fst).length then
 some (List.set v15.snd.fst v15.snd.snd.snd.toNat true) >>= fun v28 =>
 ZK x1 x3 x5 v27 v28 (wr (v15.snd.snd.fst + 1))
 else none
 else none
 else none
 else none
 | (.inr v29) =>
 some (.inr v29))
 else
 some (.inl ())
 partial_fixpoint
theorem Hb (x1 x3 x5 x6 x7 x8 o) (h : ZK x1 x3 x5 x6 x7 x8 = some o) : LO 6 10 171 [1, 3, 5, 6, 7, 8] [.ptr 0 0 0, .sl 22 (List.map Qk x3), .sl 1 (List.map eLI x5), .ow 1 0 1 (List.length x6), .ow 2 0 1 (List.length x7), ii x8] [.cells 0 (Zf x1).cells, .own 0 1 (List.map eLI x6), .own 0 1 (List.map eB x7)] [2] (VB x1 (x3, x5) o) :=
 ZK.partial_correctness x1 x3 x5 (fun x6 x7 x8 o => LO 6 10 171 [1, 3, 5, 6, 7, 8] [.ptr 0 0 0, .sl 22 (List.map Qk x3), .sl 1 (List.map eLI x5), .ow 1 0 1 (List.length x6), .ow 2 0 1 (List.length x7), ii x8] [.cells 0 (Zf x1).cells, .own 0 1 (List.map eLI x6), .own 0 1 (List.map eB x7)] [2] (VB x1 (x3, x5) o))
 (fun ZK Qcz x6 x7 x8 o h  =>
 Lp4 (hs := [(39, .n eI 39 none), (40, .split), (45, .e Qk), (49, .split), (53, .n eI 53 none), (54, .split), (59, .e eLI), (61, .c Z3), (63, .n eI 63 none), (66, .e Qk), (69, .n eI 69 none), (70, .split), (133, .s), (134, .e eB), (135, .split), (138, .n eI 138 none), (139, .split), (143, .s), (144, .e eLI), (146, .e eI), (150, .e Qk), (154, .e eI), (156, .split), (165, .e Qk), (168, .s), (1000168, .n eLI 168 (some .s)), (169, .s), (1000169, .n eB 169 (some .s)), (3000021, .l [] [1, 3, 5, 6, 7, 8, 9, 10, 11, 12] [kk 1, { slot := 6, own := 1 }, { slot := 7, own := 1 }] [1, 2, 3, 5, 6, 7, 8, 9, 10, 11] [kk 1, { slot := 6, own := 1 }, { slot := 7, own := 1 }] (YD (x1, x3, x5))), (5000013, .l [] [] [] [1, 3, 5, 6, 7, 8, 9, 55] [kk 1, { slot := 6, own := 1 }, { slot := 7, own := 1 }] (Gk (x1, x3, x5))), (5000026, .l [] [] [] [1, 3, 5, 6, 7, 8, 9, 158] [kk 1, { slot := 6, own := 1 }, { slot := 7, own := 1 }] (Gn (x1, x3, x5)))]) (kb := [kk 1, { slot := 6, own := 1 }, { slot := 7, own := 1 }]) (kbx := []) rfl h (q := qN (hA := fun v0 => qD (hA := qIx (hA := fun v1 => qB (Gk (x1, x3, x5)) (hB := fun v2 => qIx (hA := fun v7 => qC (hA := fun v8 => qN (hA := fun v9 => qIx (hA := fun v10 => qN (hA := fun v11 => qIf (hB := qL2 (hL := ⟨Hd x1 x3 x5 v2.fst v2.snd.fst v2.snd.snd.fst v2.snd.snd.snd v8 0 0⟩) (hA := fun v12 v14 => qB (Gn (x1, x3, x5)) (hB := fun v15 => qIx (hA := fun v26 => qG (hA := qG (hA := ⟨fun _ => kBE (sh := eLI) (List.set v15.fst v15.snd.snd.snd.toNat v26.fAt) (mS (sh := eLI) v15.fst v15.snd.snd.snd.toNat v26.fAt) fun v27 ev27 => (kG (p := 0 ≤ v15.snd.snd.snd ∧ v15.snd.snd.snd < (↑v15.snd.fst.length : Int)) (kG (p := v15.snd.snd.snd.toNat < (List.map eB v15.snd.fst).length) (kBE (sh := eB) (List.set v15.snd.fst v15.snd.snd.snd.toNat true) (mS (sh := eB) v15.snd.fst v15.snd.snd.snd.toNat true) fun v28 ev28 => (kM (alts := VB x1 (x3, x5)) (.cons lr (.cons lr (.cons lr (.cons (LeV.owl (by simp [ev28, ev27] : v15.fst.length = List.length v27)) (.cons (LeV.owl (by simp [ev28, ev27] : v15.snd.fst.length = List.length v28)) (.cons lr .nil)))))) (.refl _) (Qcz v27 v28 (wr (v15.snd.snd.fst + 1)))))))⟩))))))))))))))))) x6 x7 x8 o h
@[reducible,instance] def Q2e x1 x3 x5 x6 x7 x8 := Ll.mk (Hb x1 x3 x5 x6 x7 x8)
def Ut (x0 : Qp) : Option Bool :=
 DW x0 400 >>= fun v0 => if v0 then
 JM >>= fun v1 =>
 some v1
 else
 Jc x0 >>= fun v2 =>
 if v2.snd != 0 then
 some (List.length v2.fst : Int) >>= fun v3 =>
 if v3 == 0 then
 JM >>= fun v4 =>
 some v4
 else
 some false
 else
 K9 x0 >>= fun v5 =>
 some (List.length v5 : Int) >>= fun v6 =>
 if 0 ≤ v6 ∧ (24 : Nat) * v6.toNat ≤ (140737488355328 : Nat) then
 some (List.replicate v6.toNat ([] : List Int)) >>= fun v7 =>
 some (List.length v5 : Int) >>= fun v8 =>
 if 0 ≤ v8 ∧ (1 : Nat) * v8.toNat ≤ (140737488355328 : Nat) then
 some (List.replicate v8.toNat false) >>= fun v9 =>
 some (v2.fst, v5) >>= fun v10 =>
 ZK x0 v2.fst v5 v7 v9 0 >>= fun v11 => (match v11 with
 | (.inl v12) =>
 JM >>= fun v13 =>
 some v13
 | (.inr v14) =>
 some v14)
 else none
 else none
theorem Ri (x0 r) (h : Ut x0 = some r) : PU 6 [Zf x0] (eB r) :=
 Pu4 (hs := [(14, .cb), (15, .c eB), (18, .c DB), (22, .split), (24, .n eI 24 none), (25, .split), (27, .c eB), (30, .c eLLI), (32, .n eI 32 none), (33, .n eLI 33 (some (.cc (.sl 1 [])))), (35, .n eI 35 none), (36, .n eB 36 (some (.cc (.bool false)))), (170, .c eB), (3000011, .l [] [1, 3, 5, 6, 7, 8] [kk 1, { slot := 6, own := 1 }, { slot := 7, own := 1 }] [2] [] (VB x0))]) (Ut.eq_1 x0) h (q := qC (hA := fun _ => qIf (hA := qC (hP := ⟨N7⟩)) (hB := qC (hA := fun v2 => qIf (hA := qN (hA := fun v3 => qIf (hA := qC (hP := ⟨N7⟩)))) (hB := qC (hA := fun v5 => qN (hA := fun v6 => qT (rfl : v6 = v6) (hA := qG (hA := qO (List.map_replicate (f := eLI) (n := v6.toNat) (a := ([] : List Int))) (List.length_replicate .. : List.length (List.replicate v6.toNat ([] : List Int)) = _) (hA := fun v7 => qN (hA := fun v8 => qT (rfl : v8 = v8) (hA := qG (hA := qO (List.map_replicate (f := eB) (n := v8.toNat) (a := false)) (List.length_replicate .. : List.length (List.replicate v8.toNat false) = _) (hA := fun v9 => qL2 (hA := fun v10 v12 => qC (hP := ⟨N7⟩))))))))))))))))
theorem lex_at : ∀ {a b : List Int}, IL a b → a.length = b.length → ∃ c : Nat, c < a.length ∧ (∀ k, k < c → a[k]? = b[k]?) ∧ ∃ x y, a[c]? = some x ∧ b[c]? = some y ∧ x < y
 | [], _, h, _ => absurd h (by simp [IL])
 | _ :: _, [], h, _ => absurd h (by simp [IL])
 | x :: s, y :: t, h, hl => by
  rcases h with h | ⟨rfl, h⟩
  ·exact ⟨0, by simp, fun k hk => absurd hk (Nat.not_lt_zero k), x, y, rfl, rfl, h⟩
  ·obtain ⟨c, h1, h2, u, v, h3, h4, h5⟩ := lex_at h (by simpa using hl)
   refine ⟨c + 1, by simp; omega, fun k hk => ?_, u, v, by simpa using h3, by simpa using h4, h5⟩
   cases k with
   | zero => rfl
   | succ k => simpa using h2 k (by omega)
theorem s_l20 (l : List QE) (last : List (List Int)) (met : List Bool) (i s : Nat) (loops : List Qg) (x : QE) (hx : l[i]? = some x) (hr : Rng loops x.fAt) (hn : loops.length ≤ 1000)
  (m : Bool) (hm : met[s]? = some m) (L : List Int) (hL : last[s]? = some L) (c : Nat)
  (hc : m = false ∧ c = 0 ∨ m = true ∧ (∀ k, k < c → L[k]? = x.fAt[k]?) ∧ c < x.fAt.length ∧ L.length = x.fAt.length ∧ L[c]? ≠ x.fAt[c]?) :
  ∀ (d k : Nat), k + d = loops.length → ZL l last met i s loops (if m = true then ((min c k : Nat) : Int) else 0) k = some (.inl (if m = true then ((c : Nat) : Int) else 0))
 | 0, k, hk => by
  rw [ZL, bS, if_neg (by omega)]
  cases m with
  | false => rfl
  | true =>
   have hcl : c < x.fAt.length := by
    rcases hc with ⟨h, _⟩ | ⟨_, _, h, _⟩
    ·cases h
    ·exact h
   have := LS hr
   simp only [if_true]
   congr 2
   omega
 | d + 1, k, hk => by
  have ih := s_l20 l last met i s loops x hx hr hn m hm L hL c hc d (k + 1) (by omega)
  have hlen := LS hr
  have hka : k < x.fAt.length := by omega
  have hv : x.fAt[k]? = some x.fAt[k] := cqc hka
  have hb : loops[k]? = some loops[k] := cqc (by omega)
  obtain ⟨r1, r2⟩ := Q30 hr k _ _ hv hb
  have hs1 : s < met.length := (cqd.1 hm).1
  have hs2 : s < last.length := (cqd.1 hL).1
  rw [ZL, bS, if_pos (by omega)]
  simp only [bS, ixN hx, ixN hv, ixN hb]
  rw [if_neg (by omega), if_neg (by omega)]
  simp only [bS, cqk, if_false, cqm, hm]
  rw [if_pos (by omega)]
  rw [show wr ((k : Int) + 1) = ((k + 1 : Nat) : Int) by rw [ZB (by omega)]; omega]
  cases m with
  | false =>
   simp only [cqk, if_false, bS] at ih ⊢
   exact ih
  | true =>
   rcases hc with ⟨h, _⟩ | ⟨_, c1, c2, c3, c4⟩
   ·cases h
   simp only [if_true] at ih ⊢
   have hLk : L[k]? = some (L[k]'(by omega)) := cqc (by omega)
   by_cases hkc : c < k
   ·
    rw [show min c k = c by omega, if_neg (by simp; omega)]
    rw [show min c (k + 1) = c by omega] at ih
    simp only [bS, cqk, if_false]
    exact ih
   ·rw [show min c k = k by omega, if_pos (by simp), if_pos (by omega)]
    simp only [hL, bS, ixN hLk, ixN hx, ixN hv]
    by_cases heq : k = c
    ·subst heq
     have hne : ¬ (L[k]'(by omega)) = x.fAt[k] := fun e => c4 (by rw [hLk, hv, e])
     rw [if_neg (by simpa using hne)]
     rw [show min k (k + 1) = k by omega] at ih
     simp only [bS, cqk, if_false]
     exact ih
    ·have he : (L[k]'(by omega)) = x.fAt[k] := by
      have := c1 k (by omega)
      rw [hLk, hv] at this
      exact Option.some.inj this
     rw [if_pos (by simpa using he)]
     rw [show min c (k + 1) = k + 1 by omega] at ih
     simp only [bS, if_true]
     rw [show wr ((k : Int) + 1) = ((k + 1 : Nat) : Int) by rw [ZB (by omega)]; omega]
     exact ih
def Kept (l : List QE) (i : Nat) (last : List (List Int)) (met : List Bool) : Prop := ∀ s : Nat, met[s]? = some true → ∃ (k : Nat) (y : QE), k < i ∧ l[k]? = some y ∧ y.fM = (s : Int) ∧ last[s]? = some y.fAt
theorem s_l10 (n : Qp) (l : List QE) (P : List (List Int)) (hl : l.length ≤ 2048) (hn : P.length ≤ 2000) (hP : ∀ p ∈ P, IsP p) (hs : Seg P [] [] (InB n.fd) l) :
  ∀ (d i : Nat) (last : List (List Int)) (met : List Bool), i + d = l.length → last.length = P.length → met.length = P.length → Kept l i last met → ZK n l P last met i = some (.inl ())
 | 0, i, last, met, hi, h1, h2, hk => by
  rw [ZK, bS, if_neg (by omega)]
 | d + 1, i, last, met, hi, h1, h2, hk => by
  have hil : i < l.length := by omega
  have hx : l[i]? = some l[i] := cqc hil
  generalize l[i] = x at hx
  have hxm : x ∈ l := cqr hx
  obtain ⟨j, q, r, c1, c2, c3, c4⟩ := hs.1 x hxm
  rw [List.nil_append] at c2 c3
  have hjP : j < P.length := (cqd.1 c2).1
  have hq := hP q (cqr c2)
  obtain ⟨bs, e1, e2⟩ := s_encl n q r (by have := hq.1; omega) c4
  rw [← c3] at e2
  have hbl := LS e2
  have hm : met[j]? = some (met[j]'(by omega)) := cqc (by omega)
  generalize met[j]'(by omega) = m at hm
  have hL : last[j]? = some (last[j]'(by omega)) := cqc (by omega)
  generalize last[j]'(by omega) = L at hL
  have hb1000 : bs.length ≤ 1000 := by
   obtain ⟨ss, h1, h2, h3, h4⟩ := ch_B c4
   have hle : ∀ ss : List Q0, (bsOf ss).length ≤ ss.length := by
    intro ss
    induction ss with
    | nil => simp [bsOf]
    | cons a t ih =>
     cases t with
     | nil => simp [bsOf]
     | cons b t => rw [bsOf]; split <;> simp at * <;> omega
   have := LS h4
   have := hle ss
   have := hq.1
   rw [c3] at hbl
   omega
  obtain ⟨c, hc, hless⟩ : ∃ c : Nat, (m = false ∧ c = 0 ∨ m = true ∧ (∀ k, k < c → L[k]? = x.fAt[k]?) ∧ c < x.fAt.length ∧ L.length = x.fAt.length ∧ L[c]? ≠ x.fAt[c]?) ∧ (m = true → ∃ u v, L[c]? = some u ∧ x.fAt[c]? = some v ∧ u < v) := by
   cases m with
   | false => exact ⟨0, .inl ⟨rfl, rfl⟩, fun h => by cases h⟩
   | true =>
    obtain ⟨k, y, k1, k2, k3, k4⟩ := hk j hm
    rw [hL] at k4
    have hLy := Option.some.inj k4
    have hym := cqr k2
    obtain ⟨j', q', r', d1, d2, d3, d4⟩ := hs.1 y hym
    rw [List.nil_append] at d2 d3
    have hjj : j' = j := by omega
    subst hjj
    rw [c2] at d2
    have := Option.some.inj d2
    subst this
    obtain ⟨bs', f1, f2⟩ := s_encl n q r' (by have := hq.1; omega) d4
    rw [e1] at f1
    have := Option.some.inj f1
    subst this
    rw [← d3] at f2
    have hyl := LS f2
    have hlt := List.pairwise_iff_getElem.1 hs.2 k i (by omega) hil k1
    rw [cqc (by omega)] at k2
    rw [cqc hil] at hx
    rw [Option.some.inj k2, Option.some.inj hx] at hlt
    have hlt := hlt (by rw [k3, c1])
    obtain ⟨c, g1, g2, u, v, g3, g4, g5⟩ := lex_at hlt (by omega)
    refine ⟨c, .inr ⟨rfl, by rw [hLy]; exact g2, by omega, by rw [hLy]; omega, by rw [hLy, g3, g4]; intro e; have := Option.some.inj e; omega⟩, fun _ => ⟨u, v, by rw [hLy]; exact g3, g4, g5⟩⟩
  have hloop := s_l20 l last met i j bs x hx e2 hb1000 m hm L hL c hc bs.length 0 (by omega)
  rw [show (if m = true then ((min c 0 : Nat) : Int) else 0) = 0 by split <;> simp] at hloop
  have ih := s_l10 n l P hl hn hP hs d (i + 1) (last.set j x.fAt) (met.set j true) (by omega) (by simp [h1]) (by simp [h2]) (fun s hs' => by
   by_cases hsj : j = s
   ·subst hsj
    exact ⟨i, x, by omega, hx, c1, by rw [List.getElem?_set_self (by omega)]⟩
   ·rw [List.getElem?_set_ne hsj] at hs'
    obtain ⟨k, y, k1, k2, k3, k4⟩ := hk s hs'
    exact ⟨k, y, by omega, k2, k3, by rw [List.getElem?_set_ne hsj]; exact k4⟩)
  have hw : wr ((i : Int) + 1) = ((i + 1 : Nat) : Int) := by rw [ZB (by omega)]; omega
  rw [ZK, bS, if_pos (by omega)]
  simp only [ixN hx, bS, c1, ixN c2, e1]
  rw [if_neg (by omega), if_neg (by omega), bS, if_neg (by decide), if_neg (by simp [hbl])]
  rw [show ((0 : Nat) : Int) = 0 from rfl] at hloop
  rw [hloop, bS]
  simp only [cqm, hm, hL, bS]
  rw [if_pos (by omega)]
  have fin : (if (0 : Int) ≤ (j : Int) ∧ (j : Int) < (last.length : Int) then if j < (List.map eLI last).length then if (0 : Int) ≤ (j : Int) ∧ (j : Int) < (met.length : Int) then if j < (List.map eB met).length then ZK n l P (last.set j x.fAt) (met.set j true) (wr ((i : Int) + 1)) else none else none else none else none) = some (.inl ()) := by
   rw [if_pos (by omega), if_pos (by simp; omega), if_pos (by omega), if_pos (by simp; omega), hw]
   exact ih
  cases m with
  | false =>
   simp only [cqk, if_false, bS, cqm] at fin ⊢
   exact fin
  | true =>
   obtain ⟨u, v, g1, g2, g3⟩ := hless rfl
   have hcl : c < x.fAt.length := (cqd.1 g2).1
   simp only [if_true]
   rw [if_neg (by simp [hbl]; omega), if_pos (by omega)]
   simp only [ixN g1, ixN g2, ixN hx, bS]
   rw [if_neg (by omega)]
   simp only [bS, cqk, if_false, cqm] at fin ⊢
   exact fin
theorem s_law (n : Qp) (hb : okBs n.fq) (hl : okSs n.fd) : Ut n = some true := by
 unfold Ut
 obtain ⟨b, h1, _⟩ := t_Long n hb.1 hl
 rw [h1, bS]
 have hex : JM = some true := rfl
 cases b with
 | true => rfl
 | false =>
  rw [if_neg (by decide)]
  obtain ⟨⟨l, e⟩, h2, h3⟩ := Q2m n hb hl
  rw [h2, bS]
  rcases h3 with ⟨h4, h5⟩ | ⟨h4, h5, P, h6, h7, h8, h9⟩
  ·simp only at h4 h5
   subst h5
   rw [if_pos (by simpa using h4)]
   simp only [hex, bS]
   rfl
  ·simp only at h4 h5 h9
   subst h4
   rw [if_neg (by simp), h6, bS, bS, if_pos (by omega), bS, bS, if_pos (by omega), bS, bS]
   have := s_l10 n l P h5 h7 h8 h9 l.length 0 (List.replicate P.length []) (List.replicate P.length false) (by omega) (by simp) (by simp) (fun s hs => by
    rw [List.getElem?_replicate] at hs
    split at hs <;> simp at hs)
   simp only [cqm]
   rw [show ((0 : Nat) : Int) = 0 from rfl] at this
   rw [this, bS, hex, bS]
open Go.RowKit Go.ChangeShapes Go.WideShapes
def A0 (x : Qb) : Prop := True ∧ True ∧ True ∧ True ∧ True ∧ True
theorem u3 : Tryz.prog.underlying 3 = some (.int .i64) := by kernel_rfl
def Et (x : Qr) : Prop := True ∧ A0 x.fb ∧ (x.fJ.length * Tryz.prog.bytesOf 3 ≤ reachBytes ∧ ∀ a ∈ x.fJ, True) ∧ True ∧ True
theorem u39 : Tryz.prog.underlying 39 = some (.slice 3) := by kernel_rfl
theorem c39 : Tryz.prog.cellsOf 3 = 1 := by kernel_rfl
theorem u9 : Tryz.prog.underlying 9 = some .string := by kernel_rfl
def Q04 (x : Qo) : Prop := True ∧ fits x.fBy ∧ True
theorem u2 : Tryz.prog.underlying 2 = some (.int .i64) := by kernel_rfl
def HK (x : gLin) : Prop := fits x.fK ∧ (x.fL.length * Tryz.prog.bytesOf 133 ≤ reachBytes ∧ ∀ a ∈ x.fL, Q04 a) ∧ True
theorem u48 : Tryz.prog.underlying 48 = some (.slice 133) := by kernel_rfl
theorem c48 : Tryz.prog.cellsOf 133 = 2 := by kernel_rfl
def IQ (x : Q5) : Prop := HK x.fm ∧ True ∧ (x.fAt.length * Tryz.prog.bytesOf 50 ≤ reachBytes ∧ ∀ a ∈ x.fAt, HK a) ∧ True
theorem u56 : Tryz.prog.underlying 56 = some (.slice 50) := by kernel_rfl
theorem c56 : Tryz.prog.cellsOf 50 = 2 := by kernel_rfl
def Q3m (x : gVal) : Prop := fits x.fN ∧ fits x.fD ∧ True
inductive If : Qc → Prop
 | mk (x : Q3) (h0 : True) (h1 : True) (h2 : Q3m x.fp) (h3 : A0 x.fb) (h4 : HK x.fm) (h5 : (x.fg.length * Tryz.prog.bytesOf 58 ≤ reachBytes ∧ ∀ a ∈ x.fg, IQ a)) (h6 : x.fe.length * Tryz.prog.bytesOf 53 ≤ reachBytes) (g6 : ∀ a ∈ x.fe, If a) : If (.mk x)
theorem u51 : Tryz.prog.underlying 51 = some (.slice 53) := by kernel_rfl
theorem c51 : Tryz.prog.cellsOf 53 = 13 := by kernel_rfl
theorem u43 : Tryz.prog.underlying 43 = some (.slice 58) := by kernel_rfl
theorem c43 : Tryz.prog.cellsOf 58 = 4 := by kernel_rfl
inductive MA : Q0 → Prop
 | mk (x : Qf) (h0 : True) (h1 : True) (h2 : True) (h3 : True) (h4 : True) (h5 : (x.fg.length * Tryz.prog.bytesOf 58 ≤ reachBytes ∧ ∀ a ∈ x.fg, IQ a)) (h6 : If (.mk x.fo)) (h7 : x.fd.length * Tryz.prog.bytesOf 55 ≤ reachBytes) (g7 : ∀ a ∈ x.fd, MA a) : MA (.mk x)
theorem u23 : Tryz.prog.underlying 23 = some (.slice 55) := by kernel_rfl
theorem c23 : Tryz.prog.cellsOf 55 = 20 := by kernel_rfl
def Q05 (x : Qp) : Prop := (x.fq.length * Tryz.prog.bytesOf 68 ≤ reachBytes ∧ ∀ a ∈ x.fq, Et a) ∧ (x.fd.length * Tryz.prog.bytesOf 55 ≤ reachBytes ∧ ∀ a ∈ x.fd, MA a) ∧ True
theorem u22 : Tryz.prog.underlying 22 = some (.slice 68) := by kernel_rfl
theorem c22 : Tryz.prog.cellsOf 68 = 8 := by kernel_rfl
section
variable {H : Type} {enc : TypeId × Value → H} {w : World} {base : Nat} {spare : Nat → Bool} {held : Bool}
theorem Bc {P : Program} (n : Nat) {t : TypeId} (ht : P.underlying t = some (.int .i64)) : Y4 enc P w base spare held n t (fun a : Int => [.int .i64 a]) (fun a d => Sz P t d → fits a) :=
 (PT n ht).to id (fun _ => rfl) fun a d h _ => by
  have h1 := h.1
  simp only [Lit.wf, cqb, decide_eq_true_eq] at h1
  have e1 : IntKind.i64.min = -9223372036854775808 := by decide
  have e2 : IntKind.i64.max = 9223372036854775807 := by decide
  rw [e1, e2] at h1
  exact h1
theorem Q0j (n : Nat) : Y4 enc Tryz.prog w base spare held n 47 (fun x : Qb => (Qm x).cells) (fun x d => Sz Tryz.prog 47 d → A0 x) :=
 ((GM Tryz.underlying47 (by kernel_rfl) (ZU (WY n u3) (ZU (WY n u3) (ZU (WY n u3) (ZU (WY n u3) (ZU (WY n u3) (LG n))))))).to (fun x => Qb.mk x.1 x.2.1 x.2.2.1 x.2.2.2.1 x.2.2.2.2.1) (fun _ => rfl) (fun a d h hz => h hz)).le (Nat.le_succ n)
theorem Q5n (n : Nat) : Y4 enc Tryz.prog w base spare held n 68 (fun x : Qr => (Ql x).cells) (fun x d => Sz Tryz.prog 68 d → Et x) :=
 ((GM Tryz.underlying68 (by kernel_rfl) (ZU (Fb n u9) (ZU (Q0j n) (ZU ((CG eI u39 c39 (by decide) (fun _ => rfl) (WY n u3)).le (Nat.le_succ _)) (ZU (WY n u3) (LG n)))))).to (fun x => Qr.mk x.1 x.2.1 x.2.2.1 x.2.2.2.1) (fun _ => rfl) (fun a d h hz => h hz)).le (Nat.le_succ n)
theorem Q9o (n : Nat) : Y4 enc Tryz.prog w base spare held n 133 (fun x : Qo => (Q7 x).cells) (fun x d => Sz Tryz.prog 133 d → Q04 x) :=
 ((GM Tryz.underlying133 (by kernel_rfl) (ZU (Fb n u9) (ZU (Bc n u2) (LG n)))).to (fun x => Qo.mk x.1 x.2.1) (fun _ => rfl) (fun a d h hz => h hz)).le (Nat.le_succ n)
theorem Pk (n : Nat) : Y4 enc Tryz.prog w base spare held n 50 (fun x : gLin => (Qi x).cells) (fun x d => Sz Tryz.prog 50 d → HK x) :=
 ((GM Tryz.underlying50 (by kernel_rfl) (ZU (Bc n u2) (ZU ((CG Q7 u48 c48 (by decide) (fun _ => rfl) (Q9o n)).le (Nat.le_succ _)) (LG n)))).to (fun x => gLin.mk x.1 x.2.1) (fun _ => rfl) (fun a d h hz => h hz)).le (Nat.le_succ n)
theorem PS (n : Nat) : Y4 enc Tryz.prog w base spare held n 58 (fun x : Q5 => (Q4 x).cells) (fun x d => Sz Tryz.prog 58 d → IQ x) :=
 ((GM Tryz.underlying58 (by kernel_rfl) (ZU (Pk n) (ZU (Fb n u9) (ZU ((CG Qi u56 c56 (by decide) (fun _ => rfl) (Pk n)).le (Nat.le_succ _)) (LG n))))).to (fun x => Q5.mk x.1 x.2.1 x.2.2.1) (fun _ => rfl) (fun a d h hz => h hz)).le (Nat.le_succ n)
theorem rd_gVal (n : Nat) : Y4 enc Tryz.prog w base spare held n 45 (fun x : gVal => (Qd x).cells) (fun x d => Sz Tryz.prog 45 d → Q3m x) :=
 ((GM Tryz.underlying45 (by kernel_rfl) (ZU (Bc n u2) (ZU (Bc n u2) (LG n)))).to (fun x => gVal.mk x.1 x.2.1) (fun _ => rfl) (fun a d h hz => h hz)).le (Nat.le_succ n)
theorem Q0h : ∀ n, Y4 enc Tryz.prog w base spare held n 53 (fun x : Q3 => (Q8 x).cells) (fun x d => Sz Tryz.prog 53 d → If (.mk x))
 | 0 => rzZero _ _
 | n + 1 => (GM Tryz.underlying53 (by kernel_rfl) (ZU (WY n u3) (ZU (Fb n u9) (ZU (rd_gVal n) (ZU (Q0j n) (ZU (Pk n) (ZU ((CG Q4 u43 c43 (by decide) (fun _ => rfl) (PS n)).le (Nat.le_succ _)) (ZU ((CG Qh u51 c51 (by decide) (fun _ => rfl) ((Q0h n).to Qc.mk (fun x => by rw [IJ]) (fun x d h => h))).le (Nat.le_succ _)) (LG n))))))))).to (fun x => (QO.mk x.1 x.2.1 x.2.2.1 x.2.2.2.1 x.2.2.2.2.1 x.2.2.2.2.2.1 x.2.2.2.2.2.2.1 : Q3)) (fun _ => rfl) (fun a d h hz => by obtain ⟨p0, p1, p2, p3, p4, p5, p6, _⟩ := h hz; exact .mk _ p0 p1 p2 p3 p4 p5 p6.1 p6.2)
theorem Q0i : ∀ n, Y4 enc Tryz.prog w base spare held n 55 (fun x : Qf => (Qt x).cells) (fun x d => Sz Tryz.prog 55 d → MA (.mk x))
 | 0 => rzZero _ _
 | n + 1 => (GM Tryz.underlying55 (by kernel_rfl) (ZU (WY n u3) (ZU (Fb n u9) (ZU (WY n u3) (ZU (WY n u3) (ZU (WY n u3) (ZU ((CG Q4 u43 c43 (by decide) (fun _ => rfl) (PS n)).le (Nat.le_succ _)) (ZU (Q0h n) (ZU ((CG Q9 u23 c23 (by decide) (fun _ => rfl) ((Q0i n).to Q0.mk (fun x => by rw [Vf]) (fun x d h => h))).le (Nat.le_succ _)) (LG n)))))))))).to (fun x => (Zq.mk x.1 x.2.1 x.2.2.1 x.2.2.2.1 x.2.2.2.2.1 x.2.2.2.2.2.1 x.2.2.2.2.2.2.1 x.2.2.2.2.2.2.2.1 : Qf)) (fun _ => rfl) (fun a d h hz => by obtain ⟨p0, p1, p2, p3, p4, p5, p6, p7, _⟩ := h hz; exact .mk _ p0 p1 p2 p3 p4 p5 p6 p7.1 p7.2)
theorem Q7b (n : Nat) : Y4 enc Tryz.prog w base spare held n 55 (fun x : Q0 => (Q9 x).cells) (fun x d => Sz Tryz.prog 55 d → MA x) := (Q0i n).to Q0.mk (fun x => by rw [Vf]) (fun x d h => h)
theorem Q9p (n : Nat) : Y4 enc Tryz.prog w base spare held n 25 (fun x : Qp => (Zf x).cells) (fun x d => Sz Tryz.prog 25 d → Q05 x) :=
 ((GM Tryz.underlying25 (by kernel_rfl) (ZU ((CG Ql u22 c22 (by decide) (fun _ => rfl) (Q5n n)).le (Nat.le_succ _)) (ZU ((CG Q9 u23 c23 (by decide) (fun _ => rfl) (Q7b n)).le (Nat.le_succ _)) (LG n)))).to (fun x => Qp.mk x.1 x.2.1) (fun _ => rfl) (fun a d h hz => h hz)).le (Nat.le_succ n)
end
theorem M4 : reachBytes = 140737488351232 := rfl
theorem Q29 : Tryz.prog.bytesOf 133 = 24 := by kernel_rfl
theorem Q4z : Tryz.prog.bytesOf 50 = 32 := by kernel_rfl
theorem Rx : Tryz.prog.bytesOf 58 = 72 := by kernel_rfl
theorem Q28 : Tryz.prog.bytesOf 53 = 160 := by kernel_rfl
theorem Sc : Tryz.prog.bytesOf 55 = 256 := by kernel_rfl
theorem okL_r {l : gLin} (h : HK l) : okL l := by
 obtain ⟨h1, ⟨h2, h3⟩, _⟩ := h
 rw [Q29, M4] at h2
 exact ⟨h1, h2, fun m hm => (h3 m hm).2.1⟩
theorem okI_r {x : Q5} (h : IQ x) : okI x := by
 obtain ⟨h1, _, ⟨h2, h3⟩, _⟩ := h
 rw [Q4z, M4] at h2
 exact ⟨okL_r h1, h2, fun l hl => okL_r (h3 l hl)⟩
theorem okE_r : ∀ e, If e → okE e := Qc.ind fun x ih h => by
 cases h with
 | mk _ h0 h1 h2 h3 h4 h5 h6 g6 =>
  rw [Q28, M4] at h6
  have h5' := h5.1
  rw [Rx, M4] at h5'
  exact .mk x (okL_r h4) h5' (fun i hi => okI_r (h5.2 i hi)) h6 (fun a ha => ih a ha (g6 a ha))
theorem okS_r : ∀ e, MA e → okS e := Q0.ind fun x ih h => by
 cases h with
 | mk _ h0 h1 h2 h3 h4 h5 h6 h7 g7 =>
  rw [Sc, M4] at h7
  have h5' := h5.1
  rw [Rx, M4] at h5'
  exact .mk x h5' (fun i hi => okI_r (h5.2 i hi)) (okE_r _ h6) h7 (fun a ha => ih a ha (g7 a ha))
theorem Q6h : Tryz.prog.bytesOf 3 = 8 := by kernel_rfl
theorem OH : 1 ≤ Tryz.prog.bytesOf 68 := of_decide_eq_true (by kernel_rfl)
theorem okBf_r {b : Qr} (h : Et b) : okBf b := by
 obtain ⟨_, _, ⟨h1, _⟩, _⟩ := h
 rw [Q6h, M4] at h1
 unfold okBf; omega
theorem okN_r {n : Qp} (h : Q05 n) : okBs n.fq ∧ okSs n.fd := by
 obtain ⟨⟨h1, h2⟩, ⟨h3, h4⟩, _⟩ := h
 rw [M4] at h1
 rw [Sc, M4] at h3
 have hb := Nat.le_mul_of_pos_right n.fq.length OH
 exact ⟨⟨by omega, fun b hb => okBf_r (h2 b hb)⟩, h3, fun s hs => okS_r s (h4 s hs)⟩
end Go.Proofs.YtkgphhemcglgnaaGreatDoor
namespace HY
open Go Go.RowKit Go.ChangeShapes Go.WideShapes Go.ChangeAt
theorem ET {H : Type} {enc : TypeId × Value → H} {P : Program} (hl : laidOutB P = true) {W W' : World} (hb : Below W.heap.size W W') : ∀ {ts : List TypeId} {vs : List Value} {ds : List (DataW H)} {ps : List MemPlace},
  (∀ t ∈ ts, P.readableRec t = true ∧ t < P.types.size) → DataW.TrodAll enc P W 0 (fun _ => true) true ts vs ds ps → (∀ p ∈ ps, p.block < W.heap.size) → DataW.TrodAll enc P W' 0 (fun b => decide (b < W.heap.size)) true ts vs ds ps
 | [], [], [], _, _, h, _ => h
 | t :: ts, v :: vs, d :: ds, _, ht, ⟨p, q, h1, h2, e⟩, hp =>
  ⟨p, q, Below.trod hl (ht t (List.mem_cons_self ..)).1 (ht t (List.mem_cons_self ..)).2 h1 hb (fun x hx => hp x (by rw [e]; exact List.mem_append_left _ hx)),
   ET hl hb (fun t' h' => ht t' (List.mem_cons_of_mem _ h')) h2 (fun x hx => hp x (by rw [e]; exact List.mem_append_right _ hx)), e⟩
 | [], _ :: _, _, _, _, h, _ => h.elim
 | [], [], _ :: _, _, _, h, _ => h.elim
 | _ :: _, [], _, _, _, h, _ => h.elim
 | _ :: _, _ :: _, [], _, _, h, _ => h.elim
structure LawOk (P : Program) (f : Func) (tb : TypeId) : Prop where
 laid : laidOutB P = true
 pars : (f.params.toList.all fun t => P.readableRec t && decide (t < P.types.size)) = true
 res : f.resultTypes = #[tb]
 bool : P.underlying tb = some .bool
theorem Q7a {H : Type} {enc : TypeId × Value → H} {P : Program} {f : Func} {tb : TypeId} (hok : LawOk P f tb) {s : ChangeSpec} {W W' : World} {args : Array Value} {ds gs : List (DataW H)} {before : List MemPlace} (hv : s.vars = [])
  (hW : DataW.Whole enc P f.params.toList s.vars false W args.toList ds gs before) (hfn : s.fn H (ds ++ gs) = { results := [.lit (.bool true)], args := ds }) (hb : Below W.heap.size W W') : s.post enc P f false true false false W args (.bool true) W' := by
 have hlt := hW.lt
 have hW' := hW
 obtain ⟨p, q, hA, hV, rfl, _, _⟩ := hW
 rw [hv] at hV
 obtain ⟨rfl, rfl⟩ : gs = [] ∧ q = [] := by
  cases gs with
  | nil => exact ⟨rfl, hV⟩
  | cons => exact hV.elim
 have hp := hok.pars
 rw [cqt] at hp
 refine ⟨ds, [], p ++ [], [], p, [], hW', ?_, ?_, ?_, hb.frame _, fun h => by cases h⟩
 ·rw [hfn, hok.res]
  exact ⟨[], [], shut_bool hok.bool _, rfl, rfl⟩
 ·rw [hfn]
  exact ET hok.laid hb (fun t ht => by have := hp t ht; simp only [cqb, decide_eq_true_eq] at this; exact this) hA (fun x hx => hlt x (List.mem_append_left _ hx))
 ·rw [hfn, hv]; exact rfl
theorem Q5d {P : Program} {gl : Nat → AV} {f : FuncId} {args : List AV} (hent : NF P f) (h : Pu P gl f args (.bool true)) {W : World} {vs : Array Value} (hl : args.length = vs.size) (hgl : ∀ g, RelI (HV.full W) (gl g) (.pointer (some ⟨g, 0, none⟩))) (hgv : GvOk gl (fun k => k < W.heap.size) W)
  (hr : ∀ (j : Nat) (x : AV) (v : Value), args[j]? = some x → vs[j]? = some v → RelI (HV.full W) x v) : Calls P f vs W fun e W' => e = .returned (.bool true) ∧ Below W.heap.size W W' := by
 refine (Ans.calls (he := hent) <| h.ok (fun _ => ⟨0, 0, 0⟩) (HV.full W) (fun k => k < W.heap.size) (HV.full W) W vs
  { sat := Q8v W, old := fun _ _ _ => rfl, low := fun _ h => h, fresh := fun _ _ => ZD _, box := (fun _ _ hh => by rw [ZD] at hh; cases hh), sepR := (fun _ _ hh => by rw [ZD] at hh; cases hh), injR := (fun _ _ _ _ hh => by rw [ZD] at hh; cases hh), gv := hgv, gl := hgl, ty := (fun _ _ _ hh => by rw [ZD] at hh; cases hh) } hl
  (fun j x v hx hv => .imm _ _ (hr j x v hx hv))).mono fun e W' hpost => ?_
 obtain ⟨v, m', H', he, hb, _, hv⟩ := hpost
 have := hv.bool_inv
 subst this
 exact ⟨he, hb.toB⟩
theorem Q53 {H : Type} {enc : TypeId × Value → H} {C : Checked} {os : Os} {f : FuncId} {fn : Func} {s : ChangeSpec} {X : World → Prop} (hX : ∀ w w' : World, w.heap = w'.heap → X w → X w')
  (own : ownKnob C.prog.godebug = none) (started : os.Started) (noInit : C.prog.inits.idxOf? f = none) (hfn : C.prog.funcs[f]? = some fn)
  (witness : ∃ (w : World) (tape : Tape) (i : Input), w.os = os ∧ (w.forCall tape i).Shaped C.prog ∧ i.vars = [] ∧ Input.okWide C.prog (w.forCall tape i) .any w.heap.size f i ∧
   ((s.pre enc C.prog fn [] false (w.forCall tape i).memory i.args ∧ X (w.forCall tape i).memory) ∧ sizedMet enc C.prog fn (OpenSpec.ofChange s) false (w.forCall tape i).memory i.args) ∧ ({} : Assume).holds C.prog (lone (Frame.enter C.prog f i.args .normal) [] (w.forCall tape i)))
  (SQ : ∀ (W : World) (base : Nat) (args : Array Value) (ds gs : List (DataW H)) (before : List MemPlace),
   (∀ (j : Nat) t v, fn.params[j]? = some t → args[j]? = some v → Value.okWide C.prog W .any base t v) → DataW.Whole enc C.prog fn.params.toList s.vars false W args.toList ds gs before → X W → W.ShapedOpen C.prog → (DataW.weightsEach C.prog (fn.params.toList ++ s.plain.varTypes C.prog) (ds ++ gs)).all (· ≤ reachBytes) = true →
   Calls C.prog f args W fun e W' => ∃ v, e = .returned v ∧ s.post enc C.prog fn false true false false W args v W') :
  ReturnsInHanded {} C os f .any (fun w args => (s.pre enc C.prog fn [] false w args ∧ X w) ∧ sizedMet enc C.prog fn (OpenSpec.ofChange s) false w args) (s.post enc C.prog fn false true false false) := by
 refine returnsInHanded_of_calls own started noInit witness fun w tape i _ hsh _ hok hpre _ => ?_
 obtain ⟨_, _, _, fn', hfn', _, _, _, _, hval⟩ := hok
 obtain rfl : fn' = fn := Option.some.inj (hfn'.symm.trans hfn)
 obtain ⟨⟨⟨ds, gs, before, hw, _⟩, hx⟩, hz⟩ := hpre
 refine (SQ (w.forCall tape i) w.heap.size i.args ds gs before hval (DataW.Whole.of_heap (w' := w.forCall tape i) (by rfl) hw) (hX _ _ (by rfl) hx) hsh (hz.weights hw)).mono fun e W' ⟨v, he, hp⟩ => ?_
 subst he
 exact ChangeSpec.post_blind hp
theorem Sm {P : Program} {w : World} : ∀ {l : List (String × DataW Unit)} {ps : List MemPlace} (i : Nat) {n : String} {d : DataW Unit}, DataW.LaidVars P w l ps → l[i]? = some (n, d) →
  ∃ g t cs fuel p, P.globalNamed n = some g ∧ (P.globals[g]?).map (·.type) = some t ∧ w.var? P n = some cs ∧ DataW.trod (fun _ => ()) P w 0 (fun _ => true) false fuel t cs.toList = some (d, p)
 | [], _, i, _, _, _, hi => by simp at hi
 | (n0, d0) :: r, ps, i, n, d, h, hi => by
  obtain ⟨g, t, cs, fuel, p, q, h1, h2, h3, h4, h5, _⟩ := h
  cases i with
  | zero => cases hi; exact ⟨g, t, cs, fuel, p, h1, h2, h3, h4⟩
  | succ i => exact Sm i h5 hi
def litZ (k : IntKind) (z : Int) : DataW Unit := .lit (.int k z)
theorem Q5c {P : Program} {w : World} {laid : List (String × DataW Unit)} (hm : laidMetH P laid w) (hpl : (laid.all fun x => x.2.handleName?.isNone) = true) (i : Nat) {n : String} {k : IntKind} {zs : List Int} (hi : laid[i]? = some (n, .agg (zs.map (litZ k))))
  {g t e : Nat} (hg : P.globalNamed n = some g) (hgt : (P.globals[g]?).map (·.type) = some t) (hu : P.underlying t = some (.array zs.length e)) (hc : P.cellsOf e = 1) (hue : P.underlying e = some (.int k)) (j : Nat) (z : Int) (hj : zs[j]? = some z) :
  w.cell? ⟨g, j, none⟩ = some (.int k z) := by
 rw [MakeChecks.laidMetH_plain _ _ _ hpl] at hm
 obtain ⟨ps, hl, _, _⟩ := hm
 obtain ⟨g', t', cs, fuel, p, e1, e2, e3, e4⟩ := Sm i hl hi
 rw [hg] at e1; cases e1
 rw [hgt] at e2; cases e2
 obtain ⟨xs, m, rfl, hxe, hcl, hxl, hel⟩ := DataW.trod_array hu e4
 rw [World.var?_cell hg e3 j]
 have hjl : j < zs.length := (cqd.1 hj).1
 have h1 := hel j hjl
 rw [hc] at h1
 have hxj : xs[j]? = some (xs[j]'(by omega)) := cqc (by omega)
 rw [hxj] at h1
 obtain ⟨v, h2, h3, _⟩ := DataW.trod_int hue h1
 have h4 : (xs.map (·.1))[j]? = some (.lit (.int k v)) := by rw [cqs, hxj, Option.map_some, h3]
 have h5 : (.agg (zs.map (litZ k)) : DataW Unit) = .agg (xs.map (·.1)) := congrArg Prod.fst hxe
 have h6 : zs.map (litZ k) = xs.map (·.1) := by injection h5
 rw [← h6, cqs, hj, Option.map_some] at h4
 simp only [litZ, cqf, DataW.lit.injEq, Lit.int.injEq, true_and] at h4
 subst h4
 have h7 := congrArg (·[0]?) h2
 simp only [Nat.mul_one, List.getElem?_take, List.getElem?_drop, Nat.add_zero] at h7
 simpa using h7
theorem tab_rel {W : World} {g : Nat} {k : IntKind} {zs : List Int} (hz : 0 < zs.length) (h : ∀ (j : Nat) (z : Int), zs[j]? = some z → W.cell? ⟨g, j, none⟩ = some (.int k z)) : RelI (HV.full W) (.ip zs.length [.agg (zs.map (.int k))] 0 0) (.pointer (some ⟨g, 0, none⟩)) := by
 have hx0 : ∀ (i : Nat) (x : AV), [AV.agg (zs.map (AV.int k))][i]? = some x → i = 0 ∧ x = .agg (zs.map (.int k)) := fun i x hx => by
  cases i with
  | zero => simp at hx; exact ⟨rfl, hx.symm⟩
  | succ i => simp at hx
 have hc0 : ∀ (j : Nat) (c : AV), (zs.map (AV.int k))[j]? = some c → ∃ z, zs[j]? = some z ∧ c = .int k z := fun j c hc => by
  rw [cqs, Option.map_eq_some_iff] at hc
  obtain ⟨z, h1, rfl⟩ := hc
  exact ⟨z, h1, rfl⟩
 suffices hs : RelI (HV.full W) (.ip zs.length [.agg (zs.map (.int k))] 0 0) (.pointer (some ⟨g, 0 + 0 * zs.length + 0, none⟩)) by
  rwa [show 0 + 0 * zs.length + 0 = 0 by omega] at hs
 refine RelI.ip zs.length [.agg (zs.map (.int k))] g 0 0 0 (fun _ j => .int k ((zs[j]?).getD 0)) hz (by simp) (fun i x hx => ?_) (fun i x j c hx hc => ?_) (fun i x j c hx hc => ?_)
 ·obtain ⟨rfl, rfl⟩ := hx0 i x hx
  show (zs.map (AV.int k)).length = _
  simp
 ·obtain ⟨rfl, rfl⟩ := hx0 i x hx
  obtain ⟨z, hz', rfl⟩ := hc0 j c hc
  rw [hz']
  refine ⟨?_, rfl⟩
  show W.cell? ⟨g, 0 + 0 * zs.length + j, none⟩ = _
  rw [show 0 + 0 * zs.length + j = j by omega]
  exact h j z hz'
 ·obtain ⟨rfl, rfl⟩ := hx0 i x hx
  obtain ⟨z, hz', rfl⟩ := hc0 j c hc
  rw [hz']
  exact .int _ _
theorem tab_gv {P : Program} {W : World} (h : W.ShapedOpen P) {g n t : Nat} {zero : Array Value} (hg : g < P.globals.size) (h0 : ((begin P (fun _ _ => 0) default).world.heap[g]?).bind Obj.row? = some (zero, t)) (hz : zero.size = n) : g < W.heap.size ∧ ∃ C e fr, W.heap[g]? = some (.cells C e fr) ∧ C.size = n := by
 obtain ⟨cs, h1, h2, _⟩ := h.1 g zero t hg h0
 refine ⟨?_, cs, t, _, h1, by omega⟩
 rcases Nat.lt_or_ge g W.heap.size with h | h
 ·exact h
 ·rw [Array.getElem?_eq_none h] at h1; cases h1
end HY
namespace Go.Proofs.YtkgphhemcglgnaaGreatDoor
open Go HY Go.RowKit Go.ChangeShapes Go.WideShapes Go.ChangeAt
theorem own : ownKnob Tryz.prog.godebug = none := by kernel_rfl
theorem lawOk : LawOk Tryz.prog Tryz.f6 4 := ⟨by kernel_rfl, by kernel_rfl, by kernel_rfl, by kernel_rfl⟩
def Ti : List (String × DataW Unit) := [("unicode.White_Space", Rows.laid_unicode_White_Space), ("strings.asciiSpace", Rows.laid_strings_asciiSpace)]
def spZ : List Int := List.replicate 9 0 ++ List.replicate 5 1 ++ List.replicate 18 0 ++ [1] ++ List.replicate 223 0
theorem sp_eq : spaces = spZ.map (.int .u8) := by kernel_rfl
theorem laid_sp : Rows.laid_strings_asciiSpace = .agg (spZ.map (litZ .u8)) := by kernel_rfl
theorem Q5m {a b : Nat} (h : Nat.blt a b = true) : a < b := cqe h
set_option maxRecDepth 100000 in
theorem gls_ok {W : World} (h : laidMetH Tryz.prog Ti W) (g : Nat) : RelI (HV.full W) (gls g) (.pointer (some ⟨g, 0, none⟩)) := by
 unfold gls
 cases h1 : Nat.beq g 0 with
 | true =>
  obtain rfl := cqa h1
  have := tab_rel (W := W) (g := 0) (k := .u8) (zs := spZ) (Q5m (by kernel_rfl)) fun j z hj => Q5c h (by kernel_rfl) 1 (n := "strings.asciiSpace") (by rw [← laid_sp]; rfl) (g := 0) (t := 294) (e := 5) (by kernel_rfl) (by kernel_rfl) (by kernel_rfl) (by kernel_rfl) (by kernel_rfl) j z hj
  rw [← sp_eq] at this
  exact this
 | false => exact .undef _
theorem gv_ok {W : World} (h : W.ShapedOpen Tryz.prog) : GvOk gls (fun k => k < W.heap.size) W := fun g sz cs hg => by
 unfold gls at hg
 cases h1 : Nat.beq g 0 with
 | true =>
  obtain rfl := cqa h1
  cases hg
  exact tab_gv h (g := 0) (n := 256) (zero := Array.replicate 256 (.int .u8 0)) (t := 294) (of_decide_eq_true (by kernel_rfl)) (by kernel_rfl) (by kernel_rfl)
 | false => rw [h1] at hg; cases hg
theorem relAgg {K : HV} {ys : List AV} {cs : Array Value} (h : RelL K ys (Value.agg cs).cells.toList) : RelI K (.agg ys) (.agg cs) := by
 have hc : (Value.agg cs).cells = cs := rfl
 rw [hc] at h
 refine .agg ys cs (by rw [h.1]; simp) (fun v hv => ?_) fun j a v ha hv => (h.2 j a v ha (by simpa using hv)).2
 obtain ⟨j, hj, rfl⟩ := Array.mem_iff_getElem.1 hv
 have hl : j < ys.length := by have := h.1; simp at this; omega
 obtain ⟨h1, h2⟩ := h.2 j ys[j] cs[j] (cqc hl) (by simp [hj])
 exact h2.oneCell h1
set_option maxRecDepth 100000 in
theorem SQ (H : Type) (enc : TypeId × Value → H) (W : World) (base : Nat) (args : Array Value) (ds gs : List (DataW H)) (before : List MemPlace)
  (hval : ∀ (j : Nat) t v, Tryz.f6.params[j]? = some t → args[j]? = some v → Value.okWide Tryz.prog W .any base t v)
  (hW : DataW.Whole enc Tryz.prog Tryz.f6.params.toList Rows.traceOrderSpec.vars false W args.toList ds gs before)
  (hL : laidMetH Tryz.prog Ti W) (hS : W.ShapedOpen Tryz.prog) (hz : (DataW.weightsEach Tryz.prog (Tryz.f6.params.toList ++ Rows.traceOrderSpec.plain.varTypes Tryz.prog) (ds ++ gs)).all (· ≤ reachBytes) = true) :
  Calls Tryz.prog 6 args W fun e W' => ∃ v, e = .returned v ∧ Rows.traceOrderSpec.post enc Tryz.prog Tryz.f6 false true false false W args v W' := by
 have hW' := hW
 obtain ⟨p, q, hA0, hV, rfl, hfz, hnd⟩ := hW
 have hA : DataW.TrodAll enc Tryz.prog W 0 (fun _ => true) true Tryz.f6.params.toList args.toList ds p := hA0
 rw [Tryz.params6] at hA hval hz
 obtain ⟨v0, vs0, d0, ds0, p0, q0, hargs0, rfl, rfl, h0, r0⟩ := trodAll_cons hA
 obtain ⟨rfl, rfl, rfl⟩ := trodAll_nil r0
 obtain rfl : args = #[v0] := by cases args; simp_all
 obtain ⟨rfl, rfl⟩ := trodVars_none hV
 have hz1 : SzE Tryz.prog [25] [d0] := fun k hk => by
  have := cqt.1 hz k hk
  simpa using this
 obtain ⟨z0, hz1⟩ := hz1.cons
 obtain ⟨c0, rfl, _⟩ := okWide_struct Tryz.underlying25 (hval 0 25 v0 rfl rfl)
 obtain ⟨x0, i0, x0r⟩ := Y4.arg (Q9p (enc := enc) (w := W) (base := 0) (spare := fun _ => true) (held := true)) h0
 refine (Q5d (Ve (by kernel_rfl)) (Ri x0 true (s_law x0 (okN_r (i0 z0)).1 (okN_r (i0 z0)).2)) (W := W) rfl (gls_ok hL) (gv_ok hS) fun j t v ht hv => ?_).mono fun e W' ⟨he, hb⟩ => ⟨_, he, Q7a lawOk rfl hW' rfl hb⟩
 match j with
 | 0 => cases ht; cases hv; exact relAgg x0r
 | j + 1 => cases ht
set_option maxRecDepth 100000 in
theorem lifted (os : Os) (started : os.Started) (H : Type) (enc : TypeId × Value → H) :
  ReturnsInHanded {} Tryz.checked os 6 .any (fun w args => (Rows.traceOrderSpec.pre enc Tryz.prog Tryz.f6 [] false w args ∧ laidMetH Tryz.prog Ti w) ∧ sizedMet enc Tryz.prog Tryz.f6 (OpenSpec.ofChange Rows.traceOrderSpec) false w args)
   (Rows.traceOrderSpec.post enc Tryz.prog Tryz.f6 false true false false) := by
 refine Q53 (C := Tryz.checked) (X := fun w => laidMetH Tryz.prog Ti w) (fun _ _ hh h => h.of_heap hh) own started (by kernel_rfl) Tryz.func6
  (ChangeSpec.witness_shaped (enc := enc) (C := Tryz.checked) (os := os) (X := fun w _ => laidMetH Tryz.prog Ti w) false (World.laidAll Tryz.prog os Ti)
   #[.agg #[.slice none 0 0, .slice none 0 0]] 8 (World.laidAll_os _ _ _)
   (World.shaped_of_ZipB (by kernel_rfl) (by kernel_rfl)) (by kernel_rfl) (by kernel_rfl) (by kernel_rfl)
   (by rw [MakeChecks.laidMetH_plain _ _ _ (by kernel_rfl)]; exact laidMet_laidAll _ (by kernel_rfl) (by kernel_rfl))) ?_
 intro W base args ds gs before hval hW hL hS hz
 exact SQ H enc W base args ds gs before hval hW hL hS hz
theorem j1 : (Rows.traceOrderRow.inPlace == Tryz.prog.inPlace 6) = true := by kernel_rfl
theorem j2 : (Rows.traceOrderRow.unfollowed == Tryz.prog.unfollowed 6) = true := by kernel_rfl
theorem j3 : (Rows.traceOrderRow.recurses == Tryz.prog.recurses 6) = true := by kernel_rfl
theorem j4 : (Rows.traceOrderRow.named == Tryz.prog.varsNamed 6) = true := by kernel_rfl
theorem joined : joinedFacts Tryz.prog 6 Tryz.f6 Rows.traceOrderSpec Rows.traceOrderRow = true := by
 unfold joinedFacts
 rw [j1, j2, j3, j4]
 kernel_rfl
theorem g1 : Tryz.prog.funcNamed "brocade/brocadelaw33.TraceOrder" = some 6 := by kernel_rfl
theorem g2 : false = Tryz.prog.looks [] := by kernel_rfl
theorem g3 : false = Rows.traceOrderRow.goesBy Tryz.prog := by kernel_rfl
theorem g4 : ([25].all fun u => !Tryz.prog.wantsStandIn u) = true := by kernel_rfl
theorem Q7c : Rows.TraceOrderSaid :=
 OpenClaim.holds_of_wide 6 Tryz.f6 rfl rfl rfl rfl rfl rfl rfl ⟨rfl, rfl, rfl, rfl, rfl⟩ rfl rfl rfl rfl rfl g1 Tryz.func6 joined
  (of_decide_eq_true (by kernel_rfl)) (by unfold Func.isWrapper; first | (rw [if_pos (by decide +kernel)]; kernel_rfl) | (rw [if_neg (by decide +kernel)]; exact ⟨rfl, rfl⟩))
  (fun os started H enc _ => lifted os started H enc)
theorem proved : Rows.TraceOrderCardSaid :=
 Claim7.holds_tied_plain_at .later [] [.listed, .data] true (true, "220fbd8a5ba5e9f04272a9f9d4f892d20933e6e2bcfad22ded9e3ded4a41cff9") false Q7c (fun _ h => by cases h) (by kernel_rfl) (fun _ h => by cases h) traceOrder_row_tie rfl ⟨rfl, rfl⟩ (by kernel_rfl) rfl
  (fun f fn hf hfn => by
   obtain rfl : f = 6 := Option.some.inj (g1.symm.trans hf) |>.symm
   obtain rfl : fn = Tryz.f6 := (Option.some.inj (Tryz.func6.symm.trans hfn)).symm
   exact ⟨g2, fun j t ht => by
    rw [Tryz.params6] at ht
    have hm : t ∈ [25] := by simpa using Array.mem_of_getElem? ht
    have hall := g4
    exact (show Tryz.prog.wantsStandIn t = false by simpa using cqt.1 hall t hm)⟩)
  g3
end Go.Proofs.YtkgphhemcglgnaaGreatDoor
