/- Proved in the last of these texts: for every input the law returns true and its arguments read afterwards as they read before. This text: a part of the proof. -/
import Derived.Test.YtkgphhemcglgnaaGreatDoorP3
import Derived.Lib.Bytealg
import Derived.Test.YtkgphhemcglgnaaGreatDoorProg
set_option linter.unusedVariables false
set_option linter.unusedSimpArgs false
set_option linter.unusedSectionVars false
section
namespace HY
open Go Go.RowKit
def wopt (x : Option Res) (K : Res → Prop) : Prop :=
 match x with
 | some y => K y
 | none => False
def wrow (bid : Nat) (K : Res → Prop) (r : AV) (bt : List Box) : Prop := match r with
 | .ow id ver sz len => match bt with
  | [.own v z xs] => match Nat.beq id 0 && (Nat.beq v ver && Nat.beq z sz) with
   | true => xs.all immE = true ∧ K (.ow bid 0 sz len, some (bid, .own 0 sz xs))
   | false => False
  | _ => False
 | _ => wopt (Jp true bid (some (r, hpOf 0 bt, bt.length))) K
def LW (P : Program) (gl : Nat → AV) (bid f : Nat) (h : Hint) (K : Res → Prop) (strict : Bool) (ts : List AV) : Prop :=
 match h with
 | .cc r => Pu P gl f ts r ∧ wopt (Jp strict bid (some (r, .nil, 0))) K
 | .c sh => ∃ x, Pu P gl f ts (sh x) ∧ wopt (Jp strict bid (some (sh x, .nil, 0))) K
 | .cb => ∃ u, Pu P gl f ts (.bool u) ∧ (u = true → K (.bool true, none)) ∧ (u = false → K (.bool false, none))
 | .h _ r bt => ∃ x, PuH P gl f ts [] (r x) (bt x) ∧ (match strict with
  | false => wopt (Jp false bid (some (r x, hpOf 0 (bt x), (bt x).length))) K
  | true => wrow bid K (r x) (bt x))
 | _ => False
def wans (hp : Hp) (args : List AV) (K : Bool → List AV → Prop) : Prop :=
 match optL (tree (fun _ => none) false 12) args with
 | some ts => K false ts
 | none => W0 (Wt hp 12) args (K true)
def wansD (hp : Hp) (args : List AV) (K : Bool → List AV → Prop) : Prop :=
 match optL (tree (fun _ => none) false 12) args with
 | some ts => K false ts
 | none => match optL (tree hp false 12) args with
  | some ts => K true ts
  | none => False
def wcall (P : Program) (gl : Nat → AV) (ch0 : Ql) (hp : Hp) (bid f : Nat) (args : List AV) (h : Option Hint) (K : Res → Prop) : Prop :=
 match h with
 | none => wopt (Gr ch0 hp bid f args) K
 | some h => wansD hp args (LW P gl bid f h K)
open Classical in
noncomputable def once (f : Nat) (ts : List AV) (x : AV × Tr Box × Nat) : Ql := fun f' a' h' n' => if f' = f ∧ a' = ts ∧ h' = .nil ∧ n' = 0 then some x else none
def Mh (P : Program) (gl : Nat → AV) (ch : Ql) : Prop := ∀ f ts r hp' nx', ch f ts .nil 0 = some (r, hp', nx') → KW P gl f ts r hp' nx'
section
variable {P : Program} {gl : Nat → AV}
theorem Ic {f : Nat} {ts : List AV} {r : AV} {hp' : Tr Box} {nx' : Nat} (h : KW P gl f ts r hp' nx') : Mh P gl (once f ts (r, hp', nx')) := by
 intro f' a' r' h2 n2 hk
 unfold once at hk
 simp_all
theorem Ib {f : Nat} {ts : List AV} {x : AV × Tr Box × Nat} : once f ts x f ts .nil 0 = some x := by
 unfold once; simp_all
theorem Ro {bid f : Nat} {h : Hint} {K : Res → Prop} {strict : Bool} {ts : List AV} (hw : LW P gl bid f h K strict ts) : ∃ ch x, Mh P gl ch ∧ Jp strict bid (ch f ts .nil 0) = some x ∧ K x := by
 have opt : ∀ {o : Option Res}, wopt o K → ∃ x, o = some x ∧ K x := fun {o} ho => by
  unfold wopt at ho
  grind
 unfold LW at hw
 split at hw
 ·rename_i r
  obtain ⟨x, hx, hK⟩ := opt hw.2
  exact ⟨once f ts (r, .nil, 0), x, Ic hw.1.ok, by grind [Ib], hK⟩
 ·rename_i sh
  obtain ⟨y, hp, hw⟩ := hw
  obtain ⟨x, hx, hK⟩ := opt hw
  exact ⟨once f ts (sh y, .nil, 0), x, Ic hp.ok, by grind [Ib], hK⟩
 ·obtain ⟨u, hp, h1, h2⟩ := hw
  refine ⟨once f ts (.bool u, .nil, 0), (.bool u, none), Ic hp.ok, by rw [Ib]; rfl, ?_⟩
  cases u with
  | true => grind
  | false => grind
 ·rename_i kb τ r bt
  obtain ⟨y, hp, hw⟩ := hw
  have go : ∃ x, Jp strict bid (some (r y, hpOf 0 (bt y), (bt y).length)) = some x ∧ K x := by
   cases strict with
   | false => grind
   | true =>
    simp only [wrow] at hw
    split at hw
    ·rename_i id ver sz len hr
     split at hw
     ·rename_i v z xs hb
      split at hw
      ·rename_i hc
       rw [Bool.and_eq_true, Bool.and_eq_true] at hc
       obtain rfl := Nat.eq_of_beq_eq_true hc.1
       rw [hr, hb]
       refine ⟨_, ?_, hw.2⟩
       have h0 : lkb (hpOf 0 [Box.own v z xs]) 0 = some (.own v z xs) := rfl
       grind [Jp]
      ·cases hw
     ·cases hw
    simp_all
  obtain ⟨x, hx, hK⟩ := go
  exact ⟨once f ts (r y, hpOf 0 (bt y), (bt y).length), x, Ic hp.zero, by grind [Ib], hK⟩
 ·cases hw
theorem Pv {ch0 : Ql} (h0 : ch0.Ok P gl) {hp : Hp} {bid f : Nat} {args : List AV} {h : Option Hint} {K : Res → Prop} (hw : wcall P gl ch0 hp bid f args h K) : ∃ ch x, Mh P gl ch ∧ Gr ch hp bid f args = some x ∧ K x := by
 unfold wcall at hw
 split at hw
 ·unfold wopt at hw
  split at hw
  ·rename_i r hr
   exact ⟨ch0, r, fun _ _ _ _ _ hk => (h0 _ _ _ _ _ _ _ hk).zero, hr, hw⟩
  ·cases hw
 ·rename_i h
  unfold wansD at hw
  grind [Ro, Gr]
end
def wo (P : Program) (gl : Nat → AV) (ch0 : Ql) (hs : Qz) (bid : Nat) (dst : Option Nat) (op : Op) (ev : Operand → AV) (hp : Hp) (K : Res → Prop) : Prop :=
 match Vi op with
 | true => match Y7 ev op with
  | some (f, args) => wcall P gl ch0 hp bid f args (inner (lkH hs (RW dst op))) K
  | none => False
 | false => wask P bid dst op ev hp (inner (lkH hs (RW dst op))) K
def Eo (P : Program) (gl : Nat → AV) (ch0 : Ql) (hs : Qz) (sd : Bool) (bid : Nat) (o : Oper) (gv : Option AV) (st : St) (K : St → Prop) : Prop :=
 match QV o.dst st.n && (lkb st.hp bid).isNone && Nat.blt bid st.nx with
 | true => match DO o gv with
  | some true => match sd with
    | true => match Ip P bid o.op with
     | some r => K (st.eff o.dst r)
     | none => False
    | false => wo P gl ch0 hs bid o.dst o.op (st.ev gl) (lkb st.hp) (fun r => K (st.eff o.dst r))
  | some false => K (st.eff o.dst (.tup [], none))
  | none => False
 | false => False
def NA (P : Program) (gl : Nat → AV) (ch0 : Ql) (hs : Qz) (all : List Oper) (base : Nat) : List Nat → St → (St → Prop) → Prop
 | [], st, K => K st
 | i :: l, st, K => match all[i]? with
  | some o => Eo P gl ch0 hs false (base + i) o (gval all o st) st (fun s => NA P gl ch0 hs all base l s K)
  | none => False
def Ek (P : Program) (gl : Nat → AV) (ch0 : Ql) (hs : Qz) (all : List Oper) (base : Nat) : List Nat → Z4 → St → (St → Prop) → Prop
 | [], _, st, K => K st
 | i :: l, F, st, K => match all[i]? with
  | some o => match Ga all o (gval all o st) (st.ev gl) with
   | ft => match okF F all base i (hk o.op) ft with
    | true => Eo P gl ch0 hs (seed all o) (base + i) o (gval all o st) st (fun s => Ek P gl ch0 hs all base l (updT F (base + i) ft) s K)
    | false => False
  | none => False
def El (P : Program) (gl : Nat → AV) (ch0 : Ql) (hs : Qz) (all : List Oper) (base : Nat) (n : Nat) (st : St) (K : St → Prop) : Prop :=
 match mdR all with
 | true => Ek P gl ch0 hs all base (List.range n) (fun _ => none) st K
 | false => NA P gl ch0 hs all base (List.range n) st K
def T3 (P : Program) (gl : Nat → AV) (ch0 : Ql) (hs : Qz) (all : List Oper) (base lo n : Nat) (st : St) (K : St → Prop) : Prop :=
 match mdR all with
 | true => Ek P gl ch0 hs all base (List.range' lo n) (fun _ => none) st K
 | false => NA P gl ch0 hs all base (List.range' lo n) st K
structure Both (A B : Prop) : Prop where
 a : A
 b : B
section
variable {P : Program} {gl : Nat → AV} {ch0 : Ql} {hs : Qz}
theorem wo_ok (h0 : ch0.Ok P gl) {bid : Nat} {dst : Option Nat} {op : Op} {ev : Operand → AV} {hp : Hp} {K : Res → Prop} (hw : wo P gl ch0 hs bid dst op ev hp K) :
  ∃ ch x, Mh P gl ch ∧ K x ∧ ∀ cb : Y2, cb bid = ch → xo P cb bid dst op ev hp = some x := by
 unfold wo at hw
 split at hw
 ·rename_i hc
  split at hw
  ·rename_i f args hf
   obtain ⟨ch, x, h1, h2, h3⟩ := Pv h0 hw
   refine ⟨ch, x, h1, h3, fun cb he => ?_⟩
   simp_all [xo, if_pos]
  ·cases hw
 ·rename_i hc
  obtain ⟨x, h1, h2⟩ := Ai hw
  refine ⟨ch0, x, fun _ _ _ _ _ hk => (h0 _ _ _ _ _ _ _ hk).zero, h2, fun cb he => ?_⟩
  simp_all [xo, if_neg]
theorem Sy {F : Z4} {all : List Oper} {bid : Nat} {o : Oper} {gv : Option AV} {ev : Operand → AV} (hg : DO o gv = some true) (h : F bid = Ga all o gv ev) : GO true F bid o ev = true := by
 have : Ga all o gv ev = foot o.op ev := by
  grind [DO, Ga]
 unfold GO
 rw [h, this]
 cases hf : foot o.op ev with
 | none => rfl
 | some l => simp
theorem Rr (h0 : ch0.Ok P gl) {md : Bool} {F : Z4} {all : List Oper} {bid : Nat} {o : Oper} {st : St} {K : St → Prop} {sd : Bool} (hsd : sd = (md && seed all o)) (hF : md = true → F bid = Ga all o (gval all o st) (st.ev gl)) (hw : Eo P gl ch0 hs sd bid o (gval all o st) st K) :
  ∃ ch s, Mh P gl ch ∧ K s ∧ ∀ cb : Y2, cb bid = ch → X4 P gl cb md F all bid o st = some s := by
 unfold Eo at hw
 split at hw
 ·rename_i hc
  split at hw
  ·rename_i hg
   have hf : GO md F bid o (st.ev gl) = true := by
    cases md with
    | false => rfl
    | true => exact Sy hg (hF rfl)
   split at hw
   ·split at hw
    ·rename_i r hr
     refine ⟨ch0, _, fun _ _ _ _ _ hk => (h0 _ _ _ _ _ _ _ hk).zero, hw, fun cb he => ?_⟩
     rw [Kq, NS, if_pos hc, hg]
     grind [xoF]
    ·cases hw
   ·obtain ⟨ch, x, h1, h2, h3⟩ := wo_ok h0 hw
    refine ⟨ch, _, h1, h2, fun cb he => ?_⟩
    rw [Kq, NS, if_pos hc, hg]
    grind [xoF]
  ·rename_i hg
   refine ⟨ch0, _, fun _ _ _ _ _ hk => (h0 _ _ _ _ _ _ _ hk).zero, hw, fun cb he => ?_⟩
   rw [Kq, NS, if_pos hc, hg]
  ·cases hw
 ·cases hw
theorem SQ {ch : Ql} {cb : Y2} {i base : Nat} (h1 : Mh P gl ch) (h4 : cb.Ok P gl) : Y2.Ok P gl (fun b => if b = base + i then ch else cb b) := fun b f ts r hp' nx' hk => by
 dsimp only at hk
 split at hk
 ·exact h1 _ _ _ _ _ hk
 ·exact h4 _ _ _ _ _ _ hk
theorem Cu (h0 : ch0.Ok P gl) {F : Z4} {all : List Oper} {base : Nat} {K : St → Prop} : ∀ (l : List Nat) (st : St), l.Nodup → NA P gl ch0 hs all base l st K →
  ∃ (cb : Y2) (s : St), cb.Ok P gl ∧ K s ∧ ∀ cb' : Y2, (∀ i ∈ l, cb' (base + i) = cb (base + i)) → runI P gl cb' false F all base l st = some s
 | [], st, _, hw => ⟨fun _ => ch0, st, CP h0, hw, fun _ _ => rfl⟩
 | i :: l, st, hn, hw => by
  simp only [NA] at hw
  split at hw
  ·rename_i o ho
   obtain ⟨ch, s1, h1, h2, h3⟩ := Rr h0 (F := F) (md := false) rfl nofun hw
   obtain ⟨cb, s, h4, h5, h6⟩ := Cu h0 l s1 (List.nodup_cons.1 hn).2 h2
   refine ⟨fun b => if b = base + i then ch else cb b, s, SQ h1 h4, h5, fun cb' he => ?_⟩
   ·simp only [runI, ho]
    rw [h3 cb' (by simp_all)]
    refine h6 cb' fun j hj => ?_
    grind
  ·cases hw
theorem Hw (h0 : ch0.Ok P gl) {all : List Oper} {base : Nat} {K : St → Prop} : ∀ (n k : Nat) (F : Z4) (st : St), Ek P gl ch0 hs all base (List.range' k n) F st K →
  ∃ (cb : Y2) (G : Z4) (s : St), cb.Ok P gl ∧ K s ∧ (∀ j, j < k → G (base + j) = F (base + j)) ∧ (∀ cb' : Y2, (∀ i ∈ List.range' k n, cb' (base + i) = cb (base + i)) → runI P gl cb' true G all base (List.range' k n) st = some s) ∧
   ∀ i j o p, i < j → k ≤ j → j < k + n → all[i]? = some o → all[j]? = some p → hkCl (hk o.op) (hk p.op) = true → Wm (G (base + i)) (G (base + j)) = true ∨ ((Zj all []).getD j 0).testBit i = true
 | 0, k, F, st, hw => ⟨fun _ => ch0, F, st, CP h0, hw, fun _ _ => rfl, fun _ _ => rfl, fun i j o p h1 h2 h3 => by omega⟩
 | n + 1, k, F, st, hw => by
  simp only [List.range'_succ, Ek] at hw
  split at hw
  ·rename_i o ho
   split at hw
   ·rename_i hok
    obtain ⟨ch, s1, h1, h2, h3⟩ := Rr h0 (F := updT F (base + k) (Ga all o (gval all o st) (st.ev gl))) (md := true) (all := all) (by simp) (fun _ => Ij) hw
    obtain ⟨cb, G, s, h4, h5, h6, h7, h8⟩ := Hw h0 n (k + 1) _ s1 h2
    have hk : G (base + k) = Ga all o (gval all o st) (st.ev gl) := by simp_all [Ij]
    have hlo : ∀ j, j < k → G (base + j) = F (base + j) := fun j hj => by grind [Ah]
    refine ⟨fun b => if b = base + k then ch else cb b, G, s, SQ h1 h4, h5, hlo, fun cb' he => ?_, fun i j o' p h9 h10 h11 ho' hp hc => ?_⟩
    ·simp only [List.range'_succ, runI, ho]
     rw [Sk (G := updT F (base + k) (Ga all o (gval all o st) (st.ev gl))) (by simp_all), h3 cb' (by simp_all)]
     grind
    ·by_cases e : j = k
     ·subst e
      rw [ho] at hp; cases hp
      exact TD hok hlo hk i o' h9 ho' hc
     grind
   ·cases hw
  ·cases hw
theorem S4 (h0 : ch0.Ok P gl) {all : List Oper} {base n : Nat} {st : St} {K : St → Prop} (hw : El P gl ch0 hs all base n st K) :
  ∃ (cb : Y2) (F : Z4) (s : St), cb.Ok P gl ∧ K s ∧ runI P gl cb (mdR all) F all base (List.range n) st = some s ∧ (mdR all = true → No F all base n) := by
 unfold El at hw
 split at hw
 ·rename_i hm
  rw [List.range_eq_range'] at hw ⊢
  obtain ⟨cb, G, s, h4, h5, h6, h7, h8⟩ := Hw h0 n 0 _ st hw
  exact ⟨cb, G, s, h4, h5, by simp_all, fun _ i j o p h1 h2 => h8 i j o p h1 (Nat.zero_le _) (by omega)⟩
 ·rename_i hm
  obtain ⟨cb, s, h4, h5, h6⟩ := Cu h0 (F := fun _ => none) _ _ List.nodup_range hw
  exact ⟨cb, _, s, h4, h5, by rw [hm]; exact h6 cb fun _ _ => rfl, fun e => by simp_all⟩
theorem Pz (h0 : ch0.Ok P gl) {all : List Oper} {base lo n : Nat} {st : St} {K : St → Prop} (hw : T3 P gl ch0 hs all base lo n st K) :
  ∃ (cb : Y2) (F : Z4) (s : St), cb.Ok P gl ∧ K s ∧ runI P gl cb (mdR all) F all base (List.range' lo n) st = some s ∧ (mdR all = true → PairL F all base lo (lo + n)) := by
 unfold T3 at hw
 split at hw
 ·rename_i hm
  obtain ⟨cb, G, s, h4, h5, h6, h7, h8⟩ := Hw h0 n lo _ st hw
  exact ⟨cb, G, s, h4, h5, by simp_all, fun _ i j o p h1 h2 h3 => h8 i j o p h1 h2 h3⟩
 ·rename_i hm
  obtain ⟨cb, s, h4, h5, h6⟩ := Cu h0 (F := fun _ => none) _ _ List.nodup_range' hw
  exact ⟨cb, _, s, h4, h5, by rw [hm]; exact h6 cb fun _ _ => rfl, fun e => by simp_all⟩
end
abbrev WF := Nat → Qz → List AV → Tr Box → Nat → (AV → Tr Box → Nat → Prop) → Prop
def CallW (P : Program) (gl : Nat → AV) (f : FuncId) (args : List AV) (hp : Tr Box) (nx : Nat) (K : AV → Tr Box → Nat → Prop) : Prop :=
 ∀ (m : Nat → Lc) (H : HV) (B : Nat → Prop) (H0 : HV) (rest : List (AV × Value)) (w : World) (vs : Array Value), RelH m H B H0 gl (lkb hp) nx w → args.length = vs.size →
  (∀ (j : Nat) (x : AV) (v : Value), args[j]? = some x → vs[j]? = some v → RV H (Q5 (lkb hp) m) x v) → (∀ p ∈ rest, RV H (Q5 (lkb hp) m) p.1 p.2) →
  Ans P f vs w fun e w' => ∃ v m' H' r hp' nx', K r hp' nx' ∧ e = .returned v ∧ Q8 B w w' ∧ RelH m' H' B H0 gl (lkb hp') nx' w' ∧ RV H' (Q5 (lkb hp') m') r v ∧ ∀ p ∈ rest, RV H' (Q5 (lkb hp') m') p.1 p.2
def WF.Ok (P : Program) (gl : Nat → AV) (wf : WF) : Prop := ∀ f hs args hp nx K, wf f hs args hp nx K → CallW P gl f args hp nx K
def TY (P : Program) (gl : Nat → AV) (bid f : Nat) (h : Hint) (K : Res → Prop) (strict : Bool) (ts : List AV) : Prop :=
 match strict with
 | true => LW P gl bid f h K true ts
 | false => match h with
  | .cc r => Pu P gl f ts r ∧ K (r, none)
  | .c sh => ∃ x, Pu P gl f ts (sh x) ∧ K (sh x, none)
  | .cb => ∃ u, Pu P gl f ts (.bool u) ∧ (u = true → K (.bool true, none)) ∧ (u = false → K (.bool false, none))
  | _ => False
def wseqC (P : Program) (gl : Nat → AV) (ch0 : Ql) (wf : WF) (o : Oper) (st : St) (K : St → Prop) (f : Nat) (args : List AV) (h : Option Hint) : Prop :=
 match h with
 | none => match ch0 f args st.hp st.nx with
  | some (r, hp', nx') => K ((st.setHp hp' nx').putO o.dst r)
  | none => False
 | some h => match h with
  | .i sub => wf f sub args st.hp st.nx (fun r hp' nx' => K ((st.setHp hp' nx').putO o.dst r))
  | .h kb r bs => T2 kb args st.hp st.nx (fun args1 bs1 ids sc => ∃ x, PuH P gl f args1 bs1 (r x) (bs x) ∧ Ef ids sc (bs x) (r x) (fun rr hp' nx' => K ((st.setHp hp' nx').putO o.dst rr)))
  | .hb kb bs => T2 kb args st.hp st.nx (fun args1 bs1 ids sc => ∃ x u, PuH P gl f args1 bs1 (.bool u) (bs x) ∧ (u = true → Ef ids sc (bs x) (.bool true) (fun rr hp' nx' => K ((st.setHp hp' nx').putO o.dst rr))) ∧ (u = false → Ef ids sc (bs x) (.bool false) (fun rr hp' nx' => K ((st.setHp hp' nx').putO o.dst rr))))
  | h => wans (lkb st.hp) args (TY P gl st.nx f h (fun r => K ((st.bump 1).eff o.dst r)))
def wown (P : Program) (dst : Option Nat) (op : Op) (ev : Operand → AV) (st : St) (K : St → Prop) : Prop :=
 match op with
 | .call c => match c.callee with
  | .builtin .append => match c.argTypes.toList, c.args.toList.map ev with
   | [t, t'], [s, x] => match elG P t with
    | some (sz, by_, _) => match RU s && Nat.beq t' t with
     | true => wels sz x (lkb st.hp) (fun ys => (ys.length * by_ ≤ 140737488355328 ∧ ys.length ≤ 9223372036854775807) ∧ K (St.eff ⟨st.n, st.sl, pt st.hp st.nx (.own 0 sz []), st.nx + 1⟩ dst (.ow st.nx 4096 sz ys.length, some (st.nx, .own 4096 sz ys))))
     | false => False
    | none => False
   | _, _ => False
  | _ => False
 | _ => False
def wnil (P : Program) (dst : Option Nat) (op : Op) (ev : Operand → AV) (st : St) (K : St → Prop) : Prop :=
 match op with
 | .binOp o t x y _ => match ev x with
  | .sl _ xs => match ev y with
   | .nil => match I5 P t with
    | true => match o with
     | .eql => (xs = [] → K (st.putO dst (.bool true))) ∧ K (st.putO dst (.bool false))
     | .neq => (xs = [] → K (st.putO dst (.bool false))) ∧ K (st.putO dst (.bool true))
     | _ => False
    | false => False
   | _ => False
  | _ => False
 | _ => False
def isM (op : Op) (ev : Operand → AV) : Bool := match op with
 | .makeMap _ _ => true
 | .mapUpdate _ _ _ _ => true
 | .call c => match c.callee with
  | .builtin .delete => true
  | .builtin .len => match c.args.toList.map ev with
   | [.mp _] => true
   | _ => false
  | _ => false
 | _ => false
def wM (P : Program) (o : Oper) (gl : Nat → AV) (st : St) (K : St → Prop) : Prop :=
 match xopM P st.nx o.dst o.op (st.ev gl) (lkb st.hp) with
 | some r => K ((st.bump 1).eff o.dst r)
 | none => False
def rI32 (n : Int) : AV := .int .i32 n
def MX (l : List Int) : List UInt8 := (runesBytes l).data.toList
def isR (P : Program) (op : Op) (ev : Operand → AV) : Option (List AV) := match op with
 | .convert src to x => match ev x with
  | .sl sz xs => match WV P src && (KC P to && Nat.beq sz 1) with
   | true => some xs
   | false => none
  | _ => none
 | _ => none
def En (P : Program) (gl : Nat → AV) (ch0 : Ql) (wf : WF) (o : Oper) (st : St) (K : St → Prop) (h : Option Hint) : Prop :=
  match Vi o.op with
  | true => match Y7 (st.ev gl) o.op with
    | some (f, args) => wseqC P gl ch0 wf o st K f args h
    | none => False
  | false => match isR P o.op (st.ev gl) with
   | some xs => ∃ l : List Int, List.map rI32 l = xs ∧ K (st.putO o.dst (.str (MX l)))
   | none => match isM o.op (st.ev gl) with
   | true => wM P o gl st K
   | false => match h with
    | some .o => wown P o.dst o.op (st.ev gl) st K
    | some .nn => wnil P o.dst o.op (st.ev gl) st K
    | h => wask P st.nx o.dst o.op (st.ev gl) (lkb st.hp) h (fun r => match r with
      | (v, some b) => K ((st.bump 1).eff o.dst (v, some b))
      | (v, none) => K (st.putO o.dst v))
def Em (P : Program) (gl : Nat → AV) (ch0 : Ql) (wf : WF) (o : Oper) (st : St) (K : St → Prop) (h : Option Hint) : Prop :=
 match h with
 | some (.n sh s h) => En P gl ch0 wf o st (fun st => wnrm sh s st K) h
 | h => En P gl ch0 wf o st K h
def Ik (P : Program) (gl : Nat → AV) (ch0 : Ql) (wf : WF) (hs : Qz) (o : Oper) (st : St) (K : St → Prop) : Prop :=
 match lkH hs (RW o.dst o.op) with
 | some (.z kb h) => K7 kb st (fun s => Em P gl ch0 wf o s K h)
 | some (.fl sh s h) => wfill sh s st (fun s => Em P gl ch0 wf o s K h)
 | h => Em P gl ch0 wf o st K h
def wseq (P : Program) (gl : Nat → AV) (ch0 : Ql) (wf : WF) (hs : Qz) (all : List Oper) : List Oper → St → (St → Prop) → Prop
 | [], st, K => K st
 | o :: l, st, K => match QV o.dst st.n with
  | true => match DO o (gval all o st) with
   | some true => Ik P gl ch0 wf hs o st (fun s => wseq P gl ch0 wf hs all l s K)
   | some false => wseq P gl ch0 wf hs all l (st.putO o.dst (.tup [])) K
   | none => False
  | false => False
def CA (P : Program) (r : Option Nat) (n : Nat) (B : Nat → Prop) (H0 : HV) (gl : Nat → AV) (rest : List (AV × Value)) (a : Act) (w : World) (o : Oper) (K : St → Prop) : Prop :=
 ∀ (next : Act → World → Prop) (Q : Exit → Act → World → Prop),
  (∀ a' w' m' H' st', K st' → a'.defers = a.defers → Q8 B w w' → RelS m' H' B H0 gl rest st' a'.tmps w' → next a' w') → o.wpIn (FW r) n P a w next Q
section
variable {P : Program} {gl : Nat → AV} {ch0 : Ql} {hs : Qz} {wf : WF} {m : Nat → Lc} {H : HV} {B : Nat → Prop} {H0 : HV} {rest : List (AV × Value)} {st : St} {a : Act} {w : World}
theorem VS.toW {ro : Option Nat} {n : Nat} {o : Oper} {st' : St} {K : St → Prop} (h : VS P ro n B H0 gl rest a w o st') (hk : K st') : CA P ro n B H0 gl rest a w o K :=
 fun next Q hn => h next Q fun a' w' m' H' hd hb hr => hn a' w' m' H' st' hk hd hb hr
theorem Gm (h : RelS m H B H0 gl rest st a.tmps w) {o : Oper} {f : Nat} {args : List AV} (hc : Y7 (st.ev gl) o.op = some (f, args)) {K : St → Prop} (ro : Option Nat) (n : Nat)
  (hcalls : ∀ vs : Array Value, args.length = vs.size → (∀ (j : Nat) (x : AV) (v : Value), args[j]? = some x → vs[j]? = some v → RV H (st.env m) x v) →
   Ans P f vs w fun e w' => ∃ st' v m' H', K st' ∧ e = .returned v ∧ Q8 B w w' ∧ RelS m' H' B H0 gl rest st' (a.put o.dst v).tmps w') : CA P ro n B H0 gl rest a w o K := by
 intro next Q hn
 obtain ⟨vs, hrun, hl, hr⟩ := Hb h hc
 obtain ⟨c, x, caps, ho, _⟩ := Ub hc
 refine ⟨fun _ _ => trivial, ?_⟩
 rw [Oper.semAt_eq _ _ _ (fun c e => by simp_all), hrun]
 rcases hcalls vs hl hr with ⟨hent, hcs⟩ | ⟨v, w', hv, hq⟩
 ·rw [hent vs w]
  refine ⟨(fun hh => by grind [FW]), DL (hcs.mono fun e w' hp => ?_)⟩
  obtain ⟨st', v, m', H', hk, rfl, hb, hrel⟩ := hp
  grind [hk, Xx]
 ·rw [hv]
  obtain ⟨st', v', m', H', hk, he, hb, hrel⟩ := hq
  cases he
  exact hn _ _ _ _ _ hk (Xx _ _ _) hb hrel
theorem wown_ok (h : RelS m H B H0 gl rest st a.tmps w) {o : Oper} (hd : QV o.dst st.n = true) {K : St → Prop} (hw : wown P o.dst o.op (st.ev gl) st K) : ∃ st', K st' ∧ OpOk P B H0 gl rest a w o.dst st' (execOp a.eval o) ∧ ∀ c, o.op ≠ .defer c := by
 unfold wown at hw
 split at hw
 ·rename_i c ho
  split at hw
  ·rename_i hb
   split at hw
   ·rename_i t t' s x ht hx
    split at hw
    ·rename_i sz by_ zs hel
     split at hw
     ·rename_i hc
      rw [Bool.and_eq_true] at hc
      obtain rfl := Nat.eq_of_beq_eq_true hc.2
      obtain ⟨ys, hys, ⟨h1, h2⟩, hK⟩ := EY hw
      refine ⟨_, hK, ?_, fun c' e => by simp_all⟩
      obtain ⟨e, i, z, hte, hi, hz, hzs, hpos, hsize, hby, hok, rfl⟩ := G9 hel
      obtain ⟨callee, args, argTypes⟩ := c
      dsimp only at hb
      subst hb
      obtain ⟨y, z, rfl, rfl, rfl⟩ := Di hx
      obtain rfl := Nz ht
      obtain ⟨hN, hE⟩ := h.newOwn sz hpos
      obtain ⟨ad, had⟩ := LH (h.ev y) hc.1
      have hs : RV H (Q5 (lkb (pt st.hp st.nx (.own 0 sz []))) (updF m st.nx ⟨0, 0, 0⟩)) (.ow st.nx 0 sz 0) (a.eval y) := by simp_all [TE]
      have hxv := (h.ev z).mono (.refl _) hE
      have hfr := h.heap.fresh st.nx (Nat.le_refl _)
      have hid : lkb (pt st.hp st.nx (.own 0 sz [])) st.nx = some (.own 0 sz []) := by rw [Z1, Qk]
      have hys' : xels sz (st.ev gl z) (lkb (pt st.hp st.nx (.own 0 sz []))) = some ys := by
       revert hys
       unfold xels
       split
       ·exact id
       ·rename_i id _ _ _ _ _
        intro hys
        split at hys
        ·rename_i v cs hid2
         have hne : id ≠ st.nx := fun e => by simp_all
         simp_all [Z1, Qo]
        ·cases hys
       ·rename_i id _ _ _ _
        intro hys
        split at hys
        ·rename_i v z' xs hid2
         have hne : id ≠ st.nx := fun e => by simp_all
         simp_all [Z1, Qo]
        ·cases hys
       ·exact id
       ·exact id
       ·exact id
      have hk : Gn P t' t' (.ow st.nx 0 sz 0) (st.ev gl z) (lkb (pt st.hp st.nx (.own 0 sz []))) = some (.ow st.nx 4096 sz ys.length, some (st.nx, .own 4096 sz ys)) := by
       simp_all [Gn, Nat.beq_refl]
      have hop := S5 (ty := o.type) (P := P) (st := ⟨st.n, st.sl, pt st.hp st.nx (.own 0 sz []), st.nx + 1⟩) hN hd hs hxv hk
      unfold execOp
      simp only [ho, resolve]
      simpa only [List.map_toArray, List.map_cons, List.map_nil, invoke, builtin, pure_bind] using hop
     ·cases hw
    ·cases hw
   ·cases hw
  ·cases hw
 ·cases hw
theorem Pb (d : Nat) {t : TypeId} {sz : Nat} {xs : List AV} {u : Value} (hx : RelI H (.sl sz xs) u) (ht : I5 P t = true) : ∃ b, (b = true → xs = []) ∧ (∃ a n c, u = .slice a n c) ∧ (Op.equalIn (d + 1) t u (.slice none 0 0)).run P w = .ok b w := by
 unfold I5 at ht
 split at ht <;> first | cases ht | skip
 rename_i e he
 cases hx with
 | sl0 _ a cap _ => exact ⟨a.isNone, fun _ => rfl, ⟨_, _, _, rfl⟩, by cases a <;> simp [Op.equalIn, run_underlying he]⟩
 | sl => exact ⟨false, (fun e => by cases e), ⟨_, _, _, rfl⟩, by simp [Op.equalIn, run_underlying he]⟩
theorem wnil_ok (h : RelS m H B H0 gl rest st a.tmps w) {o : Oper} (hd : QV o.dst st.n = true) {K : St → Prop} (hw : wnil P o.dst o.op (st.ev gl) st K) : ∃ st', K st' ∧ OpOk P B H0 gl rest a w o.dst st' (execOp a.eval o) ∧ ∀ c, o.op ≠ .defer c := by
 unfold wnil at hw
 split at hw
 ·rename_i op t x y p ho
  split at hw
  ·rename_i sz xs hx
   split at hw
   ·rename_i hy
    split at hw
    ·rename_i ht
     have hxv := h.ev x
     rw [hx] at hxv
     have hyv := h.ev y
     rw [hy] at hyv
     have hye := hyv.nil_inv
     obtain ⟨b, hb, ⟨ad, n, c, hu⟩, he⟩ := Pb (P := P) (w := w) 9999 hxv.sl_inv ht
     have hg : ∀ op, (eqGuard op t x y (a.eval x) (a.eval y)).run P w = .ok () w := fun op => by rw [hu, hye]; cases op <;> rfl
     have hnd : ∀ c, o.op ≠ .defer c := fun c e => by simp_all
     split at hw
     ·obtain ⟨r, h5, h6⟩ := Uc (P := P) (w := w) (t := t) (op := .eql) (u := .slice ad n c) (v := .slice none 0 0) (b := b) (av := .bool b) rfl (by rw [← hu]; exact he) (fun _ => rfl) (fun e => by cases e)
      refine ⟨st.putO o.dst (.bool b), ?_, ?_, hnd⟩
      ·cases b with
       | true => simp_all
       | false => exact hw.2
      ·unfold execOp
       simp only [ho]
       exact OpOk.val h hd (v := r) (by simp_all) (.imm _ _ (h6 _))
     ·obtain ⟨r, h5, h6⟩ := Uc (P := P) (w := w) (t := t) (op := .neq) (u := .slice ad n c) (v := .slice none 0 0) (b := b) (av := .bool (!b)) rfl (by rw [← hu]; exact he) (fun e => by cases e) (fun _ => rfl)
      refine ⟨st.putO o.dst (.bool (!b)), ?_, ?_, hnd⟩
      ·cases b with
       | true => simp_all
       | false => exact hw.2
      ·unfold execOp
       simp only [ho]
       exact OpOk.val h hd (v := r) (by simp_all) (.imm _ _ (h6 _))
     ·cases hw
    ·cases hw
   ·cases hw
  ·cases hw
 ·cases hw
theorem CA.of {ro : Option Nat} {n : Nat} {o : Oper} {K : St → Prop} {st' : St} (h : OpOk P B H0 gl rest a w o.dst st' (execOp a.eval o)) (hnd : ∀ c, o.op ≠ .defer c) (hk : K st') : CA P ro n B H0 gl rest a w o K := VS.toW (h.step hnd) hk
theorem callees {o : Oper} {f : Nat} {args : List AV} (h : RelS m H B H0 gl rest st a.tmps w) (hd : QV o.dst st.n = true) {K : St → Prop} {hh : Hint} {vs : Array Value} (hl : args.length = vs.size) (hv : ∀ (j : Nat) (x : AV) (v : Value), args[j]? = some x → vs[j]? = some v → RV H (st.env m) x v)
  (hw : wans (lkb st.hp) args (TY P gl st.nx f hh (fun r => K ((st.bump 1).eff o.dst r)))) : Ans P f vs w fun e w' => ∃ st' v m' H', K st' ∧ e = .returned v ∧ Q8 B w w' ∧ RelS m' H' B H0 gl rest st' (a.put o.dst v).tmps w' := by
 have hbump : ∀ r : AV, (st.bump 1).eff o.dst (r, none) = (st.bump 1).putO o.dst r := fun _ => rfl
 have strict : ∀ ts : List AV, ts.length = args.length → (∀ (j : Nat) (t : AV) (v : Value), ts[j]? = some t → vs[j]? = some v → RelI (snap H (lkb st.hp) m w) t v) → LW P gl st.nx f hh (fun r => K ((st.bump 1).eff o.dst r)) true ts →
   Ans P f vs w fun e w' => ∃ st' v m' H', K st' ∧ e = .returned v ∧ Q8 B w w' ∧ RelS m' H' B H0 gl rest st' (a.put o.dst v).tmps w' := fun ts hlen hts hw1 => by
  obtain ⟨ch, x, h1, h2, h3⟩ := Ro hw1
  refine (Ey (st := st.bump 1) h1 (h.bump 1) hd (h.heap.fresh _ (Nat.le_refl _)) (Nat.lt_succ_self _) true (lkb st.hp) ts (fun _ _ hh => hh) (fun e => by cases e) (by omega) hts h2).mono fun e w' hpost => ?_
  grind
 unfold wans at hw
 split at hw
 ·rename_i ts hts
  obtain ⟨hl', hr'⟩ := MK (R' := RelI (snap H (fun _ => none) m w)) hl hv hts fun x t v hx ht => Cs (H1 := H) false (fun id ver cs hh => by cases hh) (fun id ver cs hh => by cases hh) (fun id bx hh => by cases hh) (fun _ => rfl) 12 x t v hx ht
  have hsn : snap H (fun _ => none) m w = H := by
   funext b o; simp_all [snap, if_neg]
  rw [hsn] at hr'
  have fin : ∀ r, Pu P gl f ts r → K ((st.bump 1).putO o.dst r) → Ans P f vs w fun e w' => ∃ st' v m' H', K st' ∧ e = .returned v ∧ Q8 B w w' ∧ RelS m' H' B H0 gl rest st' (a.put o.dst v).tmps w' := fun r hp hK => by
   refine (FT (h.bump 1) hd hl' hr' hp).mono fun e w' hpost => ?_
   grind
  simp only [TY] at hw
  split at hw
  ·grind
  ·grind
  ·obtain ⟨u, hp, h1, h2⟩ := hw
   cases u with
   | true => grind
   | false => grind
  ·cases hw
 ·obtain ⟨ts, hw1, hlen, hts⟩ := G0 (R := RV H (st.env m)) (R' := RelI (snap H (lkb st.hp) m w)) (fun x u K hx hk => Ht (fun id b hid => h.heap.box id b hid) (fun id bx hid hr => (h.heap.sepR id bx hid hr).2.2) 12 x u K hx hk) args vs.toList _ (by simp [hl]) (fun j c u hc hu => hv j c u hc (by simp_all)) hw
  exact strict ts hlen (fun j t v ht hv' => hts j t v ht (by simp_all)) hw1
theorem isR_ok {P : Program} {H : HV} {w : World} (hs : HV.sat H w) {op : Op} {ev : Operand → AV} {l : List Int} (hk : isR P op ev = some (List.map rI32 l)) :
  ∃ src to x, op = .convert src to x ∧ ∃ sz, ev x = .sl sz (List.map rI32 l) ∧ ∀ v, RelI H (.sl sz (List.map rI32 l)) v → (convert src to v).run P w = .ok (.string ⟨(MX l).toArray⟩) w := by
 unfold isR at hk
 split at hk <;> first | cases hk | skip
 rename_i src to x
 split at hk <;> first | cases hk | skip
 rename_i sz xs hx
 split at hk
 rotate_left
 ·cases hk
 rename_i hc
 rw [Bool.and_eq_true, Bool.and_eq_true] at hc
 obtain rfl := Nat.eq_of_beq_eq_true hc.2.2
 obtain ⟨e, h1, h2⟩ := IJ hc.1
 have hd := VH hc.2.1
 cases hk
 refine ⟨src, to, x, rfl, _, hx, fun v hv => ?_⟩
 have hu : ∀ b : ByteArray, (⟨(b.data.toList).toArray⟩ : ByteArray) = b := fun b => by simp
 cases l with
 | nil =>
  rw [show (⟨(MX []).toArray⟩ : ByteArray) = .empty from rfl]
  cases hv with
  | sl0 _ a cap _ =>
   cases a with
   | none => exact run_convert_runes_nil w src to e 0 cap h1 h2 hd
   | some a => exact run_convert_runes w src to e a 0 cap [] (by simp) h1 h2 hd fun j hj => by simp at hj
  | sl _ _ b o cap =>
   exact run_convert_runes (P := P) w src to e ⟨b, o, none⟩ 0 cap [] (by simp) h1 h2 hd fun j hj => by simp at hj
 | cons n l =>
  cases hv with
  | sl _ _ b o cap val g0 g1 g2 g3 g4 g5 =>
   have := run_convert_runes (P := P) w src to e ⟨b, o, none⟩ (List.map rI32 (n :: l)).length cap (n :: l) (by simp) h1 h2 hd fun j hj => by
    have hx1 : (List.map rI32 (n :: l))[j]? = some (rI32 ((n :: l).getD j 0)) := by
     rw [List.getElem?_map, List.getElem?_eq_getElem hj, List.getD_eq_getElem?_getD, List.getElem?_eq_getElem hj]; rfl
    obtain ⟨k1, k2⟩ := g4 j _ 0 (rI32 ((n :: l).getD j 0)) hx1 rfl
    have k3 := g5 j _ 0 (rI32 ((n :: l).getD j 0)) hx1 rfl
    cases k4 : val j 0 <;> rw [k4] at k3 k1 <;> cases k3
    have := hs _ _ _ k1
    simpa [ZW] using this
   rw [this]
   unfold MX
   rw [hu, show (List.map rI32 (n :: l)).length = (n :: l).length from by simp, List.take_length]
theorem Rq (h0 : ch0.Ok P gl) (hwf : WF.Ok P gl wf) (h : RelS m H B H0 gl rest st a.tmps w) {o : Oper} (hd : QV o.dst st.n = true) {K : St → Prop} {hh : Option Hint} (hw : En P gl ch0 wf o st K hh) (ro : Option Nat) (n : Nat) : CA P ro n B H0 gl rest a w o K := by
 unfold En at hw
 split at hw
 ·rename_i hc
  split at hw
  ·rename_i f args hf
   unfold wseqC at hw
   split at hw
   ·split at hw
    ·rename_i r hp' nx' hr
     refine VS.toW (To (ch := ch0) (rd := Ia) h0 MH h hd (st' := (st.setHp hp' nx').putO o.dst r) ?_ ro n) hw
     unfold xinl
     rw [hf]; simp only [hr]
    ·cases hw
   ·rename_i hh
    split at hw
    ·rename_i sub
     refine Gm h hf ro n fun vs hl hv => ?_
     refine (hwf _ _ _ _ _ _ hw m H B H0 _ w vs h.heap hl hv h.hold).mono fun e w' hpost => ?_
     obtain ⟨v, m', H', r, hp', nx', hk, rfl, hb, hh, hrv, hrest⟩ := hpost
     exact ⟨_, v, m', H', hk, rfl, hb, h.taken hd hh hrv hrest⟩
    ·rename_i kb r bs
     refine Gm h hf ro n fun vs hl hv => Tf h hd hl hv (fun args1 bs1 ids sc hq => ?_) hw
     obtain ⟨x, h1, h2⟩ := hq
     exact ⟨_, _, h1, h2⟩
    ·rename_i kb bs
     refine Gm h hf ro n fun vs hl hv => Tf h hd hl hv (fun args1 bs1 ids sc hq => ?_) hw
     obtain ⟨x, u, h1, h2, h3⟩ := hq
     cases u with
     | true => exact ⟨_, _, h1, h2 rfl⟩
     | false => exact ⟨_, _, h1, h3 rfl⟩
    ·exact Gm h hf ro n fun vs hl hv => callees h hd hl hv hw
  ·cases hw
 ·rename_i hc
  split at hw
  ·rename_i xs hxs
   obtain ⟨l, rfl, hw⟩ := hw
   obtain ⟨src, to, x, ho, sz, hx, hrun⟩ := isR_ok h.heap.sat hxs
   refine CA.of (OpOk.val h hd (av := .str (MX l)) ?_ (.imm _ _ (.str _))) (fun c e => by rw [ho] at e; cases e) hw
   unfold execOp
   simp only [ho]
   have hv := h.ev x
   rw [hx] at hv
   simp [hrun _ hv.sl_inv]
  split at hw
  ·unfold wM at hw
   split at hw
   ·rename_i r hr
    exact VS.toW ((R1 (st := st.bump 1) (h.bump 1) hd (h.heap.fresh _ (Nat.le_refl _)) (Nat.lt_succ_self _) hr).step (ro := ro) (n := n) (Nb hr)) hw
   ·cases hw
  ·split at hw
   ·obtain ⟨st', hK, hop, hnd⟩ := wown_ok h hd hw
    exact CA.of hop hnd hK
   ·obtain ⟨st', hK, hop, hnd⟩ := wnil_ok h hd hw
    exact CA.of hop hnd hK
   ·obtain ⟨r, h1, h2⟩ := Ai hw
    obtain ⟨v, b⟩ := r
    have hch : Ql.Ok P gl (fun _ _ _ _ => none) := fun _ _ _ _ _ _ _ hk => by cases hk
    cases b with
    | some b =>
     refine VS.toW (L4 (ch := fun _ _ _ _ => none) (rd := Ia) hch MH h hd (st' := (st.bump 1).eff o.dst (v, some b)) ?_ ro n) h2
     unfold NC
     rw [if_neg (by rw [hc]; simp), h1]
    | none =>
     refine VS.toW (L4 (ch := fun _ _ _ _ => none) (rd := Ia) hch MH h hd (st' := st.putO o.dst v) ?_ ro n) h2
     unfold NC
     rw [if_neg (by rw [hc]; simp), h1]
theorem Hx (h0 : ch0.Ok P gl) (hwf : WF.Ok P gl wf) (h : RelS m H B H0 gl rest st a.tmps w) {o : Oper} (hd : QV o.dst st.n = true) {K : St → Prop} {hh : Option Hint} (hw : Em P gl ch0 wf o st K hh) (ro : Option Nat) (n : Nat) : CA P ro n B H0 gl rest a w o K := by
 unfold Em at hw
 split at hw
 ·rename_i sh s hh
  exact fun next Q hn => Rq h0 hwf h hd hw ro n next Q fun a' w' m' H' st' hk hdf hb hr => by
   obtain ⟨st2, h2, e2⟩ := Am (gl := gl) hk
   exact hn a' w' m' H' st2 h2 hdf hb (e2.rel _ _ _ _ _ _ _ hr)
 grind [Rq]
theorem MZ (h0 : ch0.Ok P gl) (hwf : WF.Ok P gl wf) (h : RelS m H B H0 gl rest st a.tmps w) {o : Oper} (hd : QV o.dst st.n = true) {K : St → Prop} (hw : Ik P gl ch0 wf hs o st K) (ro : Option Nat) (n : Nat) : CA P ro n B H0 gl rest a w o K := by
 unfold Ik at hw
 split at hw
 ·rename_i kb hh _
  obtain ⟨s, hconv, hw⟩ := XT (gl := gl) hw
  obtain ⟨m1, H1, hr⟩ := hconv.2 _ _ _ _ _ _ _ h
  exact Hx h0 hwf hr (by rw [hconv.1]; exact hd) hw ro n
 ·rename_i sh s hh _
  obtain ⟨s, hconv, hw⟩ := Pw (gl := gl) hw
  obtain ⟨m1, H1, hr⟩ := hconv.2 _ _ _ _ _ _ _ h
  exact Hx h0 hwf hr (by rw [hconv.1]; exact hd) hw ro n
 grind [Hx]
theorem Yx {all : List Oper} {o : Oper} {b : Bool} (h : RelS m H B H0 gl rest st a.tmps w) (hg : DO o (gval all o st) = some b) : Region.wanted o (yielded all.toArray a.tmps) = b := by
 unfold DO gval at hg
 cases ho : o.guard with
 | none => rw [ho] at hg; cases hg; simp [Region.wanted, ho]
 | some x =>
  obtain ⟨j, want⟩ := x
  rw [ho] at hg
  simp only at hg
  cases hgs : DN all j with
  | none => simp_all
  | some g =>
   rw [hgs] at hg
   exact W1 ho hgs hg (h.slot g)
theorem L1 (h0 : ch0.Ok P gl) (hwf : WF.Ok P gl wf) {all : List Oper} (hok : KT all = true) {nf : Nat} (hbit : ∀ i, nf ≤ i → i < all.length → ∀ j, j < i → ((Zj all []).getD i 0).testBit j = true) {ro : Option Nat} {n : Nat} {d0 : List Deferred} {w0 : World} {K : St → Prop} {Q : Exit → Act → World → Prop}
  (hQ : ∀ (sF : St) (a : Act) (w : World) (m : Nat → Lc) (H : HV), K sF → a.defers = d0 → Q8 B w0 w → RelS m H B H0 gl rest sF a.tmps w → Q .normal a w) :
  ∀ (d k : Nat) (listed : Array Bool) (st : St) (a : Act) (w : World) (m : Nat → Lc) (H : HV), nf ≤ k → k + d = all.length → listed.size = all.length → (∀ j, j < k → listed.getD j false = true) → (∀ j, k ≤ j → listed.getD j false = false) → wseq P gl ch0 wf hs all (all.drop k) st K → a.defers = d0 → Q8 B w0 w → RelS m H B H0 gl rest st a.tmps w → wpAnyIn (FW ro) n P .any all.toArray Q d listed a w
 | 0, k, listed, st, a, w, m, H, _, hkd, hs', h1, _, hk, hd, hb, hr => by
  rw [List.drop_eq_nil_of_le (by omega)] at hk
  exact ⟨CX hs' fun j hj => h1 j (by omega), hQ st a w m H hk hd hb hr⟩
 | d + 1, k, listed, st, a, w, m, H, hnk, hkd, hs', h1, h2, hk, hd, hb, hr => by
  have hkl : k < all.length := by omega
  obtain ⟨o, ho⟩ : ∃ o, all[k]? = some o := ⟨all[k], List.getElem?_eq_getElem hkl⟩
  have hdrop : all.drop k = o :: all.drop (k + 1) := by
   grind [List.drop_eq_getElem_cons, List.getElem?_eq_getElem]
  rw [hdrop] at hk
  have ih := L1 h0 hwf hok hbit (ro := ro) (n := n) hQ d (k + 1) (listed.setIfInBounds k true)
  have hset : ∀ j, j < k + 1 → (listed.setIfInBounds k true).getD j false = true := fun j hj => by
   by_cases e : j = k
   ·simp_all
   ·rw [getD_set_ne false (Ne.symm e)]; grind
  have hset2 : ∀ j, k + 1 ≤ j → (listed.setIfInBounds k true).getD j false = false := fun j hj => by
   rw [getD_set_ne false (by omega)]; grind
  refine ⟨fun hready => ?_, fun i hi => ?_⟩
  ·exfalso
   have : k ∈ Region.ready .any all.toArray listed := by
    rw [mem_ready]
    exact ⟨by grind, o, by simp_all, fun e he hbd => h1 e.on ((XR hok _ o ho).before e he hbd)⟩
   simp_all
  ·rw [mem_ready] at hi
   obtain ⟨hi0, o', ho', hpre⟩ := hi
   rw [List.getElem?_toArray] at ho'
   have hil : i < all.length := (List.getElem?_eq_some_iff.1 ho').1
   rw [VU true (by omega)] at hi0
   have hik : i = k := by
    rcases Nat.lt_trichotomy i k with hlt | heq | hgt
    ·grind
    ·exact heq
    ·exfalso
     have hclI : Ja all fun q => listed.getD q false || q == i := fun q o2 ho2 hLq e he hbe => by
      by_cases hqi : q = i
      ·subst hqi
       rw [ho'] at ho2; cases ho2
       simp only [hpre e he hbe, Bool.true_or]
      ·have hq' : (q == i) = false := by simpa using hqi
       have hqk : q < k := by
        rcases Nat.lt_or_ge q k with hl | hg
        ·exact hl
        ·have hLq : (listed.getD q false || q == i) = true := hLq
         rw [h2 q hg, hq'] at hLq; cases hLq
       have := (XR hok q o2 ho2).before e he hbe
       simp only [h1 e.on (by omega), Bool.true_or]
     have := Vj hclI i k (hbit i (by omega) hil k hgt) (by simp)
     grind
   subst hik
   rw [ho] at ho'; cases ho'
   simp only [wseq] at hk
   split at hk
   ·rename_i hdst
    unfold wpOpIn
    simp only [List.getElem?_toArray, ho]
    split at hk
    ·rename_i hg
     rw [if_pos (Yx hr hg)]
     exact MZ h0 hwf hr hdst hk ro n _ _ fun a' w' m' H' s hs2 hd' hb' hr' => ih s a' w' m' H' (by omega) (by omega) (by simp [hs']) hset hset2 hs2 (hd'.trans hd) (hb.trans hb') hr'
    ·rename_i hg
     rw [if_neg (by rw [Yx hr hg]; simp)]
     exact ⟨fun _ _ => trivial, ih _ _ w m H (by omega) (by omega) (by simp [hs']) hset hset2 hk ((Xx _ _ _).trans hd) hb (hr.putO hdst (.tup [] #[] rfl (fun j c v hj => by simp at hj)))⟩
    ·cases hk
   ·cases hk
theorem Rn (h0 : ch0.Ok P gl) (hwf : WF.Ok P gl wf) {all : List Oper} (hok : KT all = true) {k d : Nat} {X L0 : Nat → Bool} (hbit : ∀ i, k < i → i < all.length → X i = false → L0 i = false → ((Zj all []).getD i 0).testBit k = true) {ro : Option Nat} {n : Nat} {d0 : List Deferred} {w0 : World} {K : St → Prop} {Q : Exit → Act → World → Prop} {listed : Array Bool}
  (hQ : ∀ (sF : St) (a : Act) (w : World) (m : Nat → Lc) (H : HV), (listed.setIfInBounds k true).size = all.length → (∀ j, j < k + 1 → (listed.setIfInBounds k true).getD j false = true) → (∀ j, k + 1 ≤ j → (listed.setIfInBounds k true).getD j false = L0 j) → K sF → a.defers = d0 → Q8 B w0 w → RelS m H B H0 gl rest sF a.tmps w → wpAnyIn (FW ro) n P .any all.toArray Q d (listed.setIfInBounds k true) a w)
  (hkl : k < all.length) (hs' : listed.size = all.length) (h1 : ∀ j, j < k → listed.getD j false = true) (h2 : ∀ j, k ≤ j → listed.getD j false = L0 j) (hk0 : L0 k = false) (hcl : ∀ o, ∀ q, k ≤ q → all[q]? = some o → L0 q = true → ∀ e ∈ o.after, False) (hk : wseq P gl ch0 wf hs all ((all.drop k).take 1) st K) (hd : a.defers = d0) (hb : Q8 B w0 w) (hr : RelS m H B H0 gl rest st a.tmps w) :
  Region.ready .any all.toArray listed ≠ [] ∧ ∀ i ∈ Region.ready .any all.toArray listed, X i = false → wpOpIn (FW ro) n P all.toArray Q i (wpAnyIn (FW ro) n P .any all.toArray Q d (listed.setIfInBounds i true)) a w := by
 obtain ⟨o, ho⟩ : ∃ o, all[k]? = some o := ⟨all[k], List.getElem?_eq_getElem hkl⟩
 have hdrop : all.drop k = o :: all.drop (k + 1) := by
  grind [List.drop_eq_getElem_cons, List.getElem?_eq_getElem]
 rw [hdrop] at hk
 have hset : ∀ j, j < k + 1 → (listed.setIfInBounds k true).getD j false = true := fun j hj => by
  by_cases e : j = k
  ·simp_all
  ·rw [getD_set_ne false (Ne.symm e)]; grind
 have hset2 : ∀ j, k + 1 ≤ j → (listed.setIfInBounds k true).getD j false = L0 j := fun j hj => by
  rw [getD_set_ne false (by omega)]; grind
 refine ⟨fun hready => ?_, fun i hi hX => ?_⟩
 ·have : k ∈ Region.ready .any all.toArray listed := by
   rw [mem_ready]
   exact ⟨by grind, o, by rw [List.getElem?_toArray]; exact ho, fun e he hbd => h1 e.on ((XR hok _ o ho).before e he hbd)⟩
  simp_all
 ·rw [mem_ready] at hi
  obtain ⟨hi0, o', ho', hpre⟩ := hi
  rw [List.getElem?_toArray] at ho'
  have hil : i < all.length := (List.getElem?_eq_some_iff.1 ho').1
  rw [VU true (by omega)] at hi0
  have hik : i = k := by
   rcases Nat.lt_trichotomy i k with hlt | heq | hgt
   ·rw [h1 i hlt] at hi0; cases hi0
   ·exact heq
   ·exfalso
    have hclI : Ja all fun q => listed.getD q false || q == i := fun q o2 ho2 hLq e he hbe => by
     by_cases hqi : q = i
     ·subst hqi
      rw [ho'] at ho2; cases ho2
      simp only [hpre e he hbe, Bool.true_or]
     ·have hq' : (q == i) = false := by simpa using hqi
      rcases Nat.lt_or_ge q k with hl | hg
      ·have := (XR hok q o2 ho2).before e he hbe
       simp only [h1 e.on (by omega), Bool.true_or]
      grind
    have := Vj hclI i k (hbit i hgt hil hX ((h2 i (by omega)).symm.trans hi0)) (by simp)
    have hne : (k == i) = false := by simp; omega
    rw [hne, h2 k (Nat.le_refl _), hk0] at this
    cases this
  subst hik
  rw [ho] at ho'; cases ho'
  simp only [List.take_succ_cons, List.take_zero, wseq] at hk
  split at hk
  ·rename_i hdst
   unfold wpOpIn
   simp only [List.getElem?_toArray, ho]
   split at hk
   ·rename_i hg
    rw [if_pos (Yx hr hg)]
    exact MZ h0 hwf hr hdst hk ro n _ _ fun a' w' m' H' s hs2 hd' hb' hr' => hQ s a' w' m' H' (by simp [hs']) hset hset2 hs2 (hd'.trans hd) (hb.trans hb') hr'
   ·rename_i hg
    rw [if_neg (by rw [Yx hr hg]; simp)]
    exact ⟨fun _ _ => trivial, hQ _ _ w m H (by simp [hs']) hset hset2 hk ((Xx _ _ _).trans hd) hb (hr.putO hdst (.tup [] #[] rfl (fun j c v hj => by simp at hj)))⟩
   ·cases hk
  ·cases hk
theorem E9 (h0 : ch0.Ok P gl) (hwf : WF.Ok P gl wf) (hmix : P.follows .mixedOrders = true) {all : List Oper} (hok : KT all = true) {b : Nat} (hmid : RX all b = true) {ro : Option Nat} {n id : Nat} {K : St → Prop} {Q : Exit → Act → World → Prop} (hr : RelS m H B H0 gl rest st a.tmps w)
  (hk : El P gl ch0 hs all st.nx b (st.bump all.length) (fun s => DS hs (all.take b) s (fun s => wseq P gl ch0 wf hs all ((all.drop b).take 1) s (fun s => T3 P gl ch0 hs all st.nx (b + 1) (Qt all - (b + 1)) s (fun s => DS hs ((all.take (Qt all)).drop (b + 1)) s (fun s => wseq P gl ch0 wf hs all (all.drop (Qt all)) s K))))))
  (hQ : ∀ (sF : St) (a' : Act) (w' : World) (m : Nat → Lc) (H : HV), K sF → a'.defers = a.defers → Q8 B w w' → RelS m H B H0 gl rest sF a'.tmps w' → Q .normal a' w') : (Code.region id all.toArray true).wpIn (FW ro) n P Q a w := by
 obtain ⟨hb1, hb2, hb3, hb4⟩ := AE hmid
 obtain ⟨cb, F, s1, hcb, hk, hrun, hF⟩ := S4 h0 hk
 obtain ⟨s1', hk, hsame⟩ := Dj (gl := gl) hk
 have hbit := (Us (ms := Zj all []) all.length).2
 refine N0 hcb hmix hok (id := id) (nf := b) (by omega) hb3 hr hrun hF fun listed a' w' m' H' hl1 hl2 hl3 hd hb hr' => ?_
 rw [show all.length - b = (all.length - (b + 1)) + 1 by omega]
 have hpick := Rn h0 hwf hok (d := all.length - (b + 1)) (ro := ro) (n := n) (Q := Q) (X := fun _ => false) (L0 := fun _ => false) (d0 := a.defers) (w0 := w) (fun i h1 h2 _ _ => hb4 i h1 h2 b (by omega)) (fun sF a2 w2 m2 H2 hs2 h12 h22 hk2 hd2 hbl2 hr2 => ?_) (by omega) hl1 hl2 hl3 rfl (fun o q _ _ h => nomatch h) hk hd hb (hsame.rel _ _ _ _ _ _ _ hr')
 ·exact ⟨fun h => absurd h hpick.1, fun i hi => hpick.2 i hi rfl⟩
 obtain ⟨cb2, F2, s2, hcb2, hk2, hrun2, hF2⟩ := Pz h0 hk2
 obtain ⟨s2', hk2, hsame2⟩ := Dj (gl := gl) hk2
 rw [show b + 1 + (Qt all - (b + 1)) = Qt all by omega] at hF2
 have hp := pendM (nf := Qt all) (lo := b + 1) (L := fun j => (listed.setIfInBounds b true).getD j false) (by omega) h12 h22
 have := Ch (L0 := fun _ => false) (c := all.length - Qt all) (sF := s2) (base := st.nx) (lo := b + 1) (nf := Qt all) (ro := ro) (n := n) (d0 := a.defers) (w0 := w) (Q := Q) hcb2 hok hF2 hb2 (fun i h1 h2 _ j hj => hbit i h1 h2 j (by omega))
  (fun listed a' w' m' H' hl1 hl2 hl3 hd hb hr' => L1 h0 hwf hok hbit (d0 := a.defers) (w0 := w) hQ _ (Qt all) listed s2' a' w' m' H' (Nat.le_refl _) (Nat.add_sub_cancel' hb2) hl1 hl2 hl3 hk2 hd hb (hsame2.rel _ _ _ _ _ _ _ hr'))
  (Qt all - (b + 1)) _ a2 w2 m2 H2 sF s2 hs2 h12 (by simp_all) (fun j hj => h22 j (by omega)) (fun j o ho hL e he hbd => by
   have hj : j < b + 1 := by
    grind
   have := (XR hok j o ho).before e he hbd
   grind) hd2 hbl2 hr2 (by simp_all) (.refl _)
 rw [show Qt all - (b + 1) + (all.length - Qt all) = all.length - (b + 1) by omega] at this
 exact this
def S2 (P : Program) (gl : Nat → AV) (ch0 : Ql) (wf : WF) (hs : Qz) (all : List Oper) (base b : Nat) (l : List Nat) (s : St) (K : St → Prop) : Prop :=
 DS hs (all.take b) s (fun s => wseq P gl ch0 wf hs all ((all.drop b).take 1) s (fun s => NA P gl ch0 hs all base l s (fun s => DS hs ((all.take (Qt all)).drop (b + 1)) s (fun s => wseq P gl ch0 wf hs all (all.drop (Qt all)) s K))))
def wflt (P : Program) (gl : Nat → AV) (ch0 : Ql) (wf : WF) (hs : Qz) (all : List Oper) (b f : Nat) (st : St) (K : St → Prop) : Prop :=
 NA P gl ch0 hs all st.nx (List.range b) (st.bump all.length) (fun s => Both (S2 P gl ch0 wf hs all st.nx b (List.range' (b + 1) (Qt all - (b + 1))) s K)
  (NA P gl ch0 hs all st.nx [f] s (fun s => S2 P gl ch0 wf hs all st.nx b ((List.range' (b + 1) (Qt all - (b + 1))).filter fun j => !Nat.beq j f) s K)))
theorem TO (h0 : ch0.Ok P gl) (hwf : WF.Ok P gl wf) {all : List Oper} (hok : KT all = true) (hmd : mdR all = false) {b d base : Nat} {X L0 : Nat → Bool} {l : List Nat} (hb1 : b < Qt all) (hb2 : Qt all ≤ all.length) (hbb : ∀ i, b < i → i < all.length → X i = false → L0 i = false → ((Zj all []).getD i 0).testBit b = true) (hL0b : L0 b = false) (hL0t : ∀ j, Qt all ≤ j → L0 j = false) (hcl : ∀ o, ∀ q, b ≤ q → all[q]? = some o → L0 q = true → ∀ e ∈ o.after, False)
  (hl : ((List.range' (b + 1) (Qt all - (b + 1))).filter fun j => !L0 j) = l) (hd : d = l.length + (all.length - Qt all)) {ro : Option Nat} {n : Nat} {d0 : List Deferred} {w0 : World} {K : St → Prop} {Q : Exit → Act → World → Prop} {listed : Array Bool}
  (hQ : ∀ (sF : St) (a' : Act) (w' : World) (m : Nat → Lc) (H : HV), K sF → a'.defers = d0 → Q8 B w0 w' → RelS m H B H0 gl rest sF a'.tmps w' → Q .normal a' w')
  (hs' : listed.size = all.length) (h1 : ∀ j, j < b → listed.getD j false = true) (h2 : ∀ j, b ≤ j → listed.getD j false = L0 j) (hk : S2 P gl ch0 wf hs all base b l st K) (hdf : a.defers = d0) (hb : Q8 B w0 w) (hr : RelS m H B H0 gl rest st a.tmps w) :
  Region.ready .any all.toArray listed ≠ [] ∧ ∀ i ∈ Region.ready .any all.toArray listed, X i = false → wpOpIn (FW ro) n P all.toArray Q i (wpAnyIn (FW ro) n P .any all.toArray Q d (listed.setIfInBounds i true)) a w := by
 obtain ⟨s1', hk, hsame⟩ := Dj (gl := gl) hk
 have hbit := (Us (ms := Zj all []) all.length).2
 refine Rn h0 hwf hok (d := d) (ro := ro) (n := n) (Q := Q) (X := X) (L0 := L0) (d0 := d0) (w0 := w0) hbb (fun sF a2 w2 m2 H2 hs2 h12 h22 hk2 hd2 hbl2 hr2 => ?_) (by omega) hs' h1 h2 hL0b hcl hk hdf hb (hsame.rel _ _ _ _ _ _ _ hr)
 have hnd : l.Nodup := by grind [List.nodup_range']
 obtain ⟨cb2, s2, hcb2, hk2, hrun2⟩ := Cu h0 (F := fun _ => none) _ _ hnd hk2
 obtain ⟨s2', hk2, hsame2⟩ := Dj (gl := gl) hk2
 have hp : (pend (Qt all) fun j => (listed.setIfInBounds b true).getD j false) = l := by
  rw [← hl]
  unfold pend
  have e : List.range (Qt all) = List.range (b + 1) ++ List.range' (b + 1) (Qt all - (b + 1)) := by
   have := List.range'_append_1 (s := 0) (m := b + 1) (n := Qt all - (b + 1))
   rw [Nat.zero_add, Nat.add_sub_cancel' (by omega)] at this
   simp_all [List.range_eq_range']
  rw [e, List.filter_append, List.filter_eq_nil_iff.2 (fun j hj => by grind), List.nil_append]
  refine List.filter_congr fun j hj => ?_
  simp_all
 have := Ch (F := fun _ => none) (L0 := fun _ => false) (c := all.length - Qt all) (sF := s2) (base := base) (lo := b + 1) (nf := Qt all) (ro := ro) (n := n) (d0 := d0) (w0 := w0) (Q := Q) hcb2 hok (fun e => by simp_all) hb2 (fun i h1 h2 _ j hj => hbit i h1 h2 j (by omega))
  (fun listed a' w' m' H' hl1 hl2 hl3 hd hb hr' => L1 h0 hwf hok hbit (d0 := d0) (w0 := w0) hQ _ (Qt all) listed s2' a' w' m' H' (Nat.le_refl _) (Nat.add_sub_cancel' hb2) hl1 hl2 hl3 hk2 hd hb (hsame2.rel _ _ _ _ _ _ _ hr'))
  l.length _ a2 w2 m2 H2 sF s2 hs2 h12 (by rw [hp]) (fun j hj => by rw [h22 j (by omega)]; exact hL0t j hj) (fun j o ho hL e he hbd => by
   have := (XR hok j o ho).before e he hbd
   rcases Nat.lt_or_ge j (b + 1) with hx | hx
   ·exact h12 e.on (by omega)
   ·have hL : (listed.setIfInBounds b true).getD j false = true := hL
    rw [h22 j hx] at hL
    exact (hcl o j (by omega) ho hL e he).elim) hd2 hbl2 hr2 (by rw [hp, hmd]; exact hrun2 cb2 fun _ _ => rfl) (.refl _)
 simp_all
theorem E8 (h0 : ch0.Ok P gl) (hwf : WF.Ok P gl wf) (hmix : P.follows .mixedOrders = true) {all : List Oper} (hok : KT all = true) {b f : Nat} (hmid : midF all b f = true) {ro : Option Nat} {n id : Nat} {K : St → Prop} {Q : Exit → Act → World → Prop} (hr : RelS m H B H0 gl rest st a.tmps w)
  (hk : wflt P gl ch0 wf hs all b f st K)
  (hQ : ∀ (sF : St) (a' : Act) (w' : World) (m : Nat → Lc) (H : HV), K sF → a'.defers = a.defers → Q8 B w w' → RelS m H B H0 gl rest sF a'.tmps w' → Q .normal a' w') : (Code.region id all.toArray true).wpIn (FW ro) n P Q a w := by
 obtain ⟨hmd, hbf, hft, htl, hfa, hb3, hb4⟩ := Ff hmid
 have hfl : f < all.length := by omega
 obtain ⟨cb, s1, hcb, ⟨hkB, hkA⟩, hrun⟩ := Cu h0 (F := fun _ => none) _ _ List.nodup_range hk
 obtain ⟨cf, s2, hcf, hkA, hrunf⟩ := Cu h0 (F := fun _ => none) _ _ (List.nodup_cons.2 ⟨List.not_mem_nil, List.nodup_nil⟩) hkA
 refine wpIn_region_any hmix ?_
 have hb : Below w.heap.size w { w with drawn := w.drawn + 1 } := ⟨rfl, rfl, rfl, Nat.le_refl _, fun _ _ => rfl⟩
 have hr0 : RelS m H B H0 gl rest (st.bump all.length) a.tmps { w with drawn := w.drawn + 1 } := by
  have hh := hr.heap.ext hb
  exact ⟨{ hh with fresh := fun id hid => hh.fresh id (Nat.le_trans (Nat.le_add_right _ _) hid) }, hr.size, hr.slot, hr.rest⟩
 let ch : Y2 := fun k => if k = st.nx + f then cf k else cb k
 have hch : ch.Ok P gl := fun k => by
  show Mh P gl (if k = st.nx + f then cf k else cb k)
  split
  ·exact hcf k
  ·exact hcb k
 have hrunB := hrun ch fun i hi => by
  grind
 have hrunF := hrunf ch fun i hi => by
  grind
 have hlenA : ((List.range' (b + 1) (Qt all - (b + 1))).filter fun j => !Nat.beq j f).length + (all.length - Qt all) + 1 = all.length - (b + 1) := by
  have hsp : List.range' (b + 1) (Qt all - (b + 1)) = List.range' (b + 1) (f - (b + 1)) ++ f :: List.range' (f + 1) (Qt all - (f + 1)) := by
   have h1 := List.range'_append_1 (s := b + 1) (m := f - (b + 1)) (n := Qt all - f)
   rw [Nat.add_sub_cancel' (by omega), show f - (b + 1) + (Qt all - f) = Qt all - (b + 1) by omega] at h1
   rw [← h1, show Qt all - f = (Qt all - (f + 1)) + 1 by omega, List.range'_succ]
  have e1 : ∀ j, j ≠ f → (!Nat.beq j f) = true := fun j hj => by grind [HK]
  rw [hsp, List.filter_append, List.filter_cons_of_neg (by simp), List.filter_eq_self.2 (fun j hj => e1 j (by grind)), List.filter_eq_self.2 (fun j hj => e1 j (by grind)), List.length_append, List.length_range', List.length_range']
  omega
 have := FY (F := fun _ => none) (base := st.nx) (b := b) (f := f) (c := all.length - (b + 1)) (ro := ro) (n := n) (d0 := a.defers) (w0 := w) (sA := s2) (sB := s1) (Q := Q) hch hok hmd (by omega) hbf hb3
  (fun listed a' w' m' H' hs1 h1 h2 hd hbl hr' => by
   have hpick := TO h0 hwf hok hmd (X := fun _ => false) (L0 := fun j => j == f) (by omega) htl (fun i h1 h2 _ h3 => hb4 i h1 h2 (by simp_all)) (by simp; omega) (fun j hj => by simp; omega) (fun o q _ ho hq e he => by
    simp_all) (l := (List.range' (b + 1) (Qt all - (b + 1))).filter fun j => !Nat.beq j f) (List.filter_congr fun j _ => by
     by_cases e : j = f
     ·subst e; simp
     simp_all [HK]) rfl (ro := ro) (n := n) hQ hs1 h1 h2 hkA hd hbl hr'
   rw [← hlenA]
   exact ⟨fun h => absurd h hpick.1, fun i hi => hpick.2 i hi rfl⟩)
  (fun listed a' w' m' H' hs1 h1 h2 hd hbl hr' => by
   have hpick := TO h0 hwf hok hmd (X := fun j => j == f) (L0 := fun _ => false) (d := all.length - (b + 1)) (by omega) htl (fun i h1 h2 h3 _ => hb4 i h1 h2 (by simpa using h3)) rfl (fun _ _ => rfl) (fun o q _ _ hq => nomatch hq) (l := List.range' (b + 1) (Qt all - (b + 1))) (by rw [List.filter_eq_self]; intro j _; rfl) (by grind) (ro := ro) (n := n) hQ hs1 h1 h2 hkB hd hbl hr'
   exact ⟨hpick.1, fun i hi hif => hpick.2 i hi (by simpa using hif)⟩)
  b (Array.replicate all.toArray.size false) a _ m H (st.bump all.length) s1 s2 (by simp) (by rw [Gg, List.length_range]) (fun j _ => GZ j) (fun j o ho hL => by have hL : (Array.replicate all.toArray.size false).getD j false = true := hL; rw [GZ] at hL; cases hL) rfl (Q8.of hb hr.heap.low) hr0 (by rw [Gg, hmd]; exact hrunB) (.refl _) (by rw [Gg, hmd, Uq, hrunB]; exact hrunF) (.refl _)
 grind
theorem Ao (h0 : ch0.Ok P gl) (hwf : WF.Ok P gl wf) {all : List Oper} {ro : Option Nat} {n : Nat} {d0 : List Deferred} {w0 : World} {K : St → Prop} {Q : Exit → Act → World → Prop}
  (hQ : ∀ (sF : St) (a : Act) (w : World) (m : Nat → Lc) (H : HV), K sF → a.defers = d0 → Q8 B w0 w → RelS m H B H0 gl rest sF a.tmps w → Q .normal a w) :
  ∀ (pre l : List Oper) (st : St) (a : Act) (w : World) (m : Nat → Lc) (H : HV), all = pre ++ l → wseq P gl ch0 wf hs all l st K → a.defers = d0 → Q8 B w0 w → RelS m H B H0 gl rest st a.tmps w → wpOpsIn (FW ro) n P all.toArray Q (List.range' pre.length l.length) a w
 | pre, [], st, a, w, m, H, _, hk, hd, hb, hr => hQ st a w m H hk hd hb hr
 | pre, o :: l, st, a, w, m, H, he, hk, hd, hb, hr => by
  simp only [List.length_cons, List.range'_succ, wpOpsIn]
  have ho : all.toArray[pre.length]? = some o := by simp_all
  simp only [ho]
  have ih := Ao h0 hwf (all := all) (ro := ro) (n := n) hQ (pre ++ [o]) l
  simp only [List.length_append, List.length_cons, List.length_nil, Nat.zero_add, List.append_assoc, List.singleton_append] at ih
  simp only [wseq] at hk
  split at hk
  ·rename_i hdst
   split at hk
   ·rename_i hg
    rw [if_pos (Yx hr hg)]
    exact MZ h0 hwf hr hdst hk ro n _ _ fun a' w' m' H' s hs hd' hb' hr' => ih s a' w' m' H' he hs (hd'.trans hd) (hb.trans hb') hr'
   ·rename_i hg
    rw [if_neg (by grind [Yx])]
    exact ⟨fun _ _ => trivial, ih _ _ w m H he hk ((Xx _ _ _).trans hd) hb (hr.putO hdst (.tup [] #[] rfl (fun j c v hj => by simp at hj)))⟩
   ·cases hk
  ·cases hk
end
end HY
end
section
namespace HY
open Go Go.RowKit
inductive LeVs : List AV → List AV → Prop
 | nil : LeVs [] []
 | cons {x t : AV} {xs ts : List AV} : LeV x t → LeVs xs ts → LeVs (x :: xs) (t :: ts)
theorem LeV.refl (x : AV) : LeV x x := ⟨fun _ _ _ h => h⟩
theorem LeV.of_eq {x t : AV} (h : x = t) : LeV x t := h ▸ .refl x
theorem LeV.undef (x : AV) : LeV x .undef := ⟨fun _ _ _ _ => .imm _ _ (.undef _)⟩
theorem LeVs.refl : ∀ (xs : List AV), LeVs xs xs
 | [] => .nil
 | x :: xs => .cons (.refl x) (LeVs.refl xs)
theorem LeVs.get : ∀ {xs ts : List AV}, LeVs xs ts → xs.length = ts.length ∧ ∀ (j : Nat) (t : AV), ts[j]? = some t → ∃ x, xs[j]? = some x ∧ LeV x t
 | _, _, .nil => ⟨rfl, fun j t h => by simp at h⟩
 | _, _, .cons h r => ⟨by simp [r.get.1], fun j t' hj => by
  cases j with
  | zero => simp at hj; subst hj; exact ⟨_, rfl, h⟩
  | succ j => simpa using r.get.2 j t' (by simpa using hj)⟩
theorem LeV.nil (sz : Nat) : LeV .nil (.sl sz []) := ⟨fun H E v h => by rw [h.nil_inv]; exact .imm _ _ (.sl0 _ _ _ (Nat.zero_le _))⟩
theorem LeV.agg {xs ts : List AV} (h : LeVs xs ts) : LeV (.agg xs) (.agg ts) := ⟨fun H E v hv => by
 obtain ⟨h1, h2⟩ := h.get
 obtain ⟨vs, rfl, a, b, c⟩ := hv.agg_inv
 exact .agg _ vs (by rw [← h1]; exact a) b fun j t u hj hu => by
  obtain ⟨x, hx, hle⟩ := h2 j t hj
  exact hle.ok H E u (c j x u hx hu)⟩
inductive LeEs : List AV → List AV → Prop
 | nil : LeEs [] []
 | cons {x t : AV} {xs ts : List AV} : LeL x.cells t.cells → LeEs xs ts → LeEs (x :: xs) (t :: ts)
theorem LeEs.get : ∀ {xs ts : List AV}, LeEs xs ts → xs.length = ts.length ∧ ∀ (j : Nat) (t : AV), ts[j]? = some t → ∃ x, xs[j]? = some x ∧ LeL x.cells t.cells
 | _, _, .nil => ⟨rfl, fun j t h => by simp at h⟩
 | _, _, .cons h r => ⟨by simp [r.get.1], fun j t' hj => by
  cases j with
  | zero => simp at hj; subst hj; exact ⟨_, rfl, h⟩
  | succ j => simpa using r.get.2 j t' (by simpa using hj)⟩
theorem LeT.sl {sz : Nat} {xs ts : List AV} (h : LeEs xs ts) : LeT (.sl sz xs) (.sl sz ts) := ⟨fun H v hv => by
 obtain ⟨h1, h2⟩ := h.get
 cases hv with
 | sl0 _ a cap hc =>
  have : ts = [] := List.eq_nil_of_length_eq_zero (by rw [← h1]; rfl)
  subst this
  exact .sl0 _ _ _ hc
 | sl _ _ b o cap val a0 a1 a2 a3 a4 a5 =>
  rw [h1] at a1 ⊢
  refine .sl sz ts b o cap val a0 a1 a2 (fun i t ht => ?_) (fun i t j c ht hc => ?_) (fun i t j c ht hc => ?_)
  ·obtain ⟨x, hx, hl⟩ := h2 i t ht
   rw [← hl.get.1]; exact a3 i x hx
  ·obtain ⟨x, hx, hl⟩ := h2 i t ht
   obtain ⟨c', hc', _⟩ := hl.get.2 j c hc
   exact a4 i x j c' hx hc'
  ·obtain ⟨x, hx, hl⟩ := h2 i t ht
   obtain ⟨c', hc', hle⟩ := hl.get.2 j c hc
   exact hle.ok _ _ (a5 i x j c' hx hc')⟩
theorem LeV.sl {sz : Nat} {xs ts : List AV} (h : LeEs xs ts) : LeV (.sl sz xs) (.sl sz ts) := ⟨fun H E v hv => .imm _ _ ((LeT.sl h).ok H v hv.sl_inv)⟩
theorem LeEs.flat : ∀ {xs ts : List AV}, LeEs xs ts → LeL (xs.flatMap AV.cells) (ts.flatMap AV.cells)
 | _, _, .nil => .nil
 | _, _, .cons (x := x) (t := t) h r => by
  simp only [List.flatMap_cons]
  have := r.flat
  revert h
  generalize x.cells = a
  generalize t.cells = b
  intro h
  induction h with
  | nil => exact this
  | cons h _ ih => exact .cons h ih
inductive LeB : Box → Box → Prop
 | refl (b : Box) : LeB b b
 | cells (v : Nat) {cs ts : List AV} : LeVs cs ts → LeB (.cells v cs) (.cells v ts)
 | own (v sz : Nat) {xs ts : List AV} : LeEs xs ts → LeB (.own v sz xs) (.own v sz ts)
 | hol (v sz : Nat) (xs : List AV) (i c : Nat) {r t : AV} : LeV r t → LeB (.hol v sz xs i c r) (.hol v sz xs i c t)
inductive LeBs : List Box → List Box → Prop
 | nil : LeBs [] []
 | cons {x t : Box} {xs ts : List Box} : LeB x t → LeBs xs ts → LeBs (x :: xs) (t :: ts)
theorem LeBs.refl : ∀ (xs : List Box), LeBs xs xs
 | [] => .nil
 | x :: xs => .cons (.refl x) (LeBs.refl xs)
theorem LeBs.get : ∀ {xs ts : List Box}, LeBs xs ts → xs.length = ts.length ∧ ∀ (j : Nat) (t : Box), ts[j]? = some t → ∃ x, xs[j]? = some x ∧ LeB x t
 | _, _, .nil => ⟨rfl, fun j t h => by simp at h⟩
 | _, _, .cons h r => ⟨by simp [r.get.1], fun j t' hj => by
  cases j with
  | zero => simp at hj; subst hj; exact ⟨_, rfl, h⟩
  | succ j => simpa using r.get.2 j t' (by simpa using hj)⟩
theorem LeB.ver {b t : Box} (h : LeB b t) : b.ver? = t.ver? ∧ (∀ l, Real t l ↔ Real b l) := by
 cases h with
 | refl => exact ⟨rfl, fun _ => Iff.rfl⟩
 | cells v h => exact ⟨rfl, fun _ => Iff.rfl⟩
 | own v sz h => exact ⟨rfl, fun _ => Iff.rfl⟩
 | hol v sz xs i c h => exact ⟨rfl, fun _ => Iff.rfl⟩
theorem LeB.ok {b t : Box} (h : LeB b t) {H : HV} {E : Env} {l : Lc} {w : World} (hb : Y1 H E b l w) : Y1 H E t l w := by
 cases h with
 | refl => exact hb
 | cells v h =>
  obtain ⟨h1, h2⟩ := h.get
  obtain ⟨C, e, c1, c2, c3, c4⟩ := hb
  refine ⟨C, e, c1, c2, by rw [← h1]; exact c3, fun j t ht => ?_⟩
  obtain ⟨x, hx, hle⟩ := h2 j t ht
  obtain ⟨u, a1, a2, a3⟩ := c4 j x hx
  exact ⟨u, a1, a2, hle.ok _ _ _ a3⟩
 | own v sz h =>
  obtain ⟨h1, h2⟩ := h.get
  obtain ⟨h3, h4⟩ := h.flat.get
  obtain ⟨a0, a1, a2⟩ := hb
  refine ⟨a0, fun t ht => ?_, ?_⟩
  ·obtain ⟨j, hj⟩ := List.getElem?_of_mem ht
   obtain ⟨x, hx, hl⟩ := h2 j t hj
   rw [← hl.get.1]; exact a1 x (List.mem_of_getElem? hx)
  ·rcases a2 with ⟨b0, b1⟩ | ⟨b0, C, e, c1, c2, c3, c4⟩
   ·subst b1
    exact .inl ⟨b0, List.eq_nil_of_length_eq_zero (by rw [← h1]; rfl)⟩
   ·refine .inr ⟨b0, C, e, c1, c2, by rw [← h3]; exact c3, fun j c hj => ?_⟩
    obtain ⟨x, hx, hle⟩ := h4 j c hj
    obtain ⟨u, d1, d2, d3⟩ := c4 j x hx
    exact ⟨u, d1, d2, hle.ok _ _ d3⟩
 | hol v sz xs i c h =>
  obtain ⟨d1, d2, d3, d4, d5, C, e, c1, c2, c3, c4, u, b1, b2, b3⟩ := hb
  exact ⟨d1, d2, d3, d4, d5, C, e, c1, c2, c3, c4, u, b1, b2, h.ok _ _ _ b3⟩
def HpLe (hp hp' : Hp) : Prop := ∀ id, (hp id = none ∧ hp' id = none) ∨ ∃ b t, hp id = some b ∧ hp' id = some t ∧ LeB b t
theorem HpLe.inv {hp hp' : Hp} (h : HpLe hp hp') {id : Nat} {t : Box} (ht : hp' id = some t) : ∃ b, hp id = some b ∧ LeB b t := by
 rcases h id with ⟨_, h2⟩ | ⟨b, t', h1, h2, h3⟩
 ·rw [ht] at h2; cases h2
 ·rw [ht] at h2; cases h2; exact ⟨b, h1, h3⟩
theorem LeB.lp {b t : Box} (h : LeB b t) {m : Nat → Lc} {hp hp' : Hp} {id : Nat} (h1 : hp id = some b) (h2 : hp' id = some t) : (Q5 hp m).lp id = (Q5 hp' m).lp id := by
 cases h with
 | refl => simp only [Q5, h1, h2]
 | cells v h => simp only [Q5, h1, h2]
 | own v sz h => simp only [Q5, h1, h2]
 | hol v sz xs i c h => simp only [Q5, h1, h2]
theorem HpLe.env {hp hp' : Hp} (h : HpLe hp hp') (m : Nat → Lc) : Env.le (Q5 hp m) (Q5 hp' m) := by
 refine ⟨fun id ver ⟨b, h1, h2⟩ => ?_, fun id ver l _ hl => ?_, fun id l hl => ?_⟩
 ·rcases h id with ⟨h3, _⟩ | ⟨b', t, h3, h4, h5⟩
  ·rw [h1] at h3; cases h3
  ·rw [h1] at h3; cases h3
   exact ⟨t, h4, fun v hv => h2 v (by rw [h5.ver.1]; exact hv)⟩
 ·rcases h id with ⟨_, h4⟩ | ⟨b', t, h3, h4, h5⟩
  ·simp only [Q5, h4] at hl; cases hl
  ·simp only [Q5, h4] at hl
   simp only [Q5, h3, h5.ver.1]
   exact hl
 ·rcases h id with ⟨h3, _⟩ | ⟨b', t, h3, h4, h5⟩
  ·simp only [Q5, h3] at hl; cases hl
  ·rw [← h5.lp h3 h4]; exact hl
section
variable {m : Nat → Lc} {H : HV} {B : Nat → Prop} {H0 : HV} {gl : Nat → AV} {w : World}
theorem RelH.le {hp hp' : Hp} {nx : Nat} (h : RelH m H B H0 gl hp nx w) (hle : HpLe hp hp') (hty : ∀ id v cs, hp' id = some (.cells v cs) → ∃ cs0, hp id = some (.cells v cs0)) : RelH m H B H0 gl hp' nx w where
 sat := h.sat
 old := h.old
 low := h.low
 fresh id hid := by
  rcases hle id with ⟨_, h2⟩ | ⟨b, t, h1, h2, _⟩
  ·exact h2
  ·rw [h.fresh id hid] at h1; cases h1
 box id t ht := by
  obtain ⟨b, hb, hle'⟩ := hle.inv ht
  exact hle'.ok ((h.box id b hb).mono (.refl _) (hle.env m) rfl)
 sepR id t ht hr := by
  obtain ⟨b, hb, hle'⟩ := hle.inv ht
  exact h.sepR id b hb ((hle'.ver.2 _).1 hr)
 injR i j b1 b2 h1 h2 r1 r2 he := by
  obtain ⟨c1, e1, l1⟩ := hle.inv h1
  obtain ⟨c2, e2, l2⟩ := hle.inv h2
  exact h.injR i j c1 c2 e1 e2 ((l1.ver.2 _).1 r1) ((l2.ver.2 _).1 r2) he
 gv := h.gv
 gl := h.gl
 ty id v cs hid := by
  obtain ⟨cs0, h0⟩ := hty id v cs hid
  exact h.ty id v cs0 h0
theorem LeB.cellsInv {b : Box} {v : Nat} {cs : List AV} (h : LeB b (.cells v cs)) : ∃ cs0, b = .cells v cs0 := by
 cases h with
 | refl => exact ⟨_, rfl⟩
 | cells _ _ => exact ⟨_, rfl⟩
theorem LeBs.hp {bs bs' : List Box} (h : LeBs bs bs') : HpLe (lkb (hpOf 0 bs)) (lkb (hpOf 0 bs')) := fun id => by
 obtain ⟨h1, h2⟩ := h.get
 rw [Dh, Dh]
 simp only [Nat.zero_le, if_true, Nat.sub_zero]
 cases ht : bs'[id]? with
 | none =>
  rw [List.getElem?_eq_none_iff] at ht
  exact .inl ⟨by rw [List.getElem?_eq_none_iff]; omega, rfl⟩
 | some t =>
  obtain ⟨b, hb, hle⟩ := h2 id t ht
  exact .inr ⟨b, t, hb, rfl, hle⟩
theorem RelH.leBs {bs bs' : List Box} {nx : Nat} (h : RelH m H B H0 gl (lkb (hpOf 0 bs)) nx w) (hle : LeBs bs bs') : RelH m H B H0 gl (lkb (hpOf 0 bs')) nx w :=
 h.le hle.hp fun id v cs hid => by
  obtain ⟨b, hb, hl⟩ := hle.hp.inv hid
  obtain ⟨cs0, rfl⟩ := hl.cellsInv
  exact ⟨cs0, hb⟩
theorem LeBs.pins : ∀ {bs bs' : List Box}, LeBs bs bs' → ∀ j, K8 j bs = K8 j bs'
 | _, _, .nil, _ => rfl
 | _, _, .cons (x := x) (t := t) h r, j => by
  have ih := r.pins (j + 1)
  cases h with
  | refl => cases x <;> simp only [K8, ih]
  | cells v h => simp only [K8, ih]
  | own v sz h => simp only [K8, ih]
  | hol v sz xs i c h => simp only [K8, ih]
theorem Aa : ∀ {ks : List Nat} {vs vs' : List AV}, LeVs vs vs' → ∀ k, LeV (lk .undef (slOf ks vs) k) (lk .undef (slOf ks vs') k)
 | [], vs, vs', h, k => by
  cases vs <;> cases vs' <;> exact .refl _
 | a :: ks, _, _, .nil, k => .refl _
 | a :: ks, _, _, .cons h r, k => by
  simp only [slOf]
  rw [JI, JI]
  by_cases e : a = k
  ·rw [if_pos e, if_pos e]; exact h
  ·rw [if_neg e, if_neg e]; exact Aa r k
theorem Gb {n : Nat} {ks : List Nat} {vs vs' : List AV} {bs bs' : List Box} (hv : LeVs vs vs') (hb : LeBs bs bs') : Conv gl (ZH n ks vs bs) (ZH n ks vs' bs') := ⟨rfl, fun m H B H0 rest tmps w h => by
 have hE := hb.hp.env m
 refine ⟨m, H, ?_, h.size, fun k => ?_, fun p hp => (h.rest p hp).mono (.refl _) hE⟩
 ·have := h.heap.leBs hb
  show RelH m H B H0 gl (lkb (hpOf 0 bs')) bs'.length w
  rw [← hb.get.1]; exact this
 ·exact ((Aa hv k).ok _ _ _ (h.slot k)).mono (.refl _) hE⟩
end
theorem PuH.le {P : Program} {gl : Nat → AV} {f : Nat} {args args' : List AV} {bs bs' bt bt' : List Box} {r r' : AV} (h : PuH P gl f args' bs' r bt) (ha : LeVs args args') (hb : LeBs bs bs') (hr : LeV r r') (ht : LeBs bt bt') : PuH P gl f args bs r' bt' := ⟨fun m H B H0 rest w vs hh hl hv hrest hrv => by
 have hE := hb.hp.env m
 obtain ⟨h1, h2⟩ := ha.get
 refine (h.ok m H B H0 rest w vs (by rw [← hb.get.1]; exact hh.leBs hb) (by rw [← h1]; exact hl) (fun j x v hx hv' => ?_) (by rw [hrest, hb.pins]) (fun p hp => (hrv p hp).mono (.refl _) hE)).mono fun e w' ⟨v, m', H', a, b, c, d, g⟩ => ?_
 ·obtain ⟨y, hy, hle⟩ := h2 j x hx
  exact (hle.ok _ _ _ (hv j y v hy hv')).mono (.refl _) hE
 ·have hE' := ht.hp.env m'
  exact ⟨v, m', H', a, b, by rw [← ht.get.1]; exact c.leBs ht, (hr.ok _ _ _ d).mono (.refl _) hE', fun p hp => (g p hp).mono (.refl _) hE'⟩⟩
end HY
end
section
namespace HY
open Go Go.RowKit
def BO (O : Nat → Prop) (w : World) : Nat → Prop := fun b => b < w.heap.size ∧ ¬ O b
def MQ (O : Nat → Prop) (w w' : World) : Nat → Prop := fun b => O b ∨ (w.heap.size ≤ b ∧ b < w'.heap.size)
def unH (Hc H : HV) : HV := fun b o => match Hc b o with
 | some v => some v
 | none => H b o
def I7 (O : Nat → Prop) (H : HV) : Nat → Prop := fun b => O b ∧ ∀ o, H b o = none
abbrev JT := Option Nat → (Nat → Prop) → HV → World → Prop
structure JOk (P : Program) (gl : Nat → AV) (l : Nat) (xs : List (List AV)) (J : JT) : Prop where
 sat : ∀ p O Hc w, J p O Hc w → HV.sat Hc w
 low : ∀ p O Hc w, J p O Hc w → ∀ b, O b → b < w.heap.size
 dis : ∀ p O Hc w, J p O Hc w → ∀ b, O b → ∀ o, Hc b o = none
 gls : ∀ p O Hc w, J p O Hc w → ∀ g, RelI Hc (gl g) (.pointer (some ⟨g, 0, none⟩))
 gv : ∀ p O Hc w, J p O Hc w → GvOk gl (BO O w) w
 own : ∀ p O Hc w w', J p O Hc w → Q8 (BO O w) w w' → J p (MQ O w w') Hc w'
 pub : ∀ p O Hc w H, J p O Hc w → HV.sat H w → (∀ b o v, H b o = some v → O b ∨ Hc b o = some v) → J p (I7 O H) (unH Hc H) w
 round : ∀ k O Hc w x (vs : Array Value), J (some k) O Hc w → xs[k]? = some x → x.length = vs.size → (∀ (j : Nat) (c : AV) (v : Value), x[j]? = some c → vs[j]? = some v → RelI Hc c v) →
  ∃ fn tmps azz bd, (Instr.yield l vs).run P w = .ok (.round l fn tmps azz bd) w ∧ ∀ ro n, RoundIn (FW ro) n P l fn tmps azz bd w fun e w' => ∃ b, e = .returned (.bool b) ∧ Q8 O w w' ∧ J (if b then some (k + 1) else none) O Hc w'
structure ItOk (P : Program) (gl : Nat → AV) (f : Nat) (caps : List AV) (xs : List (List AV)) : Prop where
 ok : ∀ l J, JOk P gl l xs J → ∀ Hc w (us : Array Value), J (some 0) (fun _ => False) Hc w → caps.length = us.size → (∀ (j : Nat) (c : AV) (v : Value), caps[j]? = some c → us[j]? = some v → RelI Hc c v) →
  Calls P f (#[.func (.yield l) #[] #[]] ++ us) w fun e w' => ∃ v p' O' Hc', e = .returned v ∧ (p' = some xs.length ∨ p' = none) ∧ J p' O' Hc' w'
section
variable {m : Nat → Lc} {H : HV} {B : Nat → Prop} {H0 : HV} {gl : Nat → AV} {hp : Nat → Option Box} {nx : Nat} {w : World} {rest : List (AV × Value)} {st : St} {tmps : Array Value}
theorem Ii {Hc H : HV} : HV.le Hc (unH Hc H) := fun b o v h => by simp [unH, h]
theorem T1 {Hc H : HV} {b o : Nat} {v : Value} (h : unH Hc H b o = some v) : Hc b o = some v ∨ (Hc b o = none ∧ H b o = some v) := by
 unfold unH at h
 split at h
 ·rename_i h1; cases h; exact .inl h1
 ·rename_i h1; exact .inr ⟨h1, h⟩
theorem unH_sat {Hc H : HV} (h1 : HV.sat Hc w) (h2 : HV.sat H w) : HV.sat (unH Hc H) w := fun b o v h => by
 rcases T1 h with h | ⟨_, h⟩
 ·exact h1 b o v h
 ·exact h2 b o v h
theorem unH_le {Hc H : HV} (h1 : HV.sat Hc w) (h2 : HV.sat H w) : HV.le H (unH Hc H) := fun b o v h => by
 unfold unH
 split
 ·rename_i u hu
  have e1 := h1 b o u hu
  have e2 := h2 b o v h
  rw [e1] at e2; exact e2
 ·exact h
theorem Q8.cell {B : Nat → Prop} {w w' : World} (h : Q8 B w w') {b o : Nat} (hb : B b) : w'.cell? ⟨b, o, none⟩ = w.cell? ⟨b, o, none⟩ := by
 unfold World.cell?
 rw [h.block b hb]
theorem RelH.base (h : RelH m H B H0 gl hp nx w) {B' : Nat → Prop} {H0' : HV} (old : ∀ b o, B' b → H b o = H0' b o) (low : ∀ b, B' b → b < w.heap.size) (sep : ∀ id b, hp id = some b → Real b (m id) → ¬ B' (m id).g) (gv : GvOk gl B' w) : RelH m H B' H0' gl hp nx w where
 sat := h.sat
 old := old
 low := low
 fresh := h.fresh
 box := h.box
 sepR id b hid hr := ⟨sep id b hid hr, (h.sepR id b hid hr).2⟩
 injR := h.injR
 gv := gv
 gl := h.gl
 ty := h.ty
theorem RelS.base (h : RelS m H B H0 gl rest st tmps w) {B' : Nat → Prop} {H0' : HV} (old : ∀ b o, B' b → H b o = H0' b o) (low : ∀ b, B' b → b < w.heap.size) (sep : ∀ id b, lkb st.hp id = some b → Real b (m id) → ¬ B' (m id).g) (gv : GvOk gl B' w) : RelS m H B' H0' gl rest st tmps w :=
 ⟨h.heap.base old low sep gv, h.size, h.slot, h.rest⟩
theorem RelS.down (h : RelS m H B H0 gl rest st tmps w) {B' : Nat → Prop} {H0' : HV} (hs : ∀ b, B' b → B b) (ho : ∀ b o, B' b → H0 b o = H0' b o) (gv : GvOk gl B' w) : RelS m H B' H0' gl rest st tmps w :=
 h.base (fun b o hb => (h.heap.old b o (hs b hb)).trans (ho b o hb)) (fun b hb => h.heap.low b (hs b hb)) (fun id b hid hr hb => (h.heap.sepR id b hid hr).1 (hs _ hb)) gv
theorem RelS.know (h : RelS m H B H0 gl rest st tmps w) {H' : HV} {H0' : HV} (hle : HV.le H H') (sat : HV.sat H' w) (old : ∀ b o, B b → H' b o = H0' b o) (sep : ∀ id b, lkb st.hp id = some b → Real b (m id) → ∀ o, H' (m id).g o = none) : RelS m H' B H0' gl rest st tmps w :=
 ⟨{ sat := sat, old := old, low := h.heap.low, fresh := h.heap.fresh, box := (fun id b hid => (h.heap.box id b hid).mono' hle (.refl _) fun _ => rfl), sepR := (fun id b hid hr => ⟨(h.heap.sepR id b hid hr).1, (h.heap.sepR id b hid hr).2.1, sep id b hid hr⟩), injR := h.heap.injR, gv := h.heap.gv, gl := (fun g => (h.heap.gl g).mono hle), ty := h.heap.ty }, h.size, fun k => (h.slot k).mono hle (.refl _), fun p hp => (h.rest p hp).mono hle (.refl _)⟩
theorem RelS.obj (h : RelS m H B H0 gl rest st tmps w) {g : Nat} {o1 o2 : Obj} (hb : B g) (h1 : w.heap[g]? = some o1) (hn : ∀ C e fr, o1 ≠ .cells C e fr) : RelS m H B H0 gl rest st tmps (w.putObj g o2) := by
 have hno : ∀ o v, H g o ≠ some v := fun o v hv => by
  have := h.heap.sat g o v hv
  unfold World.cell? at this
  rw [h1] at this
  cases o1 with
  | cells C e fr => exact hn C e fr rfl
  | _ => cases this
 have oth : ∀ k, k ≠ g → (w.putObj g o2).heap[k]? = w.heap[k]? := fun k hk => World.putObj_heap_other hk
 refine ⟨{ sat := (fun b o v hv => ?_), old := h.heap.old, low := (fun b hb => by rw [World.putObj_size]; exact h.heap.low b hb), fresh := h.heap.fresh, box := (fun id b hid => (h.heap.box id b hid).mono' (.refl _) (.refl _) fun hr => oth _ fun e => (h.heap.sepR id b hid hr).1 (e ▸ hb)), sepR := (fun id b hid hr => let ⟨x, y, z⟩ := h.heap.sepR id b hid hr; ⟨x, by rw [World.putObj_size]; exact y, z⟩), injR := h.heap.injR, gv := (fun k sz cs hk => ?_), gl := h.heap.gl, ty := (fun id v cs hid => (h.heap.ty id v cs hid).mono (oth _ fun e => (h.heap.sepR id _ hid trivial).1 (e ▸ hb))) }, h.size, h.slot, h.rest⟩
 ·have hbg : b ≠ g := fun e => by subst e; exact hno o v hv
  have := h.heap.sat b o v hv
  unfold World.cell? at this ⊢
  simp only at this ⊢
  rw [oth b hbg]; exact this
 ·obtain ⟨x, C, e, fr, y, z⟩ := h.heap.gv k sz cs hk
  exact ⟨x, C, e, fr, by rw [oth k (fun hk => by subst hk; rw [h1] at y; cases y; exact hn _ _ _ rfl)]; exact y, z⟩
theorem Q8.obj {B' : Nat → Prop} {w0 : World} (h : Q8 B' w0 w) {g : Nat} {o1 o2 : Obj} (hb : ¬ B' g) (h1 : w.heap[g]? = some o1) (hn : ∀ C e fr, o1 ≠ .cells C e fr) : Q8 B' w0 (w.putObj g o2) :=
 h.trans ⟨rfl, rfl, rfl, by rw [World.putObj_size]; exact Nat.le_refl _, fun k hk => World.putObj_heap_other fun e => hb (e ▸ hk), fun k C e fr hk => ⟨C, fr, by rw [World.putObj_heap_other fun e' => by subst e'; rw [h1] at hk; cases hk; exact hn _ _ _ rfl]; exact hk, rfl⟩⟩
theorem GvOk.sup {B B' : Nat → Prop} (h : GvOk gl B w) (hs : ∀ b, B b → B' b) : GvOk gl B' w := fun g sz cs hg => let ⟨a, b⟩ := h g sz cs hg; ⟨hs g a, b⟩
theorem GvOk.to {B B' : Nat → Prop} {w w' : World} {B1 : Nat → Prop} (h : GvOk gl B w) (hb : Q8 B1 w w') (hs : ∀ b, b < w.heap.size → B b → B' b) : GvOk gl B' w' := fun g sz cs hg => by
 obtain ⟨a, C, e, fr, h1, h2⟩ := h g sz cs hg
 obtain ⟨C', fr', h3, h4⟩ := hb.rows g C e fr h1
 refine ⟨hs g ?_ a, C', e, fr', h3, by rw [h4, h2]⟩
 rcases Nat.lt_or_ge g w.heap.size with hlt | hge
 ·exact hlt
 ·rw [Array.getElem?_eq_none hge] at h1; cases h1
end
end HY
end
section
namespace HY
open Go Go.RowKit
def Qr : Code → Bool
 | .seq a b => Qr a || Qr b
 | .cond _ a b => Qr a || Qr b
 | .block _ c => Qr c
 | .loop c => Qr c
 | .scope c => Qr c
 | .rangeFunc .. => true
 | _ => false
def LJ (D : List Nat) : List Deferred := D.map fun g => { target := .collected g, args := #[] }
structure Fin' (B : Nat → Prop) (H0 : HV) (a : Act) (w : World) (hr : Bool) (B' : Nat → Prop) (H0' : HV) (D : List Nat) (a' : Act) (w' : World) : Prop where
 sub : ∀ b, B b → B' b
 old : ∀ b o, B b → H0' b o = H0 b o
 dfr : a'.defers = LJ D ++ a.defers
 nod : D.Nodup
 opn : ∀ g ∈ D, B' g ∧ w.heap.size ≤ g ∧ w'.heap[g]? = some (.deferred (some []))
 non : hr = false → D = []
 bel : Q8 B w w'
section
variable {B : Nat → Prop} {H0 : HV} {a : Act} {w : World}
theorem Fin'.of {hr : Bool} {a' : Act} {w' : World} (hd : a'.defers = a.defers) (hb : Q8 B w w') : Fin' B H0 a w hr B H0 [] a' w' := ⟨fun _ h => h, fun _ _ _ => rfl, hd, List.nodup_nil, fun g hg => by simp at hg, fun _ => rfl, hb⟩
theorem Fin'.trans {h1 h2 h3 : Bool} {B1 B2 : Nat → Prop} {H1 H2 : HV} {D1 D2 : List Nat} {a1 a2 : Act} {w1 w2 : World} (k1 : Fin' B H0 a w h1 B1 H1 D1 a1 w1) (k2 : Fin' B1 H1 a1 w1 h2 B2 H2 D2 a2 w2) (hh : h3 = false → h1 = false ∧ h2 = false) : Fin' B H0 a w h3 B2 H2 (D2 ++ D1) a2 w2 where
 sub b hb := k2.sub b (k1.sub b hb)
 old b o hb := (k2.old b o (k1.sub b hb)).trans (k1.old b o hb)
 dfr := by rw [k2.dfr, k1.dfr, ← List.append_assoc]; simp [LJ]
 nod := by
  rw [List.nodup_append]
  refine ⟨k2.nod, k1.nod, fun x hx y hy e => ?_⟩
  subst e
  have h := (k1.opn x hy).2.2
  have h2 := (k2.opn x hx).2.1
  rw [Array.getElem?_eq_none h2] at h
  cases h
 opn g hg := by
  rcases List.mem_append.1 hg with hg | hg
  ·obtain ⟨x, y, z⟩ := k2.opn g hg
   exact ⟨x, Nat.le_trans k1.bel.size y, z⟩
  ·obtain ⟨x, y, z⟩ := k1.opn g hg
   exact ⟨k2.sub g x, y, by rw [k2.bel.block g x]; exact z⟩
 non h := by obtain ⟨e1, e2⟩ := hh h; rw [k1.non e1, k2.non e2]; rfl
 bel := k1.bel.trans (k2.bel.mono k1.sub)
theorem Fin'.up {h1 h3 : Bool} {B1 : Nat → Prop} {H1 : HV} {D1 : List Nat} {a1 : Act} {w1 : World} (k : Fin' B H0 a w h1 B1 H1 D1 a1 w1) (hh : h3 = false → h1 = false) : Fin' B H0 a w h3 B1 H1 D1 a1 w1 := { k with non := fun h => k.non (hh h) }
end
def Post (gl : Nat → AV) (B : Nat → Prop) (H0 : HV) (rest : List (AV × Value)) (hr : Bool) (a : Act) (w : World) (K : Exit → St → Prop) : Exit → Act → World → Prop := fun e a' w' =>
 ∃ st' m' H' B' H0' D, K e st' ∧ Fin' B H0 a w hr B' H0' D a' w' ∧ RelS m' H' B' H0' gl rest st' a'.tmps w'
theorem Post.of {gl : Nat → AV} {B : Nat → Prop} {H0 : HV} {rest : List (AV × Value)} {hr : Bool} {a : Act} {w : World} {K : Exit → St → Prop} {e : Exit} {st' : St} {m' : Nat → Lc} {H' : HV} {a' : Act} {w' : World} (hk : K e st') (hd : a'.defers = a.defers) (hb : Q8 B w w') (h : RelS m' H' B H0 gl rest st' a'.tmps w') : Post gl B H0 rest hr a w K e a' w' :=
 ⟨st', m', H', B, H0, [], hk, .of hd hb, h⟩
def Wk (P : Program) (gl : Nat → AV) (pins : Option (List AV)) (c : Code) (st : St) (K : Exit → St → Prop) : Prop :=
 ∀ (ro : Option Nat) (d : Nat), (Qr c = true → ro = none) → ∀ (B : Nat → Prop) (H0 : HV) (rest : List (AV × Value)) (m : Nat → Lc) (H : HV) (a : Act) (w : World), (∀ ps, pins = some ps → rest.map (·.1) = ps) → RelS m H B H0 gl rest st a.tmps w →
  c.wpIn (FW ro) d P (Post gl B H0 rest (Qr c) a w K) a w
def wpL (P : Program) (ro : Option Nat) (d : Nat) (c : Code) (Q : Exit → Act → World → Prop) (a : Act) (w : World) : Prop :=
 ∀ (b : Frame) (k : List Item) (cs : List Frame), b.roundOf = (FW ro).round → (FW ro).fn b.fn → (FW ro).room (cs.length + 1 + d) →
  ∃ e a' w', Q e a' w' ∧ ArrivesIn (Machine.fenced P (FW ro)) P (lone (b.atR a (.code c :: .inLoop c :: k)) cs w) b k cs e a' w'
section
variable {P : Program} {ro : Option Nat} {d : Nat} {c : Code} {Q : Exit → Act → World → Prop} {a : Act} {w : World}
theorem wpL.loop (h : wpL P ro d c Q a w) : (Code.loop c).wpIn (FW ro) d P Q a w := fun b k cs hro hb hr =>
 let ⟨e, a', w', hq, harr⟩ := h b k cs hro hb hr
 ⟨e, a', w', hq, .of_steps (.one (fenced_calm hb hr rfl) stepR_loop) harr⟩
theorem wpL.round (h : c.wpIn (FW ro) d P (Exit.then (wpL P ro d c Q) Q) a w) : wpL P ro d c Q a w := by
 intro b k cs hro hb hr
 obtain ⟨e, a₁, w₁, hq, harr⟩ := h b (.inLoop c :: k) cs hro hb hr
 cases e with
 | normal =>
  obtain ⟨e₂, a₂, w₂, hq₂, harr₂⟩ := hq b k cs hro hb hr
  exact ⟨e₂, a₂, w₂, hq₂, .of_steps (StepsIn.trans harr (.one (fenced_calm hb hr rfl) stepR_inLoop)) harr₂⟩
 | exit id => exact ⟨_, a₁, w₁, hq, .pass (x := .inLoop c) rfl (fun _ _ => .inl (by simp)) harr⟩
 | goto l => exact ⟨_, a₁, w₁, hq, .pass (x := .inLoop c) rfl (fun _ _ => .inl (by simp)) harr⟩
 | ret => exact ⟨_, a₁, w₁, hq, .pass (x := .inLoop c) rfl (fun _ _ => .inl (by simp)) harr⟩
 | panic ch => exact ⟨_, a₁, w₁, hq, .pass (x := .inLoop c) rfl (fun _ _ => .inl (by simp)) harr⟩
 | outgrown => exact ⟨_, a₁, w₁, hq, .pass (x := .inLoop c) rfl (fun _ _ => .inl (by simp)) harr⟩
theorem wpL.mono {Q' : Exit → Act → World → Prop} (h : wpL P ro d c Q a w) (hq : ∀ e a w, Q e a w → Q' e a w) : wpL P ro d c Q' a w := fun b k cs hro hb hr =>
 let ⟨e, a', w', q, r⟩ := h b k cs hro hb hr
 ⟨e, a', w', hq _ _ _ q, r⟩
end
structure Xt (P : Program) (gl : Nat → AV) (ps : List AV) (n : Nat) (c : Code) (ks : List Nat) (vs : List AV) (bs : List Box) (kx : List Nat) (alts : List Alt) : Prop where
 ok : ∀ (ro : Option Nat) (d : Nat), (Qr c = true → ro = none) → ∀ (B : Nat → Prop) (H0 : HV) (rest : List (AV × Value)) (m : Nat → Lc) (H : HV) (a : Act) (w : World), rest.map (·.1) = ps → RelS m H B H0 gl rest (ZH n ks vs bs) a.tmps w →
  wpL P ro d c (Post gl B H0 rest (Qr c) a w (fun e st' => ∃ alt ∈ alts, ∃ x, alt.φ x ∧ e = alt.ex ∧ st' = ZH n kx (alt.vs x) (alt.bs x))) a w
structure Out (alts : List Alt) (e : Exit) (vs : List AV) (bs : List Box) : Prop where
 ok : ∃ alt ∈ alts, ∃ x, alt.φ x ∧ e = alt.ex ∧ LeVs vs (alt.vs x) ∧ LeBs bs (alt.bs x)
theorem Out.here {α : Type} {φ : α → Prop} {e : Exit} {vs : List AV} {vs' : α → List AV} {bs : List Box} {bs' : α → List Box} {r : List Alt} (x : α) (h : φ x) (hv : LeVs vs (vs' x)) (hb : LeBs bs (bs' x)) : Out (⟨φ, e, vs', bs'⟩ :: r) e vs bs := ⟨⟨_, List.mem_cons_self, x, h, rfl, hv, hb⟩⟩
theorem Out.next {a : Alt} {r : List Alt} {e : Exit} {vs : List AV} {bs : List Box} (h : Out r e vs bs) : Out (a :: r) e vs bs := by
 obtain ⟨alt, h1, h2⟩ := h.ok
 exact ⟨alt, List.mem_cons_of_mem _ h1, h2⟩
def Wx (ks : List Nat) (vs : List AV) : Bool := nodN ks && Nat.beq ks.length vs.length
def Turn (gl : Nat → AV) (n : Nat) (ks : List Nat) (vs ps : List AV) (s : St) (bs' : List Box) : Prop :=
 ∀ (m : Nat → Lc) (H : HV) (B : Nat → Prop) (H0 : HV) (rest : List (AV × Value)) (tmps : Array Value) (w : World), rest.map (·.1) = ps → RelS m H B H0 gl rest ⟨n, slOf ks vs, s.hp, s.nx⟩ tmps w → ∃ m' H', RelS m' H' B H0 gl rest (ZH n ks vs bs') tmps w
def Ua (P : Program) (gl : Nat → AV) (ps : List AV) (n : Nat) (prm : Array Tmp) (azz bd : Code) (ks : List Nat) (vs : List AV) (alts : List Alt) : List (List AV) → List Box → Prop
 | [], bs => Wx ks vs = true ∧ Out alts .normal vs bs
 | x :: xs, bs => Wx ks vs = true ∧ ∃ s0, Id prm.toList x (ZH n ks vs bs) = some s0 ∧ Wk P gl (some (vs ++ ps)) azz s0 (fun e s1 => e = .normal ∧ Wk P gl (some (vs ++ ps)) bd s1 (fun e2 s2 =>
   ∃ j bs', MU e2 = some j ∧ Turn gl n ks vs ps s2 bs' ∧ match j with
    | none => ∃ bs2, LeBs bs' bs2 ∧ Ua P gl ps n prm azz bd ks vs alts xs bs2
    | some _ => Out alts e2 vs bs'))
end HY
end
section
namespace HY
open Go Go.RowKit
theorem A9 : ∀ {ks : List Nat} {vs : List AV}, nodN ks = true → ∀ {j k : Nat} {v : AV}, ks[j]? = some k → vs[j]? = some v → lk .undef (slOf ks vs) k = v
 | [], vs, _, j, k, v, h, _ => by simp at h
 | a :: ks, [], _, j, k, v, _, h => by simp at h
 | a :: ks, x :: vs, hn, j, k, v, hk, hv => by
  simp only [slOf]
  rw [JI]
  cases j with
  | zero => simp_all
  | succ j =>
   have hne : a ≠ k := fun e => by
    subst e
    have := MI (ids := a :: ks) hn (i := 0) (j := j + 1) rfl hk
    omega
   rw [if_neg hne]
   refine A9 (ks := ks) (vs := vs) ?_ (by simpa using hk) (by simp_all)
   grind [nodN]
def kvs : List Nat → List AV → Array Value → List (AV × Value)
 | k :: ks, v :: vs, t => (v, t.getD k Go.undef) :: kvs ks vs t
 | _, _, _ => []
theorem SV : ∀ {ks : List Nat} {vs : List AV} {t : Array Value}, ks.length = vs.length → (kvs ks vs t).map (·.1) = vs
 | [], [], _, _ => rfl
 | [], _ :: _, _, h => by simp at h
 | _ :: _, [], _, h => by simp at h
 | k :: ks, v :: vs, t, h => by simp only [kvs, List.map_cons]; rw [SV (by simp_all)]
theorem SW : ∀ {ks : List Nat} {vs : List AV} {t : Array Value} {p : AV × Value}, p ∈ kvs ks vs t → ∃ (j k : Nat), ks[j]? = some k ∧ vs[j]? = some p.1 ∧ p.2 = t.getD k Go.undef
 | [], [], _, _, h => by simp [kvs] at h
 | [], _ :: _, _, _, h => by simp [kvs] at h
 | _ :: _, [], _, _, h => by simp [kvs] at h
 | k :: ks, v :: vs, t, p, h => by
  simp only [kvs, List.mem_cons] at h
  rcases h with rfl | h
  ·exact ⟨0, k, rfl, rfl, rfl⟩
  ·obtain ⟨j, k', h1, h2, h3⟩ := SW h
   exact ⟨j + 1, k', by simp_all, by simp_all, h3⟩
theorem kvs_at : ∀ {ks : List Nat} {vs : List AV} {t : Array Value} {j k : Nat} {v : AV}, ks[j]? = some k → vs[j]? = some v → (v, t.getD k Go.undef) ∈ kvs ks vs t
 | [], _, _, j, k, v, h, _ => by simp at h
 | _ :: _, [], _, j, k, v, _, h => by simp at h
 | a :: ks, x :: vs, t, j, k, v, h1, h2 => by
  cases j with
  | zero => simp at h1 h2; subst h1; subst h2; exact List.mem_cons_self
  | succ j => exact List.mem_cons_of_mem _ (kvs_at (by simpa using h1) (by simp_all))
theorem Ab : ∀ (ks : List Nat) (vs : List AV) (k : Nat), lk .undef (slOf ks vs) k = .undef ∨ ∃ (j : Nat), ks[j]? = some k ∧ vs[j]? = some (lk .undef (slOf ks vs) k)
 | [], vs, k => .inl (Ts _ _)
 | a :: ks, [], k => .inl (Ts _ _)
 | a :: ks, x :: vs, k => by
  simp only [slOf]
  rw [JI]
  by_cases h : a = k
  ·subst h; rw [if_pos rfl]; exact .inr ⟨0, rfl, rfl⟩
  ·rw [if_neg h]
   rcases Ab ks vs k with e | ⟨j, h1, h2⟩
   ·grind
   ·exact .inr ⟨j + 1, by simp_all, by simp_all⟩
theorem SH {ks : List Nat} {vs : List AV} (h : Wx ks vs = true) : nodN ks = true ∧ ks.length = vs.length := by
 simp_all [Wx, Bool.and_eq_true, Nat.eq_of_beq_eq_true]
section
variable {P : Program} {m : Nat → Lc} {H : HV} {B : Nat → Prop} {H0 : HV} {gl : Nat → AV} {rest : List (AV × Value)} {w : World} {ks : List Nat} {vs : List AV} {bs : List Box} {n : Nat} {tmps : Array Value}
theorem RelS.hold2 (h : RelS m H B H0 gl rest (ZH n ks vs bs) tmps w) (hk : nodN ks = true) : RelS m H B H0 gl (kvs ks vs tmps ++ rest) (ZH n ks vs bs) tmps w :=
 ⟨h.heap, h.size, h.slot, fun p hp => by
  rcases List.mem_append.1 hp with hp | hp
  ·obtain ⟨j, k, h1, h2, h3⟩ := SW hp
   have := h.slot k
   rw [show (ZH n ks vs bs).get k = p.1 from A9 hk h1 h2, ← h3] at this
   exact this
  ·exact h.rest p hp⟩
theorem RelS.back2 {st : St} {t : Array Value} (h : RelS m H B H0 gl (kvs ks vs tmps ++ rest) st t w) (hsz : tmps.size = n) : RelS m H B H0 gl rest ⟨n, slOf ks vs, st.hp, st.nx⟩ tmps w :=
 ⟨h.heap, hsz, fun k => by
  show RV H _ (lk .undef (slOf ks vs) k) _
  rcases Ab ks vs k with e | ⟨j, h1, h2⟩
  ·rw [e]; exact .imm _ _ (.undef _)
  ·exact h.rest _ (List.mem_append_left _ (kvs_at h1 h2)), fun p hp => h.rest p (List.mem_append_right _ hp)⟩
theorem RelS.world {st : St} (h : RelS m H B H0 gl rest st tmps w) {w' : World} {K : Nat → Prop} (hb : Q8 K w w') (hH : ∀ b o v, H b o = some v → K b) (hBx : ∀ id b, lkb st.hp id = some b → Real b (m id) → K (m id).g) {B' : Nat → Prop} {H0' : HV} (old : ∀ b o, B' b → H b o = H0' b o) (low : ∀ b, B' b → b < w'.heap.size)
  (sep : ∀ id b, lkb st.hp id = some b → Real b (m id) → ¬ B' (m id).g) (gv : GvOk gl B' w') : RelS m H B' H0' gl rest st tmps w' :=
 ⟨{ sat := (fun b o v hv => by rw [hb.cell (hH b o v hv)]; exact h.heap.sat b o v hv), old := old, low := low, fresh := h.heap.fresh, box := (fun id b hid => (h.heap.box id b hid).mono' (.refl _) (.refl _) fun hr => hb.block _ (hBx id b hid hr)), sepR := (fun id b hid hr => ⟨sep id b hid hr, Nat.lt_of_lt_of_le (h.heap.sepR id b hid hr).2.1 hb.size, (h.heap.sepR id b hid hr).2.2⟩), injR := h.heap.injR, gv := gv, gl := h.heap.gl, ty := (fun id v cs hid => (h.heap.ty id v cs hid).mono (hb.block _ (hBx id _ hid trivial))) }, h.size, h.slot, h.rest⟩
theorem Mf {w : World} {g : Nat} {o : Obj} (h : w.heap[g]? = some o) : g < w.heap.size := (Array.getElem?_eq_some_iff.1 h).1
end
section
variable {P : Program} {gl : Nat → AV}
structure JJ (P : Program) (gl : Nat → AV) (ps : List AV) (n : Nat) (ks : List Nat) (vs : List AV) (alts : List Alt) (xs : List (List AV)) (B : Nat → Prop) (H : HV) (rest : List (AV × Value)) (tmps : Array Value) (w : World) (l dg : Nat) (r0 : Loop) (B1 : Nat → Prop) (p : Option Nat) (O : Nat → Prop) (Hc : HV) (w' : World) : Prop where
 ex : ∃ (C : Nat → Prop) (m' : Nat → Lc) (H' H0' : HV) (bs' : List Box) (r : Loop), w'.heap[l]? = some (.loop r) ∧
  (match p with
   | some k => r = r0 ∧ Ua P gl ps n r0.params r0.assign r0.body ks vs alts (xs.drop k) bs'
   | none => ∃ e c, MU e = some (some c) ∧ r = { r0 with state := .done, pending := some c } ∧ Out alts e vs bs') ∧
  (∀ b, O b ∨ C b → dg + 2 ≤ b ∧ b < w'.heap.size) ∧ (∀ b, O b → ∀ o, H' b o = none) ∧ HV.le Hc H' ∧ (∀ b o v, Hc b o = some v → B1 b ∨ C b) ∧ (∀ b o, B1 b → H0' b o = H b o) ∧
  RelS m' H' (fun b => B1 b ∨ O b ∨ C b) H0' gl rest (ZH n ks vs bs') tmps w'
 dgo : w'.heap[dg]? = some (.deferred (some []))
 bel : Q8 B w w'
 leH : HV.le H Hc
variable {ps : List AV} {n : Nat} {ks : List Nat} {vs : List AV} {alts : List Alt} {xs : List (List AV)} {B : Nat → Prop} {H : HV} {rest : List (AV × Value)} {tmps : Array Value} {w : World} {l dg : Nat} {r0 : Loop} {B1 : Nat → Prop}
theorem HV.dom {H : HV} {b : Nat} (h : ¬ ∃ o v, H b o = some v) (o : Nat) : H b o = none := by
 cases hh : H b o with
 | none => rfl
 | some v => simp_all
theorem dropAt {α : Type} {xs : List α} {k : Nat} {x : α} (h : xs[k]? = some x) : xs.drop k = x :: xs.drop (k + 1) := by
 grind [List.getElem?_eq_some_iff, List.drop_eq_getElem_cons]
theorem JJ.own (hl : l = dg + 1) (hB : ∀ b, B b → B1 b) (hBw : ∀ b, B b → b < w.heap.size) (hB1 : ∀ b, B1 b → b < dg + 2) {p : Option Nat} {O : Nat → Prop} {Hc : HV} {w' w'' : World} (h : JJ P gl ps n ks vs alts xs B H rest tmps w l dg r0 B1 p O Hc w') (hbl : Q8 (BO O w') w' w'') : JJ P gl ps n ks vs alts xs B H rest tmps w l dg r0 B1 p (MQ O w' w'') Hc w'' := by
 obtain ⟨⟨C, m', H', H0', bs', r, h1, h2, h3, h4, h5, h6, h7, h8⟩, hd, hbe, hle⟩ := h
 have hnO : ∀ b, b < dg + 2 → ¬ O b := fun b hb hO => by grind
 have hlO : BO O w' l := ⟨Mf h1, hnO l (by omega)⟩
 have hdO : BO O w' dg := ⟨Mf hd, hnO dg (by omega)⟩
 have hsz : dg + 2 ≤ w'.heap.size := by grind
 have hH' : ∀ b o v, H' b o = some v → BO O w' b := fun b o v hv => ⟨Vx h8.heap.sat hv, fun hO => by simp_all⟩
 have hBx : ∀ id b, lkb (ZH n ks vs bs').hp id = some b → Real b (m' id) → (m' id).g < w'.heap.size ∧ ¬ (B1 (m' id).g ∨ O (m' id).g ∨ C (m' id).g) := fun id b hid hr => ⟨(h8.heap.sepR id b hid hr).2.1, (h8.heap.sepR id b hid hr).1⟩
 refine ⟨⟨C, m', H', H', bs', r, by rw [hbl.block l hlO]; exact h1, h2, fun b hb => ?_, fun b hb o => ?_, h5, h6, fun b o hb => ?_, ?_⟩, by rw [hbl.block dg hdO]; exact hd, hbe.trans (hbl.mono fun b hb => ⟨Nat.lt_of_lt_of_le (hBw b hb) hbe.size, hnO b (hB1 b (hB b hb))⟩), hle⟩
 ·rcases hb with (hb | hb) | hb
  ·exact ⟨(h3 b (.inl hb)).1, Nat.lt_of_lt_of_le (h3 b (.inl hb)).2 hbl.size⟩
  ·omega
  ·exact ⟨(h3 b (.inr hb)).1, Nat.lt_of_lt_of_le (h3 b (.inr hb)).2 hbl.size⟩
 ·rcases hb with hb | hb
  ·simp_all
  ·cases hh : H' b o with
   | none => rfl
   | some v => have := Vx h8.heap.sat hh; omega
 ·rw [← h7 b o hb]; exact h8.heap.old b o (.inl hb)
 ·refine h8.world hbl hH' (fun id b hid hr => ⟨(hBx id b hid hr).1, fun hO => (hBx id b hid hr).2 (.inr (.inl hO))⟩) (fun _ _ _ => rfl) (fun b hb => ?_) (fun id b hid hr hb => ?_) (h8.heap.gv.to hbl fun b _ hb => ?_)
  ·rcases hb with hb | (hb | hb) | hb
   ·have := hB1 b hb; have := hbl.size; omega
   ·exact Nat.lt_of_lt_of_le (h3 b (.inl hb)).2 hbl.size
   ·exact hb.2
   ·exact Nat.lt_of_lt_of_le (h3 b (.inr hb)).2 hbl.size
  ·obtain ⟨x, y⟩ := hBx id b hid hr
   rcases hb with hb | (hb | hb) | hb
   ·simp_all
   ·simp_all
   ·omega
   simp_all
  ·rcases hb with hb | hb | hb
   ·simp_all
   ·exact .inr (.inl (.inl hb))
   simp_all
theorem JJ.pub (hB1 : ∀ b, B1 b → b < dg + 2) {p : Option Nat} {O : Nat → Prop} {Hc : HV} {w' : World} {H2 : HV} (h : JJ P gl ps n ks vs alts xs B H rest tmps w l dg r0 B1 p O Hc w') (hs : HV.sat H2 w') (hk : ∀ b o v, H2 b o = some v → O b ∨ Hc b o = some v) : JJ P gl ps n ks vs alts xs B H rest tmps w l dg r0 B1 p (I7 O H2) (unH Hc H2) w' := by
 obtain ⟨⟨C, m', H', H0', bs', r, h1, h2, h3, h4, h5, h6, h7, h8⟩, hd, hbe, hle⟩ := h
 have hun : ∀ b o v, unH H' H2 b o = some v → H' b o = some v ∨ (O b ∧ H2 b o = some v) := fun b o v hv => by
  rcases T1 hv with e | ⟨e1, e2⟩
  ·grind
  ·rcases hk b o v e2 with hO | hc
   ·simp_all
   ·rw [h5 b o v hc] at e1; cases e1
 have hbx : ∀ id b, lkb (ZH n ks vs bs').hp id = some b → Real b (m' id) → ∀ o, unH H' H2 (m' id).g o = none := fun id b hid hr o => by
  obtain ⟨x, y, z⟩ := h8.heap.sepR id b hid hr
  cases hh : unH H' H2 (m' id).g o with
  | none => rfl
  | some v =>
   grind
 have hkn := h8.know (H' := unH H' H2) (H0' := unH H' H2) Ii (unH_sat h8.heap.sat hs) (fun _ _ _ => rfl) hbx
 have hB1n : ∀ b, b < dg + 2 → ¬ O b := fun b hb hO => by grind
 have split : ∀ b, O b → I7 O H2 b ∨ (O b ∧ ∃ o v, H2 b o = some v) := fun b hO => by
  by_cases hx : ∃ o v, H2 b o = some v
  ·simp_all
  ·exact .inl ⟨hO, HV.dom hx⟩
 refine ⟨⟨fun b => C b ∨ (O b ∧ ∃ o v, H2 b o = some v), m', unH H' H2, unH H' H2, bs', r, h1, h2, fun b hb => ?_, fun b hb o => ?_, fun b o v hv => ?_, fun b o v hv => ?_, fun b o hb => ?_, ?_⟩, hd, hbe, fun b o v hv => Ii b o v (hle b o v hv)⟩
 ·rcases hb with hb | hb | hb
  ·exact h3 b (.inl hb.1)
  ·simp_all
  simp_all
 ·simp [unH, h4 b hb.1 o, hb.2 o]
 ·rcases T1 hv with e | ⟨_, e2⟩
  ·exact Ii b o v (h5 b o v e)
  grind [hk, unH, Ii]
 ·grind [T1, hk]
 ·have e1 : H' b o = H b o := (h8.heap.old b o (.inl hb)).trans (h7 b o hb)
  cases hh : unH H' H2 b o with
  | none =>
   cases h9 : H' b o with
   | none => simp_all
   | some v => rw [Ii b o v h9] at hh; cases hh
  | some v =>
   grind
 ·refine hkn.base (fun _ _ _ => rfl) (fun b hb => ?_) (fun id b hid hr hb => ?_) (h8.heap.gv.sup fun b hb => ?_)
  ·refine h8.heap.low b ?_
   rcases hb with hb | hb | hb | hb
   ·simp_all
   ·exact .inr (.inl hb.1)
   ·simp_all
   simp_all
  ·refine (h8.heap.sepR id b hid hr).1 ?_
   rcases hb with hb | hb | hb | hb
   ·exact .inl hb
   ·exact .inr (.inl hb.1)
   ·grind
   simp_all
  grind
theorem JJ.round (hl : l = dg + 1) (hdg : dg = w.heap.size) (hB : ∀ b, B b → B1 b) (hBw : ∀ b, B b → b < w.heap.size) (hB1 : ∀ b, B1 b → b < dg + 2) (hBl : B1 l) (hBd : B1 dg) (hrest : rest.map (·.1) = ps) (hst : r0.state = .ready) (hpd : r0.pending = none) (htm : r0.tmps = tmps) (hsz : tmps.size = n)
  (ha : Qr r0.assign = false) (hb : Qr r0.body = false) {k : Nat} {O : Nat → Prop} {Hc : HV} {w' : World} {x : List AV} {us : Array Value} (h : JJ P gl ps n ks vs alts xs B H rest tmps w l dg r0 B1 (some k) O Hc w') (hx : xs[k]? = some x) (hxl : x.length = us.size) (hxr : ∀ (j : Nat) (c : AV) (v : Value), x[j]? = some c → us[j]? = some v → RelI Hc c v) :
  ∃ fn tm azz bd, (Instr.yield l us).run P w' = .ok (.round l fn tm azz bd) w' ∧ ∀ ro i, RoundIn (FW ro) i P l fn tm azz bd w' fun e w2 => ∃ b, e = .returned (.bool b) ∧ Q8 O w' w2 ∧ JJ P gl ps n ks vs alts xs B H rest tmps w l dg r0 B1 (if b then some (k + 1) else none) O Hc w2 := by
 obtain ⟨⟨C, m', H', H0', bs', r, h1, ⟨rfl, hR⟩, h3, h4, h5, h6, h7, h8⟩, hd, hbe, hle⟩ := h
 rw [dropAt hx] at hR
 obtain ⟨hsl, s0, hput, hW⟩ := hR
 obtain ⟨hnod, hlen⟩ := SH hsl
 have hB2 : RelS m' H' (fun b => B1 b ∨ O b ∨ C b) H' gl (kvs ks vs tmps ++ rest) (ZH n ks vs bs') tmps w' := (h8.base (fun _ _ _ => rfl) h8.heap.low (fun id b hid hr => (h8.heap.sepR id b hid hr).1) h8.heap.gv).hold2 hnod
 obtain ⟨hpl, hr1, e1, e2⟩ := Hm r.params.toList x us.toList _ tmps s0 hB2 hput (by omega) (fun j c v hc hv => .imm _ _ ((hxr j c v hc (by simp_all)).mono h5))
 have hfold : (r.params.zip us).foldl (fun tm (q : Nat × Value) => tm.setIfInBounds q.1 q.2) r.tmps = (r.params.toList.zip us.toList).foldl (fun tm (q : Nat × Value) => tm.setIfInBounds q.1 q.2) tmps := by
  rw [← Array.foldl_toList, Array.toList_zip, htm]
 rw [← hfold] at hr1
 have hpins : (kvs ks vs tmps ++ rest).map (·.1) = vs ++ ps := by simp_all [List.map_append, SV]
 have hlw : l < dg + 2 := by omega
 refine ⟨r.fn, _, r.assign, r.body, run_yield h1 (by simp_all), fun ro i => ?_⟩
 refine roundIn_of_wpIn trivial ?_
 have hA := (hW (some l) i (fun e => by simp_all) _ _ _ m' H' { tmps := _, defers := [] } w' (fun ps' e => by simp_all) hr1)
 refine wpIn_mono hA fun e a1 w1 hq => ?_
 obtain ⟨s1, m1, H1, B1', H01, D1, ⟨rfl, hW2⟩, hf1, hrel1⟩ := hq
 have hl1 : B1' l := hf1.sub l (.inl hBl)
 have hobj1 : w1.heap[l]? = some (.loop r) := by rw [hf1.bel.block l (.inl hBl)]; exact h1
 refine ⟨_, run_beginRound hobj1 hst, ?_⟩
 have hrel1' := hrel1.obj (o2 := .loop { r with state := .busy }) hl1 hobj1 (fun _ _ _ q => by cases q)
 have hBd2 := (hW2 (some l) i (fun e => by simp_all) _ _ _ m1 H1 a1 _ (fun ps' e => by simp_all) hrel1')
 refine wpIn_mono hBd2 fun e a2 w2 hq => ?_
 obtain ⟨s2, m2, H2, B2', H02, D2, ⟨j, bs2, hj, hturn, hnext⟩, hf2, hrel2⟩ := hq
 have hl2 : B2' l := hf2.sub l hl1
 have hobj2 : w2.heap[l]? = some (.loop { r with state := .busy }) := by rw [hf2.bel.block l hl1]; exact World.putObj_heap_same (Mf hobj1)
 have hend := run_endRound (P := P) j hobj2
 have hbase := hrel2.back2 (n := n) hsz
 obtain ⟨m3, H3, hrel3⟩ := hturn m2 H2 B2' H02 rest tmps w2 hrest hbase
 have hrel4 := hrel3.obj (o2 := .loop { r with state := if j.isNone then .ready else .done, pending := j }) hl2 hobj2 (fun _ _ _ q => by cases q)
 have hK : Q8 (fun b => (B1 b ∨ O b ∨ C b) ∧ b ≠ l) w' (w2.putObj l (.loop { r with state := if j.isNone then .ready else .done, pending := j })) := by
  have c1 := (hf1.bel.mono (B' := fun b => (B1 b ∨ O b ∨ C b) ∧ b ≠ l) fun b hb => hb.1).obj (g := l) (o2 := .loop { r with state := .busy }) (fun hb => hb.2 rfl) hobj1 (fun _ _ _ q => by cases q)
  exact (c1.trans (hf2.bel.mono fun b hb => hf1.sub b hb.1)).obj (g := l) (fun hb => hb.2 rfl) hobj2 (fun _ _ _ q => by cases q)
 have hold : ∀ b o, (B1 b ∨ O b ∨ C b) → H3 b o = H' b o := fun b o hb => (hrel3.heap.old b o (hf2.sub b (hf1.sub b hb))).trans ((hf2.old b o (hf1.sub b hb)).trans (hf1.old b o hb))
 have hnl : ∀ b, O b ∨ C b → b ≠ l := fun b hb e => by grind
 have hrel5 : RelS m3 H3 (fun b => B1 b ∨ O b ∨ C b) H3 gl rest (ZH n ks vs bs2) tmps (w2.putObj l (.loop { r with state := if j.isNone then .ready else .done, pending := j })) :=
  hrel4.base (fun _ _ _ => rfl) (fun b hb => hrel4.heap.low b (hf2.sub b (hf1.sub b hb))) (fun id b hid hr hb => (hrel4.heap.sepR id b hid hr).1 (hf2.sub _ (hf1.sub _ hb))) (h8.heap.gv.to hK fun b _ hb => hb)
 have hfin : ∃ b, Ending.returned (.bool j.isNone) = .returned (.bool b) ∧ Q8 O w' (w2.putObj l (.loop { r with state := if j.isNone then .ready else .done, pending := j })) ∧ JJ P gl ps n ks vs alts xs B H rest tmps w l dg r B1 (if b then some (k + 1) else none) O Hc (w2.putObj l (.loop { r with state := if j.isNone then .ready else .done, pending := j })) := by
  refine ⟨j.isNone, rfl, hK.mono fun b hb => ⟨.inr (.inl hb), hnl b (.inl hb)⟩, ?_⟩
  have hdg2 : (w2.putObj l (.loop { r with state := if j.isNone then .ready else .done, pending := j })).heap[dg]? = some (.deferred (some [])) := by rw [hK.block dg ⟨.inl hBd, by omega⟩]; exact hd
  have hobj3 : (w2.putObj l (.loop { r with state := if j.isNone then .ready else .done, pending := j })).heap[l]? = some (.loop { r with state := if j.isNone then .ready else .done, pending := j }) := World.putObj_heap_same (Mf hobj2)
  have hbe3 : Q8 B w (w2.putObj l (.loop { r with state := if j.isNone then .ready else .done, pending := j })) := hbe.trans (hK.mono fun b hb => ⟨.inl (hB b hb), fun e => by grind⟩)
  have hOC : ∀ b, O b ∨ C b → dg + 2 ≤ b ∧ b < (w2.putObj l (.loop { r with state := if j.isNone then .ready else .done, pending := j })).heap.size := fun b hb => ⟨(h3 b hb).1, Nat.lt_of_lt_of_le (h3 b hb).2 hK.size⟩
  have hO3 : ∀ b, O b → ∀ o, H3 b o = none := fun b hb o => (hold b o (.inr (.inl hb))).trans (h4 b hb o)
  have hHc : HV.le Hc H3 := fun b o v hv => by
   rw [hold b o (by rcases h6 b o v hv with q | q; exact .inl q; grind)]; exact h5 b o v hv
  have hHB : ∀ b o, B1 b → H3 b o = H b o := fun b o hb => (hold b o (.inl hb)).trans ((h8.heap.old b o (.inl hb)).trans (h7 b o hb))
  cases j with
  | none =>
   obtain ⟨bs3, hle3, hnx⟩ := hnext
   obtain ⟨m4, H4, hrel6⟩ := (Gb (gl := gl) (n := n) (ks := ks) (.refl vs) hle3).2 _ _ _ _ _ _ _ hrel5
   have hold4 : ∀ b o, (B1 b ∨ O b ∨ C b) → H4 b o = H3 b o := fun b o hb => hrel6.heap.old b o hb
   refine ⟨⟨C, m4, H4, H3, bs3, r, ?_, ⟨rfl, hnx⟩, hOC, fun b hb o => (hold4 b o (.inr (.inl hb))).trans (hO3 b hb o), fun b o v hv => ?_, h6, hHB, hrel6⟩, hdg2, hbe3, hle⟩
   ·rw [hobj3]
    have : ({ r with state := if (none : Option Code).isNone then .ready else .done, pending := none } : Loop) = r := by
     cases r; grind
    rw [this]
   ·rw [hold4 b o (by rcases h6 b o v hv with q | q; exact .inl q; grind)]; exact hHc b o v hv
  | some c =>
   exact ⟨⟨C, m3, H3, H3, bs2, _, hobj3, ⟨e, c, hj, rfl, hnext⟩, hOC, hO3, hHc, h6, hHB, hrel5⟩, hdg2, hbe3, hle⟩
 cases e with
 | normal => cases hj; exact ⟨_, _, hend, hfin⟩
 | ret => cases hj; exact ⟨_, _, hend, hfin⟩
 | exit i => cases hj; exact ⟨_, _, hend, hfin⟩
 | _ => cases hj
theorem JJ.ok (hl : l = dg + 1) (hdg : dg = w.heap.size) (hB : ∀ b, B b → B1 b) (hBw : ∀ b, B b → b < w.heap.size) (hB1 : ∀ b, B1 b → b < dg + 2) (hBl : B1 l) (hBd : B1 dg) (hgl : ∀ g, RelI H (gl g) (.pointer (some ⟨g, 0, none⟩))) (hgB : ∀ g sz cs, gl g = .ip sz [.agg cs] 0 0 → B g) (hrest : rest.map (·.1) = ps) (hst : r0.state = .ready) (hpd : r0.pending = none) (htm : r0.tmps = tmps) (hsz : tmps.size = n)
  (ha : Qr r0.assign = false) (hb : Qr r0.body = false) : JOk P gl l xs (JJ P gl ps n ks vs alts xs B H rest tmps w l dg r0 B1) where
 sat p O Hc w' h := by
  obtain ⟨⟨C, m', H', H0', bs', r, h1, h2, h3, h4, h5, h6, h7, h8⟩, _, _, _⟩ := h
  exact fun b o v hv => h8.heap.sat b o v (h5 b o v hv)
 low p O Hc w' h b hb := by
  obtain ⟨⟨C, m', H', H0', bs', r, h1, h2, h3, h4, h5, h6, h7, h8⟩, _, _, _⟩ := h
  simp_all
 dis p O Hc w' h b hb o := by
  obtain ⟨⟨C, m', H', H0', bs', r, h1, h2, h3, h4, h5, h6, h7, h8⟩, _, _, _⟩ := h
  cases hh : Hc b o with
  | none => rfl
  | some v => rw [← h4 b hb o, h5 b o v hh]
 gls p O Hc w' h g := (hgl g).mono h.leH
 gv p O Hc w' h := by
  obtain ⟨⟨C, m', H', H0', bs', r, h1, h2, h3, h4, h5, h6, h7, h8⟩, hd, _, _⟩ := h
  refine fun g sz cs hg => ?_
  obtain ⟨a, D, e, fr, x, y⟩ := h8.heap.gv g sz cs hg
  exact ⟨⟨Mf x, fun hO => by grind⟩, D, e, fr, x, y⟩
 own p O Hc w' w'' h hbl := h.own hl hB hBw hB1 hbl
 pub p O Hc w' H2 h hs hk := h.pub hB1 hs hk
 round k O Hc w' x us h hx hxl hxr := h.round hl hdg hB hBw hB1 hBl hBd hrest hst hpd htm hsz ha hb hx hxl hxr
set_option maxHeartbeats 1000000 in
theorem Pl {m : Nat → Lc} {H0 : HV} {bs : List Box} {a : Act} {g : Operand} {prm : Array Tmp} {azz bd : Code} {f : Nat} {caps : List AV} {us : Array Value} (hr : RelS m H B H0 gl rest (ZH n ks vs bs) a.tmps w) (hev : a.eval g = .func (.func f) #[] us) (hcl : caps.length = us.size) (hcr : ∀ (j : Nat) (c : AV) (v : Value), caps[j]? = some c → us[j]? = some v → RelI H c v)
  (hent : Wz P f) (hit : ItOk P gl f caps xs) (hrng : Ua P gl ps n prm azz bd ks vs alts xs bs) (hps : rest.map (·.1) = ps) (ha : Qr azz = false) (hb : Qr bd = false) (d : Nat) :
  (Code.rangeFunc g prm azz bd).wpIn (FW none) d P (Post gl B H0 rest true a w (fun e st' => ∃ alt ∈ alts, ∃ x, alt.φ x ∧ e = alt.ex ∧ st' = ZH n ks (alt.vs x) (alt.bs x))) a w := by
 refine wpIn_rangeFunc fun fn _ => ?_
 have henter : (Instr.enterLoop fn a.tmps prm azz bd (FW none).round).run P w = .ok (w.heap.size + 1, [{ target := .collected w.heap.size, args := #[] }]) ((w.alloc (.deferred (some []))).alloc (.loop { state := .ready, pending := none, fn := fn, tmps := a.tmps, params := prm, assign := azz, body := bd, defers := w.heap.size })) := run_enterLoop_outer fn a.tmps prm azz bd
 have hbel : Q8 (fun b => b < w.heap.size) w ((w.alloc (.deferred (some []))).alloc (.loop { state := .ready, pending := none, fn := fn, tmps := a.tmps, params := prm, assign := azz, body := bd, defers := w.heap.size })) :=
  ((Q8.refl _ w).alloc (fun _ h => h) _).alloc (fun k hk => by simp; omega) _
 have hobj : ((w.alloc (.deferred (some []))).alloc (.loop { state := .ready, pending := none, fn := fn, tmps := a.tmps, params := prm, assign := azz, body := bd, defers := w.heap.size })).heap[w.heap.size + 1]? = some (.loop { state := .ready, pending := none, fn := fn, tmps := a.tmps, params := prm, assign := azz, body := bd, defers := w.heap.size }) := by
  have := X2 (w.alloc (.deferred (some []))) (.loop { state := .ready, pending := none, fn := fn, tmps := a.tmps, params := prm, assign := azz, body := bd, defers := w.heap.size })
  rwa [World.size_alloc] at this
 have hdob : ((w.alloc (.deferred (some []))).alloc (.loop { state := .ready, pending := none, fn := fn, tmps := a.tmps, params := prm, assign := azz, body := bd, defers := w.heap.size })).heap[w.heap.size]? = some (.deferred (some [])) := by
  rw [VN _ _ _ (by simp)]; exact X2 w _
 have hsz2 : ((w.alloc (.deferred (some []))).alloc (.loop { state := .ready, pending := none, fn := fn, tmps := a.tmps, params := prm, assign := azz, body := bd, defers := w.heap.size })).heap.size = w.heap.size + 2 := by simp
 generalize ((w.alloc (.deferred (some []))).alloc (.loop { state := .ready, pending := none, fn := fn, tmps := a.tmps, params := prm, assign := azz, body := bd, defers := w.heap.size })) = W2 at *
 have hres : (resolve a.eval (rangeCall g (w.heap.size + 1)) 0).run P W2 = .ok { target := .fn (.func f) us, args := #[.func (.yield (w.heap.size + 1)) #[] #[]] } W2 := by
  show (Deferred.ofValue (a.eval g) (#[Operand.const (.func (.yield (w.heap.size + 1)) #[] #[])].map a.eval)).run P W2 = _
  rw [hev]
  simp [Deferred.ofValue, Act.eval]
 have hinv : (invoke (.fn (.func f) us) #[.func (.yield (w.heap.size + 1)) #[] #[]]).run P W2 = .ok (.enter f (#[.func (.yield (w.heap.size + 1)) #[] #[]] ++ us)) W2 := by
  simp only [invoke]
  exact hent _ _
 generalize hB1 : (fun b => b < w.heap.size + 2 ∧ ∀ id b0, lkb (ZH n ks vs bs).hp id = some b0 → Real b0 (m id) → b ≠ (m id).g) = B1
 have hBB : ∀ b, B b → B1 b := fun b hb => by subst hB1; exact ⟨by have := hr.heap.low b hb; omega, fun id b0 hid hre e => (hr.heap.sepR id b0 hid hre).1 (e ▸ hb)⟩
 have hB1l : ∀ b, B1 b → b < w.heap.size + 2 := fun b hb => by subst hB1; exact hb.1
 have hnew : ∀ b, w.heap.size ≤ b → b < w.heap.size + 2 → B1 b := fun b h1 h2 => by subst hB1; exact ⟨h2, fun id b0 hid hre e => by have := (hr.heap.sepR id b0 hid hre).2.1; omega⟩
 have hB1x : ∀ id b0, lkb (ZH n ks vs bs).hp id = some b0 → Real b0 (m id) → ¬ B1 (m id).g := fun id b0 hid hre hb => by subst hB1; exact hb.2 id b0 hid hre rfl
 have hHB1 : ∀ b o v, H b o = some v → B1 b := fun b o v hv => by
  have hlt := Vx hr.heap.sat hv
  subst hB1
  exact ⟨by omega, fun id b0 hid hre e => by have := (hr.heap.sepR id b0 hid hre).2.2 o; rw [← e, hv] at this; cases this⟩
 have hj := JJ.ok (P := P) (gl := gl) (ps := ps) (n := n) (ks := ks) (vs := vs) (alts := alts) (xs := xs) (B := B) (H := H) (rest := rest) (tmps := a.tmps) (w := w) (l := w.heap.size + 1) (dg := w.heap.size) (r0 := { state := .ready, pending := none, fn := fn, tmps := a.tmps, params := prm, assign := azz, body := bd, defers := w.heap.size }) (B1 := B1)
  rfl rfl hBB hr.heap.low hB1l (hnew _ (by omega) (by omega)) (hnew _ (by omega) (by omega)) hr.heap.gl (fun g sz cs hg => (hr.heap.gv g sz cs hg).1) hps rfl rfl rfl hr.size ha hb
 have h0 : JJ P gl ps n ks vs alts xs B H rest a.tmps w (w.heap.size + 1) w.heap.size { state := .ready, pending := none, fn := fn, tmps := a.tmps, params := prm, assign := azz, body := bd, defers := w.heap.size } B1 (some 0) (fun _ => False) H W2 := by
  refine ⟨⟨fun _ => False, m, H, H, bs, _, hobj, ⟨rfl, hrng⟩, fun b hb => by rcases hb with h | h <;> exact h.elim, fun b hb => hb.elim, .refl _, fun b o v hv => .inl (hHB1 b o v hv), fun _ _ _ => rfl, ?_⟩, hdob, hbel.mono hr.heap.low, .refl _⟩
  refine hr.world hbel (fun b o v hv => Vx hr.heap.sat hv) (fun id b hid hre => (hr.heap.sepR id b hid hre).2.1) (fun _ _ _ => rfl) (fun b hb => ?_) (fun id b hid hre hb => ?_) (hr.heap.gv.to hbel fun b _ hb => .inl (hBB b hb))
  ·rw [hsz2]
   rcases hb with h | h | h
   ·exact hB1l b h
   ·exact h.elim
   ·exact h.elim
  ·rcases hb with h | h | h
   ·exact hB1x id b hid hre h
   ·exact h.elim
   ·exact h.elim
 refine ⟨_, _, _, _, _, _, _, _, henter, hres, fun _ _ => trivial, hinv, (fun hh => by simp [FW] at hh), DL ((hit.ok _ _ hj H W2 us h0 hcl hcr).mono fun e w3 hpost => ?_)⟩
 obtain ⟨v, p', O', Hc', rfl, hp', ⟨⟨C, m', H', H0', bs', r, h1, h2, h3, h4, h5, h6, h7, h8⟩, hdo, hbe, hle⟩⟩ := hpost
 have fin : ∀ (e : Exit) (r : Loop), w3.heap[w.heap.size + 1]? = some (.loop r) → Out alts e vs bs' → Post gl B H0 rest true a w (fun e st' => ∃ alt ∈ alts, ∃ x, alt.φ x ∧ e = alt.ex ∧ st' = ZH n ks (alt.vs x) (alt.bs x)) e { a with defers := [{ target := .collected w.heap.size, args := #[] }] ++ a.defers } (w3.putObj (w.heap.size + 1) (.loop { r with state := .exhausted })) := fun e r h1 ho => by
  obtain ⟨alt, hal, x, hφ, rfl, lv, lb⟩ := ho.ok
  have hr2 := h8.obj (o2 := .loop { r with state := .exhausted }) (.inl (hnew _ (by omega) (by omega))) h1 (fun _ _ _ q => by cases q)
  obtain ⟨m4, H4, hr3⟩ := (Gb (gl := gl) (n := n) (ks := ks) lv lb).2 _ _ _ _ _ _ _ hr2
  refine ⟨_, m4, H4, _, H0', [w.heap.size], ⟨alt, hal, x, hφ, rfl, rfl⟩, ⟨fun b hb => .inl (hBB b hb), fun b o hb => ?_, rfl, by simp, fun k hk => ?_, fun hh => (by cases hh), ?_⟩, hr3⟩
  ·rw [h7 b o (hBB b hb)]; exact hr.heap.old b o hb
  ·simp only [List.mem_singleton] at hk
   subst hk
   exact ⟨.inl (hnew _ (by omega) (by omega)), Nat.le_refl _, by rw [World.putObj_heap_other (by omega)]; exact hdo⟩
  ·exact hbe.obj (fun hb => by have := hr.heap.low _ hb; omega) h1 (fun _ _ _ q => by cases q)
 cases p' with
 | some k =>
  obtain ⟨rfl, hR⟩ := h2
  obtain rfl : k = xs.length := by rcases hp' with e | e <;> cases e; rfl
  rw [List.drop_length] at hR
  exact ⟨none, _, run_endLoop (P := P) h1 (by simp), fin .normal _ h1 hR.2⟩
 | none =>
  obtain ⟨e, c, hc, rfl, ho⟩ := h2
  refine ⟨some c, _, run_endLoop (P := P) h1 (by simp), ?_⟩
  have := fin e _ h1 ho
  cases e with
  | ret => cases hc; exact wpIn_ret this
  | exit i => cases hc; exact wpIn_exit this
  | _ => cases hc
end
end HY
end
section
namespace HY
open Go Go.RowKit
def Ee : List Alt → (Exit → List AV → List Box → Prop) → Prop
 | [], _ => True
 | [a], K => ∀ x, a.φ x → K a.ex (a.vs x) (a.bs x)
 | a :: b :: r, K => (∀ x, a.φ x → K a.ex (a.vs x) (a.bs x)) ∧ Ee (b :: r) K
theorem MY : ∀ {l : List Alt} {K : Exit → List AV → List Box → Prop}, Ee l K → ∀ a ∈ l, ∀ x, a.φ x → K a.ex (a.vs x) (a.bs x)
 | [], K, _, a, ha, _, _ => by simp at ha
 | [b], K, h, a, ha, x, hp => by simp at ha; subst ha; exact h x hp
 | b :: c :: r, K, h, a, ha, x, hp => by
  rcases List.mem_cons.1 ha with rfl | ha
  ·exact h.1 x hp
  ·exact MY (l := c :: r) h.2 a ha x hp
def VY : Code → Nat
 | .region id _ _ => id + 1
 | .seq a b => match VY a with
  | 0 => VY b
  | k + 1 => k + 1
 | .cond _ a b => match VY a with
  | 0 => VY b
  | k + 1 => k + 1
 | .block _ c => VY c
 | .loop c => VY c
 | .scope c => VY c
 | .rangeFunc _ _ a b => match VY a with
  | 0 => VY b
  | k + 1 => k + 1
 | _ => 0
def VT (e : Exit) : Bool := match e with | .normal => true | _ => false
def exGo (e : Exit) : Bool := match e with | .goto _ => true | _ => false
def exIs (e : Exit) (id : Nat) : Bool := match e with | .exit i => Nat.beq i id | _ => false
def jKey : Code → Nat
 | .region id _ _ => 5000000 + id
 | .cond _ a b => 6000000 + VY (.cond (.tmp 0) a b)
 | .block id _ => 7000000 + id
 | .seq _ (.cond _ a b) => 6000000 + VY (.cond (.tmp 0) a b)
 | .seq _ (.block id _) => 7000000 + id
 | _ => 8000000
def Jn (_id : Nat) (p : Prop) : Prop := p
def wjoin (ps : List AV) (kx : List Nat) (kbx : List KB) (n : Nat) (alts : List Alt) (e : Exit) (s : St) : Prop :=
 match VT e with
 | true => match Nat.beq s.n n with
  | true => K7 kbx s (fun s => Jl ps kx kbx s (Out alts .normal))
  | false => False
 | false => False
def wpre (hs : Qz) (id : Nat) (st : St) (K : St → Prop) : Prop := match lkH hs (7500000 + id) with
 | some (.z kb _) => K7 kb st K
 | _ => K st
theorem EZ {gl : Nat → AV} {hs : Qz} {id : Nat} {st : St} {K : St → Prop} (h : wpre hs id st K) : ∃ st', Conv gl st st' ∧ K st' := by
 unfold wpre at h
 split at h
 ·exact XT h
 ·exact ⟨st, .refl, h⟩
def Yk (P : Program) (gl : Nat → AV) (ch0 : Ql) (wf : WF) (hs : Qz) (pins : Option (List AV)) : Nat → Code → St → (Exit → St → Prop) → Prop
 | 0, _, _, _ => False
 | k + 1, c, st, K => match c with
  | .skip => K .normal st
  | .label _ => K .normal st
  | .exit id => K (.exit id) st
  | .ret => K .ret st
  | .region id ops draw => match draw with
   | true => match lkH hs (7600000 + id) with
    | some (.z (q :: l) _) => match l with
     | [] => match RX ops.toList q.slot with
      | true => wpre hs id st (fun st => El P gl ch0 hs ops.toList st.nx q.slot (st.bump ops.toList.length) (fun s => DS hs (ops.toList.take q.slot) s (fun s => wseq P gl ch0 wf hs ops.toList ((ops.toList.drop q.slot).take 1) s (fun s => T3 P gl ch0 hs ops.toList st.nx (q.slot + 1) (Qt ops.toList - (q.slot + 1)) s (fun s => DS hs ((ops.toList.take (Qt ops.toList)).drop (q.slot + 1)) s (fun s => wseq P gl ch0 wf hs ops.toList (ops.toList.drop (Qt ops.toList)) s (K .normal)))))))
      | false => False
     | g :: _ => match midF ops.toList q.slot g.slot with
      | true => wpre hs id st (fun st => wflt P gl ch0 wf hs ops.toList q.slot g.slot st (K .normal))
      | false => False
    | _ => match Qt ops.toList with
    | nf => wpre hs id st (fun st => El P gl ch0 hs ops.toList st.nx nf (st.bump ops.toList.length) (fun s => DS hs (ops.toList.take nf) s (fun s => wseq P gl ch0 wf hs ops.toList (ops.toList.drop nf) s (K .normal))))
   | false => wseq P gl ch0 wf hs ops.toList ops.toList st (K .normal)
  | .seq a b => match lkH hs (jKey a) with
   | some (.l _ _ _ kx kbx alts) => match pins with
    | some ps => ∃ u o, Jn (jKey a) (Yk P gl ch0 wf hs pins k a st (wjoin ps kx kbx st.n (alts u o))) ∧ Ee (alts u o) (fun _ vs bs => Yk P gl ch0 wf hs pins k b (ZH st.n kx vs bs) K)
    | none => False
   | _ => Yk P gl ch0 wf hs pins k a st (fun e s => match VT e with
    | true => Yk P gl ch0 wf hs pins k b s K
    | false => K e s)
  | .cond c a b => match st.ev gl c with
   | .bool t => match t with
    | true => Yk P gl ch0 wf hs pins k a st K
    | false => Yk P gl ch0 wf hs pins k b st K
   | _ => False
  | .block id c => Yk P gl ch0 wf hs pins k c st (fun e s => match exIs e id with
   | true => K .normal s
   | false => K e s)
  | .loop c => match lkH hs (3000000 + VY c) with
   | some (.l gs ks kb kx _ alts) => match pins with
    | some ps => K7 gs st (fun s => K7 kb s (fun s => Jl ps ks kb s (fun vs bs => ∃ u o, Xt P gl ps st.n c ks vs bs kx (alts u o) ∧ Ee (alts u o) (fun e vs' bs' => K e (ZH st.n kx vs' bs')))))
    | none => False
   | _ => Yk P gl ch0 wf hs pins k c st (fun e s => match VT e with
    | true => Yk P gl ch0 wf hs pins k (.loop c) s K
    | false => K e s)
  | .rangeFunc g prm azz bd => match lkH hs (4000000 + VY (.seq azz bd)) with
   | some (.l gs ks kb _ _ alts) => match pins with
    | some ps => match Qr azz || Qr bd with
     | true => False
     | false => K7 gs st (fun s => K7 kb s (fun s => match s.ev gl g with
      | .fn f caps => match Lz P f, optL (tree (fun _ => none) false 12) caps with
       | true, some ts => Jl ps ks kb s (fun vs bs => ∃ xs u o, ItOk P gl f ts xs ∧ Ua P gl ps st.n prm azz bd ks vs (alts u o) xs bs ∧ Ee (alts u o) (fun e vs' bs' => K e (ZH st.n ks vs' bs')))
       | _, _ => False
      | _ => False))
    | none => False
   | _ => False
  | .scope c => Yk P gl ch0 wf hs pins k c st (fun e s => match exGo e with
   | true => False
   | false => K e s)
  | _ => False
section
variable {P : Program} {gl : Nat → AV} {ch0 : Ql} {wf : WF} {hs : Qz}
theorem Wk.mono {pins : Option (List AV)} {c : Code} {st : St} {K K' : Exit → St → Prop} (h : Wk P gl pins c st K) (hq : ∀ e s, K e s → K' e s) : Wk P gl pins c st K' := fun ro d hro B H0 rest m H a w ht hr =>
 wpIn_mono (h ro d hro B H0 rest m H a w ht hr) fun _ _ _ ⟨s, m', H', B', H0', D, q, f, r⟩ => ⟨s, m', H', B', H0', D, hq _ _ q, f, r⟩
theorem Df {e : Exit} (h : VT e = true) : e = .normal := by cases e <;> first | rfl | cases h
theorem WS {e : Exit} (h : VT e = false) : e ≠ .normal := fun he => by subst he; cases h
theorem exIs_t {e : Exit} {id : Nat} (h : exIs e id = true) : e = .exit id := by
 cases e with
 | exit i => rw [Nat.eq_of_beq_eq_true h]
 | _ => cases h
theorem exIs_f {i id : Nat} (h : exIs (.exit i) id = false) : i ≠ id := fun e => by
 subst e
 have : Nat.beq i i = true := Nat.beq_refl i
 simp only [exIs, this] at h; cases h
theorem TZ (h0 : ch0.Ok P gl) (hwf : WF.Ok P gl wf) (hmix : P.follows .mixedOrders = true) (pins : Option (List AV)) : ∀ (J k : Nat), k ≤ J → ∀ (c : Code) (st : St) (K : Exit → St → Prop), QB c = true → Yk P gl ch0 wf hs pins k c st K → Wk P gl pins c st K
 | _, 0, _, _, _, _, _, h => h.elim
 | 0, k + 1, hJ, _, _, _, _, _ => by omega
 | J + 1, k + 1, hJ, c, st, K, hok, h => by
  have ihS := TZ h0 hwf hmix pins J
  have ih := ihS k (by omega)
  intro ro dp hro B H0 rest m H a w htop hr
  cases c with
  | skip => exact wpIn_skip (.of h rfl (Q8.refl _ _) hr)
  | label l => exact wpIn_label (.of h rfl (Q8.refl _ _) hr)
  | exit id => exact wpIn_exit (.of h rfl (Q8.refl _ _) hr)
  | ret => exact wpIn_ret (.of h rfl (Q8.refl _ _) hr)
  | region id ops draw =>
   simp only [Yk] at h
   cases draw with
   | true =>
    simp only [QB, Bool.not_true, Bool.false_or, Bool.and_eq_true] at hok
    simp only at h
    split at h
    ·rename_i q l _ _
     cases l with
     | nil =>
      simp only at h
      split at h
      ·rename_i hmid
       obtain ⟨st0, hconv, h⟩ := EZ (gl := gl) h
       obtain ⟨m, H, hr⟩ := hconv.2 _ _ _ _ _ _ _ hr
       have := E9 h0 hwf hmix hok.1 hmid (id := id) (ro := ro) (n := dp) (Q := Post gl B H0 rest false a w K) hr h (fun sF a2 w2 m2 H2 hk2 hd2 hb2 hr2 => .of hk2 hd2 hb2 hr2)
       simpa [Qr] using this
      ·cases h
     | cons g _ =>
      simp only at h
      split at h
      ·rename_i hmid
       obtain ⟨st0, hconv, h⟩ := EZ (gl := gl) h
       obtain ⟨m, H, hr⟩ := hconv.2 _ _ _ _ _ _ _ hr
       have := E8 h0 hwf hmix hok.1 hmid (id := id) (ro := ro) (n := dp) (Q := Post gl B H0 rest false a w K) hr h (fun sF a2 w2 m2 H2 hk2 hd2 hb2 hr2 => .of hk2 hd2 hb2 hr2)
       simpa [Qr] using this
      ·cases h
    ·obtain ⟨hnf, hbit⟩ := Us (ms := Zj ops.toList []) ops.toList.length
     obtain ⟨st0, hconv, h⟩ := EZ (gl := gl) h
     obtain ⟨m, H, hr⟩ := hconv.2 _ _ _ _ _ _ _ hr
     obtain ⟨cb, F, s, hcb, hK, hrun, hF⟩ := S4 h0 h
     obtain ⟨s1, hK, hsame⟩ := Dj (gl := gl) hK
     have := N0 hcb hmix hok.1 (id := id) (nf := Qt ops.toList) (ro := ro) (n := dp) (Q := Post gl B H0 rest false a w K) hnf (fun i h1 h2 j hj => hbit i h1 h2 j (by omega)) hr hrun hF fun listed a' w' m' H' hl1 hl2 hl3 hd hb hr' =>
      L1 h0 hwf hok.1 hbit (d0 := a.defers) (w0 := w) (fun sF a2 w2 m2 H2 hk2 hd2 hb2 hr2 => .of hk2 hd2 hb2 hr2) _ (Qt ops.toList) listed s1 a' w' m' H' (Nat.le_refl _) (Nat.add_sub_cancel' hnf) hl1 hl2 hl3 hK hd hb (hsame.rel _ _ _ _ _ _ _ hr')
     simpa [Qr] using this
   | false =>
    refine wpIn_region ?_
    have := Ao h0 hwf (all := ops.toList) (ro := ro) (n := dp) (d0 := a.defers) (w0 := w) (Q := Post gl B H0 rest false a w K) (fun s a' w' m' H' hk hd hb hr' => .of hk hd hb hr') [] ops.toList st a w m H rfl h rfl (Q8.refl _ _) hr
    simpa [List.range_eq_range', Qr] using this
  | seq x y =>
   simp only [Yk] at h
   simp only [QB, Bool.and_eq_true] at hok
   have hrx : Qr x = true → ro = none := fun e => hro (by simp [Qr, e])
   have hry : Qr y = true → ro = none := fun e => hro (by simp [Qr, e])
   have hor : Qr (.seq x y) = false → Qr x = false ∧ Qr y = false := fun e => by simpa [Qr] using e
   split at h
   ·rename_i kx kbx alts _
    split at h
    ·rename_i ps
     obtain ⟨u, o, h, hal⟩ := h
     refine wpIn_seq (wpIn_mono (ih x st _ hok.1 h ro dp hrx B H0 rest m H a w htop hr) fun e a' w' hp => ?_)
     obtain ⟨s, m', H', B', H0', D, hq, hf, hr'⟩ := hp
     unfold wjoin at hq
     split at hq
     ·rename_i he
      obtain rfl := Df he
      split at hq
      ·rename_i hn
       have hn := Nat.eq_of_beq_eq_true hn
       obtain ⟨s2, hc, hq⟩ := XT (gl := gl) hq
       obtain ⟨m3, H3, hr3⟩ := hc.2 _ _ _ _ _ _ _ hr'
       obtain ⟨vs', bs', m4, ho, hr4⟩ := Jv hr3 (htop ps rfl) hq
       rw [hc.1, hn] at hr4
       obtain ⟨alt, h1, x0, h2, _, lv, lb⟩ := ho.ok
       obtain ⟨m5, H5, hr5⟩ := (Gb (gl := gl) (n := st.n) (ks := kx) lv lb).2 _ _ _ _ _ _ _ hr4
       refine wpIn_mono (ih y _ K hok.2 (MY hal alt h1 x0 h2) ro dp hry B' H0' rest m5 H5 a' w' htop hr5) fun e a2 w2 hp2 => ?_
       obtain ⟨s2, m2, H2, B2, H02, D2, hq2, hf2, hr2⟩ := hp2
       exact ⟨s2, m2, H2, B2, H02, _, hq2, hf.trans hf2 hor, hr2⟩
      ·cases hq
     ·cases hq
    ·cases h
   ·refine wpIn_seq (wpIn_mono (ih x st _ hok.1 h ro dp hrx B H0 rest m H a w htop hr) fun e a' w' hp => ?_)
    obtain ⟨s, m', H', B', H0', D, hq, hf, hr'⟩ := hp
    split at hq
    ·rename_i he
     obtain rfl := Df he
     refine wpIn_mono (ih y s K hok.2 hq ro dp hry B' H0' rest m' H' a' w' htop hr') fun e a2 w2 hp2 => ?_
     obtain ⟨s2, m2, H2, B2, H02, D2, hq2, hf2, hr2⟩ := hp2
     exact ⟨s2, m2, H2, B2, H02, _, hq2, hf.trans hf2 hor, hr2⟩
    ·rename_i he
     have := WS he
     cases e with
     | normal => exact absurd rfl this
     | _ => exact ⟨s, m', H', B', H0', D, hq, hf.up fun e => (hor e).1, hr'⟩
  | cond c x y =>
   simp only [Yk] at h
   simp only [QB, Bool.and_eq_true] at hok
   have hrx : Qr x = true → ro = none := fun e => hro (by simp [Qr, e])
   have hry : Qr y = true → ro = none := fun e => hro (by simp [Qr, e])
   have hor : Qr (.cond c x y) = false → Qr x = false ∧ Qr y = false := fun e => by simpa [Qr] using e
   split at h
   ·rename_i t ht
    have hv := hr.ev c
    rw [ht] at hv
    cases t with
    | true => exact wpIn_cond hv.bool_inv (wpIn_mono (ih x st K hok.1 h ro dp hrx B H0 rest m H a w htop hr) fun e a2 w2 ⟨s2, m2, H2, B2, H02, D2, hq2, hf2, hr2⟩ => ⟨s2, m2, H2, B2, H02, D2, hq2, hf2.up fun e => (hor e).1, hr2⟩)
    | false => exact wpIn_cond hv.bool_inv (wpIn_mono (ih y st K hok.2 h ro dp hry B H0 rest m H a w htop hr) fun e a2 w2 ⟨s2, m2, H2, B2, H02, D2, hq2, hf2, hr2⟩ => ⟨s2, m2, H2, B2, H02, D2, hq2, hf2.up fun e => (hor e).2, hr2⟩)
   ·cases h
  | block id c =>
   simp only [Yk] at h
   simp only [QB] at hok
   refine wpIn_block (wpIn_mono (ih c st _ hok h ro dp hro B H0 rest m H a w htop hr) fun e a' w' hp => ?_)
   obtain ⟨s, m', H', B', H0', D, hq, hf, hr'⟩ := hp
   split at hq
   ·rename_i he
    obtain rfl := exIs_t he
    simp only [Exit.inBlock, if_true]
    exact ⟨s, m', H', B', H0', D, hq, hf, hr'⟩
   ·rename_i he
    cases e with
    | exit i =>
     simp only [Exit.inBlock, if_neg (exIs_f he)]
     exact ⟨s, m', H', B', H0', D, hq, hf, hr'⟩
    | _ => exact ⟨s, m', H', B', H0', D, hq, hf, hr'⟩
  | loop c =>
   have hok' := hok
   simp only [QB] at hok
   have unroll : ∀ j, j ≤ k + 1 → ∀ (s : St) (m1 : Nat → Lc) (H1 : HV) (B1 : Nat → Prop) (H01 : HV) (D1 : List Nat) (a1 : Act) (w1 : World), Fin' B H0 a w (Qr c) B1 H01 D1 a1 w1 → RelS m1 H1 B1 H01 gl rest s a1.tmps w1 →
     (∃ υ ω gs ks kb kx kbx, ∃ alts : υ → ω → List Alt, lkH hs (3000000 + VY c) = some (.l gs ks kb kx kbx alts)) ∨ (Yk P gl ch0 wf hs pins j (.loop c) s K → (Code.loop c).wpIn (FW ro) dp P (Post gl B H0 rest (Qr c) a w K) a1 w1) := by
    intro j hj s m1 H1 B1 H01 D1 a1 w1 hf1 hr1
    by_cases hl : ∃ υ ω gs ks kb kx kbx, ∃ alts : υ → ω → List Alt, lkH hs (3000000 + VY c) = some (.l gs ks kb kx kbx alts)
    ·exact .inl hl
    refine .inr fun h => ?_
    refine IU (j := j) (fun i a' w' => i ≤ k + 1 ∧ ∃ st1 m1 H1 B1 H01 D1, Yk P gl ch0 wf hs pins i (.loop c) st1 K ∧ Fin' B H0 a w (Qr c) B1 H01 D1 a' w' ∧ RelS m1 H1 B1 H01 gl rest st1 a'.tmps w') (fun i a1 w1 hI => ?_) ⟨hj, s, m1, H1, B1, H01, D1, h, hf1, hr1⟩
    obtain ⟨hi, st1, m1, H1, B1, H01, D1, hx, hf1, hr1⟩ := hI
    cases i with
    | zero => exact hx.elim
    | succ i =>
     simp only [Yk] at hx
     split at hx
     ·rename_i hh; exact absurd ⟨_, _, _, _, _, _, _, _, hh⟩ hl
     ·refine wpIn_mono (ihS i (by omega) c st1 _ hok hx ro dp hro B1 H01 rest m1 H1 a1 w1 htop hr1) fun e a2 w2 hp => ?_
      obtain ⟨s2, m2, H2, B2, H02, D2, hq, hf2, hr2⟩ := hp
      split at hq
      ·rename_i he
       obtain rfl := Df he
       exact ⟨i, Nat.lt_succ_self _, by omega, s2, m2, H2, B2, H02, _, hq, hf1.trans hf2 fun e => ⟨e, e⟩, hr2⟩
      ·rename_i he
       have := WS he
       cases e with
       | normal => exact absurd rfl this
       | _ => exact ⟨s2, m2, H2, B2, H02, _, hq, hf1.trans hf2 fun e => ⟨e, e⟩, hr2⟩
   rcases unroll (k + 1) (Nat.le_refl _) st m H B H0 [] a w (.of rfl (Q8.refl _ _)) hr with ⟨υ, ω, gs, ks, kb, kx, kbx, alts, hl⟩ | hgo
   ·simp only [Yk, hl] at h
    split at h
    ·rename_i ps
     obtain ⟨s1, hc1, h⟩ := XT (gl := gl) h
     obtain ⟨s2, hc2, h⟩ := XT (gl := gl) h
     obtain ⟨m1, H1, hr1⟩ := (hc1.trans hc2).2 _ _ _ _ _ _ _ hr
     obtain ⟨vs, bs, m', hq, hr'⟩ := Jv hr1 (htop ps rfl) h
     rw [(hc1.trans hc2).1] at hr'
     obtain ⟨u, o, hq⟩ := hq
     refine wpIn_mono (hq.1.ok ro dp hro B H0 rest m' H1 a w (htop ps rfl) hr').loop fun e a' w' hp => ?_
     obtain ⟨s, m2, H2, B2, H02, D2, ⟨alt, hal, x, hφ, rfl, rfl⟩, hf, hr2⟩ := hp
     exact ⟨_, m2, H2, B2, H02, D2, MY hq.2 alt hal x hφ, hf, hr2⟩
    ·cases h
   ·exact hgo h
  | rangeFunc g prm azz bd =>
   simp only [Yk] at h
   obtain rfl := hro rfl
   split at h
   ·rename_i gs ks kb kx kbx alts hl
    split at h
    ·rename_i ps
     split at h
     ·cases h
     ·rename_i hran
      rw [Bool.or_eq_false_iff] at hran
      obtain ⟨s1, hc1, h⟩ := XT (gl := gl) h
      obtain ⟨s2, hc2, h⟩ := XT (gl := gl) h
      obtain ⟨m1, H1, hr1⟩ := (hc1.trans hc2).2 _ _ _ _ _ _ _ hr
      split at h
      ·rename_i f caps hev
       split at h
       ·rename_i ts hbod hts
        have hgv := hr1.ev g
        rw [hev] at hgv
        obtain ⟨us, hu, hul, hur⟩ := hgv.fn_inv
        obtain ⟨vs, bs, m', hq, hr'⟩ := Jv hr1 (htop ps rfl) h
        rw [(hc1.trans hc2).1] at hr'
        obtain ⟨xs, u, o, hit, hrn, hal⟩ := hq
        obtain ⟨hl', hr2⟩ := MK (R' := RelI (snap H1 (fun _ => none) m1 w)) hul hur hts fun x t v hx ht => Cs (H1 := H1) false (fun id ver cs hh => by cases hh) (fun id ver cs hh => by cases hh) (fun id bx hh => by cases hh) (fun _ => rfl) 12 x t v hx ht
        have hsn : snap H1 (fun _ => none) m1 w = H1 := by
         funext b o; unfold snap; rw [if_neg]; rintro ⟨_, _, _, e, _⟩; cases e
        rw [hsn] at hr2
        refine wpIn_mono (Pl hr' hu hl' hr2 (J4 hbod) hit hrn (htop ps rfl) hran.1 hran.2 dp) fun e a' w' hp => ?_
        obtain ⟨s, m2, H2, B2, H02, D2, ⟨alt, hal', x, hφ, rfl, rfl⟩, hf, hr2⟩ := hp
        exact ⟨_, m2, H2, B2, H02, D2, MY hal alt hal' x hφ, hf, hr2⟩
       ·cases h
      ·cases h
    ·cases h
   ·cases h
  | scope c =>
   simp only [Yk] at h
   simp only [QB] at hok
   refine Ej (wpIn_mono (ih c st _ hok h ro dp hro B H0 rest m H a w htop hr) fun e a' w' hp => ?_)
   obtain ⟨s, m', H', B', H0', D, hq, hf, hr'⟩ := hp
   cases e with
   | goto _ => exact hq.elim
   | _ => exact ⟨s, m', H', B', H0', D, hq, hf, hr'⟩
  | _ => exact h.elim
end
structure Nxt (P : Program) (gl : Nat → AV) (ps : List AV) (n : Nat) (c : Code) (ks : List Nat) (kx : List Nat) (alts : List Alt) (vs : List AV) (bs : List Box) : Prop where
 ok : ∃ vs' bs', LeVs vs vs' ∧ LeBs bs bs' ∧ Xt P gl ps n c ks vs' bs' kx alts
def S3 (P : Program) (gl : Nat → AV) (ch0 : Ql) (wf : WF) (hs : Qz) (ps : List AV) (k n : Nat) (c : Code) (ks : List Nat) (kb : List KB) (kx : List Nat) (kbx : List KB) (alts : List Alt) (vs : List AV) (bs : List Box) (N : List AV → List Box → Prop) : Prop :=
 Yk P gl ch0 wf hs (some ps) k c (ZH n ks vs bs) (fun e s => match Nat.beq s.n n with
  | true => match VT e with
   | true => K7 kb s (fun s => Jl ps ks kb s N)
   | false => K7 kbx s (fun s => Jl ps kx kbx s (Out alts e))
  | false => False)
section
variable {P : Program} {gl : Nat → AV} {ch0 : Ql} {wf : WF} {hs : Qz}
theorem Ct {pins : Option (List AV)} (h0 : ch0.Ok P gl) (hwf : WF.Ok P gl wf) (hmix : P.follows .mixedOrders = true) {k : Nat} {c : Code} {st : St} {K : Exit → St → Prop} (hok : QB c = true) (h : Yk P gl ch0 wf hs pins k c st K) : Wk P gl pins c st K :=
 TZ h0 hwf hmix pins k k (Nat.le_refl _) c st K hok h
theorem Xt.step {P : Program} {gl : Nat → AV} {ch0 : Ql} {wf : WF} {hs : Qz} (h0 : ch0.Ok P gl) (hwf : WF.Ok P gl wf) (hmix : P.follows .mixedOrders = true) {ps : List AV} {n : Nat} {c : Code} {ks : List Nat} {kb : List KB} {kx : List Nat} {kbx : List KB} {alts : List Alt} (hok : QB c = true) {k : Nat} {vs : List AV} {bs : List Box}
  (hw : S3 P gl ch0 wf hs ps k n c ks kb kx kbx alts vs bs (Nxt P gl ps n c ks kx alts)) : Xt P gl ps n c ks vs bs kx alts := by
 refine ⟨fun ro dp hro B H0 rest m H a w hrest hr => wpL.round ?_⟩
 refine wpIn_mono (Ct h0 hwf hmix hok hw ro dp hro B H0 rest m H a w (fun ps' e => by cases e; exact hrest) hr) fun e a2 w2 hp => ?_
 obtain ⟨s, m2, H2, B2, H02, D2, hq, hf2, hr2⟩ := hp
 split at hq
 ·rename_i hn
  have hn := Nat.eq_of_beq_eq_true hn
  split at hq
  ·rename_i he
   obtain rfl := Df he
   obtain ⟨s2, hc, hq⟩ := XT (gl := gl) hq
   obtain ⟨m3, H3, hr3⟩ := hc.2 _ _ _ _ _ _ _ hr2
   obtain ⟨vs', bs', m4, hI', hr4⟩ := Jv hr3 hrest hq
   rw [hc.1, hn] at hr4
   obtain ⟨vs2, bs2, lv, lb, hI'⟩ := hI'.ok
   obtain ⟨m5, H5, hr5⟩ := (Gb (gl := gl) (n := n) (ks := ks) lv lb).2 _ _ _ _ _ _ _ hr4
   refine wpL.mono (hI'.ok ro dp hro B2 H02 rest m5 H5 a2 w2 hrest hr5) fun e a3 w3 hp3 => ?_
   obtain ⟨s3, m6, H6, B3, H03, D3, h1, hf3, h4⟩ := hp3
   exact ⟨s3, m6, H6, B3, H03, _, h1, hf2.trans hf3 fun e => ⟨e, e⟩, h4⟩
  ·rename_i he
   have := WS he
   obtain ⟨s2, hc, hq⟩ := XT (gl := gl) hq
   obtain ⟨m3, H3, hr3⟩ := hc.2 _ _ _ _ _ _ _ hr2
   obtain ⟨vs', bs', m4, ho, hr4⟩ := Jv hr3 hrest hq
   rw [hc.1, hn] at hr4
   obtain ⟨alt, h1, x, h2, rfl, lv, lb⟩ := ho.ok
   obtain ⟨m5, H5, hr5⟩ := (Gb (gl := gl) (n := n) (ks := kx) lv lb).2 _ _ _ _ _ _ _ hr4
   cases e' : alt.ex with
   | normal => exact absurd e' this
   | _ => exact ⟨_, m5, H5, B2, H02, D2, ⟨alt, h1, x, h2, e'.symm, rfl⟩, hf2, hr5⟩
 ·cases hq
end
structure NxtR (P : Program) (gl : Nat → AV) (ps : List AV) (n : Nat) (prm : Array Tmp) (azz bd : Code) (ks : List Nat) (vs : List AV) (alts : List Alt) (xs : List (List AV)) (bs : List Box) : Prop where
 ok : ∃ bs2, LeBs bs bs2 ∧ Ua P gl ps n prm azz bd ks vs alts xs bs2
def wrng (P : Program) (gl : Nat → AV) (ch0 : Ql) (wf : WF) (hs : Qz) (ps : List AV) (k n : Nat) (prm : Array Tmp) (azz bd : Code) (ks : List Nat) (kb kbx : List KB) (vs : List AV) (alts : List Alt) (x : List AV) (bs : List Box) (N : List Box → Prop) : Prop :=
 match Wx ks vs with
 | true => match Id prm.toList x (ZH n ks vs bs) with
  | some s0 => Yk P gl ch0 wf hs (some (vs ++ ps)) k azz s0 (fun e s1 => match VT e with
   | true => Yk P gl ch0 wf hs (some (vs ++ ps)) k bd s1 (fun e s2 => match MU e with
    | some j => match j with
     | none => K7 kb ⟨n, slOf ks vs, s2.hp, s2.nx⟩ (fun s => Jl ps ks kb s (fun vs' bs' => LeVs vs' vs ∧ N bs'))
     | some _ => K7 kbx ⟨n, slOf ks vs, s2.hp, s2.nx⟩ (fun s => Jl ps ks kbx s (fun vs' bs' => LeVs vs' vs ∧ Out alts e vs bs'))
    | none => False)
   | false => False)
  | none => False
 | false => False
section
variable {P : Program} {gl : Nat → AV} {ch0 : Ql} {wf : WF} {hs : Qz}
theorem Af {ps : List AV} {n : Nat} {ks : List Nat} {vs : List AV} {kb : List KB} {s : St} {N : List Box → Prop} (h : K7 kb ⟨n, slOf ks vs, s.hp, s.nx⟩ (fun s => Jl ps ks kb s (fun vs' bs' => LeVs vs' vs ∧ N bs'))) : ∃ bs', Turn gl n ks vs ps s bs' ∧ N bs' := by
 obtain ⟨s2, hc, hw⟩ := XT (gl := gl) h
 have hw0 := hw
 unfold Jl at hw0
 split at hw0
 ·split at hw0
  ·rename_i hcc _ bs hbs
   refine ⟨bs, fun m H B H0 rest tmps w hps hr => ?_, hw0.2⟩
   obtain ⟨m1, H1, hr1⟩ := hc.2 _ _ _ _ _ _ _ hr
   have hw1 : Jl ps ks kb s2 (fun vs' bs' => LeVs vs' vs ∧ bs' = bs) := by
    unfold Jl
    rw [hcc, hbs]
    exact ⟨hw0.1, rfl⟩
   obtain ⟨vs', bs', m2, ⟨lv, rfl⟩, hr2⟩ := Jv hr1 hps hw1
   rw [show s2.n = n from hc.1] at hr2
   exact (Gb (gl := gl) (n := n) (ks := ks) lv (.refl _)).2 _ _ _ _ _ _ _ hr2
  ·cases hw0
 ·cases hw0
theorem Ua.step (h0 : ch0.Ok P gl) (hwf : WF.Ok P gl wf) (hmix : P.follows .mixedOrders = true) {ps : List AV} {k n : Nat} {prm : Array Tmp} {azz bd : Code} {ks : List Nat} {kb kbx : List KB} {vs : List AV} {alts : List Alt} {x : List AV} {xs : List (List AV)} {bs : List Box} (ha : QB azz = true) (hb : QB bd = true)
  (hw : wrng P gl ch0 wf hs ps k n prm azz bd ks kb kbx vs alts x bs (NxtR P gl ps n prm azz bd ks vs alts xs)) : Ua P gl ps n prm azz bd ks vs alts (x :: xs) bs := by
 unfold wrng at hw
 split at hw
 ·rename_i hsl
  split at hw
  ·rename_i s0 hs0
   refine ⟨hsl, s0, hs0, (Ct h0 hwf hmix ha hw).mono fun e s1 h1 => ?_⟩
   split at h1
   ·rename_i he
    refine ⟨Df he, (Ct h0 hwf hmix hb h1).mono fun e s2 h2 => ?_⟩
    split at h2
    ·rename_i j hj
     split at h2
     ·obtain ⟨bs', ht, hN⟩ := Af (gl := gl) h2
      exact ⟨none, bs', hj, ht, hN.ok⟩
     ·rename_i c
      obtain ⟨bs', ht, hN⟩ := Af (gl := gl) h2
      exact ⟨some c, bs', hj, ht, hN⟩
    ·cases h2
   ·cases h1
  ·cases hw
 ·cases hw
end
end HY
end
section
namespace HY
open Go Go.RowKit
def Eh (P : Program) (gl : Nat → AV) (ch0 : Ql) (wf : WF) (gd : Nat → Bool) (pins : Option (List AV)) (fl f : Nat) (hs : Qz) (args : List AV) (hp : Tr Box) (nx : Nat) (K : AV → St → Prop) : Prop :=
 match gd f with
 | true => match P.funcs[f]? with
  | some fn => match fn.body with
   | some c => match Nat.ble args.length fn.ntmps with
    | true => Yk P gl ch0 wf hs pins fl c ⟨fn.ntmps, YS 0 args, hp, nx⟩ (fun e s => match GN e with
     | true => match Ws P s fn.results.toList with
      | some r => K r s
      | none => False
     | false => False)
    | false => False
   | none => False
  | none => False
 | false => False
def wlev (P : Program) (gl : Nat → AV) (ch0 : Ql) (gd : Nat → Bool) (fl : Nat) (ex : WF) : Nat → WF
 | 0 => ex
 | k + 1 => fun f hs args hp nx K => match gd f with
  | true => Eh P gl ch0 (wlev P gl ch0 gd fl ex k) gd none fl f hs args hp nx (fun r s => K r s.hp s.nx)
  | false => ex f hs args hp nx K
section
variable {P : Program} {gl : Nat → AV} {ch0 : Ql} {wf : WF} {hs : Qz} {gd : Nat → Bool} {fl : Nat}
theorem IN {F : Fence} {n : Nat} {fn : Func} {tmps : Array Value} {R : Ending → World → Prop} {I : World → Prop} : ∀ (D : List Nat) (w : World), D.Nodup → I w → (∀ g ∈ D, w.heap[g]? = some (.deferred (some []))) → (∀ g ∈ D, ∀ w, I w → w.heap[g]? = some (.deferred (some [])) → I (w.putObj g (.deferred none))) →
  (∀ w', I w' → ∃ v, (results fn tmps).run P w' = .ok v w' ∧ R (.returned v) w') → LeavesInM F n P fn tmps R (LJ D) .returning w
 | [], w, _, hI, _, _, hQ => hQ w hI
 | g :: D, w, hn, hI, ho, hs, hQ => by
  rw [List.nodup_cons] at hn
  have hg := ho g (by simp)
  refine ⟨by simp, .inl ⟨g, _, rfl, run_takeDeferred hg, ?_⟩⟩
  refine IN D _ hn.2 (hs g (by simp) w hI hg) (fun k hk => ?_) (fun k hk => hs k (List.mem_cons_of_mem _ hk)) hQ
  rw [World.putObj_heap_other (fun e : k = g => by subst e; exact hn.1 hk)]
  exact ho k (List.mem_cons_of_mem _ hk)
theorem Hv (h0 : ch0.Ok P gl) (hwf : WF.Ok P gl wf) (hp : Je P gd) {pins : Option (List AV)} {f : Nat} {args : List AV} {hpx : Tr Box} {nx : Nat} {K : AV → St → Prop} (hw : Eh P gl ch0 wf gd pins fl f hs args hpx nx K)
  (m : Nat → Lc) (H : HV) (B : Nat → Prop) (H0 : HV) (rest : List (AV × Value)) (w : World) (vs : Array Value) (htop : ∀ ps, pins = some ps → rest.map (·.1) = ps) (hh : RelH m H B H0 gl (lkb hpx) nx w) (hl : args.length = vs.size)
  (hargs : ∀ (j : Nat) (x : AV) (v : Value), args[j]? = some x → vs[j]? = some v → RV H (Q5 (lkb hpx) m) x v) (hrest : ∀ p ∈ rest, RV H (Q5 (lkb hpx) m) p.1 p.2) :
  Ans P f vs w fun e w' => ∃ v m' H' r s tmps, K r s ∧ e = .returned v ∧ Q8 B w w' ∧ RelS m' H' B H0 gl rest s tmps w' ∧ RV H' (s.env m') r v := by
 unfold Eh at hw
 split at hw
 ·rename_i hg
  have hok := hp.fn f hg
  unfold okFn at hok
  split at hw
  ·rename_i fn hf
   rw [hf] at hok
   simp only [Bool.and_eq_true, bne_iff_ne] at hok
   obtain ⟨hname, hok⟩ := hok
   split at hw
   ·rename_i c hb
    rw [hb] at hok
    simp only at hok
    split at hw
    ·rename_i hle
     have hle := Nat.le_of_ble_eq_true hle
     refine .inl ⟨U0 hf (by simpa using hname) (by rw [hb]; rfl), ?_⟩
     have hr0 : RelS m H B H0 gl rest ⟨fn.ntmps, YS 0 args, hpx, nx⟩ (Act.mk (vs ++ Array.replicate (fn.ntmps - vs.size) Go.undef) []).tmps w := by
      refine ⟨hh, by simp; omega, fun k => ?_, hrest⟩
      show RV H _ (lk .undef (YS 0 args) k) _
      rw [Dg, if_pos (Nat.zero_le _), Nat.sub_zero]
      cases hx : args[k]? with
      | none => exact .imm _ _ (.undef _)
      | some x =>
       have hk : k < vs.size := by rw [← hl]; exact (List.getElem?_eq_some_iff.1 hx).1
       have hv : (vs ++ Array.replicate (fn.ntmps - vs.size) Go.undef).getD k Go.undef = vs[k] := by
        rw [Array.getD_eq_getD_getElem?, Array.getElem?_append_left hk, Array.getElem?_eq_getElem hk]; rfl
       rw [hv]
       exact hargs k x _ hx (Array.getElem?_eq_getElem hk)
     refine CallsIn.calls (F := FW none) (n := 0) (callsIn_of_wp_marks hf hb trivial (wpIn_mono (Ct h0 hwf hp.mix hok hw none 0 (fun _ => rfl) B H0 rest m H _ w htop hr0) fun e a' w' hq => ?_)) (fun k d hd => by simp [FW] at hd)
     obtain ⟨s, m', H', B', H0', D, hK, hf', hr⟩ := hq
     split at hK
     ·rename_i hex
      split at hK
      ·rename_i r hres
       have hgo : LeavesInM (FW none) 0 P fn a'.tmps (fun e w' => ∃ v m' H' r s tmps, K r s ∧ e = .returned v ∧ Q8 B w w' ∧ RelS m' H' B H0 gl rest s tmps w' ∧ RV H' (s.env m') r v) a'.defers .returning w' := by
        rw [hf'.dfr]
        show LeavesInM _ _ _ _ _ _ (LJ D ++ []) _ _
        rw [List.append_nil]
        refine IN (I := fun w2 => Q8 B w w2 ∧ RelS m' H' B' H0' gl rest s a'.tmps w2) D w' hf'.nod ⟨hf'.bel, hr⟩ (fun g hg => (hf'.opn g hg).2.2) (fun g hg w2 hI ho => ⟨hI.1.obj (fun hB => by have := hr0.heap.low g hB; have := (hf'.opn g hg).2.1; omega) ho (fun _ _ _ q => by cases q), hI.2.obj (hf'.opn g hg).1 ho (fun _ _ _ q => by cases q)⟩) fun w2 hI => ?_
        obtain ⟨v, hv, hrv⟩ := Cr hI.2 hres
        exact ⟨v, hv, v, m', H', r, s, a'.tmps, hK, rfl, hI.1, hI.2.down hf'.sub (fun b o hb => hf'.old b o hb) (hh.gv.to hI.1 fun _ _ hb => hb), hrv⟩
       cases e with
       | normal => exact hgo
       | ret => exact hgo
       | _ => cases hex
      ·cases hK
     ·cases hK
    ·cases hw
   ·cases hw
  ·cases hw
 ·cases hw
theorem Al {ex : WF} (h0 : ch0.Ok P gl) (hp : Je P gd) (hex : WF.Ok P gl ex) : ∀ k, WF.Ok P gl (wlev P gl ch0 gd fl ex k)
 | 0 => hex
 | k + 1 => fun f hs args hpx nx K h => by
  simp only [wlev] at h
  split at h
  ·intro m H B H0 rest w vs hh hl hargs hrest
   refine (Hv h0 (Al h0 hp hex k) hp h m H B H0 rest w vs (fun _ e => nomatch e) hh hl hargs hrest).mono fun e w' hq => ?_
   obtain ⟨v, m', H', r, s, tmps, hK, rfl, hb, hr, hrv⟩ := hq
   exact ⟨v, m', H', r, s.hp, s.nx, hK, rfl, hb, hr.heap, hrv, hr.rest⟩
  ·exact hex f hs args hpx nx K h
def endP (r : AV) (r0 : AV) (s : St) : Prop := Wt (lkb s.hp) 12 r0 (fun t => LeT t r)
def endH (ps : List AV) (kb : List KB) (r : AV) (bs' : List Box) (r0 : AV) (s : St) : Prop :=
 K7 kb ⟨ps.length + 1, YS 0 (r0 :: ps), s.hp, s.nx⟩ (fun s => Jl ps [0] kb s (fun vs bs => LeVs vs [r] ∧ LeBs bs bs'))
def wpure (P : Program) (gl : Nat → AV) (ch0 : Ql) (wf : WF) (gd : Nat → Bool) (fl f : Nat) (hs : Qz) (args : List AV) (r : AV) : Prop :=
 Eh P gl ch0 wf gd (some []) fl f hs args .nil 0 (endP r)
def wpureH (P : Program) (gl : Nat → AV) (ch0 : Ql) (wf : WF) (gd : Nat → Bool) (fl f : Nat) (hs : Qz) (kb : List KB) (args : List AV) (bs : List Box) (r : AV) (bs' : List Box) : Prop :=
 Eh P gl ch0 wf gd (some (K8 0 bs)) fl f hs args (hpOf 0 bs) bs.length (endH (K8 0 bs) kb r bs')
theorem TR {m : Nat → Lc} {H : HV} {B : Nat → Prop} {H0 : HV} {hp : Tr Box} {nx : Nat} {w : World} (h : RelH m H B H0 gl (lkb hp) nx w) : RelH m (snap H (lkb hp) m w) B H0 gl (lkb .nil) 0 w where
 sat := Hr h.sat
 old b o hlt := by
  unfold snap
  rw [if_neg ?_]
  ·exact h.old b o hlt
  ·rintro ⟨id, bx, ver, h1, _, h3, rfl⟩
   exact (h.sepR id _ h1 h3).1 hlt
 low := h.low
 fresh _ _ := Zm _
 box _ _ hh := by rw [Zm] at hh; cases hh
 sepR _ _ hh := by rw [Zm] at hh; cases hh
 injR _ _ _ _ hh := by rw [Zm] at hh; cases hh
 gl g := (h.gl g).mono (Me fun id bx hh hr => (h.sepR id bx hh hr).2.2)
 ty _ _ _ hh := by rw [Zm] at hh; cases hh
 gv := h.gv
theorem Pu.of (h0 : ch0.Ok P gl) (hwf : WF.Ok P gl wf) (hp : Je P gd) {f : Nat} {args : List AV} {r : AV} (hw : wpure P gl ch0 wf gd fl f hs args r) : Pu P gl f args r := by
 refine ⟨fun m H B H0 w vs hh hl hargs => ?_⟩
 refine (Hv h0 hwf hp hw m H B H0 [] w vs (fun ps e => by cases e; rfl) hh hl hargs (fun p hp => by simp at hp)).mono fun e w' hq => ?_
 obtain ⟨v, m', H', r0, s, tmps, hK, rfl, hb, hr, hrv⟩ := hq
 obtain ⟨t, ht, hrel⟩ := Ht (fun id b hid => hr.heap.box id b hid) (fun id bx hid hr' => (hr.heap.sepR id bx hid hr').2.2) 12 r0 v _ hrv hK
 exact ⟨v, m', snap H' (lkb s.hp) m' w', rfl, hb, TR hr.heap, .imm _ _ (ht.ok _ _ hrel)⟩
theorem SS {m' : Nat → Lc} {H' : HV} {B : Nat → Prop} {H0 : HV} {rest : List (AV × Value)} {w w' : World} {kb : List KB} {bs bs' : List Box} {r r0 : AV} {s : St} {tmps : Array Value} {v : Value} (hrest : rest.map (·.1) = K8 0 bs) (hK : endH (K8 0 bs) kb r bs' r0 s) (hr : RelS m' H' B H0 gl rest s tmps w') (hrv : RV H' (s.env m') r0 v) (hb : Q8 B w w') :
  ∃ v1 m' H', Ending.returned v = .returned v1 ∧ Q8 B w w' ∧ RelH m' H' B H0 gl (lkb (hpOf 0 bs')) bs'.length w' ∧ RV H' (Q5 (lkb (hpOf 0 bs')) m') r v1 ∧ ∀ p ∈ rest, RV H' (Q5 (lkb (hpOf 0 bs')) m') p.1 p.2 := by
 unfold endH at hK
 obtain ⟨s2, hc, hK⟩ := XT (gl := gl) hK
 have hs : RelS m' H' B H0 gl rest ⟨(K8 0 bs).length + 1, YS 0 (r0 :: K8 0 bs), s.hp, s.nx⟩ (v :: rest.map (·.2)).toArray w' := by
  refine ⟨hr.heap, by simp [← hrest], fun k => ?_, hr.rest⟩
  show RV H' _ (lk .undef (YS 0 (r0 :: K8 0 bs)) k) _
  rw [Dg, if_pos (Nat.zero_le _), Nat.sub_zero]
  cases k with
  | zero => exact hrv
  | succ k =>
   rw [List.getElem?_cons_succ, ← hrest, List.getElem?_map]
   cases hk : rest[k]? with
   | none => exact .imm _ _ (.undef _)
   | some p =>
    have : ((v :: rest.map (·.2)).toArray).getD (k + 1) Go.undef = p.2 := by
     rw [Array.getD_eq_getD_getElem?, List.getElem?_toArray, List.getElem?_cons_succ, List.getElem?_map, hk]; rfl
    rw [this]
    exact hr.rest p (List.mem_of_getElem? hk)
 obtain ⟨m2, H2, hr2⟩ := hc.2 _ _ _ _ _ _ _ hs
 obtain ⟨vs', bs2, m3, ⟨lv, lb⟩, hr3⟩ := Jv hr2 hrest hK
 obtain ⟨m4, H4, hr4⟩ := (Gb (gl := gl) (n := s2.n) (ks := [0]) lv lb).2 _ _ _ _ _ _ _ hr3
 refine ⟨v, m4, H4, rfl, hb, hr4.heap, ?_, hr4.rest⟩
 have := hr4.slot 0
 have e : St.get (ZH s2.n [0] [r] bs') 0 = r := by
  show lk .undef (pt (slOf [] []) 0 r) 0 = r
  rw [JI]; simp
 rw [e] at this
 exact this
theorem PuH.of (h0 : ch0.Ok P gl) (hwf : WF.Ok P gl wf) (hp : Je P gd) {f : Nat} {kb : List KB} {args : List AV} {bs bs' : List Box} {r : AV} (hw : wpureH P gl ch0 wf gd fl f hs kb args bs r bs') : PuH P gl f args bs r bs' := by
 refine ⟨fun m H B H0 rest w vs hh hl hargs hrest hrv => ?_⟩
 refine (Hv h0 hwf hp hw m H B H0 rest w vs (fun ps e => by cases e; exact hrest) hh hl hargs hrv).mono fun e w' hq => ?_
 obtain ⟨v, m', H', r0, s, tmps, hK, rfl, hb, hr, hrv⟩ := hq
 exact SS hrest hK hr hrv hb
theorem Pu.ofCall {f : Nat} {args : List AV} {r0 r : AV} {hp' : Tr Box} {nx' : Nat} (h : KW P gl f args r0 hp' nx') (ht : tree (lkb hp') false 12 r0 = some r) : Pu P gl f args r := by
 refine ⟨fun m H B H0 w vs hh hl hargs => (h m H B H0 w vs hh hl hargs).mono fun e w' hq => ?_⟩
 obtain ⟨v, m', H', rfl, hb, hH, hrv⟩ := hq
 exact ⟨v, m', snap H' (lkb hp') m' w', rfl, hb, TR hH, .imm _ _ (Cs (H1 := H') false (fun id ver cs hh => Ye hh) (fun id ver cs hh => hH.box id _ hh) (fun id bx hh hr => (hH.sepR id bx hh hr).2.2) (fun _ => rfl) 12 r0 r v hrv ht)⟩
end
def UW (r : Nat) : Code → Option Code
 | .loop c => match Nat.beq (VY c) r with
  | true => some c
  | false => UW r c
 | .seq a b => match UW r a with
  | some c => some c
  | none => UW r b
 | .cond _ a b => match UW r a with
  | some c => some c
  | none => UW r b
 | .block _ c => UW r c
 | .scope c => UW r c
 | _ => none
def V8 (P : Program) (f r : Nat) : Code := match P.funcs[f]? with
 | some fn => match fn.body with
  | some c => match UW r c with
   | some c => c
   | none => .skip
  | none => .skip
 | none => .skip
end HY
end
section
namespace HY
open Go Go.RowKit
def JQ (b : Bool) (m : Nat) (r : AV) (p : Option Nat) : Prop := match b with
  | true => (r = .bool true ∧ p = some m) ∨ (r = .bool false ∧ p = none)
  | false => r = .tup [] ∧ (p = some m ∨ p = none)
structure JF (P : Program) (gl : Nat → AV) (l : Nat) (xs : List (List AV)) (f : Nat) (args : List AV) (p : Option Nat) (b : Bool) (m : Nat) : Prop where
  ok : ∀ J, JOk P gl l xs J → ∀ Hc w (vs : Array Value), J p (fun _ => False) Hc w → args.length = vs.size → (∀ (j : Nat) (c : AV) (v : Value), args[j]? = some c → vs[j]? = some v → RelI Hc c v) →
    Ans P f vs w fun e w' => ∃ v r p' O' Hc', e = .returned v ∧ JQ b m r p' ∧ (∀ H, RelI H r v) ∧ J p' O' Hc' w'
structure Fr (gl : Nat → AV) (J : JT) (p : Option Nat) (st : St) (tmps : Array Value) (w : World) : Prop where
  ex : ∃ O Hc m H, RelS m H (BO O w) Hc gl [] st tmps w ∧ HV.le H Hc ∧ J p O Hc w
section
variable {P : Program} {gl : Nat → AV} {l : Nat} {xs : List (List AV)} {J : JT}
theorem Fr.moved (hJ : JOk P gl l xs J) {p : Option Nat} {O : Nat → Prop} {Hc : HV} {w w' : World} (hj : J p O Hc w) (hb : Q8 (BO O w) w w') {m' : Nat → Lc} {H' : HV} {B' : Nat → Prop} {H0' : HV} {st' : St} {tmps' : Array Value} (hs : ∀ b, BO O w b → B' b) (ho : ∀ b o, BO O w b → H0' b o = Hc b o)
    (hr : RelS m' H' B' H0' gl [] st' tmps' w') : Fr gl J p st' tmps' w' := by
  have hr1 : RelS m' H' (BO O w) Hc gl [] st' tmps' w' := hr.down hs ho ((hJ.gv _ _ _ _ hj).to hb fun _ _ h => h)
  have hj1 := hJ.own _ _ _ _ _ hj hb
  have cov : ∀ b, b < w'.heap.size → BO O w b ∨ MQ O w w' b := fun b hlt => by
    by_cases hO : O b
    · exact .inr (.inl hO)
    · rcases Nat.lt_or_ge b w.heap.size with h | h
      · exact .inl ⟨h, hO⟩
      · exact .inr (.inr ⟨h, hlt⟩)
  have hk : ∀ b o v, H' b o = some v → MQ O w w' b ∨ Hc b o = some v := fun b o v hv => by
    rcases cov b (Vx hr1.heap.sat hv) with h | h
    · exact .inr (by rw [← hr1.heap.old b o h]; exact hv)
    simp_all
  have hj2 := hJ.pub _ _ _ _ H' hj1 hr1.heap.sat hk
  have hun : ∀ b o, b < w'.heap.size → unH Hc H' b o = H' b o := fun b o hlt => by
    unfold unH
    split
    · rename_i v hv
      rcases cov b hlt with h | h
      · rw [hr1.heap.old b o h, hv]
      · rw [hJ.dis _ _ _ _ hj1 b h o] at hv; cases hv
    · rfl
  refine ⟨_, _, m', H', hr1.base (fun b o hb => (hun b o hb.1).symm) (fun b hb => hb.1) (fun id b hid hre hbo => ?_) (hJ.gv _ _ _ _ hj2), unH_le (hJ.sat _ _ _ _ hj1) hr1.heap.sat, hj2⟩
  obtain ⟨x, y, z⟩ := hr1.heap.sepR id b hid hre
  refine hbo.2 ⟨?_, z⟩
  grind
theorem Fr.turned (hJ : JOk P gl l xs J) {p : Option Nat} {O O' : Nat → Prop} {Hc Hc' : HV} {w w' : World} {m : Nat → Lc} {H : HV} {st : St} {tmps : Array Value} (hr : RelS m H (BO O w) Hc gl [] st tmps w) (hle : HV.le H Hc) (hj : J p (fun b => O b ∨ O' b) Hc' w') (hb : Q8 O w w') (hO : ∀ b, O' b → w.heap.size ≤ b) (hh : ∀ b o, b < w.heap.size → Hc' b o = Hc b o) (hl : HV.le Hc Hc') : Fr gl J p st tmps w' := by
  have hsat := hJ.sat _ _ _ _ hj
  have hHlt : ∀ b o v, H b o = some v → b < w.heap.size := fun b o v hv => Vx hr.heap.sat hv
  have hH2 : HV.le H (fun b o => if b < w.heap.size then H b o else Hc' b o) := fun b o v hv => by
    grind
  have hH3 : HV.le (fun b o => if b < w.heap.size then H b o else Hc' b o) Hc' := fun b o v hv => by
    simp only at hv
    split at hv
    · exact hl b o v (hle b o v hv)
    · exact hv
  have own : ∀ id b, lkb st.hp id = some b → Real b (m id) → O (m id).g := fun id b hid hre => by
    obtain ⟨x, y, _⟩ := hr.heap.sepR id b hid hre
    by_cases h : O (m id).g
    · exact h
    · exact absurd ⟨y, h⟩ x
  refine ⟨_, _, m, _, ⟨{ sat := fun b o v hv => hsat b o v (hH3 b o v hv), old := fun b o hbo => ?_, low := fun b hbo => hbo.1, fresh := hr.heap.fresh, box := fun id b hid => (hr.heap.box id b hid).mono' hH2 (.refl _) fun hre => hb.block _ (own id b hid hre), sepR := fun id b hid hre => ⟨fun hbo => hbo.2 (.inl (own id b hid hre)), Nat.lt_of_lt_of_le (hr.heap.sepR id b hid hre).2.1 hb.size, fun o => ?_⟩, injR := hr.heap.injR, gv := hJ.gv _ _ _ _ hj, gl := fun g => (hr.heap.gl g).mono hH2, ty := fun id v cs hid => (hr.heap.ty id v cs hid).mono (hb.block _ (own id _ hid trivial)) }, hr.size, fun k => (hr.slot k).mono hH2 (.refl _), fun p hp => by simp at hp⟩, hH3, hj⟩
  · show (if b < w.heap.size then H b o else Hc' b o) = Hc' b o
    split
    · rename_i hlt
      rw [hr.heap.old b o ⟨hlt, fun h => hbo.2 (.inl h)⟩, hh b o hlt]
    · rfl
  · simp only [if_pos (hr.heap.sepR id b hid hre).2.1]
    exact (hr.heap.sepR id b hid hre).2.2 o
def JIn (J : JT) (O0 : Nat → Prop) (Hc0 : HV) (w0 : World) : JT := fun p O Hc w => J p (fun b => O0 b ∨ O b) Hc w ∧ Q8 O0 w0 w ∧ (∀ b, O b → w0.heap.size ≤ b) ∧ (∀ b o, b < w0.heap.size → Hc b o = Hc0 b o) ∧ HV.le Hc0 Hc
theorem JIn.ok (hJ : JOk P gl l xs J) {O0 : Nat → Prop} {Hc0 : HV} {w0 : World} (hlow : ∀ b, O0 b → b < w0.heap.size) : JOk P gl l xs (JIn J O0 Hc0 w0) where
  sat p O Hc w h := hJ.sat _ _ _ _ h.1
  low p O Hc w h b hb := hJ.low _ _ _ _ h.1 b (.inr hb)
  dis p O Hc w h b hb := hJ.dis _ _ _ _ h.1 b (.inr hb)
  gls p O Hc w h := hJ.gls _ _ _ _ h.1
  gv p O Hc w h := (hJ.gv _ _ _ _ h.1).sup fun b hb => ⟨hb.1, fun h => hb.2 (.inr h)⟩
  own p O Hc w w' h hb := by
    obtain ⟨h1, h2, h3, h4, h5⟩ := h
    have := hJ.own _ _ _ _ _ h1 (hb.mono fun b hb => ⟨hb.1, fun h => hb.2 (.inr h)⟩)
    refine ⟨?_, h2.trans (hb.mono fun b hb => ⟨Nat.lt_of_lt_of_le (hlow b hb) h2.size, fun h => by grind⟩), fun b hb => ?_, h4, h5⟩
    · have e : MQ (fun b => O0 b ∨ O b) w w' = fun b => O0 b ∨ MQ O w w' b := by
        funext b; simp_all [MQ, eq_iff_iff, or_assoc]
      simp_all
    · rcases hb with hb | hb
      · simp_all
      · exact Nat.le_trans h2.size hb.1
  pub p O Hc w H h hs hk := by
    obtain ⟨h1, h2, h3, h4, h5⟩ := h
    have hn : ∀ b o, O0 b → H b o = none := fun b o hb => by
      cases hv : H b o with
      | none => rfl
      | some v =>
        rcases hk b o v hv with h | h
        · grind
        · rw [hJ.dis _ _ _ _ h1 b (.inl hb) o] at h; cases h
    have := hJ.pub _ _ _ _ H h1 hs fun b o v hv => (hk b o v hv).imp (fun h => .inr h) id
    refine ⟨?_, h2, fun b hb => h3 b hb.1, fun b o hb => ?_, fun b o v hv => Ii b o v (h5 b o v hv)⟩
    · have e : I7 (fun b => O0 b ∨ O b) H = fun b => O0 b ∨ I7 O H b := by
        funext b
        simp only [I7, eq_iff_iff]
        grind
      simp_all
    · rw [← h4 b o hb]
      unfold unH
      split
      · simp_all
      · rename_i hv
        rw [hv]
        cases h6 : H b o with
        | none => rfl
        | some v =>
          grind
  round k O Hc w x vs h hx hl hr := by
    obtain ⟨h1, h2, h3, h4, h5⟩ := h
    obtain ⟨fn, tm, azz, bd, e, hR⟩ := hJ.round _ _ _ _ _ _ h1 hx hl hr
    refine ⟨fn, tm, azz, bd, e, fun ro n => (hR ro n).mono fun e w' ⟨b, e1, e2, e3⟩ => ⟨b, e1, e2.mono fun b hb => .inr hb, ?_, h2.trans (e2.mono fun b hb => .inl hb), h3, h4, h5⟩⟩
    exact e3
end
theorem RV.val_inv {H : HV} {E : Env} {v u : Value} (h : RV H E (.val v) u) : u = v := by
  generalize hx : AV.val v = x at h
  cases h with
  | imm _ _ h => cases h with
    | val => simp_all
    | _ => cases hx
  | _ => cases hx
def Cj (r : Nat) : Code → Option (Array Tmp × Code × Code)
  | .seq a b => match Cj r a with
    | some c => some c
    | none => Cj r b
  | .cond _ a b => match Cj r a with
    | some c => some c
    | none => Cj r b
  | .block _ c => Cj r c
  | .loop c => Cj r c
  | .rangeFunc _ ps a b => match Nat.beq (VY (.seq a b)) r with
    | true => some (ps, a, b)
    | false => none
  | _ => none
def rng (P : Program) (f r : Nat) : Array Tmp × Code × Code := match P.funcs[f]? with
  | some fn => match fn.body with
    | some c => match Cj r c with
      | some x => x
      | none => (#[], .skip, .skip)
    | none => (#[], .skip, .skip)
  | none => (#[], .skip, .skip)
def yv : AV → Option Nat
  | .val v => match v with
    | .func g a b => match g with
      | .yield l => match a.toList, b.toList with
        | [], [] => some l
        | _, _ => none
      | _ => none
    | _ => none
  | _ => none
theorem yv_inv {x : AV} {l : Nat} (h : yv x = some l) : x = .val (.func (.yield l) #[] #[]) := by
  unfold yv at h
  split at h
  · split at h
    · rename_i g a b
      split at h
      · split at h
        · simp_all
        · cases h
      · cases h
    · cases h
  · cases h
def yld1 (ev : Operand → AV) (op : Op) : Option (Nat × List AV) :=
  match op with
  | .call c => match c.callee with
    | .value x => match yv (ev x) with
      | some l => some (l, c.args.toList.map ev)
      | none => none
    | _ => none
  | _ => none
def isVal : AV → Bool
  | .val _ => true
  | _ => false
def hasRes (P : Program) (f : Nat) : Bool := match P.funcs[f]? with
  | some fn => match fn.results.toList with
    | [] => false
    | _ => true
  | none => false
def jstep (P : Program) (gl : Nat → AV) (ch0 : Ql) (wf : WF) (hs : Qz) (l : Nat) (xs : List (List AV)) (o : Oper) (p : Option Nat) (st : St) (K : Option Nat → St → Prop) : Prop :=
  match Vi o.op with
  | true => match yld1 (st.ev gl) o.op with
    | some (l', args) => match optL (tree (fun _ => none) false 12) args with
      | some ts => match p with
        | some k => l' = l ∧ xs[k]? = some ts ∧ K (some (k + 1)) (st.putO o.dst (.bool true)) ∧ K none (st.putO o.dst (.bool false))
        | none => False
      | none => False
    | none => match Y7 (st.ev gl) o.op with
      | some (f, args) => match args.any isVal with
        | true => match optL (tree (fun _ => none) false 12) args with
          | some ts => match hasRes P f with
            | true => ∃ m, JF P gl l xs f ts p true m ∧ K (some m) (st.putO o.dst (.bool true)) ∧ K none (st.putO o.dst (.bool false))
            | false => ∃ m, JF P gl l xs f ts p false m ∧ K (some m) (st.putO o.dst (.tup [])) ∧ K none (st.putO o.dst (.tup []))
          | none => False
        | false => Ik P gl ch0 wf hs o st (K p)
      | none => False
  | false => Ik P gl ch0 wf hs o st (K p)
def jseq (P : Program) (gl : Nat → AV) (ch0 : Ql) (wf : WF) (hs : Qz) (l : Nat) (xs : List (List AV)) (all : List Oper) : List Oper → Option Nat → St → (Option Nat → St → Prop) → Prop
  | [], p, st, K => K p st
  | o :: r, p, st, K => match QV o.dst st.n with
    | true => match DO o (gval all o st) with
      | some true => jstep P gl ch0 wf hs l xs o p st (fun p s => jseq P gl ch0 wf hs l xs all r p s K)
      | some false => jseq P gl ch0 wf hs l xs all r p (st.putO o.dst (.tup [])) K
      | none => False
    | false => False
structure JO (a b : Exit × List AV) (m : Nat) (e : Exit) (p : Option Nat) (vs : List AV) (bs : List Box) : Prop where
  ok : bs = [] ∧ ((e = a.1 ∧ p = some m ∧ vs = a.2) ∨ (e = b.1 ∧ p = none ∧ vs = b.2))
theorem JO.a {a b : Exit × List AV} {m : Nat} {e : Exit} {p : Option Nat} {vs : List AV} (h1 : e = a.1) (h2 : p = some m) (h3 : vs = a.2) : JO a b m e p vs [] := ⟨rfl, .inl ⟨h1, h2, h3⟩⟩
theorem JO.b {a b : Exit × List AV} {m : Nat} {e : Exit} {p : Option Nat} {vs : List AV} (h1 : e = b.1) (h2 : p = none) (h3 : vs = b.2) : JO a b m e p vs [] := ⟨rfl, .inr ⟨h1, h2, h3⟩⟩
def JQL (n : Nat) (kx : List Nat) (a b : Exit × List AV) (m : Nat) (e : Exit) (p : Option Nat) (s : St) : Prop := (e = a.1 ∧ p = some m ∧ s = ZH n kx a.2 []) ∨ (e = b.1 ∧ p = none ∧ s = ZH n kx b.2 [])
structure JL (P : Program) (gl : Nat → AV) (l : Nat) (xs : List (List AV)) (n : Nat) (c : Code) (ks : List Nat) (vs : List AV) (bs : List Box) (p : Option Nat) (kx : List Nat) (x y : Exit × List AV) (m : Nat) : Prop where
  ok : ∀ J, JOk P gl l xs J → ∀ (a : Act) (w : World), Fr gl J p (ZH n ks vs bs) a.tmps w → wpL P none 0 c (fun e a' w' => ∃ p' st', JQL n kx x y m e p' st' ∧ a'.defers = a.defers ∧ Fr gl J p' st' a'.tmps w') a w
structure JH where
  ks : List Nat
  kb : List KB
  kx : List Nat
  x : Exit × List AV
  y : Exit × List AV
def lkJ : List (Nat × JH) → Nat → Option JH
  | [], _ => none
  | (k, h) :: r, n => match Nat.beq k n with
    | true => some h
    | false => lkJ r n
def Gc (P : Program) (gl : Nat → AV) (ch0 : Ql) (wf : WF) (hs : Qz) (js : List (Nat × JH)) (l : Nat) (xs : List (List AV)) : Nat → Code → Option Nat → St → (Exit → Option Nat → St → Prop) → Prop
  | 0, _, _, _, _ => False
  | k + 1, c, p, st, K => match c with
    | .skip => K .normal p st
    | .label _ => K .normal p st
    | .exit id => K (.exit id) p st
    | .ret => K .ret p st
    | .region _ ops draw => match draw with
      | true => Yk P gl ch0 wf hs (some []) (k + 1) c st (fun e s => K e p s)
      | false => jseq P gl ch0 wf hs l xs ops.toList ops.toList p st (K .normal)
    | .seq a b => Gc P gl ch0 wf hs js l xs k a p st (fun e p s => match VT e with
        | true => Gc P gl ch0 wf hs js l xs k b p s K
        | false => K e p s)
    | .cond c a b => match st.ev gl c with
      | .bool t => match t with
        | true => Gc P gl ch0 wf hs js l xs k a p st K
        | false => Gc P gl ch0 wf hs js l xs k b p st K
      | _ => False
    | .block id c => Gc P gl ch0 wf hs js l xs k c p st (fun e p s => match exIs e id with
      | true => K .normal p s
      | false => K e p s)
    | .loop c => match lkJ js (VY c) with
      | some h => match h with
        | ⟨ks, kb, kx, x, y⟩ => K7 kb st (fun s => Jl [] ks kb s (fun vs bs => ∃ m, JL P gl l xs st.n c ks vs bs p kx x y m ∧ K x.1 (some m) (ZH st.n kx x.2 []) ∧ K y.1 none (ZH st.n kx y.2 [])))
      | none => False
    | _ => False
section
variable {P : Program} {gl : Nat → AV} {ch0 : Ql} {wf : WF} {hs : Qz} {js : List (Nat × JH)} {l : Nat} {xs : List (List AV)} {J : JT}
theorem Rm {H : HV} {E : Env} {args ts : List AV} {vs : Array Value} (hl : args.length = vs.size) (hv : ∀ (j : Nat) (x : AV) (v : Value), args[j]? = some x → vs[j]? = some v → RV H E x v) (h : optL (tree (fun _ => none) false 12) args = some ts) : ts.length = vs.size ∧ ∀ (j : Nat) (t : AV) (v : Value), ts[j]? = some t → vs[j]? = some v → RelI H t v := by
  have hsn : snap H (fun _ => none) (fun _ => ⟨0, 0, 0⟩) default = H := by
    funext b o; simp_all [snap, if_neg]
  have := MK (R' := RelI (snap H (fun _ => none) (fun _ => ⟨0, 0, 0⟩) default)) hl hv h fun x t v hx ht => Cs (H1 := H) false (fun id ver cs hh => by cases hh) (fun id ver cs hh => by cases hh) (fun id bx hh => by cases hh) (fun _ => rfl) 12 x t v hx ht
  grind
theorem P7 (h0 : ch0.Ok P gl) (hwf : WF.Ok P gl wf) (hJ : JOk P gl l xs J) {o : Oper} {p : Option Nat} {st : St} {K : Option Nat → St → Prop} {a : Act} {w : World} (hd : QV o.dst st.n = true) (hw : jstep P gl ch0 wf hs l xs o p st K) (hf : Fr gl J p st a.tmps w) (next : Act → World → Prop) (Q : Exit → Act → World → Prop)
    (hn : ∀ a' w' p' st', K p' st' → a'.defers = a.defers → Fr gl J p' st' a'.tmps w' → next a' w') : o.wpIn (FW none) 0 P a w next Q := by
  obtain ⟨O, Hc, m, H, hr, hle, hj⟩ := hf.ex
  have plain : Ik P gl ch0 wf hs o st (K p) → o.wpIn (FW none) 0 P a w next Q := fun hw =>
    MZ h0 hwf hr hd hw none 0 next Q fun a' w' m' H' st' hk hd' hb hr' => hn a' w' p st' hk hd' (Fr.moved hJ hj hb (fun _ h => h) (fun _ _ _ => rfl) hr')
  unfold jstep at hw
  split at hw
  · rename_i hc
    split at hw
    · rename_i l' args hy
      split at hw
      · rename_i ts hts
        split at hw
        · rename_i k
          obtain ⟨rfl, hx, hK1, hK2⟩ := hw
          unfold yld1 at hy
          split at hy
          · rename_i c ho
            split at hy
            · rename_i x hcx
              split at hy
              · rename_i l1 hyv
                cases hy
                have hxe := yv_inv hyv
                have hxv := hr.ev x
                rw [hxe] at hxv
                have hval : a.eval x = .func (.yield l') #[] #[] := hxv.val_inv
                have hargs := WW hr c.args.toList
                obtain ⟨hl1, hr1⟩ := Rm (vs := c.args.map a.eval) (by simp) (fun j y v hy hv => hargs.2 j y v hy (by simp_all)) hts
                obtain ⟨fn, tm, azz, bd, hrun, hround⟩ := hJ.round _ _ _ _ _ _ hj hx hl1 (fun j t v ht hv => (hr1 j t v ht hv).mono hle)
                refine ⟨fun _ _ => trivial, ?_⟩
                have hexec : (execOp a.eval o).run P w = .ok (.round l' fn tm azz bd) w := by
                  unfold execOp
                  simp only [ho, resolve, hcx, Sem.run_bind, hval, Deferred.ofValue, Sem.run_pure, Result.andThen_ok, invoke, Array.empty_append]
                  exact hrun
                rw [Oper.semAt_eq _ _ _ (fun c e => by simp_all), hexec]
                refine ⟨(fun hh => by grind [FW]), (hround none (0 - 1)).mono fun e w' hpost => ?_⟩
                obtain ⟨b, rfl, hb, hj'⟩ := hpost
                have hfr : Fr gl J (if b then some (k + 1) else none) st a.tmps w' := Fr.turned (O' := fun _ => False) hJ hr hle (by
                  simp_all) hb (fun _ h => h.elim) (fun _ _ _ => rfl) (.refl _)
                have fin : ∀ u : Bool, u = b → K (if b then some (k + 1) else none) (st.putO o.dst (.bool u)) → next (a.put o.dst (.bool b)) w' := fun u hu hK => by
                  subst hu
                  refine hn _ _ _ _ hK (Xx _ _ _) ?_
                  obtain ⟨O2, Hc2, m2, H2, hr2, hle2, hj2⟩ := hfr.ex
                  exact ⟨O2, Hc2, m2, H2, hr2.putO hd (.imm _ _ (.bool _)), hle2, hj2⟩
                grind
              · cases hy
            · cases hy
          · cases hy
        · cases hw
      · cases hw
    · split at hw
      · rename_i f args hcal
        split at hw
        · split at hw
          · rename_i ts hts
            obtain ⟨b, q, hJF, hK⟩ : ∃ b q, JF P gl l xs f ts p b q ∧ ∀ r p', JQ b q r p' → K p' (st.putO o.dst r) := by
              split at hw
              · obtain ⟨q, h1, h2, h3⟩ := hw
                exact ⟨true, q, h1, fun r p' hq => by rcases hq with ⟨rfl, rfl⟩ | ⟨rfl, rfl⟩ <;> assumption⟩
              · obtain ⟨q, h1, h2, h3⟩ := hw
                exact ⟨false, q, h1, fun r p' hq => by obtain ⟨rfl, rfl | rfl⟩ := hq <;> assumption⟩
            obtain ⟨vs, hrun, hl, hrv⟩ := Hb hr hcal
            obtain ⟨c, x, caps, ho, _⟩ := Ub hcal
            obtain ⟨hl1, hr1⟩ := Rm hl hrv hts
            have hlow := hJ.low _ _ _ _ hj
            have hin : JIn J O Hc w p (fun _ => False) Hc w := ⟨by
              simp_all, Q8.refl _ _, fun _ h => h.elim, fun _ _ _ => rfl, .refl _⟩
            have hans := hJF.ok _ (JIn.ok hJ (Hc0 := Hc) (w0 := w) hlow) Hc w vs hin hl1 (fun j t v ht hv => (hr1 j t v ht hv).mono hle)
            have fin : ∀ (e : Ending) (w' : World), (∃ v r p' O' Hc', e = Ending.returned v ∧ JQ b q r p' ∧ (∀ H, RelI H r v) ∧ JIn J O Hc w p' O' Hc' w') → ∃ v, e = Ending.returned v ∧ next (a.put o.dst v) w' := fun e w' hpost => by
              obtain ⟨v, r, p', O', Hc', rfl, hq, hrel, g1, g2, g3, g4, g5⟩ := hpost
              refine ⟨v, rfl, hn _ _ _ _ (hK r p' hq) (Xx _ _ _) ?_⟩
              obtain ⟨O2, Hc2, m2, H2, hr2, hle2, hj2⟩ := (Fr.turned hJ hr hle g1 g2 g3 g4 g5).ex
              exact ⟨O2, Hc2, m2, H2, hr2.putO hd (.imm _ _ (hrel _)), hle2, hj2⟩
            refine ⟨fun _ _ => trivial, ?_⟩
            rw [Oper.semAt_eq _ _ _ (fun c e => by simp_all), hrun]
            rcases hans with ⟨hent, hcs⟩ | ⟨v, w', hv, hq⟩
            · rw [hent vs w]
              refine ⟨(fun hh => by grind [FW]), DL (hcs.mono fun e w' hp => ?_)⟩
              obtain ⟨v, rfl, hnx⟩ := fin e w' hp
              exact hnx
            · rw [hv]
              obtain ⟨v', he, hnx⟩ := fin _ w' hq
              cases he
              exact hnx
          · cases hw
        simp_all
      · cases hw
  simp_all
theorem SU (h0 : ch0.Ok P gl) (hwf : WF.Ok P gl wf) (hJ : JOk P gl l xs J) {all : List Oper} {d0 : List Deferred} {K : Option Nat → St → Prop} {Q : Exit → Act → World → Prop}
    (hQ : ∀ (p : Option Nat) (sF : St) (a : Act) (w : World), K p sF → a.defers = d0 → Fr gl J p sF a.tmps w → Q .normal a w) :
    ∀ (pre r : List Oper) (p : Option Nat) (st : St) (a : Act) (w : World), all = pre ++ r → jseq P gl ch0 wf hs l xs all r p st K → a.defers = d0 → Fr gl J p st a.tmps w → wpOpsIn (FW none) 0 P all.toArray Q (List.range' pre.length r.length) a w
  | pre, [], p, st, a, w, _, hk, hd, hf => hQ p st a w hk hd hf
  | pre, o :: r, p, st, a, w, he, hk, hd, hf => by
    simp only [List.length_cons, List.range'_succ, wpOpsIn]
    have ho : all.toArray[pre.length]? = some o := by simp_all
    simp only [ho]
    have ih := SU h0 hwf hJ (all := all) hQ (pre ++ [o]) r
    simp only [List.length_append, List.length_cons, List.length_nil, Nat.zero_add, List.append_assoc, List.singleton_append] at ih
    simp only [jseq] at hk
    obtain ⟨O, Hc, m, H, hr, hle, hj⟩ := hf.ex
    split at hk
    · rename_i hdst
      split at hk
      · rename_i hg
        rw [if_pos (Yx hr hg)]
        grind [P7, hk]
      · rename_i hg
        rw [if_neg (by grind [Yx])]
        exact ⟨fun _ _ => trivial, ih _ _ _ w he hk ((Xx _ _ _).trans hd) ⟨O, Hc, m, H, hr.putO hdst (.tup [] #[] rfl (fun j c v hj => by simp at hj)), hle, hj⟩⟩
      · cases hk
    · cases hk
theorem Hg (h0 : ch0.Ok P gl) (hwf : WF.Ok P gl wf) (hmix : P.follows .mixedOrders = true) (hJ : JOk P gl l xs J) : ∀ (k : Nat) (c : Code) (p : Option Nat) (st : St) (K : Exit → Option Nat → St → Prop), QB c = true → Qr c = false → Gc P gl ch0 wf hs js l xs k c p st K →
    ∀ (a : Act) (w : World), Fr gl J p st a.tmps w → c.wpIn (FW none) 0 P (fun e a' w' => ∃ p' st', K e p' st' ∧ a'.defers = a.defers ∧ Fr gl J p' st' a'.tmps w') a w
  | 0, _, _, _, _, _, _, h => h.elim
  | k + 1, c, p, st, K, hok, hrg, h => by
    have ih := Hg h0 hwf hmix hJ k
    intro a w hf
    cases c with
    | skip => exact wpIn_skip ⟨p, st, h, rfl, hf⟩
    | label l => exact wpIn_label ⟨p, st, h, rfl, hf⟩
    | exit id => exact wpIn_exit ⟨p, st, h, rfl, hf⟩
    | ret => exact wpIn_ret ⟨p, st, h, rfl, hf⟩
    | region id ops draw =>
      simp only [Gc] at h
      cases draw with
      | true =>
        simp only at h
        obtain ⟨O, Hc, m, H, hr, hle, hj⟩ := hf.ex
        refine wpIn_mono (Ct h0 hwf hmix hok h none 0 (fun _ => rfl) _ _ [] m H a w (fun ps e => by grind) hr) fun e a' w' hp => ?_
        obtain ⟨s, m', H', B', H0', D, hk, hfin, hr'⟩ := hp
        have hD := hfin.non rfl
        subst hD
        exact ⟨p, s, hk, by simpa [LJ] using hfin.dfr, Fr.moved hJ hj hfin.bel hfin.sub hfin.old hr'⟩
      | false =>
        refine wpIn_region ?_
        have := SU h0 hwf hJ (hs := hs) (all := ops.toList) (d0 := a.defers) (Q := fun e a' w' => ∃ p' st', K e p' st' ∧ a'.defers = a.defers ∧ Fr gl J p' st' a'.tmps w') (fun p s a' w' hk hd hf => ⟨p, s, hk, hd, hf⟩) [] ops.toList p st a w rfl h rfl hf
        simp_all [List.range_eq_range']
    | seq x y =>
      simp only [Gc] at h
      simp only [QB, Bool.and_eq_true] at hok
      simp only [Qr, Bool.or_eq_false_iff] at hrg
      refine wpIn_seq (wpIn_mono (ih x p st _ hok.1 hrg.1 h a w hf) fun e a' w' hp => ?_)
      obtain ⟨p', s, hq, hd, hf'⟩ := hp
      split at hq
      · rename_i he
        obtain rfl := Df he
        refine wpIn_mono (ih y p' s K hok.2 hrg.2 hq a' w' hf') fun e a2 w2 hp2 => ?_
        simp_all
      · rename_i he
        have := WS he
        cases e with
        | normal => simp_all
        | _ => exact ⟨p', s, hq, hd, hf'⟩
    | cond c x y =>
      simp only [Gc] at h
      simp only [QB, Bool.and_eq_true] at hok
      simp only [Qr, Bool.or_eq_false_iff] at hrg
      obtain ⟨O, Hc, m, H, hr, hle, hj⟩ := hf.ex
      split at h
      · rename_i t ht
        have hv := hr.ev c
        rw [ht] at hv
        cases t with
        | true => exact wpIn_cond hv.bool_inv (ih x p st K hok.1 hrg.1 h a w hf)
        | false => exact wpIn_cond hv.bool_inv (ih y p st K hok.2 hrg.2 h a w hf)
      · cases h
    | block id c =>
      simp only [Gc] at h
      simp only [QB] at hok
      simp only [Qr] at hrg
      refine wpIn_block (wpIn_mono (ih c p st _ hok hrg h a w hf) fun e a' w' hp => ?_)
      obtain ⟨p', s, hq, hd, hf'⟩ := hp
      split at hq
      · rename_i he
        obtain rfl := exIs_t he
        simp only [Exit.inBlock, if_true]
        grind
      · rename_i he
        cases e with
        | exit i =>
          simp only [Exit.inBlock, if_neg (exIs_f he)]
          grind
        | _ => exact ⟨p', s, hq, hd, hf'⟩
    | loop c =>
      simp only [Gc] at h
      split at h
      · rename_i h2 _
        obtain ⟨ks, kb, kx, x, y⟩ := h2
        simp only at h
        obtain ⟨s1, hc1, h⟩ := XT (gl := gl) h
        obtain ⟨O, Hc, m, H, hr, hle, hj⟩ := hf.ex
        obtain ⟨m1, H1, hr1⟩ := hc1.2 _ _ _ _ _ _ _ hr
        obtain ⟨vs, bs, m2, ⟨q, hL, hK1, hK2⟩, hr2⟩ := Jv hr1 rfl h
        rw [hc1.1] at hr2
        have hf2 := Fr.moved hJ hj (Q8.refl _ w) (fun _ h => h) (fun _ _ _ => rfl) hr2
        refine (wpL.mono (hL.ok J hJ a w hf2) fun e a' w' ⟨p', s', hq, d, f⟩ => ⟨p', s', ?_, d, f⟩).loop
        rcases hq with ⟨rfl, rfl, rfl⟩ | ⟨rfl, rfl, rfl⟩
        · exact hK1
        · exact hK2
      simp_all
    | _ => exact h.elim
structure NxtJ (P : Program) (gl : Nat → AV) (l : Nat) (xs : List (List AV)) (n : Nat) (c : Code) (ks : List Nat) (kx : List Nat) (x y : Exit × List AV) (m : Nat) (vs : List AV) (bs : List Box) (p : Option Nat) : Prop where
  ok : ∃ vs' bs', LeVs vs vs' ∧ LeBs bs bs' ∧ JL P gl l xs n c ks vs' bs' p kx x y m
def jround (P : Program) (gl : Nat → AV) (ch0 : Ql) (wf : WF) (hs : Qz) (js : List (Nat × JH)) (l : Nat) (xs : List (List AV)) (k n : Nat) (c : Code) (ks : List Nat) (kb : List KB) (vs : List AV) (bs : List Box) (p : Option Nat) (kx : List Nat) (x y : Exit × List AV) (m : Nat) (N : List AV → List Box → Option Nat → Prop) : Prop :=
  Gc P gl ch0 wf hs js l xs k c p (ZH n ks vs bs) (fun e p s => match Nat.beq s.n n with
    | true => match VT e with
      | true => K7 kb s (fun s => Jl [] ks kb s (fun vs bs => N vs bs p))
      | false => Jl [] kx [] s (fun vs bs => JO x y m e p vs bs)
    | false => False)
theorem JL.step (h0 : ch0.Ok P gl) (hwf : WF.Ok P gl wf) (hmix : P.follows .mixedOrders = true) {k n : Nat} {c : Code} (hok : QB c = true) (hrg : Qr c = false) {ks : List Nat} {kb : List KB} {vs : List AV} {bs : List Box} {p : Option Nat} {kx : List Nat} {x y : Exit × List AV} {m : Nat} (hx : VT x.1 = false) (hy : VT y.1 = false)
    (hw : jround P gl ch0 wf hs js l xs k n c ks kb vs bs p kx x y m (NxtJ P gl l xs n c ks kx x y m)) : JL P gl l xs n c ks vs bs p kx x y m := by
  refine ⟨fun J hJ a w hf => wpL.round ?_⟩
  refine wpIn_mono (Hg h0 hwf hmix hJ k c p _ _ hok hrg hw a w hf) fun e a2 w2 hp => ?_
  obtain ⟨p2, s, hq, hd2, hf2⟩ := hp
  split at hq
  · rename_i hn
    have hn := Nat.eq_of_beq_eq_true hn
    obtain ⟨O, Hc, m1, H, hr, hle, hj⟩ := hf2.ex
    split at hq
    · rename_i he
      obtain rfl := Df he
      obtain ⟨s2, hc, hq⟩ := XT (gl := gl) hq
      obtain ⟨m3, H3, hr3⟩ := hc.2 _ _ _ _ _ _ _ hr
      obtain ⟨vs', bs', m4, hL, hr4⟩ := Jv hr3 rfl hq
      rw [hc.1, hn] at hr4
      obtain ⟨vs2, bs2, lv, lb, hL⟩ := hL.ok
      obtain ⟨m5, H5, hr5⟩ := (Gb (gl := gl) (n := n) (ks := ks) lv lb).2 _ _ _ _ _ _ _ hr4
      have hf4 := Fr.moved hJ hj (Q8.refl _ w2) (fun _ h => h) (fun _ _ _ => rfl) hr5
      exact wpL.mono (hL.ok J hJ a2 w2 hf4) fun e a3 w3 ⟨p', s', q, d, f⟩ => ⟨p', s', q, d.trans hd2, f⟩
    · rename_i he
      have := WS he
      obtain ⟨vs', bs', m4, ⟨rfl, hL⟩, hr4⟩ := Jv hr rfl hq
      rw [hn] at hr4
      have hf4 := Fr.moved hJ hj (Q8.refl _ w2) (fun _ h => h) (fun _ _ _ => rfl) hr4
      have hfin : ∃ p' st', JQL n kx x y m e p' st' ∧ a2.defers = a.defers ∧ Fr gl J p' st' a2.tmps w2 := by
        refine ⟨p2, _, ?_, hd2, hf4⟩
        rcases hL with ⟨h1, h2, h3⟩ | ⟨h1, h2, h3⟩
        · exact .inl ⟨h1, h2, by rw [h3]⟩
        · exact .inr ⟨h1, h2, by rw [h3]⟩
      cases e with
      | normal => simp_all
      | _ => exact hfin
  · cases hq
def jres : AV → Bool
  | .bool _ => true
  | .tup [] => true
  | .undef => true
  | _ => false
theorem jres_ok {H : HV} {E : Env} {r : AV} {v : Value} (h : RV H E r v) (hr : jres r = true) (H' : HV) : RelI H' r v := by
  unfold jres at hr
  split at hr
  · rw [h.bool_inv]; exact .bool _
  · obtain ⟨vs, rfl, hl, _⟩ := h.tup_inv
    exact .tup [] vs hl (fun j c u hj => by simp at hj)
  · exact .undef _
  · cases hr
def jfun (P : Program) (gl : Nat → AV) (ch0 : Ql) (wf : WF) (gd : Nat → Bool) (fl f : Nat) (hs : Qz) (js : List (Nat × JH)) (l : Nat) (xs : List (List AV)) (args : List AV) (p : Option Nat) (b : Bool) (m : Nat) : Prop :=
  match gd f with
  | true => match P.funcs[f]? with
    | some fn => match fn.body with
      | some c => match Nat.ble args.length fn.ntmps && !Qr c with
        | true => Gc P gl ch0 wf hs js l xs fl c p ⟨fn.ntmps, YS 0 args, .nil, 0⟩ (fun e p s => match GN e with
          | true => match Ws P s fn.results.toList with
            | some r => match jres r with
              | true => JQ b m r p
              | false => False
            | none => False
          | false => False)
        | false => False
      | none => False
    | none => False
  | false => False
theorem JF.of {gd : Nat → Bool} (h0 : ch0.Ok P gl) (hwf : WF.Ok P gl wf) (hp : Je P gd) {fl f : Nat} {args : List AV} {p : Option Nat} {b : Bool} {m : Nat} (hw : jfun P gl ch0 wf gd fl f hs js l xs args p b m) : JF P gl l xs f args p b m := by
  refine ⟨fun J hJ Hc w vs hj hl hargs => ?_⟩
  unfold jfun at hw
  split at hw
  · rename_i hg
    have hok := hp.fn f hg
    unfold okFn at hok
    split at hw
    · rename_i fn hf
      rw [hf] at hok
      simp only [Bool.and_eq_true, bne_iff_ne] at hok
      obtain ⟨hname, hok⟩ := hok
      split at hw
      · rename_i c hbd
        rw [hbd] at hok
        simp only at hok
        split at hw
        · rename_i hle
          rw [Bool.and_eq_true, Bool.not_eq_true'] at hle
          have hrg := hle.2
          have hle := Nat.le_of_ble_eq_true hle.1
          refine .inl ⟨U0 hf (by simp_all) (by simp_all), ?_⟩
          have hsat := hJ.sat _ _ _ _ hj
          have hh : RelH (fun _ => ⟨0, 0, 0⟩) Hc (BO (fun _ => False) w) Hc gl (lkb .nil) 0 w :=
            { sat := hsat, old := fun _ _ _ => rfl, low := fun _ hk => hk.1, fresh := fun _ _ => Zm _, box := (fun _ _ hh => by simp_all [Zm]), sepR := (fun _ _ hh => by simp_all [Zm]), injR := (fun _ _ _ _ hh => by simp_all [Zm]), gl := hJ.gls _ _ _ _ hj, ty := (fun _ _ _ hh => by simp_all [Zm]), gv := hJ.gv _ _ _ _ hj }
          have hr0 : RelS (fun _ => ⟨0, 0, 0⟩) Hc (BO (fun _ => False) w) Hc gl [] ⟨fn.ntmps, YS 0 args, .nil, 0⟩ (Act.mk (vs ++ Array.replicate (fn.ntmps - vs.size) Go.undef) []).tmps w := by
            refine ⟨hh, by simp; omega, fun k => ?_, fun p hp => by simp at hp⟩
            show RV Hc _ (lk .undef (YS 0 args) k) _
            rw [Dg, if_pos (Nat.zero_le _), Nat.sub_zero]
            cases hx : args[k]? with
            | none => exact .imm _ _ (.undef _)
            | some x =>
              have hk : k < vs.size := by grind
              have hv : (vs ++ Array.replicate (fn.ntmps - vs.size) Go.undef).getD k Go.undef = vs[k] := by
                rw [Array.getD_eq_getD_getElem?, Array.getElem?_append_left hk, Array.getElem?_eq_getElem hk]; rfl
              rw [hv]
              exact .imm _ _ (hargs k x _ hx (Array.getElem?_eq_getElem hk))
          refine CallsIn.calls (F := FW none) (n := 0) (callsIn_of_wp hf hbd trivial (wpIn_mono (Hg h0 hwf hp.mix hJ fl c p _ _ hok hrg hw _ w ⟨_, _, _, _, hr0, .refl _, hj⟩) fun e a' w' hq => ?_)) (fun k d hd => by grind [FW])
          obtain ⟨p', s, hK, hd, hf'⟩ := hq
          obtain ⟨O, Hc', m', H', hr', hle', hj'⟩ := hf'.ex
          split at hK
          · rename_i hex
            split at hK
            · rename_i r hres
              split at hK
              · rename_i hjr
                obtain ⟨v, hv, hrv⟩ := Cr hr' hres
                have hfin : ∃ v0 r p' O' Hc', Ending.returned v = .returned v0 ∧ JQ b m r p' ∧ (∀ H, RelI H r v0) ∧ J p' O' Hc' w' := ⟨v, r, p', O, Hc', rfl, hK, jres_ok hrv hjr, hj'⟩
                cases e with
                | normal => exact ⟨hd, v, hv, hfin⟩
                | ret => exact ⟨hd, v, hv, hfin⟩
                | _ => cases hex
              · cases hK
            · cases hK
          · cases hK
        · cases hw
      · cases hw
    · cases hw
  · cases hw
theorem FU {H : HV} {y : Value} {caps : List AV} {us : Array Value} (hr : ∀ (j : Nat) (c : AV) (v : Value), caps[j]? = some c → us[j]? = some v → RelI H c v) (j : Nat) (c : AV) (v : Value) (hc : (AV.val y :: caps)[j]? = some c) (hv : (#[y] ++ us)[j]? = some v) : RelI H c v := by
  cases j with
  | zero =>
    simp only [List.getElem?_cons_zero, Option.some.injEq] at hc
    subst hc
    have : y = v := by grind
    subst this
    exact .val _
  | succ j =>
    grind
theorem JQ_end {b : Bool} {m : Nat} {r : AV} {p : Option Nat} (h : JQ b m r p) : p = some m ∨ p = none := by
  cases b with
  | true => exact h.elim (fun h => .inl h.2) fun h => .inr h.2
  | false => exact h.2
theorem ItOk.of {f : Nat} {caps : List AV} (hent : Wz P f) (b : Bool) (h : ∀ l, JF P gl l xs f (.val (.func (.yield l) #[] #[]) :: caps) (some 0) b xs.length) : ItOk P gl f caps xs := ⟨fun l J hJ Hc w us hj hl hr => by
  have hF := h l
  have hlen : (AV.val (.func (.yield l) #[] #[]) :: caps).length = (#[Value.func (.yield l) #[] #[]] ++ us).size := by grind
  have h1 := hF.ok J hJ Hc w (#[Value.func (.yield l) #[] #[]] ++ us) hj hlen (FU hr)
  exact (h1.calls hent).mono fun e w' ⟨v, r, p', O', Hc', e1, e2, e3, e4⟩ => ⟨v, p', O', Hc', e1, JQ_end e2, e4⟩⟩
end
end HY
end
section
namespace HY
open Go Go.RowKit
end HY
end
section
namespace HY
open Go Go.RowKit
abbrev Str := List UInt8
def ix {α : Type} (l : List α) (k : Int) : Option α := if 0 ≤ k then l[k.toNat]? else none
@[reducible] def w6 (n : Int) : Int := IntKind.u64.wrap n
@[reducible] def wr (n : Int) : Int := IntKind.i64.wrap n
@[reducible] def ii (n : Int) : AV := .int .i64 n
@[reducible] def kk (n : Nat) : KB := { slot := n }
theorem lr {x : AV} : LeV x x := .refl x
@[reducible] def jb (o : Bool) (v : Bool → List AV) (b : List Box) : List Alt := [⟨fun (_ : Unit) => true = o, .normal, fun _ => v true, fun _ => b⟩, ⟨fun (_ : Unit) => false = o, .normal, fun _ => v false, fun _ => b⟩]
@[reducible] def lp {α β : Type} (o : α ⊕ β) (e : Exit) (v : α → List AV) (b : α → List Box) (e' : Exit) (v' : β → List AV) (b' : β → List Box) : List Alt := [⟨fun x => Sum.inl x = o, e, v, b⟩, ⟨fun x => Sum.inr x = o, e', v', b'⟩]
@[reducible] def l1 {α : Type} (o : α) (e : Exit) (v : α → List AV) (b : α → List Box) : List Alt := [⟨fun x => x = o, e, v, b⟩]
section
variable {ρ : Type} {r : ρ}
theorem kIf {c : Bool} {x y : Option ρ} {A B : Prop} (hA : x = some r → A) (hB : y = some r → B) (h : (if c = true then x else y) = some r) : (c = true → A) ∧ (c = false → B) := by
 cases c with
 | true => exact ⟨fun _ => hA h, nofun⟩
 | false => exact ⟨nofun, fun _ => hB h⟩
theorem kBoth {x : Option ρ} {A B : Prop} (hA : x = some r → A) (hB : x = some r → B) (h : x = some r) : Both A B := ⟨hA h, hB h⟩
theorem kIfD {p : Prop} [Decidable p] {x y : Option ρ} {A B : Prop} (hA : x = some r → A) (hB : y = some r → B) (h : (if p then x else y) = some r) : (decide p = true → A) ∧ (decide p = false → B) := by
 by_cases hp : p
 ·rw [if_pos hp] at h; exact ⟨fun _ => hA h, fun e => absurd hp (of_decide_eq_false e)⟩
 ·rw [if_neg hp] at h; exact ⟨fun e => absurd (of_decide_eq_true e) hp, fun _ => hB h⟩
theorem kG {p : Prop} [Decidable p] {x : Option ρ} {A : Prop} (hA : x = some r → A) (h : (if p then x else none) = some r) : p ∧ A := by
 by_cases hp : p
 ·rw [if_pos hp] at h; exact ⟨hp, hA h⟩
 ·rw [if_neg hp] at h; cases h
theorem kA {α : Type} {sh : α → AV} {l : List α} {q : Prop} [Decidable q] {x : Option ρ} {A : Prop} (hA : x = some r → A) (h : (if q then x else none) = some r) : (l.length = (List.map sh l).length ∧ q) ∧ A := by
 by_cases hp : q
 ·rw [if_pos hp] at h; exact ⟨⟨by simp, hp⟩, hA h⟩
 ·rw [if_neg hp] at h; cases h
theorem kT {p : Prop} {x : Option ρ} {A : Prop} (hp : p) (hA : x = some r → A) (h : x = some r) : p ∧ A := ⟨hp, hA h⟩
theorem kIx {α : Type} {enc : α → AV} {l : List α} {k : Int} {f : α → Option ρ} {A : α → Prop} (hA : ∀ x, f x = some r → A x) (h : (ix l k >>= f) = some r) : ∃ x, (0 ≤ k ∧ (List.map enc l)[k.toNat]? = some (enc x)) ∧ A x := by
 unfold ix at h
 split at h
 ·rename_i h0
  cases hx : l[k.toNat]? with
  | none => rw [hx] at h; cases h
  | some x => rw [hx] at h; exact ⟨x, ⟨h0, by rw [List.getElem?_map, hx]; rfl⟩, hA x h⟩
 ·cases h
theorem kIxR {α τ : Type} {enc : α → AV} {sh : τ → AV} {un : α → τ} {l : List α} {k : Int} {f : τ → Option ρ} {A : τ → Prop} (hv : ∀ a, enc a = sh (un a)) (hA : ∀ x, f x = some r → A x) (h : (Option.map un (ix l k) >>= f) = some r) : ∃ x, (0 ≤ k ∧ (List.map enc l)[k.toNat]? = some (sh x)) ∧ A x := by
 unfold ix at h
 split at h
 ·rename_i h0
  cases hx : l[k.toNat]? with
  | none => rw [hx] at h; cases h
  | some x => rw [hx] at h; exact ⟨un x, ⟨h0, by rw [List.getElem?_map, hx, Option.map_some, hv]⟩, hA _ h⟩
 ·cases h
theorem kOx {α : Type} {enc : α → AV} {l : List α} {k : Nat} {f : α → Option ρ} {A : α → Prop} (hA : ∀ x, f x = some r → A x) (h : (l[k]? >>= f) = some r) : ∃ x, (List.map enc l)[k]? = some (enc x) ∧ A x := by
 cases hx : l[k]? with
 | none => rw [hx] at h; cases h
 | some x => rw [hx] at h; exact ⟨x, by rw [List.getElem?_map, hx]; rfl, hA x h⟩
theorem kOxR {α τ : Type} {enc : α → AV} {sh : τ → AV} {un : α → τ} {l : List α} {k : Nat} {f : τ → Option ρ} {A : τ → Prop} (hv : ∀ a, enc a = sh (un a)) (hA : ∀ x, f x = some r → A x) (h : (Option.map un l[k]? >>= f) = some r) : ∃ x, (List.map enc l)[k]? = some (sh x) ∧ A x := by
 cases hx : l[k]? with
 | none => rw [hx] at h; cases h
 | some x => rw [hx] at h; exact ⟨un x, by rw [List.getElem?_map, hx, Option.map_some, hv], hA _ h⟩
theorem kU {s : Str} {k : Int} {f : UInt8 → Option ρ} {A : UInt8 → Prop} (hA : ∀ x, f x = some r → A x) (h : (ix s k >>= f) = some r) : ∃ x, (0 ≤ k ∧ s[k.toNat]? = some x) ∧ A x := by
 unfold ix at h
 split at h
 ·rename_i h0
  cases hx : s[k.toNat]? with
  | none => rw [hx] at h; cases h
  | some x => rw [hx] at h; exact ⟨x, ⟨h0, rfl⟩, hA x h⟩
 ·cases h
theorem kC {P : Program} {gl : Nat → AV} {g : Nat} {args : List AV} {τ : Type} {sh : τ → AV} {x : Option τ} {f : τ → Option ρ} {A : τ → Prop} (hP : ∀ y, x = some y → Pu P gl g args (sh y)) (hA : ∀ y, f y = some r → A y) (h : (x >>= f) = some r) : ∃ y, Pu P gl g args (sh y) ∧ A y := by
 cases x with
 | none => cases h
 | some y => exact ⟨y, hP y rfl, hA y h⟩
theorem kCb {P : Program} {gl : Nat → AV} {g : Nat} {args : List AV} {c : Option Bool} {x y : Option ρ} {A B : Prop} (hP : ∀ u, c = some u → Pu P gl g args (.bool u)) (hA : x = some r → A) (hB : y = some r → B) (h : (c >>= fun u => if u = true then x else y) = some r) : ∃ u, Pu P gl g args (.bool u) ∧ (u = true → A) ∧ (u = false → B) := by
 cases c with
 | none => cases h
 | some u => exact ⟨u, hP u rfl, kIf hA hB h⟩
theorem kN {α : Type} {m : α} {f : α → Option ρ} {A : α → Prop} (n : α) (e : n = m) (hA : ∀ n, f n = some r → A n) (h : (some n >>= f) = some r) : ∃ n, n = m ∧ A n := ⟨n, e, hA n h⟩
theorem kW {α : Type} {sh : α → AV} {v : AV} {f : α → Option ρ} {A : α → Prop} (x : α) (e : LeV v (sh x)) (hA : ∀ x, f x = some r → A x) (h : (some x >>= f) = some r) : ∃ x, LeV v (sh x) ∧ A x := ⟨x, e, hA x h⟩
theorem kB {α : Type} {sh : α → AV} {xs : List AV} {f : List α → Option ρ} {A : List α → Prop} (l : List α) (e : List.map sh l = xs) (hA : ∀ l, f l = some r → A l) (h : (some l >>= f) = some r) : ∃ l, List.map sh l = xs ∧ A l := ⟨l, e, hA l h⟩
theorem kBE {α : Type} {sh : α → AV} {xs : List AV} {f : List α → Option ρ} {A : List α → Prop} (l0 : List α) (e : List.map sh l0 = xs) (hA : ∀ l, l = l0 → f l = some r → A l) (h : (some l0 >>= f) = some r) : ∃ l, List.map sh l = xs ∧ A l := ⟨l0, e, hA l0 rfl h⟩
theorem kO {α : Type} {sh : α → AV} {xs : List AV} {n : Nat} {f : List α → Option ρ} {A : List α → Prop} (l : List α) (e : List.map sh l = xs) (hn : l.length = n) (hA : ∀ l, f l = some r → A l) (h : (some l >>= f) = some r) : ∃ l, (List.map sh l = xs ∧ l.length = n) ∧ A l := ⟨l, ⟨e, hn⟩, hA l h⟩
theorem kL1 {P : Program} {gl : Nat → AV} {ps : List AV} {n : Nat} {c : Code} {ks : List Nat} {vs : List AV} {bs : List Box} {kx : List Nat} {υ α : Type} {alts : υ → α → List Alt} {x : Option α} {f : υ → α → Option ρ} {A : υ → α → Prop} (u : υ) (hL : ∀ o, x = some o → Xt P gl ps n c ks vs bs kx (alts u o)) (hA : ∀ u a, f u a = some r → A u a) (h : (some u >>= fun u => x >>= f u) = some r) :
  ∃ u o, Xt P gl ps n c ks vs bs kx (alts u o) ∧ ∀ a, a = o → A u a := by
 cases x with
 | none => cases h
 | some o => exact ⟨u, o, hL o rfl, fun a e => by subst e; exact hA u a h⟩
theorem kR1 {P : Program} {gl : Nat → AV} {ps : List AV} {n f : Nat} {ts : List AV} {prm : Array Tmp} {azz bd : Code} {ks : List Nat} {vs : List AV} {bs : List Box} {υ α : Type} {alts : υ → α → List Alt} {x : Option α} {k : υ → α → Option ρ} {A : υ → α → Prop} (u : υ) (hL : ∀ o, x = some o → ∃ xs, ItOk P gl f ts xs ∧ Ua P gl ps n prm azz bd ks vs (alts u o) xs bs) (hA : ∀ u a, k u a = some r → A u a) (h : (some u >>= fun u => x >>= k u) = some r) :
  ∃ xs u o, ItOk P gl f ts xs ∧ Ua P gl ps n prm azz bd ks vs (alts u o) xs bs ∧ ∀ a, a = o → A u a := by
 cases x with
 | none => cases h
 | some o =>
  obtain ⟨xs, h1, h2⟩ := hL o rfl
  exact ⟨xs, u, o, h1, h2, fun a e => by subst e; exact hA u a h⟩
theorem kL2 {P : Program} {gl : Nat → AV} {ps : List AV} {n : Nat} {c : Code} {ks : List Nat} {vs : List AV} {bs : List Box} {kx : List Nat} {υ α β : Type} {alts : υ → α ⊕ β → List Alt} {x : Option (α ⊕ β)} {f : υ → α → Option ρ} {g : υ → β → Option ρ} {A : υ → α → Prop} {B : υ → β → Prop} (u : υ) {m : υ → α ⊕ β → Option ρ} (e1 : ∀ u a, m u (.inl a) = f u a := by intros; rfl) (e2 : ∀ u a, m u (.inr a) = g u a := by intros; rfl) (hL : ∀ o, x = some o → Xt P gl ps n c ks vs bs kx (alts u o)) (hA : ∀ u a, f u a = some r → A u a) (hB : ∀ u b, g u b = some r → B u b)
  (h : (some u >>= fun u => x >>= m u) = some r) : ∃ u o, Xt P gl ps n c ks vs bs kx (alts u o) ∧ (∀ a, Sum.inl a = o → A u a) ∧ ∀ b, Sum.inr b = o → B u b := by
 cases x with
 | none => cases h
 | some o => exact ⟨u, o, hL o rfl, fun a e => by subst e; exact hA u a ((e1 u a).symm.trans h), fun b e => by subst e; exact hB u b ((e2 u b).symm.trans h)⟩
theorem kJb {id : Nat} {υ : Type} {y : Option Bool} {f g : υ → Option ρ} {I : υ → Bool → Prop} {A B : υ → Prop} (u0 : υ) (hI : ∀ u, u = u0 → ∀ o, y = some o → I u o) (hA : ∀ u, f u = some r → A u) (hB : ∀ u, g u = some r → B u) (h : (some u0 >>= fun u => y >>= fun o => if o = true then f u else g u) = some r) :
  ∃ u o, Jn id (I u o) ∧ (∀ _ : Unit, true = o → A u) ∧ ∀ _ : Unit, false = o → B u := by
 cases y with
 | none => cases h
 | some o =>
  refine ⟨u0, o, hI u0 rfl o rfl, fun _ e => ?_, fun _ e => ?_⟩
  ·subst e; exact hA u0 h
  ·subst e; exact hB u0 h
theorem kJ1 {id : Nat} {υ α : Type} {y : Option α} {f : υ → α → Option ρ} {I : υ → α → Prop} {A : υ → α → Prop} (u0 : υ) (hI : ∀ u, u = u0 → ∀ o, y = some o → I u o) (hA : ∀ u a, f u a = some r → A u a) (h : (some u0 >>= fun u => y >>= f u) = some r) :
  ∃ u o, Jn id (I u o) ∧ ∀ a, a = o → A u a := by
 cases y with
 | none => cases h
 | some o => exact ⟨u0, o, hI u0 rfl o rfl, fun a e => by subst e; exact hA u0 a h⟩
theorem kJ1E {id : Nat} {υ α : Type} {y : Option α} {f : υ → α → Option ρ} {I : υ → α → Prop} {A : υ → α → Prop} (u0 : υ) (hI : ∀ u, u = u0 → ∀ o, y = some o → I u o) (hA : ∀ u, u = u0 → ∀ a, f u a = some r → A u a) (h : (some u0 >>= fun u => y >>= f u) = some r) :
  ∃ u o, Jn id (I u o) ∧ ∀ a, a = o → A u a := by
 cases y with
 | none => cases h
 | some o => exact ⟨u0, o, hI u0 rfl o rfl, fun a e => by subst e; exact hA u0 rfl a h⟩
theorem kXj {υ : Type} {alts : υ → ρ → List Alt} {e : Exit} {vs : List AV} {bs : List Box} {u u0 : υ} (he : u = u0) (o : ρ) (hO : Out (alts u0 o) e vs bs) (h : some o = some r) : Out (alts u r) e vs bs := by cases h; rw [he]; exact hO
theorem kE {enc : ρ → AV} {t : AV} (v : ρ) (e : LeT t (enc v)) (h : some v = some r) : LeT t (enc r) := by cases h; exact e
theorem kEr {enc : ρ → AV} (v : ρ) (h : some v = some r) : LeT (enc v) (enc r) := by cases h; exact ⟨fun _ _ h => h⟩
theorem kX {alts : ρ → List Alt} {e : Exit} {vs : List AV} {bs : List Box} (o : ρ) (hO : Out (alts o) e vs bs) (h : some o = some r) : Out (alts r) e vs bs := by cases h; exact hO
theorem kM {P : Program} {gl : Nat → AV} {ps : List AV} {n : Nat} {c : Code} {ks : List Nat} {vs vs' : List AV} {bs bs' : List Box} {kx : List Nat} {alts : ρ → List Alt} {x : Option ρ} (hv : LeVs vs vs') (hb : LeBs bs bs') (hL : ∀ o, x = some o → Xt P gl ps n c ks vs' bs' kx (alts o)) (h : x = some r) : Nxt P gl ps n c ks kx (alts r) vs bs := ⟨⟨vs', bs', hv, hb, hL r h⟩⟩
theorem kM0 {P : Program} {gl : Nat → AV} {ps : List AV} {n : Nat} {c : Code} {ks : List Nat} {vs : List AV} {bs : List Box} {kx : List Nat} {alts : ρ → List Alt} {x : Option ρ} (hL : ∀ o, x = some o → Xt P gl ps n c ks vs bs kx (alts o)) (h : x = some r) : Nxt P gl ps n c ks kx (alts r) vs bs := ⟨⟨vs, bs, .refl _, .refl _, hL r h⟩⟩
end
theorem Xt.le {P : Program} {gl : Nat → AV} {ps : List AV} {n : Nat} {c : Code} {ks : List Nat} {vs vs' : List AV} {bs bs' : List Box} {kx : List Nat} {alts : List Alt} (hv : LeVs vs vs') (hb : LeBs bs bs') (h : Xt P gl ps n c ks vs' bs' kx alts) : Xt P gl ps n c ks vs bs kx alts := ⟨fun ro d hro B H0 rest m H a w hrest hr => by
 obtain ⟨m5, H5, hr5⟩ := (Gb (gl := gl) (n := n) (ks := ks) hv hb).2 _ _ _ _ _ _ _ hr
 exact h.ok ro d hro B H0 rest m5 H5 a w hrest hr5⟩
section
variable {ρ : Type} {r : ρ}
theorem kH {P : Program} {gl : Nat → AV} {g : Nat} {args : List AV} {bs : List Box} {τ : Type} {sh : τ → AV} {bt : τ → List Box} {x : Option τ} {f : τ → Option ρ} {A : τ → Prop} (hP : ∀ y, x = some y → PuH P gl g args bs (sh y) (bt y)) (hA : ∀ y, f y = some r → A y) (h : (x >>= f) = some r) : ∃ y, PuH P gl g args bs (sh y) (bt y) ∧ A y := by
 cases x with
 | none => cases h
 | some y => exact ⟨y, hP y rfl, hA y h⟩
theorem leEnd {vs ts : List AV} {bs bt : List Box} (h : LeVs vs ts) (k : LeBs bs bt) : LeVs vs ts ∧ LeBs bs bt := ⟨h, k⟩
theorem kEH {enc : ρ → AV} {bt : ρ → List Box} {vs : List AV} {bs : List Box} (v : ρ) (e : LeVs vs [enc v] ∧ LeBs bs (bt v)) (h : some v = some r) : LeVs vs [enc r] ∧ LeBs bs (bt r) := by cases h; exact e
end
theorem LeV.owl {id ver sz n n' : Nat} (h : n = n') : LeV (.ow id ver sz n) (.ow id ver sz n') := h ▸ .refl _
theorem LeB.ownEq {v sz : Nat} {xs ys : List AV} (h : ys = xs) : LeB (.own v sz xs) (.own v sz ys) := h ▸ .refl _
section
variable {α : Type} {sh : α → AV}
theorem mA (l : List α) (x : α) : List.map sh (l ++ [x]) = List.map sh l ++ [sh x] := by simp
theorem mAp {l m : List α} {A B : List AV} (h : List.map sh l = A) (k : List.map sh m = B) : List.map sh (l ++ m) = A ++ B := by rw [List.map_append, h, k]
theorem mTD (l : List α) (h k : Nat) : List.map sh ((l.take h).drop k) = ((List.map sh l).take h).drop k := by simp
theorem mT (l : List α) (h : Nat) : List.map sh (l.take h) = (List.map sh l).take h := by simp
theorem mD (l : List α) (k : Nat) : List.map sh (l.drop k) = (List.map sh l).drop k := by simp
theorem mS (l : List α) (k : Nat) (x : α) : List.map sh (l.set k x) = (List.map sh l).set k (sh x) := by simp
theorem leSl {sz : Nat} {xs ys : List AV} (h : xs = ys) : LeV (.sl sz ys) (.sl sz xs) := LeV.of_eq (by rw [h])
theorem mLen (l : List α) : (l.length : Int) = ((List.map sh l).length : Int) := by simp
theorem mSR {τ : Type} {hh : τ → AV} {mk : τ → α} (hm : ∀ x, sh (mk x) = hh x) (l : List α) (k : Nat) (x : τ) : List.map sh (l.set k (mk x)) = (List.map sh l).set k (hh x) := by simp [hm]
theorem nM (l : List α) : l.length = (List.map sh l).length := by simp
theorem nA (l : List α) (x : α) : (l ++ [x]).length = l.length + 1 := by simp
end
end HY
end
section
namespace HY
set_option linter.unusedVariables false
def eI (x : Int) : AV := .int .i64 x
def eB (x : Bool) : AV := .bool x
def eS (x : Str) : AV := .str x
def eU64 (x : Int) : AV := .int .u64 x
def eI32 (x : Int) : AV := .int .i32 x
def eLI (x : List Int) : AV := .sl 1 (List.map eI x)
def eLLI (x : List (List Int)) : AV := .sl 1 (List.map eLI x)
def eU16 (x : Int) : AV := .int .u16 x
def Dm (x : (List Int × Int)) : AV := .tup [eLI x.1, eI x.2]
def eLS (x : List Str) : AV := .sl 1 (List.map eS x)
def Jg (x : (Int × Bool)) : AV := .tup [eI x.1, eB x.2]
def Wn (x : (Int × Int)) : AV := .tup [eU64 x.1, eU64 x.2]
structure Qg where
 fv : Int
 fx : Int
 fB : Int
 fw : Int
 fC : Int
 deriving Inhabited, DecidableEq
def Qp (x : Qg) : AV := .agg [.int .i64 x.fv, .int .i64 x.fx, .int .i64 x.fB, .int .i64 x.fw, .int .i64 x.fC]
structure Qj where
 fb : Str
 fa : Qg
 fI : List Int
 fJ : Int
 deriving Inhabited, DecidableEq
def Qc (x : Qj) : AV := .agg [.str x.fb, .int .i64 x.fa.fv, .int .i64 x.fa.fx, .int .i64 x.fa.fB, .int .i64 x.fa.fw, .int .i64 x.fa.fC, .sl 1 (List.map eI x.fI), .int .i64 x.fJ]
structure Qs where
 fb : Str
 fBy : Int
 deriving Inhabited, DecidableEq
def Q4 (x : Qs) : AV := .agg [.str x.fb, .int .i64 x.fBy]
structure gLin where
 fK : Int
 fL : List Qs
 deriving Inhabited, DecidableEq
def Qb (x : gLin) : AV := .agg [.int .i64 x.fK, .sl 2 (List.map Q4 x.fL)]
structure Q6 where
 fo : gLin
 fH : Str
 fAt : List gLin
 deriving Inhabited, DecidableEq
def Q1 (x : Q6) : AV := .agg [.int .i64 x.fo.fK, .sl 2 (List.map Q4 x.fo.fL), .str x.fH, .sl 2 (List.map Qb x.fAt)]
structure gVal where
 fN : Int
 fD : Int
 deriving Inhabited, DecidableEq
def Mz (x : gVal) : AV := .agg [.int .i64 x.fN, .int .i64 x.fD]
structure Qv (α : Type) where
 fOp : Int
 fb : Str
 fy : gVal
 fa : Qg
 fo : gLin
 fi : List Q6
 ff : List α
inductive Qf where
 | mk (x : Qv Qf)
abbrev Q3 := Qv Qf
def Qf.f : Qf → Q3
 | .mk x => x
@[simp] theorem Qf.mk_f (e : Qf) : Qf.mk e.f = e := by cases e; rfl
@[simp] theorem Qf.f_mk (x : Q3) : (Qf.mk x).f = x := rfl
theorem Qf.lt {x : Q3} {a : Qf} (h : a ∈ x.ff) : sizeOf a < sizeOf (Qf.mk x) := by
 have := List.sizeOf_lt_of_mem h
 cases x; simp only [Qf.mk.sizeOf_spec, Qv.mk.sizeOf_spec] at *; omega
def Qd : Qf → AV
 | .mk x => .agg [.int .i64 x.fOp, .str x.fb, .int .i64 x.fy.fN, .int .i64 x.fy.fD, .int .i64 x.fa.fv, .int .i64 x.fa.fx, .int .i64 x.fa.fB, .int .i64 x.fa.fw, .int .i64 x.fa.fC, .int .i64 x.fo.fK, .sl 2 (List.map Q4 x.fo.fL), .sl 4 (List.map Q1 x.fi), .sl 13 (x.ff.attach.map fun a => Qd a.1)]
 termination_by e => sizeOf e
 decreasing_by exact Qf.lt a.2
def Qa (x : Q3) : AV := .agg [.int .i64 x.fOp, .str x.fb, .int .i64 x.fy.fN, .int .i64 x.fy.fD, .int .i64 x.fa.fv, .int .i64 x.fa.fx, .int .i64 x.fa.fB, .int .i64 x.fa.fw, .int .i64 x.fa.fC, .int .i64 x.fo.fK, .sl 2 (List.map Q4 x.fo.fL), .sl 4 (List.map Q1 x.fi), .sl 13 (List.map Qd x.ff)]
theorem Ju (e : Qf) : Qd e = Qa e.f := by
 cases e with
 | mk x => rw [Qd]; simp [Qa, Qf.f]
structure QC (α : Type) where
 fOp : Int
 fb : Str
 fE : Int
 fG : Int
 fF : Int
 fi : List Q6
 fq : Q3
 fd : List α
inductive Q7 where
 | mk (x : QC Q7)
abbrev Qe := QC Q7
def Q7.f : Q7 → Qe
 | .mk x => x
@[simp] theorem Q7.mk_f (e : Q7) : Q7.mk e.f = e := by cases e; rfl
theorem Q7.lt {x : Qe} {a : Q7} (h : a ∈ x.fd) : sizeOf a < sizeOf (Q7.mk x) := by
 have := List.sizeOf_lt_of_mem h
 cases x; simp only [Q7.mk.sizeOf_spec, QC.mk.sizeOf_spec] at *; omega
def Q9 : Q7 → AV
 | .mk x => .agg [.int .i64 x.fOp, .str x.fb, .int .i64 x.fE, .int .i64 x.fG, .int .i64 x.fF, .sl 4 (List.map Q1 x.fi), .int .i64 x.fq.fOp, .str x.fq.fb, .int .i64 x.fq.fy.fN, .int .i64 x.fq.fy.fD, .int .i64 x.fq.fa.fv, .int .i64 x.fq.fa.fx, .int .i64 x.fq.fa.fB, .int .i64 x.fq.fa.fw, .int .i64 x.fq.fa.fC, .int .i64 x.fq.fo.fK, .sl 2 (List.map Q4 x.fq.fo.fL), .sl 4 (List.map Q1 x.fq.fi), .sl 13 (List.map Qd x.fq.ff), .sl 20 (x.fd.attach.map fun a => Q9 a.1)]
 termination_by e => sizeOf e
 decreasing_by exact Q7.lt a.2
def Qm (x : Qe) : AV := .agg [.int .i64 x.fOp, .str x.fb, .int .i64 x.fE, .int .i64 x.fG, .int .i64 x.fF, .sl 4 (List.map Q1 x.fi), .int .i64 x.fq.fOp, .str x.fq.fb, .int .i64 x.fq.fy.fN, .int .i64 x.fq.fy.fD, .int .i64 x.fq.fa.fv, .int .i64 x.fq.fa.fx, .int .i64 x.fq.fa.fB, .int .i64 x.fq.fa.fw, .int .i64 x.fq.fa.fC, .int .i64 x.fq.fo.fK, .sl 2 (List.map Q4 x.fq.fo.fL), .sl 4 (List.map Q1 x.fq.fi), .sl 13 (List.map Qd x.fq.ff), .sl 20 (List.map Q9 x.fd)]
theorem Zy (e : Q7) : Q9 e = Qm e.f := by
 cases e with
 | mk x => rw [Q9]; simp [Qm, Q7.f]
structure Qq where
 fk : List Qj
 fd : List Q7
def Xf (x : Qq) : AV := .agg [.sl 8 (List.map Qc x.fk), .sl 20 (List.map Q9 x.fd)]
structure QY where
 fM : Int
 fAt : List Int
 deriving Inhabited, DecidableEq
def Qn (x : QY) : AV := .agg [.int .i64 x.fM, .sl 1 (List.map eI x.fAt), .undef, .undef, .undef, .undef, .undef, .undef, .undef, .undef, .undef, .undef, .undef, .undef, .undef, .undef, .undef, .undef, .undef, .undef, .undef, .undef]
structure Xk where
 fb : Str
 fy : Int
 deriving Inhabited, DecidableEq
def Qh (x : Xk) : AV := .agg [.str x.fb, .int .i64 x.fy]
structure Q0 where
 fh : Qq
 fp : List Str
 fg : List Str
 fu : List Int
def LD (x : Q0) : AV := .agg [.sl 8 (List.map Qc x.fh.fk), .sl 20 (List.map Q9 x.fh.fd), .sl 1 (List.map eS x.fp), .sl 1 (List.map eS x.fg), .sl 1 (List.map eI x.fu)]
structure Q2 where
 fA : List (Str × Int)
 fe : Int
 fm : List Xk
 fc : List Qf
 fj : List QY
theorem R8 (x : Q3) : Qd (.mk x) = Qa x := Ju _
theorem Jh (x : Qe) : Q9 (.mk x) = Qm x := Zy _
theorem Ww (x : Qe) : LeL (AV.cells (Qm x)) (AV.cells (Q9 (.mk x))) := by rw [Jh]; exact .refl _
def CQ (x : List Qj) : AV := .sl 8 (List.map Qc x)
def ZG (x : List Q7) : AV := .sl 20 (List.map Q9 x)
def Sx (x : List QY) : AV := .sl 22 (List.map Qn x)
def Vp (x : (List QY × Int)) : AV := .tup [Sx x.1, eI x.2]
def KA (x : List Q6) : AV := .sl 4 (List.map Q1 x)
def YY (x : List Qs) : AV := .sl 2 (List.map Q4 x)
def G8 (x : List Qf) : AV := .sl 13 (List.map Qd x)
def WQ (x : List gLin) : AV := .sl 2 (List.map Qb x)
def HQ (x : List Xk) : AV := .sl 2 (List.map Qh x)
def XP (x : (Qj × Bool)) : AV := .tup [Qc x.1, eB x.2]
def Zt (x : (Q3 × Int)) : AV := .tup [Qa x.1, eI x.2]
def Qx (x : (gLin × Int)) : AV := .tup [Qb x.1, eI x.2]
def Zd (x : (List Q7 × Int)) : AV := .tup [ZG x.1, eI x.2]
def My (x : (Qe × Int)) : AV := .tup [Qm x.1, eI x.2]
def Xv (x : (List Q6 × Int)) : AV := .tup [KA x.1, eI x.2]
def Qu (x : (Qg × Int)) : AV := .tup [Qp x.1, eI x.2]
end HY
end
section
namespace HY
open Go Go.RowKit
def defOp (o : Oper) (st : St) (gl : Nat → AV) : Option (Nat × List AV) :=
 match o.op with
 | .defer c => match o.guard with
  | none => match o.dst with
   | none => match c.callee with
    | .value x => match c.args.toList with
     | [] => match st.ev gl x with
      | .fn g caps => some (g, caps)
      | _ => none
     | _ => none
    | _ => none
   | some _ => none
  | some _ => none
 | _ => none
def Ez (P : Program) (gl : Nat → AV) (ch : Ql) (rd : XO) : List Oper → St → Option (St × Nat × List AV)
 | [], _ => none
 | o :: l, st => match l with
  | [] => match defOp o st gl with
   | some x => some (st, x)
   | none => none
  | o2 :: l2 => if QV o.dst st.n then (match o.guard with
   | none => match NC P gl ch rd o st with
    | some s => Ez P gl ch rd (o2 :: l2) s
    | none => none
   | some _ => none) else none
def N9 (P : Program) (gl : Nat → AV) (ch : Ql) (rd : XO) (fl : Nat) : Code → St → Option (St × Nat × List AV × List Code)
 | .region _ ops false, st => match Ez P gl ch rd ops.toList st with
  | some (s, g, caps) => some (s, g, caps, [])
  | none => none
 | .seq a b, st => match N9 P gl ch rd fl a st with
  | some (s, g, caps, r) => some (s, g, caps, r ++ [b])
  | none => match KE P gl ch rd true fl a st with
   | some (.normal, s, []) => N9 P gl ch rd fl b s
   | _ => none
 | _, _ => none
def Es (P : Program) (gl : Nat → AV) (ch : Ql) (rd : XO) (fl : Nat) : List Code → St → Option (Exit × St × List Nat)
 | [], st => some (.normal, st, [])
 | c :: cs, st => match KE P gl ch rd true fl c st with
  | some (.normal, s, d) => match Es P gl ch rd fl cs s with
   | some (e, s', d') => some (e, s', d' ++ d)
   | none => none
  | r => r
def DT (F : Fence) (n : Nat) (P : Program) (Q : Exit → Act → World → Prop) : List Code → Act → World → Prop
 | [], a, w => Q .normal a w
 | c :: cs, a, w => c.wpIn F n P (Exit.then (DT F n P Q cs) Q) a w
theorem Ei {F : Fence} {n : Nat} {P : Program} {Q : Exit → Act → World → Prop} {y : Code} : ∀ (l : List Code) (a : Act) (w : World), DT F n P Q (l ++ [y]) a w → DT F n P (Exit.then (y.wpIn F n P Q) Q) l a w
 | [], a, w, h => wpIn_mono (show y.wpIn F n P (Exit.then (DT F n P Q []) Q) a w from h) fun e a' w' hq => by cases e <;> exact hq
 | c :: cs, a, w, h => wpIn_mono (show c.wpIn F n P (Exit.then (DT F n P Q (cs ++ [y])) Q) a w from h) fun e a' w' hq => by
  cases e with
  | normal => exact Ei cs a' w' hq
  | _ => exact hq
theorem DU {F : Fence} {n : Nat} {P : Program} {Q Q' : Exit → Act → World → Prop} : ∀ (l : List Code) (a : Act) (w : World), DT F n P Q l a w → (∀ e a w, Q e a w → Q' e a w) → DT F n P Q' l a w
 | [], a, w, h, hq => hq _ _ _ h
 | c :: cs, a, w, h, hq => wpIn_mono (show c.wpIn F n P (Exit.then (DT F n P Q cs) Q) a w from h) fun e a' w' h' => by
  cases e with
  | normal => exact DU cs a' w' h' hq
  | _ => exact hq _ _ _ h'
section
variable {P : Program} {H0 : HV} {B : Nat → Prop} {gl : Nat → AV} {rest : List (AV × Value)} {ch : Ql} {rd : XO}
theorem ES {ρ : Operand → Value} {c : Call} {x : Operand} {g : Nat} {vs : Array Value} {ty : TypeId} {w : World} (hc : c.callee = .value x) (ha : c.args.toList = []) (hx : ρ x = .func (.func g) #[] vs) :
  (resolve ρ c ty).run P w = .ok { target := .fn (.func g) vs, args := #[] } w := by
 have he : c.args = #[] := by simp_all
 simp [resolve, hc, he, hx, Deferred.ofValue]
theorem Sj (hch : ch.Ok P gl) (hrd : rd.Ok P gl) {all : List Oper} {n : Nat} {d0 : List Deferred} {w0 : World} {sF : St} {g : Nat} {caps : List AV} {Q : Exit → Act → World → Prop}
  (hQ : ∀ (a : Act) (w : World) (m : Nat → Lc) (H : HV) (vs : Array Value), a.defers = { target := .fn (.func g) vs, args := #[] } :: d0 → Q8 B w0 w → RelS m H B H0 gl rest sF a.tmps w → caps.length = vs.size →
   (∀ (j : Nat) (x : AV) (v : Value), caps[j]? = some x → vs[j]? = some v → RV H (sF.env m) x v) → Q .normal a w) :
  ∀ (pre l : List Oper) (st : St) (a : Act) (w : World) (m : Nat → Lc) (H : HV), all = pre ++ l → Ez P gl ch rd l st = some (sF, g, caps) → a.defers = d0 → Q8 B w0 w → RelS m H B H0 gl rest st a.tmps w →
   wpOpsIn (FW none) n P all.toArray Q (List.range' pre.length l.length) a w
 | pre, [], st, a, w, m, H, _, hk, _, _, _ => by cases hk
 | pre, [o], st, a, w, m, H, he, hk, hd, hb, hr => by
  simp only [Ez] at hk
  split at hk
  ·rename_i x hx
   cases hk
   unfold defOp at hx
   split at hx <;> first | cases hx | skip
   rename_i c ho
   split at hx <;> first | cases hx | skip
   rename_i hg
   split at hx <;> first | cases hx | skip
   rename_i hdst
   split at hx <;> first | cases hx | skip
   rename_i x hc
   split at hx <;> first | cases hx | skip
   rename_i hargs
   split at hx <;> first | cases hx | skip
   rename_i hev
   have hrv := hr.ev x
   rw [hev] at hrv
   obtain ⟨vs, hu, hl, hrel⟩ := hrv.fn_inv
   have hoa : all.toArray[pre.length]? = some o := by simp_all
   simp only [List.length_cons, List.length_nil, List.range'_succ, List.range'_zero, wpOpsIn, hoa]
   rw [if_pos (by simp [Region.wanted, hg])]
   refine ⟨fun _ _ => trivial, ?_⟩
   have hsem : (o.semAt (FW none).round a.eval).run P w = .ok (.defer { target := .fn (.func g) vs, args := #[] }) w := by
    show (execOp a.eval o).run P w = _
    unfold execOp
    simp only [ho, Sem.run_bind, ES hc hargs hu, Result.andThen_ok, Sem.run_pure]
   rw [hsem, Oper.uponIn_defer, hdst]
   exact hQ _ w m H vs (by show _ :: a.defers = _; rw [hd]) hb hr hl hrel
  ·cases hk
 | pre, o :: o2 :: l2, st, a, w, m, H, he, hk, hd, hb, hr => by
  rw [List.length_cons, List.range'_succ]
  simp only [wpOpsIn]
  have ho : all.toArray[pre.length]? = some o := by simp_all
  simp only [ho]
  have ih := Sj hch hrd (all := all) (n := n) hQ (pre ++ [o]) (o2 :: l2)
  simp only [List.length_append, List.length_cons, List.length_nil, Nat.zero_add, List.append_assoc, List.singleton_append] at ih
  simp only [Ez] at hk
  split at hk
  ·rename_i hdst
   split at hk
   ·rename_i hg
    rw [if_pos (by simp [Region.wanted, hg])]
    split at hk
    ·rename_i s hs
     exact L4 hch hrd hr hdst hs none n _ _ fun a' w' m' H' hd' hb' hr' => ih s a' w' m' H' he hk (hd'.trans hd) (hb.trans hb') hr'
    ·cases hk
   ·cases hk
  ·cases hk
theorem NB (hch : ch.Ok P gl) (hrd : rd.Ok P gl) (hmix : P.follows .mixedOrders = true) (n fl : Nat) : ∀ (c : Code) (st s1 : St) (g : Nat) (caps : List AV) (r : List Code), QB c = true → N9 P gl ch rd fl c st = some (s1, g, caps, r) →
  (∀ x ∈ r, QB x = true) ∧ ∀ (m : Nat → Lc) (H : HV) (a : Act) (w : World), RelS m H B H0 gl rest st a.tmps w → ∀ Q : Exit → Act → World → Prop,
   (∀ (a' : Act) (w' : World) (m' : Nat → Lc) (H' : HV) (vs : Array Value), a'.defers = { target := .fn (.func g) vs, args := #[] } :: a.defers → Q8 B w w' → RelS m' H' B H0 gl rest s1 a'.tmps w' → caps.length = vs.size →
    (∀ (j : Nat) (x : AV) (v : Value), caps[j]? = some x → vs[j]? = some v → RV H' (s1.env m') x v) → DT (FW none) n P Q r a' w') → c.wpIn (FW none) n P Q a w
 | .region id ops false, st, s1, g, caps, r, hok, hk => by
  simp only [N9] at hk
  split at hk
  ·rename_i s g' caps' hs
   cases hk
   refine ⟨by simp, fun m H a w hr Q hQ => wpIn_region ?_⟩
   have := Sj hch hrd (all := ops.toList) (n := n) (d0 := a.defers) (w0 := w) (Q := Q) (fun a' w' m' H' vs h1 h2 h3 h4 h5 => hQ a' w' m' H' vs h1 h2 h3 h4 h5) [] ops.toList st a w m H rfl hs rfl (Q8.refl _ _) hr
   simp_all [List.range_eq_range']
  ·cases hk
 | .seq x y, st, s1, g, caps, r, hok, hk => by
  simp only [N9] at hk
  simp only [QB, Bool.and_eq_true] at hok
  split at hk
  ·rename_i s g' caps' r' hs
   cases hk
   obtain ⟨o1, h1⟩ := NB hch hrd hmix n fl x st _ _ _ _ hok.1 hs
   refine ⟨fun z hz => (List.mem_append.1 hz).elim (o1 z) fun h => by simp_all, fun m H a w hr Q hQ => wpIn_seq (h1 m H a w hr _ fun a' w' m' H' vs q1 q2 q3 q4 q5 => Ei _ _ _ (hQ a' w' m' H' vs q1 q2 q3 q4 q5))⟩
  ·split at hk
   ·rename_i s hs
    obtain ⟨o1, h1⟩ := NB hch hrd hmix n fl y s _ _ _ _ hok.2 hk
    refine ⟨o1, fun m H a w hr Q hQ => wpIn_seq (wpIn_mono (Cv hch hrd hmix true none (fun _ => rfl) n fl x st .normal s [] hok.1 hs B H0 rest m H a w hr) fun e a' w' hq => ?_)⟩
    obtain ⟨rfl, m', H', D, hD, hd, hlp, hb, hr'⟩ := hq
    have : D = [] := by simp_all
    subst this
    exact h1 m' H' a' w' hr' Q fun a2 w2 m2 H2 vs q1 q2 q3 q4 q5 => hQ a2 w2 m2 H2 vs (by rw [q1, hd]; rfl) (hb.trans q2) q3 q4 q5
   ·cases hk
 | .skip, _, _, _, _, _, _, hk => by cases hk
 | .label _, _, _, _, _, _, _, hk => by cases hk
 | .exit _, _, _, _, _, _, _, hk => by cases hk
 | .ret, _, _, _, _, _, _, hk => by cases hk
 | .region _ _ true, _, _, _, _, _, _, hk => by cases hk
 | .cond .., _, _, _, _, _, _, hk => by cases hk
 | .block .., _, _, _, _, _, _, hk => by cases hk
 | .loop _, _, _, _, _, _, _, hk => by cases hk
 | .rangeFunc .., _, _, _, _, _, _, hk => by cases hk
 | .scope _, _, _, _, _, _, _, hk => by cases hk
 | .goto _, _, _, _, _, _, _, hk => by cases hk
 | .refuse _, _, _, _, _, _, _, hk => by cases hk
theorem Rv (hch : ch.Ok P gl) (hrd : rd.Ok P gl) (hmix : P.follows .mixedOrders = true) (n fl : Nat) : ∀ (l : List Code) (st : St) (ex : Exit) (st' : St) (ds : List Nat), (∀ x ∈ l, QB x = true) → Es P gl ch rd fl l st = some (ex, st', ds) →
  ∀ (rest : List (AV × Value)) (m : Nat → Lc) (H : HV) (a : Act) (w : World), RelS m H B H0 gl rest st a.tmps w → DT (FW none) n P (fun e a' w' => e = ex ∧ Vn gl B H0 rest a w st' ds a' w') l a w
 | [], st, ex, st', ds, _, hk, rest, m, H, a, w, hr => by cases hk; exact ⟨rfl, .nil rfl (Q8.refl _ _) hr⟩
 | c :: cs, st, ex, st', ds, hok, hk, rest, m, H, a, w, hr => by
  simp only [Es] at hk
  have hx := fun e s d h => Cv hch hrd hmix true none (fun _ => rfl) n fl c st e s d (hok c (by simp)) h B H0 rest m H a w hr
  split at hk
  ·rename_i s d hs
   split at hk
   ·rename_i e2 s2 d2 hs2
    cases hk
    refine wpIn_mono (hx _ _ _ hs) fun e a' w' hq => ?_
    obtain ⟨rfl, m', H', D, hD, hd, hlp, hb, hr'⟩ := hq
    have ih := Rv hch hrd hmix n fl cs s _ _ _ (fun x hx => hok x (by simp [hx])) hs2 _ m' H' a' w' (hr'.more hlp)
    exact DU cs _ _ ih fun e a2 w2 hq => ⟨hq.1, Vn.then (s1 := s) hD hd hb hq.2⟩
   ·cases hk
  ·rename_i hno
   refine wpIn_mono (hx _ _ _ hk) fun e a' w' hq => ?_
   obtain ⟨rfl, hq⟩ := hq
   cases e with
   | normal => simp_all
   | _ => exact ⟨rfl, hq⟩
def xdef (P : Program) (gl : Nat → AV) (gd : Nat → Bool) (fl : Nat) (ch : Ql) (rd : XO) (g : Nat) (caps : List AV) (hp : Tr Box) (nx : Nat) : Option (Tr Box × Nat) :=
 bif gd g then (match P.funcs[g]? with
  | some fn => match fn.body with
   | some c => bif Nat.ble caps.length fn.ntmps then (match KE P gl ch rd true fl c ⟨fn.ntmps, YS 0 caps, hp, nx⟩ with
    | some (ex, s, []) => bif GN ex then (match Ws P s fn.results.toList with
     | some _ => some (s.hp, s.nx)
     | none => none) else none
    | _ => none) else none
   | none => none
  | none => none) else none
def xfunD (P : Program) (gl : Nat → AV) (gd : Nat → Bool) (fl : Nat) (ch : Ql) (rd : XO) : Ql := fun f args hp nx =>
 bif gd f then (match P.funcs[f]? with
  | some fn => match fn.body with
   | some c => bif Nat.ble args.length fn.ntmps then (match N9 P gl ch rd fl c ⟨fn.ntmps, YS 0 args, hp, nx⟩ with
    | some (s1, g, caps, r) => match Es P gl ch rd fl r s1 with
     | some (ex, s, ds) => bif GN ex then (match shut ds s.hp with
      | some hp1 => match xdef P gl gd fl ch rd g caps hp1 s.nx with
       | some (hp2, nx2) => match Ws P (s.setHp hp2 nx2) fn.results.toList with
        | some r => some (r, hp2, nx2)
        | none => none
       | none => none
      | none => none) else none
     | none => none
    | none => none) else none
   | none => none
  | none => none) else none
theorem TX {m : Nat → Lc} {H : HV} {F : Fence} {n : Nat} {fn : Func} {tmps : Array Value} {R : Ending → World → Prop} {nx : Nat} {hp' : Tr Box} {T : List Deferred} : ∀ (D : List (Nat × Nat)) (hp : Tr Box) (w : World), RelH m H B H0 gl (lkb hp) nx w → (∀ p ∈ D, (Q5 (lkb hp) m).lp p.1 = some p.2) → shut (D.map (·.1)) hp = some hp' →
  (∀ w', RelH m H B H0 gl (lkb hp') nx w' → Env.le (Q5 (lkb hp) m) (Q5 (lkb hp') m) → Q8 B w w' → LeavesInM F n P fn tmps R T .returning w') → LeavesInM F n P fn tmps R (Nt D ++ T) .returning w
 | [], hp, w, h, _, hk, hQ => by
  cases hk
  exact hQ w h (.refl _) (Q8.refl _ _)
 | (id, l) :: D, hp, w, h, hD, hk, hQ => by
  simp only [List.map_cons, shut] at hk
  split at hk
  ·rename_i hid
   have hl : (m id).g = l := by
    have := hD (id, l) (by simp)
    simp_all [SY]
   have hobj : w.heap[(m id).g]? = some (.deferred (some [])) := h.box _ _ hid
   obtain ⟨hh2, hE2, hb2⟩ := h.putObj hid rfl (b' := .defb false) rfl (.deferred none) (fun C e fr q => by simp_all) (fun E' hE' => World.putObj_heap_same (h.sep _ _ hid).2.1)
   rw [← Z1] at hh2 hE2
   rw [hl] at hobj hh2 hb2
   refine ⟨by simp, .inl ⟨l, _, rfl, run_takeDeferred hobj, ?_⟩⟩
   exact TX D _ _ hh2 (fun p hp => hE2.lp _ _ (hD p (List.mem_cons_of_mem _ hp))) hk (fun w' h3 hE3 hb3 => hQ w' h3 (hE2.trans hE3) (hb2.trans hb3))
  ·cases hk
theorem RelS.frame {m : Nat → Lc} {H : HV} {hp : Tr Box} {nx : Nat} {w : World} (hh : RelH m H B H0 gl (lkb hp) nx w) {n : Nat} {args : List AV} {vs : Array Value} (hle : args.length ≤ n) (hl : args.length = vs.size) (hv : ∀ (j : Nat) (x : AV) (v : Value), args[j]? = some x → vs[j]? = some v → RV H (Q5 (lkb hp) m) x v)
  (hrest : ∀ p ∈ rest, RV H (Q5 (lkb hp) m) p.1 p.2) : RelS m H B H0 gl rest ⟨n, YS 0 args, hp, nx⟩ (vs ++ Array.replicate (n - vs.size) Go.undef) w := by
 refine ⟨hh, by simp; omega, fun k => ?_, hrest⟩
 show RV H _ (lk .undef (YS 0 args) k) _
 rw [Dg, if_pos (Nat.zero_le _), Nat.sub_zero]
 cases hx : args[k]? with
 | none => exact .imm _ _ (.undef _)
 | some x =>
  have hk : k < vs.size := by grind
  have hv' : (vs ++ Array.replicate (n - vs.size) Go.undef).getD k Go.undef = vs[k] := by
   rw [Array.getD_eq_getD_getElem?, Array.getElem?_append_left hk, Array.getElem?_eq_getElem hk]; rfl
  rw [hv']
  exact hv k x _ hx (Array.getElem?_eq_getElem hk)
theorem xdef_ok {gd : Nat → Bool} {fl : Nat} (hp : Je P gd) (hch : ch.Ok P gl) (hrd : rd.Ok P gl) {g : Nat} {caps : List AV} {hp1 hp2 : Tr Box} {nx nx2 : Nat} (hk : xdef P gl gd fl ch rd g caps hp1 nx = some (hp2, nx2)) {m : Nat → Lc} {H : HV} {w : World} {us : Array Value}
  (hh : RelH m H B H0 gl (lkb hp1) nx w) (hl : caps.length = us.size) (hv : ∀ (j : Nat) (x : AV) (v : Value), caps[j]? = some x → us[j]? = some v → RV H (Q5 (lkb hp1) m) x v) (hrest : ∀ p ∈ rest, RV H (Q5 (lkb hp1) m) p.1 p.2) :
  (callFunc g us).run P w = .ok (.enter g us) w ∧ CallsDIn (FW none) 0 P g us .returning w fun e u' w' => u' = .returning ∧ ∃ v m' H', e = .returned v ∧ Q8 B w w' ∧ RelH m' H' B H0 gl (lkb hp2) nx2 w' ∧ ∀ p ∈ rest, RV H' (Q5 (lkb hp2) m') p.1 p.2 := by
 unfold xdef at hk
 cases hg : gd g with
 | false => simp_all
 | true =>
 rw [hg] at hk
 simp only [cond_true] at hk
 have hok := hp.fn g hg
 unfold okFn at hok
 split at hk <;> first | cases hk | skip
 rename_i fn hf
 rw [hf] at hok
 simp only [Bool.and_eq_true, bne_iff_ne] at hok
 obtain ⟨hname, hok⟩ := hok
 split at hk <;> first | cases hk | skip
 rename_i c hb
 rw [hb] at hok
 simp only at hok
 cases hle : Nat.ble caps.length fn.ntmps with
 | false => simp_all
 | true =>
 rw [hle] at hk
 simp only [cond_true] at hk
 have hle := Nat.le_of_ble_eq_true hle
 split at hk <;> first | cases hk | skip
 rename_i ex s hx
 cases hex : GN ex with
 | false => simp_all
 | true =>
 rw [hex] at hk
 simp only [cond_true] at hk
 split at hk <;> first | cases hk | skip
 rename_i r hr
 refine ⟨U0 hf (by simp_all) (by grind) us w, ?_⟩
 have h0 := RelS.frame (rest := rest) hh hle hl hv hrest
 have hcode := Cv hch hrd hp.mix true none (fun _ => rfl) 0 fl c _ ex s [] hok hx B H0 rest m H { tmps := us ++ Array.replicate (fn.ntmps - us.size) Go.undef, defers := [] } w h0
 refine callsDIn_of_wp hf hb trivial (wpIn_mono hcode fun e a' w' hq => ?_)
 obtain ⟨rfl, m', H', D, hD, hd, hlp, hbl, hr2⟩ := hq
 have : D = [] := by simp_all
 subst this
 obtain ⟨v, hv1, _⟩ := Cr hr2 hr
 have hgo : a'.defers = [] ∧ ∃ v, (results fn a'.tmps).run P w' = .ok v w' ∧ ∃ v' m' H', Ending.returned v = .returned v' ∧ Q8 B w w' ∧ RelH m' H' B H0 gl (lkb s.hp) s.nx w' ∧ ∀ p ∈ rest, RV H' (Q5 (lkb s.hp) m') p.1 p.2 :=
  ⟨by rw [hd]; rfl, v, hv1, v, m', H', rfl, hbl, hr2.heap, hr2.rest⟩
 cases e with
 | normal => exact hgo
 | ret => exact hgo
 | _ => cases hex
theorem PJ {gd : Nat → Bool} {fl : Nat} (hp : Je P gd) (hch : ch.Ok P gl) (hrd : rd.Ok P gl) : Ql.Ok P gl (xfunD P gl gd fl ch rd) := by
 intro f args hpx nx r hp' nx' hk
 unfold xfunD at hk
 cases hg : gd f with
 | false => simp_all
 | true =>
 rw [hg] at hk
 simp only [cond_true] at hk
 have hok := hp.fn f hg
 unfold okFn at hok
 split at hk <;> first | cases hk | skip
 rename_i fn hf
 rw [hf] at hok
 simp only [Bool.and_eq_true, bne_iff_ne] at hok
 obtain ⟨hname, hok⟩ := hok
 split at hk <;> first | cases hk | skip
 rename_i c hb
 rw [hb] at hok
 simp only at hok
 cases hle : Nat.ble args.length fn.ntmps with
 | false => simp_all
 | true =>
 rw [hle] at hk
 simp only [cond_true] at hk
 have hle := Nat.le_of_ble_eq_true hle
 split at hk <;> first | cases hk | skip
 rename_i s1 g caps l hx
 split at hk <;> first | cases hk | skip
 rename_i ex s ds hxs
 cases hex : GN ex with
 | false => simp_all
 | true =>
 rw [hex] at hk
 simp only [cond_true] at hk
 split at hk <;> first | cases hk | skip
 rename_i hp1 hshut
 split at hk <;> first | cases hk | skip
 rename_i hp2 nx2 hdef
 split at hk <;> first | cases hk | skip
 rename_i hr'
 intro m H B H0 rest w vs hh hl hargs hrest
 refine .inl ⟨U0 hf (by simp_all) (by grind), ?_⟩
 have h0 := RelS.frame (rest := rest) hh hle hl hargs hrest
 obtain ⟨hokl, hD⟩ := NB (B := B) (H0 := H0) (rest := rest) hch hrd hp.mix 0 fl c _ s1 g caps l hok hx
 refine CallsIn.calls (F := FW none) (callsIn_of_wp_marks hf hb trivial (hD m H { tmps := vs ++ Array.replicate (fn.ntmps - vs.size) Go.undef, defers := [] } w h0 _ fun a1 w1 m1 H1 us hdf hb1 hr1 hcl hcv => ?_)) (fun k d hd => by grind [FW])
 have hz : ∀ p ∈ caps.zip us.toList, RV H1 (s1.env m1) p.1 p.2 := fun p hp => by
  grind [List.getElem?_of_mem, List.getElem?_zip_eq_some]
 refine DU _ _ _ (Rv hch hrd hp.mix 0 fl l s1 ex s ds hokl hxs (caps.zip us.toList ++ rest) m1 H1 a1 w1 ⟨hr1.heap, hr1.size, hr1.slot, fun p hp => (List.mem_append.1 hp).elim (hz p) (hr1.rest p)⟩) fun e a' w' hq => ?_
 obtain ⟨rfl, m', H', D, hD', hd, hlp, hbl, hr2⟩ := hq
 subst hD'
 have hgo : LeavesInM (FW none) 0 P fn a'.tmps (fun e w' => ∃ v m' H', e = .returned v ∧ Q8 B w w' ∧ RelH m' H' B H0 gl (lkb hp') nx' w' ∧ RV H' (Q5 (lkb hp') m') r v ∧ ∀ p ∈ rest, RV H' (Q5 (lkb hp') m') p.1 p.2) a'.defers .returning w' := by
  rw [hd, hdf]
  refine TX D _ w' hr2.heap hlp hshut fun w3 h3 hE3 hb3 => ?_
  have hr3 : RelS m' H' B H0 gl (caps.zip us.toList ++ rest) (s.setHp hp1 s.nx) a'.tmps w3 := ⟨h3, hr2.size, fun k => (hr2.slot k).mono (.refl _) hE3, fun p hp => (hr2.rest p hp).mono (.refl _) hE3⟩
  obtain ⟨hent, hcd⟩ := xdef_ok (rest := (List.range s.n).map (fun k => (s.get k, a'.tmps.getD k Go.undef)) ++ rest) hp hch hrd hdef h3 hcl (fun j x v hx hv => by
   refine hr3.rest (x, v) (List.mem_append_left _ (List.mem_of_getElem? (i := j) ?_))
   grind) (fun p hp => by
   rcases List.mem_append.1 hp with hp | hp
   ·obtain ⟨k, _, rfl⟩ := List.mem_map.1 hp
    exact hr3.slot k
   ·exact hr3.rest p (List.mem_append_right _ hp))
  refine ⟨by simp, .inr ⟨fun h => by simp [FW] at h, .func g, us, g, us, rfl, ?_, fun _ _ => trivial, hcd.mono fun e u' w4 ⟨hu, v, m2, H2, he, hb4, hh4, hrest4⟩ => ?_⟩⟩
  ·show (callFunc g (#[] ++ us)).run P w3 = _
   simp_all
  ·subst hu; subst he
   have hr4 : RelS m2 H2 B H0 gl rest (s.setHp hp' nx') a'.tmps w4 := by
    refine ⟨hh4, hr3.size, fun k => ?_, fun p hp => hrest4 p (List.mem_append_right _ hp)⟩
    rcases Nat.lt_or_ge k s.n with hlt | hge
    ·exact hrest4 (s.get k, a'.tmps.getD k Go.undef) (List.mem_append_left _ (List.mem_map.2 ⟨k, List.mem_range.2 hlt, rfl⟩))
    ·have hu : a'.tmps.getD k Go.undef = Go.undef := by rw [Array.getD_eq_getD_getElem?, Array.getElem?_eq_none (by rw [hr3.size]; exact hge)]; rfl
     have := hr3.slot k
     rw [hu] at this ⊢
     exact LV this
   obtain ⟨v, hv, hrv⟩ := Cr hr4 hr'
   exact ⟨v, hv, v, m2, H2, rfl, (hb1.trans hbl).trans (hb3.trans hb4), hh4, hrv, hr4.rest⟩
 cases e with
 | normal => exact hgo
 | ret => exact hgo
 | _ => cases hex
def xcmp (nf : Nat) : Ql := fun f args hp nx => bif Nat.beq f nf then (match args with
 | [.str a, .str b] => some (.int .i64 (Lib.compareBytes a b), hp, nx)
 | _ => none) else none
theorem xcmp_ok {nf : Nat} {P : Program} {gl : Nat → AV} (h : ∀ (a b : ByteArray) (w : World), (callFunc nf #[.string a, .string b]).run P w = .ok (.value (.int .i64 (Lib.compareBytes a.data.toList b.data.toList))) w) : Ql.Ok P gl (xcmp nf) := by
 intro f args hp nx r hp' nx' hk
 unfold xcmp at hk
 cases hf : Nat.beq f nf with
 | false => simp_all
 | true =>
  rw [hf] at hk
  obtain rfl := Nat.eq_of_beq_eq_true hf
  simp only [cond_true] at hk
  split at hk <;> first | cases hk | skip
  rename_i a b
  intro m H B H0 rest w vs hh hl hargs hrest
  obtain ⟨v0, v1, rfl⟩ : ∃ v0 v1, vs = #[v0, v1] := by
   rcases vs with ⟨_ | ⟨a, _ | ⟨b, _ | ⟨c, r⟩⟩⟩⟩ <;> simp at hl
   simp_all
  have h0 := (hargs 0 _ v0 rfl rfl).str_inv
  have h1 := (hargs 1 _ v1 rfl rfl).str_inv
  subst h0; subst h1
  exact .inr ⟨_, w, h _ _ w, _, m, H, rfl, Q8.refl _ _, hh, .imm _ _ (.int _ _), hrest⟩
end
end HY
end
section
namespace HY
open Go Go.RowKit
abbrev Jb := List (Nat × List AV × AV × Tr Box × Nat)
def ME (f : Nat) (ts : List AV) : Jb → Option (AV × Tr Box × Nat)
 | [] => none
 | e :: r => match Nat.beq e.1 f && VV (avEq 12) e.2.1 ts with
  | true => some e.2.2
  | false => ME f ts r
def memoHas (f : Nat) (T : Jb) : Bool := T.any fun e => Nat.beq e.1 f
def memoCh (T : Jb) : Ql := fun f ts _ _ => ME f ts T
def UL (P : Program) (gl : Nat → AV) (T : Jb) : Prop := ∀ e ∈ T, KW P gl e.1 e.2.1 e.2.2.1 e.2.2.2.1 e.2.2.2.2
theorem IP {P : Program} {gl : Nat → AV} {f : Nat} {ts : List AV} {r : AV} {hp' : Tr Box} {nx' : Nat} : ∀ {T : Jb}, UL P gl T → ME f ts T = some (r, hp', nx') → KW P gl f ts r hp' nx'
 | [], _, h => by cases h
 | ⟨f', ts', r', hp2, nx2⟩ :: T, hT, h => by
  simp only [ME] at h
  split at h
  ·rename_i hc
   rw [Bool.and_eq_true] at hc
   have h1 := Nat.eq_of_beq_eq_true hc.1
   have h2 := Kp (M2 12) hc.2
   cases h
   have := hT _ (List.mem_cons_self ..)
   subst h1; subst h2
   exact this
  ·exact IP (fun e he => hT e (by simp [he])) h
def T4 (hp : Tr Box) (nx : Nat) (o : Option (AV × Option (Nat × Box))) : Option (AV × Tr Box × Nat) := match o with
 | some (v, some (id, b)) => some (v, pt hp id b, nx + 1)
 | some (v, none) => some (v, hp, nx + 1)
 | none => none
theorem S8 {P : Program} {gl : Nat → AV} {ch : Ql} (hch : ∀ f ts r0 hp' nx', ch f ts .nil 0 = some (r0, hp', nx') → KW P gl f ts r0 hp' nx') {f : Nat} {args : List AV} {hp : Tr Box} {nx : Nat} {r : AV} {hp' : Tr Box} {nx' : Nat}
  (hk : T4 hp nx (Gr ch (lkb hp) nx f args) = some (r, hp', nx')) : Lo P gl f args hp nx r hp' nx' := by
 intro m H B H0 rest w vs hh hl hargs hrest
 have key : ∀ (v : AV) (ob : Option (Nat × Box)), Gr ch (lkb hp) nx f args = some (v, ob) → v = r → (match ob with | some (id, b) => pt hp id b | none => hp) = hp' → nx + 1 = nx' →
   Ans P f vs w fun e w' => ∃ v m' H', e = .returned v ∧ Q8 B w w' ∧ RelH m' H' B H0 gl (lkb hp') nx' w' ∧ RV H' (Q5 (lkb hp') m') r v ∧ ∀ p ∈ rest, RV H' (Q5 (lkb hp') m') p.1 p.2 := by
  intro v ob hx e1 e2 e3
  let st : St := ⟨1, .nil, hp, nx + 1⟩
  let a : Act := { tmps := #[Go.undef], defers := [] }
  have hr : RelS m H B H0 gl rest st a.tmps w := by
   refine ⟨{ hh with fresh := fun id hid => hh.fresh id (Nat.le_of_succ_le hid) }, rfl, fun k => ?_, hrest⟩
   have : st.get k = AV.undef := by show lk AV.undef .nil k = _; unfold lk; cases path k <;> rfl
   rw [this]; exact .imm _ _ (.undef _)
  have := Rx (P := P) (st := st) (a := a) (dst := some 0) hch hr rfl (hh.fresh nx (Nat.le_refl _)) (Nat.lt_succ_self nx) hl hargs hx
  refine this.mono fun e w' ⟨u, m', H', he, hb, hrel⟩ => ?_
  have hs := hrel.slot 0
  have hhp : (st.eff (some 0) (v, ob)).hp = hp' := by
   rw [← e2]; cases ob with
   | none => rfl
   | some b => rfl
  have hnx : (st.eff (some 0) (v, ob)).nx = nx' := by rw [UV, ← e3]
  have hg : (st.eff (some 0) (v, ob)).get 0 = r := by rw [KI, if_pos rfl, e1]
  rw [hg] at hs
  unfold St.env at hs
  rw [hhp] at hs
  have ht : (a.put (some 0) u).tmps.getD 0 Go.undef = u := rfl
  rw [ht] at hs
  have hheap := hrel.heap
  rw [hhp, hnx] at hheap
  refine ⟨u, m', H', he, hb, hheap, hs, fun p hp => ?_⟩
  have := hrel.rest p hp
  unfold St.env at this
  rwa [hhp] at this
 unfold T4 at hk
 split at hk
 ·rename_i v id b hx
  cases hk
  exact key _ _ hx rfl rfl rfl
 ·rename_i v hx
  cases hk
  exact key _ _ hx rfl rfl rfl
 ·cases hk
def xmemo (T : Jb) : Ql := fun f args hp nx => match memoHas f T with
 | true => T4 hp nx (Gr (memoCh T) (lkb hp) nx f args)
 | false => none
theorem PL {P : Program} {gl : Nat → AV} {T : Jb} (hT : UL P gl T) : Ql.Ok P gl (xmemo T) := by
 intro f args hp nx r hp' nx' hk
 unfold xmemo at hk
 split at hk
 ·exact S8 (fun f ts r0 hp' nx' h => IP hT h) hk
 ·cases hk
theorem CU {P : Program} {gl : Nat → AV} {ch : Ql} (hch : ch.Ok P gl) {f : Nat} {ts : List AV} {r : AV} {hp' : Tr Box} {nx' : Nat} (h : T4 .nil 0 (Gr ch (lkb .nil) 0 f ts) = some (r, hp', nx')) : KW P gl f ts r hp' nx' :=
 (S8 (fun _ _ _ _ _ h => (hch _ _ _ _ _ _ _ h).zero) h).zero
def CL (P : Program) (gl : Nat → AV) (gd : Nat → Bool) (fl : Nat) (xe : Ql) (T : Jb) : Nat → Ql × XO
 | 0 => (fun _ _ _ _ => none, fun _ _ _ _ => none)
 | k + 1 => (fun f args hp nx => match xmemo T f args hp nx with
  | some r => some r
  | none => bif gd f then (match xfun P gl gd fl (CL P gl gd fl xe T k).1 (CL P gl gd fl xe T k).2 f args hp nx with
   | some r => some r
   | none => xfunD P gl gd fl (CL P gl gd fl xe T k).1 (CL P gl gd fl xe T k).2 f args hp nx) else xe f args hp nx, fun id args hp nx => Sh P gl fl (CL P gl gd fl xe T k).1 (CL P gl gd fl xe T k).2 id args hp nx)
def xcallM (P : Program) (gl : Nat → AV) (gd : Nat → Bool) (fl : Nat) (xe : Ql) (T : Jb) (k : Nat) : Ql := (CL P gl gd fl xe T k).1
theorem Dk {P : Program} {gl : Nat → AV} {gd : Nat → Bool} {fl : Nat} {xe : Ql} {T : Jb} (hp : Je P gd) (he : xe.Ok P gl) (hT : UL P gl T) : ∀ k, Ql.Ok P gl (CL P gl gd fl xe T k).1 ∧ XO.Ok P gl (CL P gl gd fl xe T k).2
 | 0 => ⟨fun _ _ _ _ _ _ _ h => (by cases h), fun _ _ _ _ _ _ _ h => (by cases h)⟩
 | k + 1 => ⟨fun f args hpx nx r hp' nx' h => by
   simp only [CL] at h
   split at h
   ·rename_i r0 hm
    cases h
    exact PL hT _ _ _ _ _ _ _ hm
   ·cases hg : gd f with
    | false => rw [hg] at h; exact he _ _ _ _ _ _ _ h
    | true =>
     rw [hg] at h
     simp only [cond_true] at h
     split at h
     ·rename_i r0 hr; cases h; exact xfun_ok hp (Dk hp he hT k).1 (Dk hp he hT k).2 _ _ _ _ _ _ _ hr
     ·exact PJ hp (Dk hp he hT k).1 (Dk hp he hT k).2 _ _ _ _ _ _ _ h, FJ (Dk hp he hT k).1 (Dk hp he hT k).2 hp.mix fl⟩
theorem Dp {P : Program} {gl : Nat → AV} {gd : Nat → Bool} {fl : Nat} {xe : Ql} {T : Jb} (hp : Je P gd) (he : xe.Ok P gl) (hT : UL P gl T) (k : Nat) : Ql.Ok P gl (xcallM P gl gd fl xe T k) := (Dk hp he hT k).1
def isTrue (r : Option (AV × Tr Box × Nat)) : Bool := match r with | some (.bool true, _) => true | _ => false
end HY
end
section
namespace Go.Proofs.YtkgphhemcglgnaaGreatDoor
open Go HY
def spaces : List AV := (List.replicate 9 (.int .u8 0)) ++ (List.replicate 5 (.int .u8 1)) ++ (List.replicate 18 (.int .u8 0)) ++ [.int .u8 1] ++ (List.replicate 223 (.int .u8 0))
def gls : Nat → AV := fun g => bif Nat.beq g 0 then .ip 256 [.agg spaces] 0 0 else .undef
def gdMask : Nat := 1386335007159899871177539650738530515904954746129667442997097585808190759422965376564141270090081692417241154506698448224831668220
def gds : Nat → Bool := fun f => Nat.blt f 430 && Nat.testBit gdMask f
set_option maxRecDepth 1000000
theorem gds_all : ((List.range 430).all fun f => !gds f || okFn Tryz.prog f) = true := by kernel_rfl
theorem MF : Tryz.prog.follows .mixedOrders = true := by kernel_rfl
theorem JX : Je Tryz.prog gds := ⟨MF, fun f hf => by
 have h : f < 430 := by
  unfold gds at hf
  rw [Bool.and_eq_true] at hf
  exact Nat.le_of_ble_eq_true hf.1
 have := List.all_eq_true.1 gds_all f (List.mem_range.2 h)
 rw [hf] at this
 simpa using this⟩
end Go.Proofs.YtkgphhemcglgnaaGreatDoor
end
section
namespace Go.Proofs.YtkgphhemcglgnaaGreatDoor
open Go HY
set_option maxRecDepth 1000000
def ch0 : Ql := fun _ _ _ _ => none
theorem JV : Ql.Ok Tryz.prog gls ch0 := fun _ _ _ _ _ _ _ h => by cases h
noncomputable def wf0 : WF := wlev Tryz.prog gls ch0 gds 2000 (fun _ _ _ _ _ _ => False) 4
theorem Um : WF.Ok Tryz.prog gls wf0 := Al JV JX (fun _ _ _ _ _ _ h => h.elim) 4
noncomputable def W (f : Nat) (hs : Qz) (args : List AV) (r : AV) : Prop := wpure Tryz.prog gls ch0 wf0 gds 2000 f hs args r
noncomputable def WR (f r n : Nat) (hs : Qz) (ks : List Nat) (kb : List KB) (kx : List Nat) (kbx : List KB) (alts : List Alt) (vs : List AV) (bs : List Box) : Prop :=
 S3 Tryz.prog gls ch0 wf0 hs [] 2000 n (V8 Tryz.prog f (r + 1)) ks kb kx kbx alts vs bs (Nxt Tryz.prog gls [] n (V8 Tryz.prog f (r + 1)) ks kx alts)
theorem Pu1 {φ : Prop} {f : Nat} {hs : Qz} {args : List AV} {r : AV} (e : φ = W f hs args r) (h : φ) : Pu Tryz.prog gls f args r := Pu.of (hs := hs) JV Um JX (show W f hs args r from e ▸ h)
theorem Lp1 {φ : Prop} {f r n : Nat} {hs : Qz} {ks : List Nat} {kb : List KB} {kx : List Nat} {kbx : List KB} {alts : List Alt} {vs : List AV} {bs : List Box} (hok : QB (V8 Tryz.prog f (r + 1)) = true) (e : φ = WR f r n hs ks kb kx kbx alts vs bs) (h : φ) : Xt Tryz.prog gls [] n (V8 Tryz.prog f (r + 1)) ks vs bs kx alts :=
 Xt.step JV Um MF hok (show WR f r n hs ks kb kx kbx alts vs bs from e ▸ h)
noncomputable def WH (f : Nat) (hs : Qz) (kb : List KB) (args : List AV) (bs : List Box) (r : AV) (bs' : List Box) : Prop := wpureH Tryz.prog gls ch0 wf0 gds 2000 f hs kb args bs r bs'
theorem PuH1 {φ : Prop} {f : Nat} {hs : Qz} {kb : List KB} {args : List AV} {bs bs' : List Box} {r : AV} (e : φ = WH f hs kb args bs r bs') (h : φ) : PuH Tryz.prog gls f args bs r bs' := PuH.of (hs := hs) JV Um JX (show WH f hs kb args bs r bs' from e ▸ h)
abbrev PH (f : Nat) (args : List AV) (bs : List Box) (r : AV) (bs' : List Box) : Prop := PuH Tryz.prog gls f args bs r bs'
abbrev PU (f : Nat) (args : List AV) (r : AV) : Prop := Pu Tryz.prog gls f args r
abbrev LO (f r n : Nat) (ks : List Nat) (vs : List AV) (bs : List Box) (kx : List Nat) (alts : List Alt) : Prop := Xt Tryz.prog gls [] n (V8 Tryz.prog f (r + 1)) ks vs bs kx alts
theorem Lp2 {φ : Prop} {f r n : Nat} {hs : Qz} {ks : List Nat} {kb : List KB} {kx : List Nat} {kbx : List KB} {alts : List Alt} {vs : List AV} {bs : List Box} (h : φ) (hok : QB (V8 Tryz.prog f (r + 1)) = true := by kernel_rfl) (e : φ = WR f r n hs ks kb kx kbx alts vs bs := by kernel_rfl) : Xt Tryz.prog gls [] n (V8 Tryz.prog f (r + 1)) ks vs bs kx alts :=
 Xt.step JV Um MF hok (show WR f r n hs ks kb kx kbx alts vs bs from e ▸ h)
theorem Pu2 {φ : Prop} {f : Nat} {hs : Qz} {args : List AV} {r : AV} (h : φ) (e : φ = W f hs args r := by kernel_rfl) : Pu Tryz.prog gls f args r := Pu.of (hs := hs) JV Um JX (show W f hs args r from e ▸ h)
theorem PuH2 {φ : Prop} {f : Nat} {hs : Qz} {kb : List KB} {args : List AV} {bs bs' : List Box} {r : AV} (h : φ) (e : φ = WH f hs kb args bs r bs' := by kernel_rfl) : PuH Tryz.prog gls f args bs r bs' := PuH.of (hs := hs) JV Um JX (show WH f hs kb args bs r bs' from e ▸ h)
end Go.Proofs.YtkgphhemcglgnaaGreatDoor
end
section
namespace Go.Proofs.YtkgphhemcglgnaaGreatDoor
open Go HY
set_option maxRecDepth 1000000
set_option linter.unusedVariables false
noncomputable def WJ (f : Nat) (hs : Qz) (js : List (Nat × JH)) (l : Nat) (xs : List (List AV)) (args : List AV) (p : Option Nat) (b : Bool) (m : Nat) : Prop := jfun Tryz.prog gls ch0 wf0 gds 2000 f hs js l xs args p b m
theorem JF1 {φ : Prop} {f : Nat} {hs : Qz} {js : List (Nat × JH)} {l : Nat} {xs : List (List AV)} {args : List AV} {p : Option Nat} {b : Bool} {m : Nat} (e : φ = WJ f hs js l xs args p b m) (h : φ) : JF Tryz.prog gls l xs f args p b m := JF.of (hs := hs) (js := js) JV Um JX (show WJ f hs js l xs args p b m from e ▸ h)
abbrev JLo (f r n : Nat) (l : Nat) (xs : List (List AV)) (ks : List Nat) (vs : List AV) (bs : List Box) (p : Option Nat) (kx : List Nat) (x y : Exit × List AV) (m : Nat) : Prop := JL Tryz.prog gls l xs n (V8 Tryz.prog f (r + 1)) ks vs bs p kx x y m
noncomputable def WJR (f r n : Nat) (hs : Qz) (js : List (Nat × JH)) (l : Nat) (xs : List (List AV)) (ks : List Nat) (kb : List KB) (vs : List AV) (bs : List Box) (p : Option Nat) (kx : List Nat) (x y : Exit × List AV) (m : Nat) : Prop :=
 jround Tryz.prog gls ch0 wf0 hs js l xs 2000 n (V8 Tryz.prog f (r + 1)) ks kb vs bs p kx x y m (NxtJ Tryz.prog gls l xs n (V8 Tryz.prog f (r + 1)) ks kx x y m)
theorem JL1 {φ : Prop} {f r n : Nat} {hs : Qz} {js : List (Nat × JH)} {l : Nat} {xs : List (List AV)} {ks : List Nat} {kb : List KB} {vs : List AV} {bs : List Box} {p : Option Nat} {kx : List Nat} {x y : Exit × List AV} {m : Nat} (hok : (QB (V8 Tryz.prog f (r + 1)) && !Qr (V8 Tryz.prog f (r + 1)) && !VT x.1 && !VT y.1) = true) (e : φ = WJR f r n hs js l xs ks kb vs bs p kx x y m) (h : φ) : JLo f r n l xs ks vs bs p kx x y m := by
 simp only [Bool.and_eq_true, Bool.not_eq_true'] at hok
 exact JL.step (hs := hs) (js := js) JV Um MF hok.1.1.1 hok.1.1.2 hok.1.2 hok.2 (show WJR f r n hs js l xs ks kb vs bs p kx x y m from e ▸ h)
abbrev RG (f r n : Nat) (ks : List Nat) (vs : List AV) (alts : List Alt) (xs : List (List AV)) (bs : List Box) : Prop := Ua Tryz.prog gls [] n (rng Tryz.prog f (r + 1)).1 (rng Tryz.prog f (r + 1)).2.1 (rng Tryz.prog f (r + 1)).2.2 ks vs alts xs bs
noncomputable def WG (f r n : Nat) (hs : Qz) (ks : List Nat) (kb kbx : List KB) (vs : List AV) (alts : List Alt) (x : List AV) (xs : List (List AV)) (bs : List Box) : Prop :=
 wrng Tryz.prog gls ch0 wf0 hs [] 2000 n (rng Tryz.prog f (r + 1)).1 (rng Tryz.prog f (r + 1)).2.1 (rng Tryz.prog f (r + 1)).2.2 ks kb kbx vs alts x bs (NxtR Tryz.prog gls [] n (rng Tryz.prog f (r + 1)).1 (rng Tryz.prog f (r + 1)).2.1 (rng Tryz.prog f (r + 1)).2.2 ks vs alts xs)
theorem Rg1 {φ : Prop} {f r n : Nat} {hs : Qz} {ks : List Nat} {kb kbx : List KB} {vs : List AV} {alts : List Alt} {x : List AV} {xs : List (List AV)} {bs : List Box} (hok : (QB (rng Tryz.prog f (r + 1)).2.1 && QB (rng Tryz.prog f (r + 1)).2.2) = true) (e : φ = WG f r n hs ks kb kbx vs alts x xs bs) (h : φ) : RG f r n ks vs alts (x :: xs) bs := by
 rw [Bool.and_eq_true] at hok
 exact Ua.step (hs := hs) JV Um MF hok.1 hok.2 (show WG f r n hs ks kb kbx vs alts x xs bs from e ▸ h)
theorem Rg0 {f r n : Nat} {ks : List Nat} {vs : List AV} {alts : List Alt} {bs : List Box} (h : Wx ks vs = true) (ho : Out alts .normal vs bs) : RG f r n ks vs alts [] bs := ⟨h, ho⟩
end Go.Proofs.YtkgphhemcglgnaaGreatDoor
end
