/- The program of this seat: what the walks lean on. -/
import Derived.Test.YtcphiogbjdehhaaDoorHxLib
import Derived.Test.YtcphiogbjdehhaaDoorProg
import Derived.Laws.Externs
namespace Go.Proofs.YtcphiogbjdehhaaDoor
open Go HX

/-- The bytes that are spaces. -/
def spaces : List AV := (List.replicate 9 (.int .u8 0)) ++ (List.replicate 5 (.int .u8 1)) ++ (List.replicate 18 (.int .u8 0)) ++ [.int .u8 1] ++ (List.replicate 223 (.int .u8 0))
def pow10s : List AV := (List.range 20).map fun k => .int .u64 (10 ^ k : Nat)
def gdMask : Nat := 42535295944016641148367343302154911740
def gds : Nat → Bool := fun f => Nat.blt f 126 && Nat.testBit gdMask f

set_option maxRecDepth 1000000
theorem gds_all : ((List.range 126).all fun f => !gds f || okFn Tryd.prog f) = true := by kernel_rfl
theorem mixed : Tryd.prog.follows .mixedOrders = true := by kernel_rfl
theorem progOk : ProgOk Tryd.prog gds := ⟨mixed, fun f hf => by
  have h : f < 126 := by
    unfold gds at hf
    rw [Bool.and_eq_true] at hf
    exact Nat.le_of_ble_eq_true hf.1
  have := List.all_eq_true.1 gds_all f (List.mem_range.2 h)
  rw [hf] at this
  simpa using this⟩

theorem noEscape (x : Value) (w : World) : (callFunc 57 #[x]).run Tryd.prog w = .ok (.value x) w := by
  rw [run_callFunc_extern (fn := Tryd.f57) (e := Extern.AbiNoEscape.same) (by kernel_rfl) (by kernel_rfl) (by kernel_rfl) (by kernel_rfl) (by kernel_rfl) #[x] w]
  rfl
/-- Some number: what the longest needle of the library's own search is set to. -/
class ML where
  m : Int
variable [ML]
def gls : Nat → AV := fun g => bif Nat.beq g 0 then .ip 1 [.agg [.int .i64 ML.m]] 0 0 else bif Nat.beq g 1 then .ip 256 [.agg spaces] 0 0 else bif Nat.beq g 2 then .ip 20 [.agg pow10s] 0 0 else .undef
noncomputable def ch0 : CallH := xcall Tryd.prog gls gds 2000 12
theorem ch0_ok : CallH.Ok Tryd.prog gls ch0 := xcall_ok progOk 12
noncomputable def wf0 : WF := wlev Tryd.prog gls ch0 gds 2000 (exId 57) 4
theorem wf0_ok : WF.Ok Tryd.prog gls wf0 := wlev_ok ch0_ok progOk (exId_ok noEscape) 4
/-- What function f comes to on its arguments. -/
noncomputable def W (f : Nat) (hs : Hints) (args : List AV) (r : AV) : Prop := wpure Tryd.prog gls ch0 wf0 gds 2000 f hs args r
noncomputable def WF1 (f : Nat) (hs : Hints) (args : List AV) (sz len : Nat) (ds : List AV) : Prop := wfresh Tryd.prog gls ch0 wf0 gds 2000 f hs args sz len ds
/-- One round of the loop of function f that begins with region r. -/
noncomputable def WR (f r n : Nat) (hs : Hints) (ks : List Nat) (kb : List KB) (kx : List Nat) (kbx : List KB) (alts : List Alt) (vs : List AV) (bs : List Bx) (N : List AV → List Bx → Prop) : Prop :=
  wround Tryd.prog gls ch0 wf0 hs 2000 n (lcode Tryd.prog f (r + 1)) ks kb kx kbx alts vs bs N
noncomputable def WT (f : Nat) (hs : Hints) (args : List AV) (fs : List Bool) (r : AV) : Prop := wpureT Tryd.prog gls ch0 wf0 gds 2000 f hs args fs r
theorem PuT {F : Prop} {f : Nat} {hs : Hints} {args : List AV} {fs : List Bool} {r : AV} (e : F = WT f hs args fs r) (h : F) : Pu Tryd.prog gls f args r := Pu.ofT (hs := hs) ch0_ok wf0_ok progOk (show WT f hs args fs r from e ▸ h)
theorem Pu1 {F : Prop} {f : Nat} {hs : Hints} {args : List AV} {r : AV} (e : F = W f hs args r) (h : F) : Pu Tryd.prog gls f args r := Pu.of (hs := hs) ch0_ok wf0_ok progOk (show W f hs args r from e ▸ h)
theorem Fr1 {F : Prop} {f : Nat} {hs : Hints} {args : List AV} {sz len : Nat} {ds : List AV} (e : F = WF1 f hs args sz len ds) (h : F) (hl : ds.length = len * sz) (hp : 0 < sz) (st : Bool) (ht : ∀ hp, optL (tree hp st 12) ds = some ds) : Fresh Tryd.prog gls st f args sz len ds := Fresh.of (hs := hs) ch0_ok wf0_ok progOk (show WF1 f hs args sz len ds from e ▸ h) hl hp st ht
theorem WR1 {F : Prop} {f r n : Nat} {hs : Hints} {ks : List Nat} {kb : List KB} {kx : List Nat} {kbx : List KB} {alts : List Alt} {vs : List AV} {bs : List Bx} {N : List AV → List Bx → Prop} (e : F = WR f r n hs ks kb kx kbx alts vs bs N) (h : F) :
    ∃ hs, wround Tryd.prog gls ch0 wf0 hs 2000 n (lcode Tryd.prog f (r + 1)) ks kb kx kbx alts vs bs N := ⟨hs, show WR f r n hs ks kb kx kbx alts vs bs N from e ▸ h⟩
theorem Lp1 {f r n : Nat} {ks : List Nat} {kb : List KB} {kx : List Nat} {kbx : List KB} {alts : List Alt} (hok : okCode (lcode Tryd.prog f (r + 1)) = true) (I : Nat → List AV → List Bx → Prop)
    (h : ∀ j vs bs, I j vs bs → ∃ hs, wround Tryd.prog gls ch0 wf0 hs 2000 n (lcode Tryd.prog f (r + 1)) ks kb kx kbx alts vs bs (fun vs' bs' => ∃ i, i < j ∧ I i vs' bs')) {j : Nat} {vs : List AV} {bs : List Bx} (hI : I j vs bs) : LoopOk Tryd.prog gls n (lcode Tryd.prog f (r + 1)) ks vs bs kx alts :=
  LoopOk.intro ch0_ok wf0_ok mixed hok 2000 I h hI
theorem Run1 {fl k f : Nat} {args : List AV} {r : AV} (h : runR (xcall Tryd.prog gls gds fl k f args .nil 0) = some r) : Pu Tryd.prog gls f args r := Pu.run progOk h
end Go.Proofs.YtcphiogbjdehhaaDoor
