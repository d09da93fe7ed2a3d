/- What alive answers, and the functions that the laws of this seat come to: checked once for all. -/
import Derived.Test.YthgcadgcecbicaaGreatDoorHxClose
import Derived.Test.YthgcadgcecbicaaGreatDoorProg
namespace Go.Proofs.YthgcadgcecbicaaGreatDoor
open Go HX

/-- The bytes that are spaces. -/
def spaces : List AV := (List.replicate 9 (.int .u8 0)) ++ (List.replicate 5 (.int .u8 1)) ++ (List.replicate 18 (.int .u8 0)) ++ [.int .u8 1] ++ (List.replicate 223 (.int .u8 0))
def gls : Nat → AV := fun g => bif Nat.beq g 0 then .ip 256 [.agg spaces] 0 0 else .undef

def gdMask : Nat := 226779502561316312420582591560619851771809725740501923706901744582268378103398341378323984
def gds : Nat → Bool := fun f => Nat.blt f 324 && Nat.testBit gdMask f

set_option maxRecDepth 1000000
theorem gds_all : ((List.range 324).all fun f => !gds f || okFn Tryz.prog f) = true := by kernel_rfl
theorem mixed : Tryz.prog.follows .mixedOrders = true := by kernel_rfl
theorem progOk : ProgOk Tryz.prog gds := ⟨mixed, fun f hf => by
  have h : f < 324 := by
    unfold gds at hf
    rw [Bool.and_eq_true] at hf
    exact Nat.le_of_ble_eq_true hf.1
  have := List.all_eq_true.1 gds_all f (List.mem_range.2 h)
  rw [hf] at this
  simpa using this⟩

def isTrue (r : Option (AV × Tr Box × Nat)) : Bool := match r with | some (.bool true, _) => true | _ => false
theorem alive_run : isTrue (xcall Tryz.prog gls gds 100000 40 9 [] .nil 0) = true := by kernel_rfl
theorem alive_ok : PureOk Tryz.prog gls 9 [] (.bool true) := by
  have h := alive_run
  unfold isTrue at h
  split at h
  · rename_i hp' nx' hr
    exact runOk progOk rfl hr rfl rfl
  · cases h
end Go.Proofs.YthgcadgcecbicaaGreatDoor
