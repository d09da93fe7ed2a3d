/- The law of the order of costs. -/
import Derived.Test.YthgcadgcecbicaaGreatDoorZd2
namespace Go.Proofs.YthgcadgcecbicaaGreatDoor
open Go HX
set_option maxRecDepth 100000

def cmpHints (x y z : Bool) : List Bool := match x with
  | true => [true, y, z, true, true, y, true, z, true, false, true]
  | false => [false, y, z, false, true, y, true, z, true, true]
def cmpObs (a b c : Cost) (x y z : Bool) : List (Bool × Bool) := match x with
  | true => [(true, true), (lessZ b a, false), (true, true), (lessZ a c, z), (true, true), (lessZ b c, y), (true, true), (lessZ a b, true), (lessZ a c, z), (lessZ b c, y), (lessZ a b, true)]
  | false => [(true, true), (true, true), (lessZ a c, z), (true, true), (lessZ b c, y), (true, true), (lessZ a b, false), (lessZ a c, z), (lessZ b c, y), (lessZ a b, false)]

theorem cmp (a b c : Cost) (x y z : Bool) (h1 : (x && y && !z) = false) (h2 : (!x && !y && z) = false) :
    xfunS Tryz.prog gls 1000 (chOf c3) 4 [a.av, b.av, c.av] (cmpHints x y z) = some (.bool true, cmpObs a b c x y z) := by
  cases x <;> cases y <;> cases z <;> first | exact absurd h1 (by decide) | exact absurd h2 (by decide) | kernel_rfl

theorem cmp_ok (a b c : Cost) : PureOk Tryz.prog gls 4 [a.av, b.av, c.av] (.bool true) := by
  refine symOk progOk c3_ok rfl rfl (cmp a b c (lessZ a b) (lessZ b c) (lessZ a c) ?_ ?_) ?_ rfl (fun _ _ e => by cases e)
  · cases h1 : lessZ a b <;> cases h2 : lessZ b c <;> first | rfl | (rw [less_trans a b c h1 h2]; rfl)
  · cases h1 : lessZ a b <;> cases h2 : lessZ b c <;> first | rfl | (rw [less_weak a b c h1 h2]; rfl)
  · cases h1 : lessZ a b with
    | true => simp [cmpObs, h1, less_asymm a b h1]
    | false => simp [cmpObs, h1]
end Go.Proofs.YthgcadgcecbicaaGreatDoor
