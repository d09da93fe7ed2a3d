/-
  NARROWER THAN 'FOR EVERY INPUT', by the rows' own cells (each row's printed sentence says how): DependConflicts: loops · DependPairs: loops.
  DERIVED. THE GIVEN ROWS OF THIS SEAT. 2 by the template 'for every input the law returns true; each argument reads behind the call as it read before'; 0 by the template 'total and deterministic' (their statements: YtokfigmmegifeaaGreatTotals.lean).
  GIVEN WITH THE SEED: the statements are not yours to turn. If you find one false, say at which input.
  Laid BY PROGRAM, IN A SANDBOX (cutbox-rows.mjs): the forced cells as the released guide's own fill.sh prints them over the translation abe150d2d317f561… (all of the seat's roots in one cut). By AI agents, Wed Nov 11 2026. No macro, syntax, notation, axiom, sorry.
-/
import Derived.Test.YtokfigmmegifeaaGreatChecked
import GoSem.Claim
import GoSem.ClaimJoined
import GoSem.ClaimMapViews
import Derived.JoinedTies
import Derived.KernelRfl
namespace Go.Proofs.YtokfigmmegifeaaGreat
/- THE CELL 'sum', in the pinned program and in every row, IS THE sha256 OF THE DUMP (.gsa) THAT YtokfigmmegifeaaGreatProg.lean LOADS. Nothing in Lean hashes anything: it is a label: what it is worth is what the hold of that sum in a sandbox is worth. -/
noncomputable def Tryz.pinned : Pinned := { name := "ytokfigmmegifeaagreat", sum := "abe150d2d317f56137ea216ca5611c7391bea05e6a54dec7cf2d7d92676e92bc", checked := Tryz.checked }
namespace Rows
def none {H : Type} : Left H := { results := [], args := [] }

/-- 'brocadelaw34.DependConflicts': WHATEVER THE INPUT: true; the input reads as it did. -/
def dependConflictsSpec : ChangeSpec := { name := "dependConflicts", fn := fun _ => fun
  | [d1, d2] => { results := [.lit (.bool true)], args := [d1, d2] }
  | _ => none }
def dependConflictsRow : OpenClaim := { program := "ytokfigmmegifeaagreat", sum := "abe150d2d317f56137ea216ca5611c7391bea05e6a54dec7cf2d7d92676e92bc", func := "brocade/brocadelaw34.DependConflicts", spec := "dependConflicts", unfollowed := true, recurses := true, loops := true, apart := false }
def DependConflictsSaid : Prop := dependConflictsRow.holds Tryz.pinned (OpenSpec.ofChange dependConflictsSpec)

/-- ITS FALSE NEIGHBOUR: 'it returns false'. Refute it at one input. -/
def dependConflictsWrong : ChangeSpec := { name := "dependConflicts", fn := fun _ => fun
  | [d1, d2] => { results := [.lit (.bool false)], args := [d1, d2] }
  | _ => none }
def DependConflictsWrongFalsely : Prop := dependConflictsRow.holds Tryz.pinned (OpenSpec.ofChange dependConflictsWrong)

/-- 'brocadelaw34.DependPairs': WHATEVER THE INPUT: true; the input reads as it did. -/
def dependPairsSpec : ChangeSpec := { name := "dependPairs", fn := fun _ => fun
  | [d] => { results := [.lit (.bool true)], args := [d] }
  | _ => none }
def dependPairsRow : OpenClaim := { program := "ytokfigmmegifeaagreat", sum := "abe150d2d317f56137ea216ca5611c7391bea05e6a54dec7cf2d7d92676e92bc", func := "brocade/brocadelaw34.DependPairs", spec := "dependPairs", unfollowed := true, recurses := true, loops := true, apart := false }
def DependPairsSaid : Prop := dependPairsRow.holds Tryz.pinned (OpenSpec.ofChange dependPairsSpec)

/-- ITS FALSE NEIGHBOUR: 'it returns false'. Refute it at one input. -/
def dependPairsWrong : ChangeSpec := { name := "dependPairs", fn := fun _ => fun
  | [d] => { results := [.lit (.bool false)], args := [d] }
  | _ => none }
def DependPairsWrongFalsely : Prop := dependPairsRow.holds Tryz.pinned (OpenSpec.ofChange dependPairsWrong)

/- THE SECOND FORM. 'bulk': how many values and letters a reading holds, each counted each time it is reached (what is shared counts as often as it is met; a slice's spare places count too). A statement '..UptoSaid' is the law's where the arguments, and the package variables that the reading takes, are together of bulk at most 1048576: NARROWER than '..Said'. Prove '..Said' where nothing that the law and all that it calls make is longer than what came in: it says more and counts as full. Else prove '..UptoSaid'. A law counts once. -/
mutual
def uptoBulk {H : Type} : DataW H → Nat
  | .lit (.string bytes) => bytes.length + 1
  | .lit _ => 1
  | .nil => 1
  | .ptr d => uptoBulk d + 1
  | .slice elems spare => uptoBulkAll elems + uptoBulkAll spare + 1
  | .agg parts => uptoBulkAll parts + 1
  | .iface _ d => uptoBulk d + 1
  | .map entries => uptoBulkEntries entries + 1
  | .held _ => 1
def uptoBulkAll {H : Type} : List (DataW H) → Nat
  | [] => 0
  | d :: r => uptoBulk d + uptoBulkAll r
def uptoBulkEntries {H : Type} : List (Lit × DataW H) → Nat
  | [] => 0
  | x :: r => uptoBulkEntry x + uptoBulkEntries r
def uptoBulkEntry {H : Type} : Lit × DataW H → Nat
  | (.string bytes, d) => bytes.length + uptoBulk d + 1
  | (_, d) => uptoBulk d + 1
 end
def uptoSmall : (H : Type) → List (DataW H) → Bool := fun _ ds => decide (uptoBulkAll ds ≤ 1048576)
def OpenSpec.upto (s : _root_.Go.ChangeSpec) : _root_.Go.OpenSpec := { _root_.Go.OpenSpec.ofChange s with cond := some uptoSmall }

/-- 'brocadelaw34.DependConflicts', WHERE WHAT IT READS IS OF BULK AT MOST 1048576: true; the input reads as it did. -/
def dependConflictsUptoRow : OpenClaim := { program := "ytokfigmmegifeaagreat", sum := "abe150d2d317f56137ea216ca5611c7391bea05e6a54dec7cf2d7d92676e92bc", func := "brocade/brocadelaw34.DependConflicts", spec := "dependConflicts", unfollowed := true, recurses := true, loops := true, apart := false, narrowed := true }
def DependConflictsUptoSaid : Prop := dependConflictsUptoRow.holds Tryz.pinned (OpenSpec.upto dependConflictsSpec)

/-- 'brocadelaw34.DependPairs', WHERE WHAT IT READS IS OF BULK AT MOST 1048576: true; the input reads as it did. -/
def dependPairsUptoRow : OpenClaim := { program := "ytokfigmmegifeaagreat", sum := "abe150d2d317f56137ea216ca5611c7391bea05e6a54dec7cf2d7d92676e92bc", func := "brocade/brocadelaw34.DependPairs", spec := "dependPairs", unfollowed := true, recurses := true, loops := true, apart := false, narrowed := true }
def DependPairsUptoSaid : Prop := dependPairsUptoRow.holds Tryz.pinned (OpenSpec.upto dependPairsSpec)

end Rows
end Go.Proofs.YtokfigmmegifeaaGreat
