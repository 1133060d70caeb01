/- What a row's list gives; a world for the witness. -/
import Derived.Test.YtfdkafmomkkapaaGreatDoorTie
import Derived.Test.YtfdkafmomkkapaaGreatDoorCards
import Derived.Test.YtfdkafmomkkapaaGreatDoorC1
import Derived.ProofKit
import Derived.OpenShut
import Derived.Deep.DeepHandedRow
import Derived.Deep.DeepWitnessRowRef
import Derived.Lib.LaidTab
import Derived.LaidMore
import Derived.LaidOnce
import Derived.Stop.LaidErr
namespace Go.Proofs.YtfdkafmomkkapaaGreatDoor
open Go.ChangeShapes Go.WideShapes Go.ChangeAt Go.RowKit
set_option maxRecDepth 100000

theorem own0 : ownKnob Tryz.prog.godebug = none := by kernel_rfl

/-- the cells of a table of numbers. -/
def tabCells : DataW Unit → Array Value
  | .agg l => (l.map fun | .lit (.int k n) => Value.int k n | _ => .int .u8 0).toArray
  | _ => #[]
noncomputable def laidWorld (os : Os) : World :=
  { World.doorLaid Tryz.prog 1000 os with heap := (World.doorLaid Tryz.prog 1000 os).heap.modify 7 fun
      | .cells _ t frozen => .cells (tabCells Rows.laid_unicode_utf8_first) t frozen
      | o => o }
theorem laid_met (os : Os) (args : Array Value) : laidMetH Tryz.prog Rows.ftextRoundsRow.laid ((laidWorld os).forCall (fun _ _ => 0) ⟨#[], args, []⟩).memory :=
  laidMetH_of_parts3 (fuel := 8) (laidMet_of_run' 8 (by kernel_rfl) (by kernel_rfl)) (by kernel_rfl) (by kernel_rfl)

end Go.Proofs.YtfdkafmomkkapaaGreatDoor
