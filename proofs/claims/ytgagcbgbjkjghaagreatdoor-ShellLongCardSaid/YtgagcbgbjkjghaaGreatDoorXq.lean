/- Lemmas and walks: Law ShellLong: the closed fact that it starts nothing beside itself. -/
import Derived.Test.YtgagcbgbjkjghaaGreatDoorCards
namespace Go.Proofs.YtgagcbgbjkjghaaGreatDoor.Law3
open Go
set_option maxRecDepth 100000
theorem goes : false = Rows.shellLongRow.goesBy Tryz.pinned.checked.prog := by kernel_rfl
end Go.Proofs.YtgagcbgbjkjghaaGreatDoor.Law3
