/- Lemmas and walks: Law ShellNumbers: the closed fact that it starts nothing beside itself. -/
import Derived.Test.YtgagcbgbjkjghaaGreatDoorCards
namespace Go.Proofs.YtgagcbgbjkjghaaGreatDoor.Law4
open Go
set_option maxRecDepth 100000
theorem goes : false = Rows.shellNumbersRow.goesBy Tryz.pinned.checked.prog := by kernel_rfl
end Go.Proofs.YtgagcbgbjkjghaaGreatDoor.Law4
