/- A closed fact of the tie of this seat (2 of 10). -/
import Derived.Test.YtfdcjjaldoimgaaGreatDoorTieO
import Derived.LaidByTextLater
import Derived.SevenTiedAt
namespace Go.Proofs.YtfdcjjaldoimgaaGreatDoor
open Go
theorem tie_wB : Tryz.prog.worded (varsWordLater !true) = false := by kernel_rfl
end Go.Proofs.YtfdcjjaldoimgaaGreatDoor
