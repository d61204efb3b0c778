/- A closed fact of the tie of this seat (3 of 10). -/
import Derived.Test.YtfdcjjaldoimgaaGreatDoorTieO
import Derived.LaidByTextLater
import Derived.SevenTiedAt
namespace Go.Proofs.YtfdcjjaldoimgaaGreatDoor
open Go
theorem tie_wC : Tryz.prog.worded rootWordLater = true := by kernel_rfl
end Go.Proofs.YtfdcjjaldoimgaaGreatDoor
