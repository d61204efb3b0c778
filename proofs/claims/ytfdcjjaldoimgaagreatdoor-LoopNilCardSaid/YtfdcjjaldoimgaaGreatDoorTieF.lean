/- A closed fact of the tie of this seat (6 of 10). -/
import Derived.Test.YtfdcjjaldoimgaaGreatDoorTieO
import Derived.LaidByTextLater
import Derived.SevenTiedAt
namespace Go.Proofs.YtfdcjjaldoimgaaGreatDoor
open Go
theorem tie_wF : varsNamedLaterB Tryz.prog (varsId Tryz.prog) laidRow = true := by kernel_rfl
end Go.Proofs.YtfdcjjaldoimgaaGreatDoor
