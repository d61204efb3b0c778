/- A closed fact of the tie of this seat (6 of 10). -/
import Derived.Test.YtjlgdeeahcfcgaaGreatDoorTieO
import Derived.LaidByTextLater
import Derived.SevenTiedAt
namespace Go.Proofs.YtjlgdeeahcfcgaaGreatDoor
open Go
theorem tie_wF : varsNamedLaterB Tryz.prog (varsId Tryz.prog) laidRow = true := by kernel_rfl
end Go.Proofs.YtjlgdeeahcfcgaaGreatDoor
