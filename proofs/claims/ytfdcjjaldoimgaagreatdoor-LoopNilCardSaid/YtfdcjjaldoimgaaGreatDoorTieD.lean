/- A closed fact of the tie of this seat (4 of 10). -/
import Derived.Test.YtfdcjjaldoimgaaGreatDoorTieO
import Derived.LaidByTextLater
import Derived.SevenTiedAt
namespace Go.Proofs.YtfdcjjaldoimgaaGreatDoor
open Go
theorem tie_wD : laidRow.map (fun x => Tryz.prog.kindOfLater x.1) = laidRowKinds.map some := by kernel_rfl
end Go.Proofs.YtfdcjjaldoimgaaGreatDoor
