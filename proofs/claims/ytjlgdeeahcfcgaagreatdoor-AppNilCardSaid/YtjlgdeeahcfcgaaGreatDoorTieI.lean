/- A closed fact of the tie of this seat (9 of 10). -/
import Derived.Test.YtjlgdeeahcfcgaaGreatDoorTieO
import Derived.LaidByTextLater
import Derived.SevenTiedAt
namespace Go.Proofs.YtjlgdeeahcfcgaaGreatDoor
open Go
theorem tie_wI : ∀ os tape, (DataW.laidRun Tryz.prog (varsWorld Tryz.prog 400 (varsId Tryz.prog) os tape).memory 8 ((laidRow.filter fun x => x.2.handleName?.isNone).map (·.1))).map (fun x => decide x.2.Nodup && laidRowsB Tryz.prog (varsWorld Tryz.prog 400 (varsId Tryz.prog) os tape).memory x.2) = some true := fun _ _ => by kernel_rfl
end Go.Proofs.YtjlgdeeahcfcgaaGreatDoor
