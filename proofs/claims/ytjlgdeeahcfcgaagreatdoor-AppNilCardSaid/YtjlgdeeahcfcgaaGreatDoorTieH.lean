/- A closed fact of the tie of this seat (8 of 10). -/
import Derived.Test.YtjlgdeeahcfcgaaGreatDoorTieO
import Derived.LaidByTextLater
import Derived.SevenTiedAt
namespace Go.Proofs.YtjlgdeeahcfcgaaGreatDoor
open Go
theorem tie_wH : ∀ os tape, (DataW.laidRun Tryz.prog (varsWorld Tryz.prog 400 (varsId Tryz.prog) os tape).memory 8 ((laidRow.filter fun x => x.2.handleName?.isNone).map (·.1))).map (·.1) = some (laidRow.filter fun x => x.2.handleName?.isNone) := fun _ _ => by kernel_rfl
end Go.Proofs.YtjlgdeeahcfcgaaGreatDoor
