/- A closed fact of the tie of this seat (7 of 10). -/
import Derived.Test.YtjlgdeeahcfcgaaGreatDoorTieO
import Derived.LaidByTextLater
import Derived.SevenTiedAt
namespace Go.Proofs.YtjlgdeeahcfcgaaGreatDoor
open Go
theorem tie_wG : ∀ os tape, varsDone Tryz.prog 400 (varsId Tryz.prog) os tape = true := fun _ _ => by kernel_rfl
end Go.Proofs.YtjlgdeeahcfcgaaGreatDoor
