/- A closed fact of the tie of this seat (1 of 10). A closed fact of the tie of this seat (2 of 10). A closed fact of the tie of this seat (3 of 10). -/
import Derived.Test.YtjlgdeeahcfcgaaGreatDoorTieO
import Derived.LaidByTextLater
import Derived.SevenTiedAt
namespace Go.Proofs.YtjlgdeeahcfcgaaGreatDoor
open Go
theorem tie_wA : Tryz.prog.worded (varsWordLater true) = true := by kernel_rfl
end Go.Proofs.YtjlgdeeahcfcgaaGreatDoor
namespace Go.Proofs.YtjlgdeeahcfcgaaGreatDoor
open Go
theorem tie_wB : Tryz.prog.worded (varsWordLater !true) = false := by kernel_rfl
end Go.Proofs.YtjlgdeeahcfcgaaGreatDoor
namespace Go.Proofs.YtjlgdeeahcfcgaaGreatDoor
open Go
theorem tie_wC : Tryz.prog.worded rootWordLater = true := by kernel_rfl
end Go.Proofs.YtjlgdeeahcfcgaaGreatDoor
