/- A closed fact of the tie of this seat (5 of 10). -/
import Derived.Test.YtfdcjjaldoimgaaGreatDoorTieO
import Derived.LaidByTextLater
import Derived.SevenTiedAt
namespace Go.Proofs.YtfdcjjaldoimgaaGreatDoor
open Go
theorem tie_wE : (Tryz.prog.funcNamed "gosem.cut.vars").isSome = true := by kernel_rfl
end Go.Proofs.YtfdcjjaldoimgaaGreatDoor
