/- Closed facts of the row and of the program: names. -/
import Derived.Test.YtfdcjjaldoimgaaGreatDoorCards
import Derived.WalkKit
import Derived.ProofKit
import Derived.JoinedCond
namespace Go.Proofs.YtfdcjjaldoimgaaGreatDoor
open Go.ChangeShapes Go.WideShapes Go.ChangeAt Go.RowKit Go.Reach
theorem f_named : Tryz.prog.funcNamed "turnpike/turnpikelaw27.LoopNil" = some 3 := by kernel_rfl
theorem f_mapsRowed : mapsRowed Tryz.prog = true := by kernel_rfl
end Go.Proofs.YtfdcjjaldoimgaaGreatDoor
