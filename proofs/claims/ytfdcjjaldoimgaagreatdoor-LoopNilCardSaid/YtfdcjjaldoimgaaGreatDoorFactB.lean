/- Closed facts of the program: what may be entered. -/
import Derived.Test.YtfdcjjaldoimgaaGreatDoorCards
import Derived.WalkKit
import Derived.ProofKit
import Derived.JoinedCond
namespace Go.Proofs.YtfdcjjaldoimgaaGreatDoor
open Go.ChangeShapes Go.WideShapes Go.ChangeAt Go.RowKit Go.Reach
theorem f_stopsHeard : Tryz.prog.stopsHeard = true := by kernel_rfl
theorem f_mayEnter : Tryz.prog.mayEnter = true := by kernel_rfl
end Go.Proofs.YtfdcjjaldoimgaaGreatDoor
