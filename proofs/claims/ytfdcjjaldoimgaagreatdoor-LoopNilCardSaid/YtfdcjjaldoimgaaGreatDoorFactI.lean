/- Closed facts of the row: lifts and keys. -/
import Derived.Test.YtfdcjjaldoimgaaGreatDoorCards
import Derived.WalkKit
import Derived.ProofKit
import Derived.JoinedCond
namespace Go.Proofs.YtfdcjjaldoimgaaGreatDoor
open Go.ChangeShapes Go.WideShapes Go.ChangeAt Go.RowKit Go.Reach
theorem f_lifted : (Rows.loopNilRow.lifted == Tryz.prog.liftsFinal) = true := by kernel_rfl
theorem f_plainKeys : (Rows.loopNilRow.plainKeys == Tryz.prog.plainKeys) = true := by kernel_rfl
end Go.Proofs.YtfdcjjaldoimgaaGreatDoor
