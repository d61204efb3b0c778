/- Closed facts of the row: lifts and keys. -/
import Derived.Test.YtnnjnjginlkloaaGreatDoorCards
import Derived.WalkKit
import Derived.ProofKit
import Derived.JoinedCond
namespace Go.Proofs.YtnnjnjginlkloaaGreatDoor
open Go.ChangeShapes Go.WideShapes Go.ChangeAt Go.RowKit
theorem f_lifted : (Rows.wholeNilRow.lifted == Tryz.prog.liftsFinal) = true := by kernel_rfl
theorem f_plainKeys : (Rows.wholeNilRow.plainKeys == Tryz.prog.plainKeys) = true := by kernel_rfl
end Go.Proofs.YtnnjnjginlkloaaGreatDoor
