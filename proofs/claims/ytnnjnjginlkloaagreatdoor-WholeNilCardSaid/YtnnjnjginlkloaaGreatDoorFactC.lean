/- A closed fact of the row: recursion. -/
import Derived.Test.YtnnjnjginlkloaaGreatDoorCards
import Derived.WalkKit
import Derived.ProofKit
import Derived.JoinedCond
namespace Go.Proofs.YtnnjnjginlkloaaGreatDoor
open Go.ChangeShapes Go.WideShapes Go.ChangeAt Go.RowKit
theorem f_recurses : Rows.wholeNilRow.recurses = Tryz.prog.recurses 3 := by kernel_rfl
end Go.Proofs.YtnnjnjginlkloaaGreatDoor
