/- Closed facts of the row and of the program: what is followed. -/
import Derived.Test.YtnnjnjginlkloaaGreatDoorCards
import Derived.WalkKit
import Derived.ProofKit
import Derived.JoinedCond
namespace Go.Proofs.YtnnjnjginlkloaaGreatDoor
open Go.ChangeShapes Go.WideShapes Go.ChangeAt Go.RowKit
theorem f_unfollowed : Rows.wholeNilRow.unfollowed = Tryz.prog.unfollowed 3 := by kernel_rfl
theorem f_stopsHeard : Tryz.prog.stopsHeard = true := by kernel_rfl
theorem f_mayEnter : Tryz.prog.mayEnter = true := by kernel_rfl
end Go.Proofs.YtnnjnjginlkloaaGreatDoor
