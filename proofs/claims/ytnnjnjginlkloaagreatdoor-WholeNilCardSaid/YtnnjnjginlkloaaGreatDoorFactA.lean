/- Closed facts of the row and of the program: names. -/
import Derived.Test.YtnnjnjginlkloaaGreatDoorCards
import Derived.WalkKit
import Derived.ProofKit
import Derived.JoinedCond
namespace Go.Proofs.YtnnjnjginlkloaaGreatDoor
open Go.ChangeShapes Go.WideShapes Go.ChangeAt Go.RowKit
theorem f_named : Tryz.prog.funcNamed "turnpike/turnpikelaw23.WholeNil" = some 3 := by kernel_rfl
theorem f_inPlace : Rows.wholeNilRow.inPlace = Tryz.prog.inPlace 3 := by kernel_rfl
theorem f_mapsRowed : mapsRowed Tryz.prog = true := by kernel_rfl
end Go.Proofs.YtnnjnjginlkloaaGreatDoor
