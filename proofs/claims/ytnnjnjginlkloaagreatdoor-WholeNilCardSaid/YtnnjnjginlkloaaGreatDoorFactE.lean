/- Closed facts of the row and of the program: the form. -/
import Derived.Test.YtnnjnjginlkloaaGreatDoorCards
import Derived.WalkKit
import Derived.ProofKit
import Derived.JoinedCond
namespace Go.Proofs.YtnnjnjginlkloaaGreatDoor
open Go.ChangeShapes Go.WideShapes Go.ChangeAt Go.RowKit
theorem f_laidOut : laidOutB Tryz.prog = true := by kernel_rfl
theorem f_wfByText : Rows.wholeNilRow.wfByText (OpenSpec.ofChange Rows.wholeNilSpec) = true := by kernel_rfl
theorem f_stops : (Tryz.prog.stops == []) = true := by kernel_rfl
theorem f_stopKnobs : (Tryz.prog.stopKnobs == []) = true := by kernel_rfl
theorem f_make : (Tryz.prog.make == some Rows.wholeNilRow.make) = true := by kernel_rfl
end Go.Proofs.YtnnjnjginlkloaaGreatDoor
