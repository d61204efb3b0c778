/- Closed facts of the row and of the program: the form. -/
import Derived.Test.YtfdcjjaldoimgaaGreatDoorCards
import Derived.WalkKit
import Derived.ProofKit
import Derived.JoinedCond
namespace Go.Proofs.YtfdcjjaldoimgaaGreatDoor
open Go.ChangeShapes Go.WideShapes Go.ChangeAt Go.RowKit Go.Reach
theorem f_wfByText : Rows.loopNilRow.wfByText (OpenSpec.ofChange Rows.loopNilSpec) = true := by kernel_rfl
theorem f_stops : (Tryz.prog.stops == []) = true := by kernel_rfl
theorem f_stopKnobs : (Tryz.prog.stopKnobs == []) = true := by kernel_rfl
theorem f_make : (Tryz.prog.make == some Rows.loopNilRow.make) = true := by kernel_rfl
end Go.Proofs.YtfdcjjaldoimgaaGreatDoor
