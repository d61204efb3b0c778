/- Closed facts of the row and of the program: the form. -/
import Derived.Test.YtjlgdeeahcfcgaaGreatDoorCards
import Derived.WalkKit
import Derived.ProofKit
import Derived.JoinedCond
namespace Go.Proofs.YtjlgdeeahcfcgaaGreatDoor
open Go.ChangeShapes Go.WideShapes Go.ChangeAt Go.RowKit Go.Reach
theorem f_wfByText : Rows.appNilRow.wfByText (OpenSpec.ofChange Rows.appNilSpec) = true := by kernel_rfl
theorem f_stops : (Tryz.prog.stops == []) = true := by kernel_rfl
theorem f_stopKnobs : (Tryz.prog.stopKnobs == []) = true := by kernel_rfl
theorem f_make : (Tryz.prog.make == some Rows.appNilRow.make) = true := by kernel_rfl
end Go.Proofs.YtjlgdeeahcfcgaaGreatDoor
