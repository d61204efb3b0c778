/- Closed facts of ConfigUsual's row and of the program, fifth part. -/
import Derived.Test.YtlngchhjdnalbaaGreatDoorCards
import Derived.WalkKit
import Derived.ProofKit
import Derived.JoinedCond
namespace Go.Proofs.YtlngchhjdnalbaaGreatDoor
open Go.ChangeShapes Go.WideShapes Go.ChangeAt Go.RowKit
theorem f_laidOut : laidOutB Tryz.prog = true := by kernel_rfl
theorem f_wfByText : Rows.configUsualRow.wfByText (OpenSpec.ofChange Rows.configUsualSpec) = true := by kernel_rfl
theorem f_stops : (Tryz.prog.stops == []) = true := by kernel_rfl
theorem f_stopKnobs : (Tryz.prog.stopKnobs == []) = true := by kernel_rfl
theorem f_make : (Tryz.prog.make == some Rows.configUsualRow.make) = true := by kernel_rfl
end Go.Proofs.YtlngchhjdnalbaaGreatDoor
