/- Closed facts of ConfigUsual's row and of the program, third part. -/
import Derived.Test.YtlngchhjdnalbaaGreatDoorCards
import Derived.WalkKit
import Derived.ProofKit
import Derived.JoinedCond
namespace Go.Proofs.YtlngchhjdnalbaaGreatDoor
open Go.ChangeShapes Go.WideShapes Go.ChangeAt Go.RowKit
theorem f_recurses : Rows.configUsualRow.recurses = Tryz.prog.recurses 3 := by kernel_rfl
theorem f_lifted : (Rows.configUsualRow.lifted == Tryz.prog.liftsFinal) = true := by kernel_rfl
theorem f_plainKeys : (Rows.configUsualRow.plainKeys == Tryz.prog.plainKeys) = true := by kernel_rfl
theorem f_goesBy : false = Rows.configUsualRow.goesBy Tryz.prog := by kernel_rfl
end Go.Proofs.YtlngchhjdnalbaaGreatDoor
