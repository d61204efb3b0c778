/- Closed facts of ConfigUsual's row and of the program, second part. -/
import Derived.Test.YtlngchhjdnalbaaGreatDoorCards
import Derived.WalkKit
import Derived.ProofKit
import Derived.JoinedCond
namespace Go.Proofs.YtlngchhjdnalbaaGreatDoor
open Go.ChangeShapes Go.WideShapes Go.ChangeAt Go.RowKit
theorem f_unfollowed : Rows.configUsualRow.unfollowed = Tryz.prog.unfollowed 3 := by kernel_rfl
theorem f_stopsHeard : Tryz.prog.stopsHeard = true := by kernel_rfl
theorem f_mayEnter : Tryz.prog.mayEnter = true := by kernel_rfl
end Go.Proofs.YtlngchhjdnalbaaGreatDoor
