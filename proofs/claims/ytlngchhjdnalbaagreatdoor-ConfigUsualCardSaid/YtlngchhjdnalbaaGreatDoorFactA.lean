/- Closed facts of ConfigUsual's row and of the program, first part. -/
import Derived.Test.YtlngchhjdnalbaaGreatDoorCards
import Derived.WalkKit
import Derived.ProofKit
import Derived.JoinedCond
namespace Go.Proofs.YtlngchhjdnalbaaGreatDoor
open Go.ChangeShapes Go.WideShapes Go.ChangeAt Go.RowKit
theorem f_named : Tryz.prog.funcNamed "turnpike/turnpikelaw20.ConfigUsual" = some 3 := by kernel_rfl
theorem f_inPlace : Rows.configUsualRow.inPlace = Tryz.prog.inPlace 3 := by kernel_rfl
theorem f_mapsRowed : mapsRowed Tryz.prog = true := by kernel_rfl
end Go.Proofs.YtlngchhjdnalbaaGreatDoor
