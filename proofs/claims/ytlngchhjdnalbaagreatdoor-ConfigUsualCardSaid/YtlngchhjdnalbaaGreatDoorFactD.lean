/- Closed facts of ConfigUsual's row and of the program, fourth part. -/
import Derived.Test.YtlngchhjdnalbaaGreatDoorCards
import Derived.WalkKit
import Derived.ProofKit
import Derived.JoinedCond
namespace Go.Proofs.YtlngchhjdnalbaaGreatDoor
open Go.ChangeShapes Go.WideShapes Go.ChangeAt Go.RowKit
theorem f_varsNamed : Rows.configUsualRow.named = Tryz.prog.varsNamed 3 := by kernel_rfl
theorem f_looks : true = Tryz.prog.looks [] := by kernel_rfl
end Go.Proofs.YtlngchhjdnalbaaGreatDoor
