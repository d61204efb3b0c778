/- A closed fact of the program: its looks. Closed facts of the row: lifts and keys. -/
import Derived.Test.YtjlgdeeahcfcgaaGreatDoorCards
import Derived.WalkKit
import Derived.ProofKit
import Derived.JoinedCond
namespace Go.Proofs.YtjlgdeeahcfcgaaGreatDoor
open Go.ChangeShapes Go.WideShapes Go.ChangeAt Go.RowKit Go.Reach
theorem f_looks : true = Tryz.prog.looks [] := by kernel_rfl
end Go.Proofs.YtjlgdeeahcfcgaaGreatDoor
namespace Go.Proofs.YtjlgdeeahcfcgaaGreatDoor
open Go.ChangeShapes Go.WideShapes Go.ChangeAt Go.RowKit Go.Reach
theorem f_lifted : (Rows.appNilRow.lifted == Tryz.prog.liftsFinal) = true := by kernel_rfl
theorem f_plainKeys : (Rows.appNilRow.plainKeys == Tryz.prog.plainKeys) = true := by kernel_rfl
end Go.Proofs.YtjlgdeeahcfcgaaGreatDoor
