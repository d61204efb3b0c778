/- A closed fact of the program: its looks. -/
import Derived.Test.YtnnjnjginlkloaaGreatDoorCards
import Derived.WalkKit
import Derived.ProofKit
import Derived.JoinedCond
namespace Go.Proofs.YtnnjnjginlkloaaGreatDoor
open Go.ChangeShapes Go.WideShapes Go.ChangeAt Go.RowKit
theorem f_looks : true = Tryz.prog.looks [] := by kernel_rfl
end Go.Proofs.YtnnjnjginlkloaaGreatDoor
