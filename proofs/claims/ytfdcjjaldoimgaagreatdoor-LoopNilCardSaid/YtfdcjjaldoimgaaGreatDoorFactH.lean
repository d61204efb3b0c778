/- A closed fact of the program: its looks. -/
import Derived.Test.YtfdcjjaldoimgaaGreatDoorCards
import Derived.WalkKit
import Derived.ProofKit
import Derived.JoinedCond
namespace Go.Proofs.YtfdcjjaldoimgaaGreatDoor
open Go.ChangeShapes Go.WideShapes Go.ChangeAt Go.RowKit Go.Reach
theorem f_looks : true = Tryz.prog.looks [] := by kernel_rfl
end Go.Proofs.YtfdcjjaldoimgaaGreatDoor
