/- Which variables the functions reached name: part 0. Which variables the functions reached name: part 1. -/
import Derived.Test.YtnnjnjginlkloaaGreatDoorCards
import Derived.Test.YtnnjnjginlkloaaGreatDoorFactD
import Derived.WalkKit
import Derived.ProofKit
import Derived.JoinedCond
namespace Go.Proofs.YtnnjnjginlkloaaGreatDoor
open Go.ChangeShapes Go.WideShapes Go.ChangeAt Go.RowKit
theorem gl0 : gl Tryz.prog reached0 = [0, 5, 5, 5, 3, 4, 6, 8, 9] := by kernel_rfl
end Go.Proofs.YtnnjnjginlkloaaGreatDoor
namespace Go.Proofs.YtnnjnjginlkloaaGreatDoor
open Go.ChangeShapes Go.WideShapes Go.ChangeAt Go.RowKit
theorem gl1 : gl Tryz.prog reached1 = [1, 2] := by kernel_rfl
end Go.Proofs.YtnnjnjginlkloaaGreatDoor
