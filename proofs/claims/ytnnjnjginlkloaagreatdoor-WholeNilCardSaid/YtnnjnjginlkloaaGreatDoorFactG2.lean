/- Which variables the functions reached name: part 2. Which variables the functions reached name: part 3. -/
import Derived.Test.YtnnjnjginlkloaaGreatDoorCards
import Derived.Test.YtnnjnjginlkloaaGreatDoorFactD
import Derived.WalkKit
import Derived.ProofKit
import Derived.JoinedCond
namespace Go.Proofs.YtnnjnjginlkloaaGreatDoor
open Go.ChangeShapes Go.WideShapes Go.ChangeAt Go.RowKit
theorem gl2 : gl Tryz.prog reached2 = [7, 1, 2, 1, 1, 1] := by kernel_rfl
end Go.Proofs.YtnnjnjginlkloaaGreatDoor
namespace Go.Proofs.YtnnjnjginlkloaaGreatDoor
open Go.ChangeShapes Go.WideShapes Go.ChangeAt Go.RowKit
theorem gl3 : gl Tryz.prog reached3 = [3, 4] := by kernel_rfl
end Go.Proofs.YtnnjnjginlkloaaGreatDoor
