/- Where the functions reached lead, and which variables they name: part 2. Where the functions reached lead, and which variables they name: part 3. -/
import Derived.Test.YtfdcjjaldoimgaaGreatDoorCards
import Derived.Test.YtfdcjjaldoimgaaGreatDoorFactD
import Derived.WalkKit
import Derived.ProofKit
import Derived.JoinedCond
namespace Go.Proofs.YtfdcjjaldoimgaaGreatDoor
open Go.ChangeShapes Go.WideShapes Go.ChangeAt Go.RowKit Go.Reach
theorem leads2 : leads Tryz.prog calledBy reached2 = true := by kernel_rfl
theorem gl2 : gl Tryz.prog reached2 = [] := by kernel_rfl
end Go.Proofs.YtfdcjjaldoimgaaGreatDoor
namespace Go.Proofs.YtfdcjjaldoimgaaGreatDoor
open Go.ChangeShapes Go.WideShapes Go.ChangeAt Go.RowKit Go.Reach
theorem leads3 : leads Tryz.prog calledBy reached3 = true := by kernel_rfl
theorem gl3 : gl Tryz.prog reached3 = [4, 5, 4, 4, 4, 2, 3] := by kernel_rfl
end Go.Proofs.YtfdcjjaldoimgaaGreatDoor
