/- Where the functions reached lead, and which variables they name: part 2. Where the functions reached lead, and which variables they name: part 3. -/
import Derived.Test.YtjlgdeeahcfcgaaGreatDoorCards
import Derived.Test.YtjlgdeeahcfcgaaGreatDoorFactD
import Derived.WalkKit
import Derived.ProofKit
import Derived.JoinedCond
namespace Go.Proofs.YtjlgdeeahcfcgaaGreatDoor
open Go.ChangeShapes Go.WideShapes Go.ChangeAt Go.RowKit Go.Reach
theorem leads2 : leads Tryz.prog calledBy reached2 = true := by kernel_rfl
theorem gl2 : gl Tryz.prog reached2 = [0, 1, 0, 0, 0] := by kernel_rfl
end Go.Proofs.YtjlgdeeahcfcgaaGreatDoor
namespace Go.Proofs.YtjlgdeeahcfcgaaGreatDoor
open Go.ChangeShapes Go.WideShapes Go.ChangeAt Go.RowKit Go.Reach
theorem leads3 : leads Tryz.prog calledBy reached3 = true := by kernel_rfl
theorem gl3 : gl Tryz.prog reached3 = [] := by kernel_rfl
end Go.Proofs.YtjlgdeeahcfcgaaGreatDoor
