/- Where the functions reached lead, and which variables they name: part 0. Where the functions reached lead, and which variables they name: part 1. -/
import Derived.Test.YtjlgdeeahcfcgaaGreatDoorCards
import Derived.Test.YtjlgdeeahcfcgaaGreatDoorFactD
import Derived.WalkKit
import Derived.ProofKit
import Derived.JoinedCond
namespace Go.Proofs.YtjlgdeeahcfcgaaGreatDoor
open Go.ChangeShapes Go.WideShapes Go.ChangeAt Go.RowKit Go.Reach
theorem leads0 : leads Tryz.prog calledBy reached0 = true := by kernel_rfl
theorem gl0 : gl Tryz.prog reached0 = [4, 8, 9, 6, 7, 3, 3, 3] := by kernel_rfl
end Go.Proofs.YtjlgdeeahcfcgaaGreatDoor
namespace Go.Proofs.YtjlgdeeahcfcgaaGreatDoor
open Go.ChangeShapes Go.WideShapes Go.ChangeAt Go.RowKit Go.Reach
theorem leads1 : leads Tryz.prog calledBy reached1 = true := by kernel_rfl
theorem gl1 : gl Tryz.prog reached1 = [2, 0, 1, 5] := by kernel_rfl
end Go.Proofs.YtjlgdeeahcfcgaaGreatDoor
