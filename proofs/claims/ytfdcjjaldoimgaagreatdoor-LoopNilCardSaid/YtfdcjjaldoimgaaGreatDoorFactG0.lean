/- Where the functions reached lead, and which variables they name: part 0. Where the functions reached lead, and which variables they name: part 1. -/
import Derived.Test.YtfdcjjaldoimgaaGreatDoorCards
import Derived.Test.YtfdcjjaldoimgaaGreatDoorFactD
import Derived.WalkKit
import Derived.ProofKit
import Derived.JoinedCond
namespace Go.Proofs.YtfdcjjaldoimgaaGreatDoor
open Go.ChangeShapes Go.WideShapes Go.ChangeAt Go.RowKit Go.Reach
theorem leads0 : leads Tryz.prog calledBy reached0 = true := by kernel_rfl
theorem gl0 : gl Tryz.prog reached0 = [2, 3, 0, 7, 8, 9, 1, 1, 1] := by kernel_rfl
end Go.Proofs.YtfdcjjaldoimgaaGreatDoor
namespace Go.Proofs.YtfdcjjaldoimgaaGreatDoor
open Go.ChangeShapes Go.WideShapes Go.ChangeAt Go.RowKit Go.Reach
theorem leads1 : leads Tryz.prog calledBy reached1 = true := by kernel_rfl
theorem gl1 : gl Tryz.prog reached1 = [4, 5, 6] := by kernel_rfl
end Go.Proofs.YtfdcjjaldoimgaaGreatDoor
