/- The types are laid out: part 0. The types are laid out: part 1. -/
import Derived.Test.YtfdcjjaldoimgaaGreatDoorCards
import Derived.Test.YtfdcjjaldoimgaaGreatDoorExeFine
import Derived.WalkKit
import Derived.ProofKit
import Derived.JoinedCond
namespace Go.Proofs.YtfdcjjaldoimgaaGreatDoor
open Go.ChangeShapes Go.WideShapes Go.ChangeAt Go.RowKit Go.Reach
theorem fine0 : fine Tryz.prog 0 186 = true := by kernel_rfl
end Go.Proofs.YtfdcjjaldoimgaaGreatDoor
namespace Go.Proofs.YtfdcjjaldoimgaaGreatDoor
open Go.ChangeShapes Go.WideShapes Go.ChangeAt Go.RowKit Go.Reach
theorem fine1 : fine Tryz.prog 186 186 = true := by kernel_rfl
end Go.Proofs.YtfdcjjaldoimgaaGreatDoor
