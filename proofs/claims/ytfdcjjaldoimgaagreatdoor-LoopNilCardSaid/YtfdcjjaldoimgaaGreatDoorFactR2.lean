/- The types are laid out: part 2. The types are laid out: part 3. -/
import Derived.Test.YtfdcjjaldoimgaaGreatDoorCards
import Derived.Test.YtfdcjjaldoimgaaGreatDoorExeFine
import Derived.WalkKit
import Derived.ProofKit
import Derived.JoinedCond
namespace Go.Proofs.YtfdcjjaldoimgaaGreatDoor
open Go.ChangeShapes Go.WideShapes Go.ChangeAt Go.RowKit Go.Reach
theorem fine2 : fine Tryz.prog 372 186 = true := by kernel_rfl
end Go.Proofs.YtfdcjjaldoimgaaGreatDoor
namespace Go.Proofs.YtfdcjjaldoimgaaGreatDoor
open Go.ChangeShapes Go.WideShapes Go.ChangeAt Go.RowKit Go.Reach
theorem fine3 : fine Tryz.prog 558 185 = true := by kernel_rfl
end Go.Proofs.YtfdcjjaldoimgaaGreatDoor
