/- The types are laid out: part 2. The types are laid out: part 3. -/
import Derived.Test.YtjlgdeeahcfcgaaGreatDoorCards
import Derived.Test.YtjlgdeeahcfcgaaGreatDoorExeFine
import Derived.WalkKit
import Derived.ProofKit
import Derived.JoinedCond
namespace Go.Proofs.YtjlgdeeahcfcgaaGreatDoor
open Go.ChangeShapes Go.WideShapes Go.ChangeAt Go.RowKit Go.Reach
theorem tyFine2 : fine Tryz.prog 314 157 = true := by kernel_rfl
end Go.Proofs.YtjlgdeeahcfcgaaGreatDoor
namespace Go.Proofs.YtjlgdeeahcfcgaaGreatDoor
open Go.ChangeShapes Go.WideShapes Go.ChangeAt Go.RowKit Go.Reach
theorem tyFine3 : fine Tryz.prog 471 156 = true := by kernel_rfl
end Go.Proofs.YtjlgdeeahcfcgaaGreatDoor
