/- Closed facts of the row and of the program: names. Closed facts of the program: what may be entered. -/
import Derived.Test.YtjlgdeeahcfcgaaGreatDoorCards
import Derived.WalkKit
import Derived.ProofKit
import Derived.JoinedCond
namespace Go.Proofs.YtjlgdeeahcfcgaaGreatDoor
open Go.ChangeShapes Go.WideShapes Go.ChangeAt Go.RowKit Go.Reach
theorem f_named : Tryz.prog.funcNamed "turnpike/turnpikelaw21.AppNil" = some 3 := by kernel_rfl
theorem f_mapsRowed : mapsRowed Tryz.prog = true := by kernel_rfl
end Go.Proofs.YtjlgdeeahcfcgaaGreatDoor
namespace Go.Proofs.YtjlgdeeahcfcgaaGreatDoor
open Go.ChangeShapes Go.WideShapes Go.ChangeAt Go.RowKit Go.Reach
theorem f_stopsHeard : Tryz.prog.stopsHeard = true := by kernel_rfl
theorem f_mayEnter : Tryz.prog.mayEnter = true := by kernel_rfl
end Go.Proofs.YtjlgdeeahcfcgaaGreatDoor
