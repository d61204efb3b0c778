/- The types are laid out: joined. -/
import Derived.Test.YtjlgdeeahcfcgaaGreatDoorCards
import Derived.Test.YtjlgdeeahcfcgaaGreatDoorExeFine
import Derived.Test.YtjlgdeeahcfcgaaGreatDoorFactR0
import Derived.Test.YtjlgdeeahcfcgaaGreatDoorFactR2
import Derived.WalkKit
import Derived.ProofKit
import Derived.JoinedCond
namespace Go.Proofs.YtjlgdeeahcfcgaaGreatDoor
open Go.ChangeShapes Go.WideShapes Go.ChangeAt Go.RowKit Go.Reach
theorem joinFine {P : Program} {a b m n k : Nat} (h1 : fine P a m = true) (h2 : fine P b n = true) (hb : b = a + m) (hk : k = m + n) : fine P a k = true := by
  subst hb hk
  exact fine_split h1 h2
theorem tySize : Tryz.prog.types.size = 627 := by kernel_rfl
theorem globFine : Tryz.prog.globals.all (fun g => decide (g.type < Tryz.prog.types.size)) = true := by kernel_rfl
theorem funcFine : Tryz.prog.funcs.all (fun f => f.params.all fun t => decide (t < Tryz.prog.types.size)) = true := by kernel_rfl
theorem upTo1 : fine Tryz.prog 0 314 = true := joinFine tyFine0 tyFine1 (by decide) (by decide)
theorem upTo2 : fine Tryz.prog 0 471 = true := joinFine upTo1 tyFine2 (by decide) (by decide)
theorem upTo3 : fine Tryz.prog 0 627 = true := joinFine upTo2 tyFine3 (by decide) (by decide)
theorem f_laidOut : laidOutB Tryz.prog = true := laidOut_of tySize upTo3 globFine funcFine
end Go.Proofs.YtjlgdeeahcfcgaaGreatDoor
