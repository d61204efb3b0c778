/- The types are laid out: joined. -/
import Derived.Test.YtfdcjjaldoimgaaGreatDoorCards
import Derived.Test.YtfdcjjaldoimgaaGreatDoorExeFine
import Derived.Test.YtfdcjjaldoimgaaGreatDoorFactR0
import Derived.Test.YtfdcjjaldoimgaaGreatDoorFactR2
import Derived.WalkKit
import Derived.ProofKit
import Derived.JoinedCond
namespace Go.Proofs.YtfdcjjaldoimgaaGreatDoor
open Go.ChangeShapes Go.WideShapes Go.ChangeAt Go.RowKit Go.Reach
theorem joinFine {P : Program} {a b m n k : Nat} (h1 : fine P a m = true) (h2 : fine P b n = true) (hb : b = a + m) (hk : k = m + n) : fine P a k = true := by
  subst hb hk
  exact fine_split h1 h2
theorem tySize : Tryz.prog.types.size = 743 := by kernel_rfl
theorem globFine : Tryz.prog.globals.all (fun g => decide (g.type < Tryz.prog.types.size)) = true := by kernel_rfl
theorem funcFine : Tryz.prog.funcs.all (fun f => f.params.all fun t => decide (t < Tryz.prog.types.size)) = true := by kernel_rfl
theorem upTo1 : fine Tryz.prog 0 372 = true := joinFine fine0 fine1 (by decide) (by decide)
theorem upTo2 : fine Tryz.prog 0 558 = true := joinFine upTo1 fine2 (by decide) (by decide)
theorem upTo3 : fine Tryz.prog 0 743 = true := joinFine upTo2 fine3 (by decide) (by decide)
theorem f_laidOut : laidOutB Tryz.prog = true := laidOut_of tySize upTo3 globFine funcFine
end Go.Proofs.YtfdcjjaldoimgaaGreatDoor
