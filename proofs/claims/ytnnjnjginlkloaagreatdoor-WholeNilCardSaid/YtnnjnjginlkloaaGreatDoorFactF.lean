/- A closed fact of the row: the variables that it names. -/
import Derived.Test.YtnnjnjginlkloaaGreatDoorCards
import Derived.Test.YtnnjnjginlkloaaGreatDoorFactG0
import Derived.Test.YtnnjnjginlkloaaGreatDoorFactG2
import Derived.WalkKit
import Derived.ProofKit
import Derived.JoinedCond
namespace Go.Proofs.YtnnjnjginlkloaaGreatDoor
open Go.ChangeShapes Go.WideShapes Go.ChangeAt Go.RowKit
theorem gl_all : gl Tryz.prog reached = [0, 5, 5, 5, 3, 4, 6, 8, 9, 1, 2, 7, 1, 2, 1, 1, 1, 3, 4] := by
  unfold reached
  rw [gl_append, gl_append, gl_append, gl0, gl1, gl2, gl3]
  rfl
theorem f_varsNamed : Rows.wholeNilRow.named = Tryz.prog.varsNamed 3 := by
  rw [varsNamed_eq, f_closure, varsOf_eq, gl_all]
  kernel_rfl
end Go.Proofs.YtnnjnjginlkloaaGreatDoor
