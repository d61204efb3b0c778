/- A closed fact of the row: what goes on. -/
import Derived.Test.YtnnjnjginlkloaaGreatDoorCards
import Derived.Test.YtnnjnjginlkloaaGreatDoorFactA
import Derived.Test.YtnnjnjginlkloaaGreatDoorFactQ
import Derived.WalkKit
import Derived.ProofKit
import Derived.JoinedCond
namespace Go.Proofs.YtnnjnjginlkloaaGreatDoor
open Go.ChangeShapes Go.WideShapes Go.ChangeAt Go.RowKit
theorem quiet : Tryz.prog.funcs.toList.any Func.goes = false := any_split _ 153 quiet0 (any_split _ 153 quiet1 (any_split _ 153 quiet2 (quiet3)))
theorem f_goesBy : false = Rows.wholeNilRow.goesBy Tryz.prog := by
  show false = ((Tryz.prog.funcNamed "turnpike/turnpikelaw23.WholeNil").any Tryz.prog.goes || false)
  rw [f_named, Option.any_some, goes_false 3 quiet]
  rfl
end Go.Proofs.YtnnjnjginlkloaaGreatDoor
