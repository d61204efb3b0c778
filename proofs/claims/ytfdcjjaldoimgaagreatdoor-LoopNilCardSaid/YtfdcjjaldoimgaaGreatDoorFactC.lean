/- Closed facts of the row: what is reached, and what follows of it. -/
import Derived.Test.YtfdcjjaldoimgaaGreatDoorCards
import Derived.Test.YtfdcjjaldoimgaaGreatDoorFactA
import Derived.Test.YtfdcjjaldoimgaaGreatDoorFactD
import Derived.Test.YtfdcjjaldoimgaaGreatDoorFactG0
import Derived.Test.YtfdcjjaldoimgaaGreatDoorFactG2
import Derived.Test.YtfdcjjaldoimgaaGreatDoorFactQ0
import Derived.WalkKit
import Derived.ProofKit
import Derived.JoinedCond
namespace Go.Proofs.YtfdcjjaldoimgaaGreatDoor
open Go.ChangeShapes Go.WideShapes Go.ChangeAt Go.RowKit Go.Reach
theorem many_all : 1357 ≤ 1 + many Tryz.prog Tryz.prog.funcs.toList := by
  rw [many_split Tryz.prog (Tryz.prog.funcs.toList) 174, many_split Tryz.prog (Tryz.prog.funcs.toList.drop 174) 174, many_split Tryz.prog ((Tryz.prog.funcs.toList.drop 174).drop 174) 174]
  have h := Nat.add_le_add many0 (Nat.add_le_add many1 (Nat.add_le_add many2 (many3)))
  exact Nat.le_trans (by decide) (Nat.add_le_add_left h 1)
theorem f_closure : Tryz.prog.closure 3 = reached :=
  closure_of f_walk (leads_append leads0 (leads_append leads1 (leads_append leads2 (leads3)))) many_all
theorem gl_all : gl Tryz.prog reached = [2, 3, 0, 7, 8, 9, 1, 1, 1, 4, 5, 6, 4, 5, 4, 4, 4, 2, 3] := by
  unfold reached
  rw [gl_append, gl_append, gl_append, gl0, gl1, gl2, gl3]
  rfl
theorem f_varsNamed : Rows.loopNilRow.named = Tryz.prog.varsNamed 3 := by
  rw [varsNamed_eq, f_closure, varsOf_eq, gl_all]
  kernel_rfl
theorem f_inPlace : Rows.loopNilRow.inPlace = Tryz.prog.inPlace 3 := by
  rw [inPlace_eq, f_closure]
  kernel_rfl
theorem unfollowed_true : Tryz.prog.unfollowed 3 = true := unfollowed_of (by rw [f_closure]; kernel_rfl)
theorem f_unfollowed : Rows.loopNilRow.unfollowed = Tryz.prog.unfollowed 3 := by rw [unfollowed_true]; rfl
theorem f_recurses : Rows.loopNilRow.recurses = Tryz.prog.recurses 3 := by rw [recurses_of unfollowed_true]; rfl
theorem quiet : Tryz.prog.funcs.toList.any Func.goes = false := any_split _ 174 quiet0 (any_split _ 174 quiet1 (any_split _ 174 quiet2 (quiet3)))
theorem f_goesBy : false = Rows.loopNilRow.goesBy Tryz.prog := by
  show false = ((Tryz.prog.funcNamed "turnpike/turnpikelaw27.LoopNil").any Tryz.prog.goes || false)
  rw [f_named, Option.any_some, goes_false 3 quiet]
  rfl
end Go.Proofs.YtfdcjjaldoimgaaGreatDoor
