/- Closed facts of the row: what is reached, and what follows of it. -/
import Derived.Test.YtjlgdeeahcfcgaaGreatDoorCards
import Derived.Test.YtjlgdeeahcfcgaaGreatDoorFactA
import Derived.Test.YtjlgdeeahcfcgaaGreatDoorFactD
import Derived.Test.YtjlgdeeahcfcgaaGreatDoorFactG0
import Derived.Test.YtjlgdeeahcfcgaaGreatDoorFactG2
import Derived.Test.YtjlgdeeahcfcgaaGreatDoorFactQ0
import Derived.WalkKit
import Derived.ProofKit
import Derived.JoinedCond
namespace Go.Proofs.YtjlgdeeahcfcgaaGreatDoor
open Go.ChangeShapes Go.WideShapes Go.ChangeAt Go.RowKit Go.Reach
theorem many_all : 1165 ≤ 1 + many Tryz.prog Tryz.prog.funcs.toList := by
  rw [many_split Tryz.prog (Tryz.prog.funcs.toList) 149, many_split Tryz.prog (Tryz.prog.funcs.toList.drop 149) 149, many_split Tryz.prog ((Tryz.prog.funcs.toList.drop 149).drop 149) 149]
  have h := Nat.add_le_add many0 (Nat.add_le_add many1 (Nat.add_le_add many2 (many3)))
  exact Nat.le_trans (by decide) (Nat.add_le_add_left h 1)
theorem f_closure : Tryz.prog.closure 3 = reached :=
  closure_of f_walk (leads_append leads0 (leads_append leads1 (leads_append leads2 (leads3)))) many_all
theorem gl_all : gl Tryz.prog reached = [4, 8, 9, 6, 7, 3, 3, 3, 2, 0, 1, 5, 0, 1, 0, 0, 0] := by
  unfold reached
  rw [gl_append, gl_append, gl_append, gl0, gl1, gl2, gl3]
  rfl
theorem f_varsNamed : Rows.appNilRow.named = Tryz.prog.varsNamed 3 := by
  rw [varsNamed_eq, f_closure, varsOf_eq, gl_all]
  kernel_rfl
theorem f_inPlace : Rows.appNilRow.inPlace = Tryz.prog.inPlace 3 := by
  rw [inPlace_eq, f_closure]
  kernel_rfl
theorem unfollowed_true : Tryz.prog.unfollowed 3 = true := unfollowed_of (by rw [f_closure]; kernel_rfl)
theorem f_unfollowed : Rows.appNilRow.unfollowed = Tryz.prog.unfollowed 3 := by rw [unfollowed_true]; rfl
theorem f_recurses : Rows.appNilRow.recurses = Tryz.prog.recurses 3 := by rw [recurses_of unfollowed_true]; rfl
theorem quiet : Tryz.prog.funcs.toList.any Func.goes = false := any_split _ 149 quiet0 (any_split _ 149 quiet1 (any_split _ 149 quiet2 (quiet3)))
theorem f_goesBy : false = Rows.appNilRow.goesBy Tryz.prog := by
  show false = ((Tryz.prog.funcNamed "turnpike/turnpikelaw21.AppNil").any Tryz.prog.goes || false)
  rw [f_named, Option.any_some, goes_false 3 quiet]
  rfl
end Go.Proofs.YtjlgdeeahcfcgaaGreatDoor
