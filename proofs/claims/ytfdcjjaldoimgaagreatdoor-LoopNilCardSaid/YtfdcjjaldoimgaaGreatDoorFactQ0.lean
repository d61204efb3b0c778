/- No function goes; how far the walk may go: part 0. No function goes; how far the walk may go: part 1. No function goes; how far the walk may go: part 2. No function goes; how far the walk may go: part 3. -/
import Derived.Test.YtfdcjjaldoimgaaGreatDoorCards
import Derived.Test.YtfdcjjaldoimgaaGreatDoorExeReach
import Derived.WalkKit
import Derived.ProofKit
import Derived.JoinedCond
namespace Go.Proofs.YtfdcjjaldoimgaaGreatDoor
open Go.ChangeShapes Go.WideShapes Go.ChangeAt Go.RowKit Go.Reach
theorem quiet0 : ((Tryz.prog.funcs.toList).take 174).any Func.goes = false := by kernel_rfl
theorem many0 : 541 ≤ many Tryz.prog ((Tryz.prog.funcs.toList).take 174) := Nat.le_of_ble_eq_true (by kernel_rfl)
end Go.Proofs.YtfdcjjaldoimgaaGreatDoor
namespace Go.Proofs.YtfdcjjaldoimgaaGreatDoor
open Go.ChangeShapes Go.WideShapes Go.ChangeAt Go.RowKit Go.Reach
theorem quiet1 : ((Tryz.prog.funcs.toList.drop 174).take 174).any Func.goes = false := by kernel_rfl
theorem many1 : 527 ≤ many Tryz.prog ((Tryz.prog.funcs.toList.drop 174).take 174) := Nat.le_of_ble_eq_true (by kernel_rfl)
end Go.Proofs.YtfdcjjaldoimgaaGreatDoor
namespace Go.Proofs.YtfdcjjaldoimgaaGreatDoor
open Go.ChangeShapes Go.WideShapes Go.ChangeAt Go.RowKit Go.Reach
theorem quiet2 : (((Tryz.prog.funcs.toList.drop 174).drop 174).take 174).any Func.goes = false := by kernel_rfl
theorem many2 : 593 ≤ many Tryz.prog (((Tryz.prog.funcs.toList.drop 174).drop 174).take 174) := Nat.le_of_ble_eq_true (by kernel_rfl)
end Go.Proofs.YtfdcjjaldoimgaaGreatDoor
namespace Go.Proofs.YtfdcjjaldoimgaaGreatDoor
open Go.ChangeShapes Go.WideShapes Go.ChangeAt Go.RowKit Go.Reach
theorem quiet3 : (((Tryz.prog.funcs.toList.drop 174).drop 174).drop 174).any Func.goes = false := by kernel_rfl
theorem many3 : 388 ≤ many Tryz.prog (((Tryz.prog.funcs.toList.drop 174).drop 174).drop 174) := Nat.le_of_ble_eq_true (by kernel_rfl)
end Go.Proofs.YtfdcjjaldoimgaaGreatDoor
