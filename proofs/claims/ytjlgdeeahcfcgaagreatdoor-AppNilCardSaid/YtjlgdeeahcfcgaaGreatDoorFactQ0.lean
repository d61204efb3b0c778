/- No function goes; how far the walk may go: part 0. No function goes; how far the walk may go: part 1. No function goes; how far the walk may go: part 2. No function goes; how far the walk may go: part 3. -/
import Derived.Test.YtjlgdeeahcfcgaaGreatDoorCards
import Derived.Test.YtjlgdeeahcfcgaaGreatDoorExeReach
import Derived.WalkKit
import Derived.ProofKit
import Derived.JoinedCond
namespace Go.Proofs.YtjlgdeeahcfcgaaGreatDoor
open Go.ChangeShapes Go.WideShapes Go.ChangeAt Go.RowKit Go.Reach
theorem quiet0 : ((Tryz.prog.funcs.toList).take 149).any Func.goes = false := by kernel_rfl
theorem many0 : 585 ≤ many Tryz.prog ((Tryz.prog.funcs.toList).take 149) := Nat.le_of_ble_eq_true (by kernel_rfl)
end Go.Proofs.YtjlgdeeahcfcgaaGreatDoor
namespace Go.Proofs.YtjlgdeeahcfcgaaGreatDoor
open Go.ChangeShapes Go.WideShapes Go.ChangeAt Go.RowKit Go.Reach
theorem quiet1 : ((Tryz.prog.funcs.toList.drop 149).take 149).any Func.goes = false := by kernel_rfl
theorem many1 : 465 ≤ many Tryz.prog ((Tryz.prog.funcs.toList.drop 149).take 149) := Nat.le_of_ble_eq_true (by kernel_rfl)
end Go.Proofs.YtjlgdeeahcfcgaaGreatDoor
namespace Go.Proofs.YtjlgdeeahcfcgaaGreatDoor
open Go.ChangeShapes Go.WideShapes Go.ChangeAt Go.RowKit Go.Reach
theorem quiet2 : (((Tryz.prog.funcs.toList.drop 149).drop 149).take 149).any Func.goes = false := by kernel_rfl
theorem many2 : 421 ≤ many Tryz.prog (((Tryz.prog.funcs.toList.drop 149).drop 149).take 149) := Nat.le_of_ble_eq_true (by kernel_rfl)
end Go.Proofs.YtjlgdeeahcfcgaaGreatDoor
namespace Go.Proofs.YtjlgdeeahcfcgaaGreatDoor
open Go.ChangeShapes Go.WideShapes Go.ChangeAt Go.RowKit Go.Reach
theorem quiet3 : (((Tryz.prog.funcs.toList.drop 149).drop 149).drop 149).any Func.goes = false := by kernel_rfl
theorem many3 : 288 ≤ many Tryz.prog (((Tryz.prog.funcs.toList.drop 149).drop 149).drop 149) := Nat.le_of_ble_eq_true (by kernel_rfl)
end Go.Proofs.YtjlgdeeahcfcgaaGreatDoor
