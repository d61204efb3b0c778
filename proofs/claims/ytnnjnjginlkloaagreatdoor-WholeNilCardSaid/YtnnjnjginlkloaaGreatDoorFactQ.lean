/- That no function goes: how the parts are joined. No function goes: part 0. No function goes: part 1. No function goes: part 2. No function goes: part 3. -/
import Derived.Test.YtnnjnjginlkloaaGreatDoorCards
import Derived.WalkKit
import Derived.ProofKit
import Derived.JoinedCond
namespace Go.Proofs.YtnnjnjginlkloaaGreatDoor
open Go.ChangeShapes Go.WideShapes Go.ChangeAt Go.RowKit
theorem any_split (l : List Func) (n : Nat) (h1 : (l.take n).any Func.goes = false) (h2 : (l.drop n).any Func.goes = false) : l.any Func.goes = false := by
  rw [← List.take_append_drop n l, List.any_append, h1, h2]
  rfl
theorem goes_false {P : Program} (f : FuncId) (h : P.funcs.toList.any Func.goes = false) : P.goes f = false := by
  have hq : ∀ fn ∈ P.funcs.toList, fn.goes = false := by
    intro fn hf
    cases hg : fn.goes with
    | false => rfl
    | true => rw [List.any_eq_true.2 ⟨fn, hf, hg⟩] at h; cases h
  have h1 : ((P.closure f).any fun g => (P.funcs[g]?).any Func.goes) = false := by
    rw [List.any_eq_false]
    intro g _ hx
    cases hf : P.funcs[g]? with
    | none => rw [hf] at hx; simp at hx
    | some fn =>
      rw [hf] at hx
      have hm : fn ∈ P.funcs.toList := by
        obtain ⟨hl, he⟩ := Array.getElem?_eq_some_iff.1 hf
        rw [← he]
        exact Array.getElem_mem_toList hl
      have := hq fn hm
      simp [this] at hx
  unfold Program.goes
  rw [h1, ← Array.any_toList, h]
  simp
end Go.Proofs.YtnnjnjginlkloaaGreatDoor
namespace Go.Proofs.YtnnjnjginlkloaaGreatDoor
open Go.ChangeShapes Go.WideShapes Go.ChangeAt Go.RowKit
theorem quiet0 : ((Tryz.prog.funcs.toList).take 153).any Func.goes = false := by kernel_rfl
end Go.Proofs.YtnnjnjginlkloaaGreatDoor
namespace Go.Proofs.YtnnjnjginlkloaaGreatDoor
open Go.ChangeShapes Go.WideShapes Go.ChangeAt Go.RowKit
theorem quiet1 : ((Tryz.prog.funcs.toList.drop 153).take 153).any Func.goes = false := by kernel_rfl
end Go.Proofs.YtnnjnjginlkloaaGreatDoor
namespace Go.Proofs.YtnnjnjginlkloaaGreatDoor
open Go.ChangeShapes Go.WideShapes Go.ChangeAt Go.RowKit
theorem quiet2 : (((Tryz.prog.funcs.toList.drop 153).drop 153).take 153).any Func.goes = false := by kernel_rfl
end Go.Proofs.YtnnjnjginlkloaaGreatDoor
namespace Go.Proofs.YtnnjnjginlkloaaGreatDoor
open Go.ChangeShapes Go.WideShapes Go.ChangeAt Go.RowKit
theorem quiet3 : (((Tryz.prog.funcs.toList.drop 153).drop 153).drop 153).any Func.goes = false := by kernel_rfl
end Go.Proofs.YtnnjnjginlkloaaGreatDoor
