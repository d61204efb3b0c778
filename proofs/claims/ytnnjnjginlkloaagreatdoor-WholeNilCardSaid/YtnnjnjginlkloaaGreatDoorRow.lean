/- What the row of WholeNil gives: the two tables stand; and a world for the witness. -/
import Derived.Test.YtnnjnjginlkloaaGreatDoorCards
import Derived.Test.YtnnjnjginlkloaaGreatDoorTieZ
import Derived.Test.YtnnjnjginlkloaaGreatDoorLaw
import Derived.WalkKit
import Derived.ProofKit
import Derived.OpenShut
import Derived.Deep.DeepHandedRow
import Derived.Lib.LaidTab
import Derived.LaidSub
import Derived.LaidHandle
import Derived.Lay
namespace Go.Proofs.YtnnjnjginlkloaaGreatDoor
open Go.ChangeShapes Go.WideShapes Go.ChangeAt Go.RowKit

theorem own : ownKnob Tryz.prog.godebug = none := by kernel_rfl

theorem signs_of_laid {W : World} (h : laidMetH Tryz.prog Rows.wholeNilRow.laid W) : Lib.TabIs Tryz.prog W "turnpike/octet.signs" .u32 [0, 67071226, 3355443198, 1476395007] := by
  have h1 := h.filter (fun x => x.1 == "turnpike/octet.signs")
  have e : (Rows.wholeNilRow.laid.filter fun x => x.1 == "turnpike/octet.signs") = [("turnpike/octet.signs", (Lib.tabData .u32 [0, 67071226, 3355443198, 1476395007] : DataW Unit))] := by kernel_rfl
  rw [e] at h1
  have h2 : laidMet Tryz.prog [("turnpike/octet.signs", (Lib.tabData .u32 [0, 67071226, 3355443198, 1476395007] : DataW Unit))] W := h1
  exact Lib.tabIs_of_head (g := 0) (t := 321) (e := 320) (n := 4) (by kernel_rfl) (by kernel_rfl) Tryz.underlying321 Tryz.underlying320 (by kernel_rfl) (by kernel_rfl) h2

theorem pow_of_laid {W : World} (h : laidMetH Tryz.prog Rows.wholeNilRow.laid W) : Lib.TabIs Tryz.prog W "internal/strconv.uint64pow10" .u64 [1, 10, 100, 1000, 10000, 100000, 1000000, 10000000, 100000000, 1000000000, 10000000000, 100000000000, 1000000000000, 10000000000000, 100000000000000, 1000000000000000, 10000000000000000, 100000000000000000, 1000000000000000000, 10000000000000000000] := by
  have h1 := h.filter (fun x => x.1 == "internal/strconv.uint64pow10")
  have e : (Rows.wholeNilRow.laid.filter fun x => x.1 == "internal/strconv.uint64pow10") = [("internal/strconv.uint64pow10", (Lib.tabData .u64 [1, 10, 100, 1000, 10000, 100000, 1000000, 10000000, 100000000, 1000000000, 10000000000, 100000000000, 1000000000000, 10000000000000, 100000000000000, 1000000000000000, 10000000000000000, 100000000000000000, 1000000000000000000, 10000000000000000000] : DataW Unit))] := by kernel_rfl
  rw [e] at h1
  have h2 : laidMet Tryz.prog [("internal/strconv.uint64pow10", (Lib.tabData .u64 [1, 10, 100, 1000, 10000, 100000, 1000000, 10000000, 100000000, 1000000000, 10000000000, 100000000000, 1000000000000, 10000000000000, 100000000000000, 1000000000000000, 10000000000000000, 100000000000000000, 1000000000000000000, 10000000000000000000] : DataW Unit))] W := h1
  exact Lib.tabIs_of_head (g := 6) (t := 543) (e := 282) (n := 20) (by kernel_rfl) (by kernel_rfl) Tryz.underlying543 Tryz.underlying282 (by kernel_rfl) (by kernel_rfl) h2

theorem stands_of_laid {W : World} (h : laidMetH Tryz.prog Rows.wholeNilRow.laid W) (hs : W.ShapedOpen Tryz.prog) : Stands W := by
  obtain ⟨cs, h1, _, _⟩ := hs.1 0 (Array.replicate 4 (.int .u32 0)) 321 (of_decide_eq_true (by kernel_rfl)) (by kernel_rfl)
  obtain ⟨cs', h1', _, _⟩ := hs.1 6 (Array.replicate 20 (.int .u64 0)) 543 (of_decide_eq_true (by kernel_rfl)) (by kernel_rfl)
  have h2 := signs_of_laid h
  unfold Lib.TabIs World.var? at h2
  rw [show Tryz.prog.globalNamed "turnpike/octet.signs" = some 0 by kernel_rfl] at h2
  simp only [Option.bind_some, h1, Option.some.injEq] at h2
  have h3 := pow_of_laid h
  unfold Lib.TabIs World.var? at h3
  rw [show Tryz.prog.globalNamed "internal/strconv.uint64pow10" = some 6 by kernel_rfl] at h3
  simp only [Option.bind_some, h1', Option.some.injEq] at h3
  subst h2
  subst h3
  exact ⟨⟨_, _, [], h1, rfl⟩, ⟨_, _, [], h1', rfl⟩⟩

/-- The listed variables but for the handle. -/
noncomputable def plainVars : List (String × DataW Unit) := Rows.wholeNilRow.laid.filter fun x => x.2.handleName?.isNone

/-- A world for the witness. -/
noncomputable def laidWorld (os : Os) : World :=
  let w0 := World.holding Tryz.prog os ⟨#[], #[], []⟩
  let w1 : World := { w0 with heap := w0.heap.modify 7 fun
      | .cells _ t frozen => .cells #[.iface 596 (.agg #[typeHandle Tryz.prog 77])] t frozen
      | o => o }
  w1.layVars Tryz.prog plainVars

theorem laidWorld_met (os : Os) (args : Array Value) : laidMetH Tryz.prog Rows.wholeNilRow.laid ((laidWorld os).forCall (fun _ _ => 0) ⟨#[], args, []⟩).memory :=
  laidMetH_of_parts (laidMet_of_run' 8 (by kernel_rfl) (by kernel_rfl)) (by kernel_rfl)
end Go.Proofs.YtnnjnjginlkloaaGreatDoor
