/- What the row of ConfigUsual gives: the table of turnpike/octet's signs stands; and a world for the witness. -/
import Derived.Test.YtlngchhjdnalbaaGreatDoorCards
import Derived.Test.YtlngchhjdnalbaaGreatDoorTie
import Derived.Test.YtlngchhjdnalbaaGreatDoorLaw
import Derived.WalkKit
import Derived.ProofKit
import Derived.OpenShut
import Derived.Deep.DeepHandedRow
import Derived.Lib.LaidTab
import Derived.LaidSub
import Derived.LaidHandle
import Derived.Lay
namespace Go.Proofs.YtlngchhjdnalbaaGreatDoor
open Go.ChangeShapes Go.WideShapes Go.ChangeAt Go.RowKit

theorem own : ownKnob Tryz.prog.godebug = none := by kernel_rfl

theorem signs_of_laid {W : World} (h : laidMetH Tryz.prog Rows.configUsualRow.laid W) : Lib.TabIs Tryz.prog W "turnpike/octet.signs" .u32 [0, 67071226, 3355443198, 1476395007] := by
  have h1 := h.filter (fun x => x.1 == "turnpike/octet.signs")
  have e : (Rows.configUsualRow.laid.filter fun x => x.1 == "turnpike/octet.signs") = [("turnpike/octet.signs", (Lib.tabData .u32 [0, 67071226, 3355443198, 1476395007] : DataW Unit))] := by kernel_rfl
  rw [e] at h1
  have h2 : laidMet Tryz.prog [("turnpike/octet.signs", (Lib.tabData .u32 [0, 67071226, 3355443198, 1476395007] : DataW Unit))] W := h1
  exact Lib.tabIs_of_head (g := 0) (t := 299) (e := 298) (n := 4) (by kernel_rfl) (by kernel_rfl) Tryz.underlying299 Tryz.underlying298 (by kernel_rfl) (by kernel_rfl) h2

theorem stands_of_laid {W : World} (h : laidMetH Tryz.prog Rows.configUsualRow.laid W) (hs : W.ShapedOpen Tryz.prog) : Stands W := by
  obtain ⟨cs, h1, _, _⟩ := hs.1 0 #[.int .u32 0, .int .u32 0, .int .u32 0, .int .u32 0] 299 (of_decide_eq_true (by kernel_rfl)) (by kernel_rfl)
  have h2 := signs_of_laid h
  unfold Lib.TabIs World.var? at h2
  rw [show Tryz.prog.globalNamed "turnpike/octet.signs" = some 0 by kernel_rfl] at h2
  simp only [Option.bind_some, h1, Option.some.injEq] at h2
  subst h2
  exact ⟨_, _, [], h1, rfl⟩

/-- The listed variables but for the handle. -/
noncomputable def plainVars : List (String × DataW Unit) := Rows.configUsualRow.laid.filter fun x => x.2.handleName?.isNone

/-- A world for the witness. -/
noncomputable def laidWorld (os : Os) : World :=
  let w0 := World.holding Tryz.prog os ⟨#[], #[], []⟩
  let w1 : World := { w0 with heap := w0.heap.modify 6 fun
      | .cells _ t frozen => .cells #[.iface 449 (.agg #[typeHandle Tryz.prog 243])] t frozen
      | o => o }
  w1.layVars Tryz.prog plainVars

theorem laidWorld_met (os : Os) (args : Array Value) : laidMetH Tryz.prog Rows.configUsualRow.laid ((laidWorld os).forCall (fun _ _ => 0) ⟨#[], args, []⟩).memory :=
  laidMetH_of_parts (laidMet_of_run' 8 (by kernel_rfl) (by kernel_rfl)) (by kernel_rfl)
end Go.Proofs.YtlngchhjdnalbaaGreatDoor
