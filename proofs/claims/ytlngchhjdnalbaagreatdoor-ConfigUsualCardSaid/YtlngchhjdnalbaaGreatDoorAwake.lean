/- What awake comes to, wherever the table of turnpike/octet's signs stands: run by the kernel. -/
import Derived.Test.YtlngchhjdnalbaaGreatDoorRun
namespace Go.Proofs.YtlngchhjdnalbaaGreatDoor
open Go.Exe Go.RowKit

set_option maxRecDepth 100000 in
set_option maxHeartbeats 400000000 in
theorem ran4F : isTrue (runF env 20000 0 (.call 4 []) st0) = true := by decide +kernel
theorem ran4 : isTrue (run env 20000 0 (.call 4 []) st0) = true :=
  (congrArg isTrue (runF_eq env 20000 0 (.call 4 []) st0)).symm.trans ran4F

theorem awake_any {w : World} (hw : Stands w) : Calls Tryz.prog 4 #[] w fun e w' => e = .returned (.bool true) ∧ Below w.heap.size w w' :=
  said_of_run env_ok ran4 hw

end Go.Proofs.YtlngchhjdnalbaaGreatDoor
