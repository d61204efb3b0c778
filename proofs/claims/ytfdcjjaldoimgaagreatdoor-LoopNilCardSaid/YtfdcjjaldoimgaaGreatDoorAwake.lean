/- What awake comes to, wherever the table stands: run by the kernel. -/
import Derived.Test.YtfdcjjaldoimgaaGreatDoorRun
set_option linter.unusedVariables false
set_option linter.unusedSimpArgs false
namespace Go.Proofs.YtfdcjjaldoimgaaGreatDoor
open Go.Exe Go.RowKit

set_option maxRecDepth 100000 in
set_option maxHeartbeats 400000000 in
theorem ran4F : isTrue (callsF env noMemo 4000 60 4 [] st0) = true := by decide +kernel
theorem ran4 : isTrue (calls env noMemo 4000 60 4 [] st0) = true :=
  (congrArg isTrue (callsF_eq env noMemo 4000 60 4 [] st0)).symm.trans ran4F

theorem awake_any {w : World} (hw : Stands w) : Calls Tryz.prog 4 #[] w fun e w' => e = .returned (.bool true) ∧ Below w.heap.size w w' :=
  said_of_run env_ok ran4 hw .nil
end Go.Proofs.YtfdcjjaldoimgaaGreatDoor
