/- What awake comes to, wherever the two tables stand: run by the kernel. -/
import Derived.Test.YtjlgdeeahcfcgaaGreatDoorEnv
set_option linter.unusedVariables false
set_option linter.unusedSimpArgs false
namespace Go.Proofs.YtjlgdeeahcfcgaaGreatDoor
open Go.Exe Go.RowKit
set_option linter.unusedSectionVars false
variable [Opn]

set_option maxRecDepth 100000 in
set_option maxHeartbeats 400000000 in
theorem ran7F : isTrue (callsF env memoB 4000 60 7 [] st0) = true := by decide +kernel
theorem ran7 : isTrue (calls env memoB 4000 60 7 [] st0) = true :=
  (congrArg isTrue (callsF_eq env memoB 4000 60 7 [] st0)).symm.trans ran7F

theorem awake_any {w : World} (hw : Stands w) : Calls Tryz.prog 7 #[] w fun e w' => e = .returned (.bool true) ∧ Below w.heap.size w w' :=
  said_of_run env_ok ran7 hw .nil
end Go.Proofs.YtjlgdeeahcfcgaaGreatDoor
