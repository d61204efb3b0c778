/- AppNil, run by the kernel: the method is another one. -/
import Derived.Test.YtjlgdeeahcfcgaaGreatDoorLaw
set_option linter.unusedVariables false
set_option linter.unusedSimpArgs false
namespace Go.Proofs.YtjlgdeeahcfcgaaGreatDoor
open Go.Exe Go.RowKit

set_option maxRecDepth 100000 in
set_option maxHeartbeats 400000000 in
theorem ran3_oz : isTrue (callsF env3 memoB 4000 60 3 (args3 (methodA false false) (minorA true false false)) st0) = true := by decide +kernel
set_option maxRecDepth 100000 in
set_option maxHeartbeats 400000000 in
theorem ran3_ol : isTrue (callsF env3 memoB 4000 60 3 (args3 (methodA false false) (minorA false true false)) st0) = true := by decide +kernel
set_option maxRecDepth 100000 in
set_option maxHeartbeats 400000000 in
theorem ran3_og : isTrue (callsF env3 memoB 4000 60 3 (args3 (methodA false false) (minorA false false true)) st0) = true := by decide +kernel
end Go.Proofs.YtjlgdeeahcfcgaaGreatDoor
