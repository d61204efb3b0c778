/- AppNil, run by the kernel: the method is HEAD. AppNil, run by the kernel: the method is CONNECT. -/
import Derived.Test.YtjlgdeeahcfcgaaGreatDoorLaw
set_option linter.unusedVariables false
set_option linter.unusedSimpArgs false
namespace Go.Proofs.YtjlgdeeahcfcgaaGreatDoor
open Go.Exe Go.RowKit

set_option maxRecDepth 100000 in
set_option maxHeartbeats 400000000 in
theorem ran3_hz : isTrue (callsF env3 memoB 4000 60 3 (args3 (methodA true false) (minorA true false false)) st0) = true := by decide +kernel
set_option maxRecDepth 100000 in
set_option maxHeartbeats 400000000 in
theorem ran3_hl : isTrue (callsF env3 memoB 4000 60 3 (args3 (methodA true false) (minorA false true false)) st0) = true := by decide +kernel
set_option maxRecDepth 100000 in
set_option maxHeartbeats 400000000 in
theorem ran3_hg : isTrue (callsF env3 memoB 4000 60 3 (args3 (methodA true false) (minorA false false true)) st0) = true := by decide +kernel
end Go.Proofs.YtjlgdeeahcfcgaaGreatDoor
namespace Go.Proofs.YtjlgdeeahcfcgaaGreatDoor
open Go.Exe Go.RowKit

set_option maxRecDepth 100000 in
set_option maxHeartbeats 400000000 in
theorem ran3_cz : isTrue (callsF env3 memoB 4000 60 3 (args3 (methodA false true) (minorA true false false)) st0) = true := by decide +kernel
set_option maxRecDepth 100000 in
set_option maxHeartbeats 400000000 in
theorem ran3_cl : isTrue (callsF env3 memoB 4000 60 3 (args3 (methodA false true) (minorA false true false)) st0) = true := by decide +kernel
set_option maxRecDepth 100000 in
set_option maxHeartbeats 400000000 in
theorem ran3_cg : isTrue (callsF env3 memoB 4000 60 3 (args3 (methodA false true) (minorA false false true)) st0) = true := by decide +kernel
end Go.Proofs.YtjlgdeeahcfcgaaGreatDoor
