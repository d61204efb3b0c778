/- The two deferred closures that recover, where nothing panics. -/
import Derived.Test.YtlngchhjdnalbaaGreatDoorShelf
import Derived.Test.YtlngchhjdnalbaaGreatDoorExeThm
import Derived.Tactics
import Derived.Tactics2
import Derived.Defers
import Derived.Recover
import Derived.Laws.Pointers
set_option linter.unusedVariables false
set_option linter.unusedSimpArgs false
namespace Go.Proofs.YtlngchhjdnalbaaGreatDoor
open Go.RowKit

theorem idle21 (a b c : Value) (w : World) :
    CallsD Tryz.prog 21 #[a, b, c] .returning w fun e u' w' => (∃ v, e = .returned v) ∧ u' = .returning ∧ Below w.heap.size w w' := by
  have hta : ∀ w, (Instr.typeAssert Value.nilIface 20 80 true).run Tryz.prog w = .ok (.tuple #[.agg #[.int .i64 0, .int .i64 0], .bool false]) w := fun w => by
    simp [Instr.typeAssert, go_sem, Tryz.runUnderlying80, Tryz.runUnderlying20, Tryz.zeroValue80]
  refine callsD_of_wpS Tryz.func21 rfl fun c₀ cs hu => ?_
  apply wpS_seq
  apply wpS_region
  rw [show #[a, b, c] ++ Array.replicate (Tryz.f21.ntmps - (#[a, b, c] : Array Value).size) undef = #[a, b, c, undef, undef, undef, undef, undef, undef, undef, undef, undef, undef, undef, undef, undef] from by rw [Tryz.ntmps21]; rfl]
  simp [wpOpsS, go_sem, recoverD, hu, Tryz.ntmps21, Exit.thenS, hta]
  apply wpS_seq
  apply wpS_region
  simp [wpOpsS, go_sem, Exit.thenS]
  refine wpS_cond (t := false) (by simp [Act.eval]) ?_
  simp only [Bool.false_eq_true, if_false]
  refine wpS_of_wp (wp_skip ?_)
  cases c₀
  simp_all [bodyPostS, results, Tryz.results21]
  exact (Below.refl _ _).alloc (Nat.le_refl _) _

theorem idle89 (a : Value) (w : World) :
    CallsD Tryz.prog 89 #[a] .returning w fun e u' w' => (∃ v, e = .returned v) ∧ u' = .returning ∧ Below w.heap.size w w' := by
  have hta : ∀ w, (Instr.typeAssert Value.nilIface 20 159 true).run Tryz.prog w = .ok (.tuple #[.agg #[.int .i64 0], .bool false]) w := fun w => by
    simp [Instr.typeAssert, go_sem, Tryz.runUnderlying159, Tryz.runUnderlying20, Tryz.zeroValue159]
  refine callsD_of_wpS Tryz.func89 rfl fun c₀ cs hu => ?_
  apply wpS_seq
  apply wpS_region
  rw [show #[a] ++ Array.replicate (Tryz.f89.ntmps - (#[a] : Array Value).size) undef = #[a, undef, undef, undef, undef, undef, undef, undef, undef, undef, undef] from by rw [Tryz.ntmps89]; rfl]
  simp [wpOpsS, go_sem, recoverD, hu, Tryz.ntmps89, Exit.thenS, hta]
  apply wpS_seq
  apply wpS_region
  simp [wpOpsS, go_sem, Exit.thenS]
  refine wpS_cond (t := false) (by simp [Act.eval]) ?_
  simp only [Bool.false_eq_true, if_false]
  refine wpS_of_wp (wp_skip ?_)
  cases c₀
  simp_all [bodyPostS, results, Tryz.results89]
  exact (Below.refl _ _).alloc (Nat.le_refl _) _

end Go.Proofs.YtlngchhjdnalbaaGreatDoor
