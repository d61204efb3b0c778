/- The two deferred closures that recover, where nothing panics. -/
import Derived.Test.YtfdcjjaldoimgaaGreatDoorShelf
import Derived.Test.YtfdcjjaldoimgaaGreatDoorExeSound
import Derived.Tactics
import Derived.Tactics2
import Derived.Defers
import Derived.Recover
import Derived.Laws.Pointers
set_option linter.unusedVariables false
set_option linter.unusedSimpArgs false
namespace Go.Proofs.YtfdcjjaldoimgaaGreatDoor
open Go.RowKit

theorem idle119 (a : Value) (w : World) :
    CallsD Tryz.prog 122 #[a] .returning w fun e u' w' => (∃ v, e = .returned v) ∧ u' = .returning ∧ Below w.heap.size w w' := by
  have hta : ∀ w, (Instr.typeAssert Value.nilIface 20 237 true).run Tryz.prog w = .ok (.tuple #[.agg #[.int .i64 0], .bool false]) w := fun w => by
    simp [Instr.typeAssert, go_sem, Tryz.runUnderlying237, Tryz.runUnderlying20, Tryz.zeroValue237]
  refine callsD_of_wpS Tryz.func122 rfl fun c₀ cs hu => ?_
  apply wpS_seq
  apply wpS_region
  rw [show #[a] ++ Array.replicate (Tryz.f122.ntmps - (#[a] : Array Value).size) undef = #[a, undef, undef, undef, undef, undef, undef, undef, undef, undef, undef] from by rw [Tryz.ntmps122]; rfl]
  simp [wpOpsS, go_sem, recoverD, hu, Tryz.ntmps122, Exit.thenS, hta]
  apply wpS_seq
  apply wpS_region
  simp [wpOpsS, go_sem, Exit.thenS]
  refine wpS_cond (t := false) (by simp [Act.eval]) ?_
  simp only [Bool.false_eq_true, if_false]
  refine wpS_of_wp (wp_skip ?_)
  cases c₀
  simp_all [bodyPostS, results, Tryz.results122]
  exact (Below.refl _ _).alloc (Nat.le_refl _) _

end Go.Proofs.YtfdcjjaldoimgaaGreatDoor
