/- The two deferred closures that recover, where nothing panics. -/
import Derived.Test.YtnnjnjginlkloaaGreatDoorShelf
import Derived.Test.YtnnjnjginlkloaaGreatDoorExeSound
import Derived.Tactics
import Derived.Tactics2
import Derived.Defers
import Derived.Recover
import Derived.Laws.Pointers
set_option linter.unusedVariables false
set_option linter.unusedSimpArgs false
namespace Go.Proofs.YtnnjnjginlkloaaGreatDoor
open Go.RowKit

theorem idle119 (a : Value) (w : World) :
    CallsD Tryz.prog 119 #[a] .returning w fun e u' w' => (∃ v, e = .returned v) ∧ u' = .returning ∧ Below w.heap.size w w' := by
  have hta : ∀ w, (Instr.typeAssert Value.nilIface 20 227 true).run Tryz.prog w = .ok (.tuple #[.agg #[.int .i64 0], .bool false]) w := fun w => by
    simp [Instr.typeAssert, go_sem, Tryz.runUnderlying227, Tryz.runUnderlying20, Tryz.zeroValue227]
  refine callsD_of_wpS Tryz.func119 rfl fun c₀ cs hu => ?_
  apply wpS_seq
  apply wpS_region
  rw [show #[a] ++ Array.replicate (Tryz.f119.ntmps - (#[a] : Array Value).size) undef = #[a, undef, undef, undef, undef, undef, undef, undef, undef, undef, undef] from by rw [Tryz.ntmps119]; rfl]
  simp [wpOpsS, go_sem, recoverD, hu, Tryz.ntmps119, Exit.thenS, hta]
  apply wpS_seq
  apply wpS_region
  simp [wpOpsS, go_sem, Exit.thenS]
  refine wpS_cond (t := false) (by simp [Act.eval]) ?_
  simp only [Bool.false_eq_true, if_false]
  refine wpS_of_wp (wp_skip ?_)
  cases c₀
  simp_all [bodyPostS, results, Tryz.results119]
  exact (Below.refl _ _).alloc (Nat.le_refl _) _

set_option maxHeartbeats 1000000 in
theorem idle44 (a b : Value) (w : World) :
    CallsD Tryz.prog 44 #[a, b] .returning w fun e u' w' => (∃ v, e = .returned v) ∧ u' = .returning ∧ Below w.heap.size w w' := by
  refine callsD_of_wpS Tryz.func44 rfl fun c₀ cs hu => ?_
  apply wpS_seq
  apply wpS_region
  rw [show #[a, b] ++ Array.replicate (Tryz.f44.ntmps - (#[a, b] : Array Value).size) undef = #[a, b, undef, undef, undef, undef, undef, undef, undef, undef, undef, undef, undef, undef, undef, undef, undef, undef, undef, undef, undef, undef, undef, undef, undef, undef, undef, undef, undef] from by
    rw [Tryz.ntmps44]
    simp only [List.size_toArray, List.length_cons, List.length_nil, Nat.reduceAdd, Nat.reduceSub, Array.replicate_succ, Array.replicate_zero, List.push_toArray, List.append_toArray, List.nil_append, List.cons_append]]
  simp [wpOpsS, go_sem, recoverD, hu, Tryz.ntmps44, Exit.thenS]
  apply wpS_seq
  apply wpS_region
  simp [wpOpsS, go_sem, Exit.thenS]
  refine wpS_cond (t := false) (by simp [Act.eval]) ?_
  simp only [Bool.false_eq_true, if_false]
  refine wpS_of_wp (wp_skip ?_)
  cases c₀
  simp_all [bodyPostS, results, Tryz.results44]
  exact Below.refl _ _

end Go.Proofs.YtnnjnjginlkloaaGreatDoor
