/- The executor's environment at this door: its tables, the shelf's functions, target.Normal at "/a", two closures that find nothing to recover. -/
import Derived.Test.YtnnjnjginlkloaaGreatDoorNormB
set_option linter.unusedVariables false
set_option linter.unusedSimpArgs false
namespace Go.Proofs.YtnnjnjginlkloaaGreatDoor
open Go.Exe Go.RowKit

def isPA : List AV → Bool
  | [.str s] => sameStr s [47, 97]
  | _ => false

def known (f : Nat) (args : List AV) (h : Tr AObj) : Option (Option AV) :=
  match knownP f args h with
  | some r => some r
  | none => match Nat.beq f 124, isPA args with
    | true, true => some (some (.tuple [.str [47, 97], .int .i64 0]))
    | _, _ => none

theorem isPA_eq {args : List AV} (h : isPA args = true) : args = [.str [47, 97]] := by
  unfold isPA at h
  split at h
  · rw [sameStr_eq _ _ h]
  · cases h

theorem known_ok (f : FuncId) (args : List AV) (hp : Tr AObj) (v : AV) (h : known f args hp = some (some v)) : (∀ args w, (callFunc f args).run Tryz.prog w = .ok (.enter f args) w) ∧
    ∀ θ B S args' w, S.heap = hp → SR θ B S w → VRs θ args args' → Calls Tryz.prog f args'.toArray w (fun e w' => ∃ v', e = .returned v' ∧ VR θ v v' ∧ Below w.heap.size w w') := by
  unfold known at h
  split at h
  · rename_i r hr
    simp only [Option.some.injEq] at h
    subst h
    exact knownP_ok f args hp v hr
  · split at h
    · rename_i h1 h2
      simp only [Option.some.injEq] at h
      subst h
      have h1 := Nat.eq_of_beq_eq_true h1
      subst h1
      have h2 := isPA_eq h2
      subst h2
      refine ⟨Tryz.call124, fun θ B S args' w _ k ha => ?_⟩
      cases ha with
      | cons _ v1 _ _ hv1 ha =>
        cases ha
        obtain ⟨s, rfl, hs⟩ := str_is hv1
        rw [bytes_is (l := [47, 97]) hs]
        exact (normal_a w).mono fun e w' ⟨he, hb⟩ => ⟨_, he, .tuple _ _ (.cons _ _ _ _ (vstr _ [47, 97]) (.cons _ _ _ _ (.int _ _) .nil)), hb⟩
    · cases h

noncomputable def env : Env := ⟨tyTab, fnTab, known, idle⟩
theorem env_ok : EnvOk Tryz.prog env := ⟨tyTab_ok, fnTab_ok, known_ok, idle_ok, by kernel_rfl⟩
end Go.Proofs.YtnnjnjginlkloaaGreatDoor
