/- What ConfigUsual comes to, wherever the table of turnpike/octet's signs stands: run by the kernel, where awake's answer is known. -/
import Derived.Test.YtlngchhjdnalbaaGreatDoorAwake
set_option linter.unusedVariables false
set_option linter.unusedSimpArgs false
namespace Go.Proofs.YtlngchhjdnalbaaGreatDoor
open Go.Exe Go.RowKit

/-- As known; besides, awake's answer where the table stands. -/
def known2 (f : Nat) (args : List AV) (h : Tr AObj) : Option (Option AV) :=
  match known f args h with
  | some r => some r
  | none => match Nat.beq f 4, args, isSigns (h.get 0) with
    | true, [], true => some (some (.bool true))
    | _, _, _ => none

theorem known2_ok (f : FuncId) (args : List AV) (hp : Tr AObj) (v : AV) (h : known2 f args hp = some (some v)) : (∀ args w, (callFunc f args).run Tryz.prog w = .ok (.enter f args) w) ∧
    ∀ θ B S args' w, S.heap = hp → SR θ B S w → VRs θ args args' → Calls Tryz.prog f args'.toArray w (fun e w' => ∃ v', e = .returned v' ∧ VR θ v v' ∧ Below w.heap.size w w') := by
  unfold known2 at h
  split at h
  · rename_i r hr
    simp only [Option.some.injEq] at h
    subst h
    exact known_ok f args hp v hr
  · split at h
    · rename_i h1 h2 _
      simp only [Option.some.injEq] at h
      subst h
      have h1 := Nat.eq_of_beq_eq_true h1
      subst h1
      refine ⟨Tryz.call4, fun θ B S args' w hs k ha => ?_⟩
      cases ha
      subst hs
      exact (awake_any (stands_of k (isSigns_eq h2))).mono fun e w' ⟨he, hb⟩ => ⟨_, he, .bool true, hb⟩
    · cases h

noncomputable def env2 : Env := ⟨tyTab, fnTab, known2, idle⟩
theorem env2_ok : EnvOk Tryz.prog env2 := ⟨tyTab_ok, fnTab_ok, known2_ok, idle_ok, by kernel_rfl⟩

set_option maxRecDepth 100000 in
set_option maxHeartbeats 400000000 in
theorem ran3F : isTrue (runF env2 20000 0 (.call 3 []) st0) = true := by decide +kernel
theorem ran3 : isTrue (run env2 20000 0 (.call 3 []) st0) = true :=
  (congrArg isTrue (runF_eq env2 20000 0 (.call 3 []) st0)).symm.trans ran3F

theorem usual_any {w : World} (hw : Stands w) : Calls Tryz.prog 3 #[] w fun e w' => e = .returned (.bool true) ∧ Below w.heap.size w w' :=
  said_of_run env2_ok ran3 hw
end Go.Proofs.YtlngchhjdnalbaaGreatDoor
