/- What WholeNil comes to, wherever the two tables stand, whatever the text: run by the kernel, where awake's answer is known. -/
import Derived.Test.YtnnjnjginlkloaaGreatDoorAwake
set_option linter.unusedVariables false
set_option linter.unusedSimpArgs false
namespace Go.Proofs.YtnnjnjginlkloaaGreatDoor
open Go.Exe Go.RowKit

/-- As known; besides, awake's answer where the tables stand. -/
def known2 (f : Nat) (args : List AV) (h : Tr AObj) : Option (Option AV) :=
  match known f args h with
  | some r => some r
  | none => match Nat.beq f 5, args, sameO signs1 (h.get 0), sameO pow1 (h.get 6) with
    | true, [], true, true => some (some (.bool true))
    | _, _, _, _ => none

theorem sameO_eq {p : AObj} {o : Option AObj} (h : sameO p o = true) : o = some p := by
  unfold sameO at h
  split at h
  · rw [eqObj_eq _ _ h]
  · cases h

theorem known2_ok (f : FuncId) (args : List AV) (hp : Tr AObj) (v : AV) (h : known2 f args hp = some (some v)) : (∀ args w, (callFunc f args).run Tryz.prog w = .ok (.enter f args) w) ∧
    ∀ θ B S args' w, S.heap = hp → SR θ B S w → VRs θ args args' → Calls Tryz.prog f args'.toArray w (fun e w' => ∃ v', e = .returned v' ∧ VR θ v v' ∧ Below w.heap.size w w') := by
  unfold known2 at h
  split at h
  · rename_i r hr
    simp only [Option.some.injEq] at h
    subst h
    exact known_ok f args hp v hr
  · split at h
    · rename_i h1 h2 h3 _
      simp only [Option.some.injEq] at h
      subst h
      have h1 := Nat.eq_of_beq_eq_true h1
      subst h1
      refine ⟨Tryz.call5, fun θ B S args' w hs k ha => ?_⟩
      cases ha
      subst hs
      exact (awake_any ⟨standsAt_of (kd := .u32) (l := signsL) k (by omega) (sameO_eq h2), standsAt_of (kd := .u64) (l := powL) k (by omega) (sameO_eq h3)⟩).mono fun e w' ⟨he, hb⟩ => ⟨_, he, .bool true, hb⟩
    · cases h

noncomputable def env2 : Env := ⟨tyTab, fnTab, known2, idle⟩
theorem env2_ok : EnvOk Tryz.prog env2 := ⟨tyTab_ok, fnTab_ok, known2_ok, idle_ok, by kernel_rfl⟩

set_option maxRecDepth 100000 in
set_option maxHeartbeats 400000000 in
theorem ran3F_nil (b : Bool) : isTrue (callsF env2 memoB 4000 60 3 [.str [], .bool b] st0) = true := by cases b <;> decide +kernel
set_option maxRecDepth 100000 in
set_option maxHeartbeats 400000000 in
theorem ran3F_cons (c : Nat) (r : List Nat) (b : Bool) : isTrue (callsF env2 memoB 4000 60 3 [.str (c :: r), .bool b] st0) = true := by cases b <;> kernel_rfl
theorem ran3 (s : List Nat) (b : Bool) : isTrue (calls env2 memoB 4000 60 3 [.str s, .bool b] st0) = true := by
  refine (congrArg isTrue (callsF_eq env2 memoB 4000 60 3 [.str s, .bool b] st0)).symm.trans ?_
  cases s with
  | nil => exact ran3F_nil b
  | cons c r => exact ran3F_cons c r b

theorem nil_any {w : World} (hw : Stands w) (s : ByteArray) (b : Bool) : Calls Tryz.prog 3 #[.string s, .bool b] w fun e w' => e = .returned (.bool true) ∧ Below w.heap.size w w' :=
  said_of_run env2_ok (ran3 (s.data.toList.map UInt8.toNat) b) hw (.cons _ _ _ _ (.str s) (.cons _ _ _ _ (.bool b) .nil))
end Go.Proofs.YtnnjnjginlkloaaGreatDoor
