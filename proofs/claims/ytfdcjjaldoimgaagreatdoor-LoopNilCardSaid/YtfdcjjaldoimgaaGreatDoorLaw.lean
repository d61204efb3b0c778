/- What LoopNil comes to, wherever the table stands, whatever the event and the bound: run by the kernel, where awake's answer is known. -/
import Derived.Test.YtfdcjjaldoimgaaGreatDoorAwake
set_option linter.unusedVariables false
set_option linter.unusedSimpArgs false
namespace Go.Proofs.YtfdcjjaldoimgaaGreatDoor
open Go.Exe Go.RowKit

theorem sameO_eq {p : AObj} {o : Option AObj} (h : sameO p o = true) : o = some p := by
  unfold sameO at h
  split at h
  · rw [eqObj_eq _ _ h]
  · cases h

/-- As known; besides, awake's answer where the table stands. -/
def known2 (f : Nat) (args : List AV) (h : Tr AObj) : Option (Option AV) :=
  match known f args h with
  | some r => some r
  | none => match Nat.beq f 4, args, sameO signs1 (h.get 0) with
    | true, [], true => some (some (.bool true))
    | _, _, _ => none

theorem known2_ok (f : FuncId) (args : List AV) (hp : Tr AObj) (v : AV) (h : known2 f args hp = some (some v)) : (∀ args w, (callFunc f args).run Tryz.prog w = .ok (.enter f args) w) ∧
    ∀ θ B S args' w, S.heap = hp → SR θ B S w → VRs θ args args' → Calls Tryz.prog f args'.toArray w (fun e w' => ∃ v', e = .returned v' ∧ VR θ v v' ∧ Below w.heap.size w w') := by
  unfold known2 at h
  split at h
  · rename_i r hr
    simp only [Option.some.injEq] at h
    subst h
    exact known_ok f args hp v hr
  · split at h
    · rename_i h1 h2 _
      simp only [Option.some.injEq] at h
      subst h
      have h1 := Nat.eq_of_beq_eq_true h1
      subst h1
      refine ⟨Tryz.call4, fun θ B S args' w hs k ha => ?_⟩
      cases ha
      subst hs
      exact (awake_any (standsAt_of (kd := .u32) (l := signsL) k (by omega) (sameO_eq h2))).mono fun e w' ⟨he, hb⟩ => ⟨_, he, .bool true, hb⟩
    · cases h

noncomputable def env2 : Env := ⟨tyTab, fnTab, known2, idle⟩
theorem env2_ok : EnvOk Tryz.prog env2 := ⟨tyTab_ok, fnTab_ok, known2_ok, idle_ok, by kernel_rfl⟩

set_option maxRecDepth 100000 in
set_option maxHeartbeats 400000000 in
theorem ran3F (k c n m : Int) (d : List Nat) : isTrue (callsF env2 noMemo 4000 60 3 [.agg [.int .i64 k, .int .i64 c, .int .i64 n, .str d], .int .i64 m] st0) = true := by
  rcases k with (_ | k) | (_ | k) <;> rcases c with (_ | c) | (_ | c) <;> rcases n with (_ | n) | (_ | n) <;> rcases m with (_ | m) | (_ | m) <;> kernel_rfl
theorem ran3 (k c n m : Int) (d : List Nat) : isTrue (calls env2 noMemo 4000 60 3 [.agg [.int .i64 k, .int .i64 c, .int .i64 n, .str d], .int .i64 m] st0) = true :=
  (congrArg isTrue (callsF_eq env2 noMemo 4000 60 3 _ st0)).symm.trans (ran3F k c n m d)

theorem nil_any {w : World} (hw : Stands w) (k c n m : Int) (d : ByteArray) : Calls Tryz.prog 3 #[.agg #[.int .i64 k, .int .i64 c, .int .i64 n, .string d], .int .i64 m] w fun e w' => e = .returned (.bool true) ∧ Below w.heap.size w w' :=
  said_of_run env2_ok (ran3 k c n m (d.data.toList.map UInt8.toNat)) hw
    (.cons _ _ _ _ (.agg _ _ (.cons _ _ _ _ (.int _ _) (.cons _ _ _ _ (.int _ _) (.cons _ _ _ _ (.int _ _) (.cons _ _ _ _ (.str d) .nil))))) (.cons _ _ _ _ (.int _ _) .nil))
end Go.Proofs.YtfdcjjaldoimgaaGreatDoor
