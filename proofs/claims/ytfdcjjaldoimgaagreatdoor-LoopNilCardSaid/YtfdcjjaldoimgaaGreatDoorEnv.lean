/- The executor's environment at this door: its tables, the shelf's Clone, a closure that finds nothing to recover. -/
import Derived.Test.YtfdcjjaldoimgaaGreatDoorTab
import Derived.Test.YtfdcjjaldoimgaaGreatDoorIdle
set_option linter.unusedVariables false
set_option linter.unusedSimpArgs false
namespace Go.Proofs.YtfdcjjaldoimgaaGreatDoor
open Go.Exe Go.RowKit

def known (f : Nat) (args : List AV) (_ : Tr AObj) : Option (Option AV) :=
  match f with
  | 115 => match args with
    | [.str s] => match Nat.ble s.length 1000000 with
      | true => some (some (.str s))
      | false => some none
    | _ => some none
  | _ => none

theorem known_ok (f : FuncId) (args : List AV) (hp : Tr AObj) (v : AV) (h : known f args hp = some (some v)) : (∀ args w, (callFunc f args).run Tryz.prog w = .ok (.enter f args) w) ∧
    ∀ θ B S args' w, S.heap = hp → SR θ B S w → VRs θ args args' → Calls Tryz.prog f args'.toArray w (fun e w' => ∃ v', e = .returned v' ∧ VR θ v v' ∧ Below w.heap.size w w') := by
  unfold known at h
  split at h
  · split at h
    · rename_i s
      split at h
      · rename_i hc
        have hc := Nat.le_of_ble_eq_true hc
        simp only [Option.some.injEq] at h
        subst h
        refine ⟨Tryz.call115, fun θ B S args' w _ _ ha => ?_⟩
        cases ha with
        | cons _ v1 _ _ h1 h2 =>
          cases h2
          cases h1 with
          | str b =>
            have hb : b.size ≤ 1000000 := by
              have : (b.data.toList.map UInt8.toNat).length = b.size := by rw [List.length_map]; rfl
              omega
            refine (Tryz.stringslite_Clone b w (by omega)).mono fun e w' ⟨he, hw⟩ => ?_
            exact ⟨_, he, .str b, hw⟩
      · cases h
    · cases h
  · cases h

def idle (f : FuncId) : Option Nat :=
  match f with
  | 122 => some 1
  | _ => none

theorem idle_ok (f : FuncId) (n : Nat) (h : idle f = some n) (args : Array Value) (hs : args.size = n) : (∀ w, (callFunc f args).run Tryz.prog w = .ok (.enter f args) w) ∧
    ∀ w, CallsD Tryz.prog f args .returning w (fun e u w' => (∃ v, e = .returned v) ∧ u = .returning ∧ Below w.heap.size w w') := by
  obtain ⟨l⟩ := args
  unfold idle at h
  split at h
  · simp only [Option.some.injEq] at h
    subst h
    match l, hs with
    | [a], _ => exact ⟨Tryz.call122 _, idle119 a⟩
  · cases h

noncomputable def env : Env := ⟨tyTab, fnTab, known, idle⟩
theorem env_ok : EnvOk Tryz.prog env := ⟨tyTab_ok, fnTab_ok, known_ok, idle_ok, by kernel_rfl⟩
end Go.Proofs.YtfdcjjaldoimgaaGreatDoor
