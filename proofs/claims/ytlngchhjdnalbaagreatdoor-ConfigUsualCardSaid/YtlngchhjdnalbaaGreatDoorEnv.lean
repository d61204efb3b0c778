/- The executor's environment at this door: its tables, two functions of the shelf, two closures that find nothing to recover. -/
import Derived.Test.YtlngchhjdnalbaaGreatDoorTab
import Derived.Test.YtlngchhjdnalbaaGreatDoorIdle
set_option linter.unusedVariables false
set_option linter.unusedSimpArgs false
namespace Go.Proofs.YtlngchhjdnalbaaGreatDoor
open Go.Exe Go.RowKit

def idxB : List Nat → Nat → Nat → Option Nat
  | [], _, _ => none
  | x :: xs, c, i => match Nat.beq x c with
    | true => some i
    | false => idxB xs c (i + 1)

def known (f : Nat) (args : List AV) (_ : Tr AObj) : Option (Option AV) :=
  match f with
  | 42 => match args with
    | [.str s, .int .u8 (.ofNat c)] => match Nat.ble c 255 with
      | true => some (some (.int .i64 (match idxB s c 0 with | some i => (.ofNat i) | none => -1)))
      | false => some none
    | _ => some none
  | 82 => match args with
    | [.str s] => match Nat.ble s.length 1000000 with
      | true => some (some (.str s))
      | false => some none
    | _ => some none
  | _ => none

def idle (f : FuncId) : Option Nat :=
  match f with
  | 21 => some 3
  | 89 => some 1
  | _ => none

theorem idxB_said (c : Nat) (hc : c ≤ 255) : ∀ (l : List UInt8) (i : Nat), (match idxB (l.map UInt8.toNat) c i with | some j => (Int.ofNat j) | none => -1) = (if Lib.indexByte l c.toUInt8 = -1 then -1 else Lib.indexByte l c.toUInt8 + i)
  | [], i => by simp [idxB, Lib.indexByte]
  | x :: xs, i => by
    have ih := idxB_said c hc xs (i + 1)
    have hx : (x == c.toUInt8) = Nat.beq x.toNat c := by
      rw [Bool.eq_iff_iff, beq_iff_eq, Nat.beq_eq]
      constructor
      · rintro rfl
        show (UInt8.ofNat c).toNat = c
        rw [UInt8.toNat_ofNat']
        omega
      · rintro rfl
        simp [Nat.toUInt8]
    simp only [idxB, Lib.indexByte, List.map_cons, hx]
    cases hb : Nat.beq x.toNat c with
    | true => simp
    | false =>
      simp only [Bool.false_eq_true, if_false]
      rw [ih]
      have := Lib.indexByte_ge xs c.toUInt8
      by_cases h1 : Lib.indexByte xs c.toUInt8 = -1
      · simp [h1]
      · have h2 : (Lib.indexByte xs c.toUInt8 == -1) = false := by simpa using h1
        simp only [h1, h2, if_false, Bool.false_eq_true]
        rw [if_neg (by omega)]
        push_cast
        omega

theorem known_ok (f : FuncId) (args : List AV) (hp : Tr AObj) (v : AV) (h : known f args hp = some (some v)) : (∀ args w, (callFunc f args).run Tryz.prog w = .ok (.enter f args) w) ∧
    ∀ θ B S args' w, S.heap = hp → SR θ B S w → VRs θ args args' → Calls Tryz.prog f args'.toArray w (fun e w' => ∃ v', e = .returned v' ∧ VR θ v v' ∧ Below w.heap.size w w') := by
  unfold known at h
  split at h
  · split at h
    · rename_i s c
      split at h
      · rename_i hc
        have hc := Nat.le_of_ble_eq_true hc
        simp only [Option.some.injEq] at h
        subst h
        refine ⟨Tryz.call42, fun θ B S args' w _ _ ha => ?_⟩
        cases ha with
        | cons _ v1 _ _ h1 h2 =>
          cases h2 with
          | cons _ v2 _ _ h2 h3 =>
            cases h3
            cases h1 with
            | str b =>
              cases h2
              refine (Tryz.strings_IndexByte b (.ofNat c) w).mono fun e w' ⟨he, hw⟩ => ?_
              subst hw
              refine ⟨_, he, ?_, .refl _ _⟩
              have := idxB_said c hc b.data.toList 0
              have e2 : Lib.indexByte b.data.toList (Int.ofNat c).toNat.toUInt8 = (match idxB (b.data.toList.map UInt8.toNat) c 0 with | some j => (Int.ofNat j) | none => -1) := by
                rw [this]
                simp only [Int.ofNat_eq_natCast, Int.toNat_natCast]
                split
                · assumption
                · simp
              rw [e2]
              exact .int _ _
      · cases h
    · cases h
  · split at h
    · rename_i s
      split at h
      · rename_i hc
        have hc := Nat.le_of_ble_eq_true hc
        simp only [Option.some.injEq] at h
        subst h
        refine ⟨Tryz.call82, fun θ B S args' w _ _ ha => ?_⟩
        cases ha with
        | cons _ v1 _ _ h1 h2 =>
          cases h2
          cases h1 with
          | str b =>
            have hb : b.size ≤ 1000000 := by
              have : (b.data.toList.map UInt8.toNat).length = b.size := by rw [List.length_map]; rfl
              omega
            refine (Tryz.stringslite_Clone b w (by omega)).mono fun e w' ⟨he, hw⟩ => ?_
            exact ⟨_, he, .str b, hw⟩
      · cases h
    · cases h
  · cases h

theorem idle_ok (f : FuncId) (n : Nat) (h : idle f = some n) (args : Array Value) (hs : args.size = n) : (∀ w, (callFunc f args).run Tryz.prog w = .ok (.enter f args) w) ∧
    ∀ w, CallsD Tryz.prog f args .returning w (fun e u w' => (∃ v, e = .returned v) ∧ u = .returning ∧ Below w.heap.size w w') := by
  obtain ⟨l⟩ := args
  unfold idle at h
  split at h
  · simp only [Option.some.injEq] at h
    subst h
    match l, hs with
    | [a, b, c], _ => exact ⟨Tryz.call21 _, idle21 a b c⟩
  · simp only [Option.some.injEq] at h
    subst h
    match l, hs with
    | [a], _ => exact ⟨Tryz.call89 _, idle89 a⟩
  · cases h

noncomputable def env : Env := ⟨tyTab, fnTab, known, idle⟩

theorem env_ok : EnvOk Tryz.prog env := ⟨tyTab_ok, fnTab_ok, known_ok, idle_ok, by kernel_rfl⟩
end Go.Proofs.YtlngchhjdnalbaaGreatDoor
