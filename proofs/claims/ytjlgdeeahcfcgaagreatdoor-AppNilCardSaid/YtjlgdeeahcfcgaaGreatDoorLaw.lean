/- What AppNil comes to, wherever the two tables stand, at every request, number and fault: run by the kernel, where awake's answer and Fail's text are known. AppNil, as it is run: the method is HEAD, is CONNECT, or is another; the minor number is 0, less, or more. -/
import Derived.Test.YtjlgdeeahcfcgaaGreatDoorFailA
import Derived.Test.YtjlgdeeahcfcgaaGreatDoorAwake
set_option linter.unusedVariables false
set_option linter.unusedSimpArgs false
namespace Go.Proofs.YtjlgdeeahcfcgaaGreatDoor
open Go.Exe Go.RowKit
set_option linter.unusedSectionVars false

def faultA : AV := .agg [opn 5 [], opn 8 [], opn 9 []]
def failA : AV := opn 6 [.nilFunc]
/-- As known; besides, awake's answer and Fail's text where the tables stand, the reference's Reason at 500. -/
def known3T (f : Nat) (args : List AV) : Option (Option AV) :=
  match Nat.beq f 7 with
  | true => match args with
    | [] => some (some (.bool true))
    | _ => none
  | false => match Nat.beq f 11 with
    | true => match eqL (eqV 5) args [.ptr none, faultA] with
      | true => some (some failA)
      | false => none
    | false => match Nat.beq f 12 with
      | true => match eqL (eqV 5) args [cfg0, opn 5 []] with
        | true => some (some failA)
        | false => none
      | false => match args with
        | [a] => knownR f a
        | _ => none
def known3 (f : Nat) (args : List AV) (h : Tr AObj) : Option (Option AV) :=
  match known f args h with
  | some r => some r
  | none => match sameO signs1 (h.get 2) with
    | true => match sameO pow1 (h.get 4) with
      | true => known3T f args
      | false => none
    | false => none

variable [Opn]
/-- What is open: the fault, and what Fail says to it. -/
structure FailOk (n : Int) (s : ByteArray) : Prop where
  v5 : Opn.val 5 = .int .i64 n
  v6 : Opn.val 6 = .string s
  both : ∀ w : World, Stands w →
    (Calls Tryz.prog 11 #[.pointer none, .agg #[.int .i64 n, Opn.val 8, Opn.val 9]] w fun e w' => e = .returned (.string s) ∧ Below w.heap.size w w') ∧
    Calls Tryz.prog 12 #[cfgV, .int .i64 n] w fun e w' => e = .returned (.string s) ∧ Below w.heap.size w w'

theorem opn_val {θ : Th} {t : Nat} {fs : List AV} {v : Value} (h : VR θ (opn t fs) v) : v = Opn.val t := by
  unfold opn at h
  cases h with
  | func _ _ _ _ _ hp _ _ => simp [plainFn] at hp
  | opn _ _ _ h1 _ _ => exact h1.symm

theorem cfg_val {θ : Th} {v : Value} (h : VR θ cfg0 v) : v = cfgV := VR.fun 5 _ _ _ h (cfg_vr θ) (by decide +kernel)

theorem known3T_ok {n : Int} {s : ByteArray} (F : FailOk n s) (f : FuncId) (args : List AV) (hp : Tr AObj) (v : AV) (hs : hp.get 2 = some signs1) (hq : hp.get 4 = some pow1) (h : known3T f args = some (some v)) : KnownAt f args hp v := by
  have hst : ∀ {θ B S w}, S.heap = hp → SR θ B S w → Stands w := fun {θ B S w} e k => by
    subst e
    exact ⟨standsAt_of (kd := .u32) (l := signsL) k (by omega) hs, standsAt_of (kd := .u64) (l := powL) k (by omega) hq⟩
  unfold known3T at h
  split at h
  · rename_i h1
    have h1 := Nat.eq_of_beq_eq_true h1
    subst h1
    split at h
    · cases h
      refine ⟨Tryz.call7, fun θ B S args' w e k ha => ?_⟩
      cases ha
      exact (awake_any (hst e k)).mono fun e w' ⟨he, hb⟩ => ⟨_, he, .bool true, hb⟩
    · cases h
  · split at h
    · rename_i h1
      have h1 := Nat.eq_of_beq_eq_true h1
      subst h1
      split at h
      · rename_i h2
        have h2 := eqL_eq (eqV_eq 5) _ _ h2
        cases h
        subst h2
        refine ⟨Tryz.call11, fun θ B S args' w e k ha => ?_⟩
        cases ha with
        | cons _ v1 _ _ hv1 ha => cases ha with
          | cons _ v2 _ _ hv2 ha =>
            cases ha
            cases hv1
            cases hv2 with
            | agg _ cs hcs => cases hcs with
              | cons _ a5 _ _ ha5 hcs => cases hcs with
                | cons _ a8 _ _ ha8 hcs => cases hcs with
                  | cons _ a9 _ _ ha9 hcs =>
                    cases hcs
                    rw [opn_val ha5, opn_val ha8, opn_val ha9, F.v5]
                    exact (F.both w (hst e k)).1.mono fun e w' ⟨he, hb⟩ => ⟨_, he, .opn 6 _ _ F.v6 rfl (fun f hf => by cases hf with | head => exact ⟨s, rfl⟩ | tail _ h => cases h), hb⟩
      · cases h
    · split at h
      · rename_i h1
        have h1 := Nat.eq_of_beq_eq_true h1
        subst h1
        split at h
        · rename_i h2
          have h2 := eqL_eq (eqV_eq 5) _ _ h2
          cases h
          subst h2
          refine ⟨Tryz.call12, fun θ B S args' w e k ha => ?_⟩
          cases ha with
          | cons _ v1 _ _ hv1 ha => cases ha with
            | cons _ v2 _ _ hv2 ha =>
              cases ha
              rw [cfg_val hv1, opn_val hv2, F.v5]
              exact (F.both w (hst e k)).2.mono fun e w' ⟨he, hb⟩ => ⟨_, he, .opn 6 _ _ F.v6 rfl (fun f hf => by cases hf with | head => exact ⟨s, rfl⟩ | tail _ h => cases h), hb⟩
        · cases h
      · split at h
        · exact knownR_ok f _ hp v h
        · cases h

theorem known3_ok {n : Int} {s : ByteArray} (F : FailOk n s) (f : FuncId) (args : List AV) (hp : Tr AObj) (v : AV) (h : known3 f args hp = some (some v)) : KnownAt f args hp v := by
  unfold known3 at h
  split at h
  · rename_i r hr
    simp only [Option.some.injEq] at h
    subst h
    exact known_ok f args hp v hr
  · split at h
    · rename_i h1
      split at h
      · rename_i h2
        exact known3T_ok F f args hp v (sameO_eq h1) (sameO_eq h2) h
      · cases h
    · cases h

noncomputable def env3 : Env := ⟨tyTab, fnTab, known3, idle⟩
theorem env3_ok {n : Int} {s : ByteArray} (F : FailOk n s) : EnvOk Tryz.prog env3 := ⟨tyTab_ok, fnTab_ok, known3_ok F, idle_ok, by kernel_rfl⟩
end Go.Proofs.YtjlgdeeahcfcgaaGreatDoor
namespace Go.Proofs.YtjlgdeeahcfcgaaGreatDoor
open Go.Exe Go.RowKit
set_option linter.unusedSectionVars false

def headL : List Nat := [72, 69, 65, 68]
def connectL : List Nat := [67, 79, 78, 78, 69, 67, 84]
def methodA (h c : Bool) : AV := opn 0 [.tuple [.str headL, .bool h], .tuple [.str connectL, .bool c]]
def minorA (e l g : Bool) : AV := opn 3 [.tuple [.int .i64 0, .bool e, .bool l, .bool g]]
def reqA (m k : AV) : AV := .agg [m, opn 1 [], opn 2 [], k, opn 10 [], opn 12 [], opn 11 []]
def args3 (m k : AV) : List AV := [reqA m k, opn 4 [], faultA]

end Go.Proofs.YtjlgdeeahcfcgaaGreatDoor
