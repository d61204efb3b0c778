/- awake and LoopNil, run by the executor: what is known at the start. -/
import Derived.Test.YtfdcjjaldoimgaaGreatDoorEnv
import Derived.Test.YtfdcjjaldoimgaaGreatDoorExeFastD
set_option linter.unusedVariables false
set_option linter.unusedSimpArgs false
namespace Go.Proofs.YtfdcjjaldoimgaaGreatDoor
open Go.Exe Go.RowKit

def signsL : List Nat := [0, 67071226, 3355443198, 1476395007]
/-- The table of turnpike/octet's signs. -/
def signs0 : AObj := .cells (signsL.map fun n => .int .u32 (.ofNat n)) 393 none
def signs1 : AObj := .cells [.int .u32 0, .int .u32 67071226, .int .u32 3355443198, .int .u32 1476395007] 393 none
/-- What is known at the start. -/
def heap0 : Tr AObj := Tr.put 1 .nil 0 (some signs1)
def th00 : Th := ⟨fun g => if g < 64 then some g else none, fun _ => none⟩
def st0 : St := ⟨heap0, 64, 0, 0⟩

/-- The tables stand in the world. -/
def StandsAt (w : World) (g : Nat) (t : TypeId) (l : List Value) : Prop := ∃ c fr rest, w.heap[g]? = some (.cells c t fr) ∧ c.toList = l ++ rest
def Stands (w : World) : Prop := StandsAt w 0 393 (signsL.map fun n => .int .u32 (n : Nat))

theorem vints (θ : Th) (k : IntKind) : ∀ l : List Nat, VRs θ (l.map fun n => .int k (.ofNat n)) (l.map fun n => Value.int k (n : Nat))
  | [] => .nil
  | x :: l => .cons _ _ _ _ (.int k _) (vints θ k l)

theorem vints_is {θ : Th} {k : IntKind} : ∀ {l : List Nat} {vs : List Value}, VRs θ (l.map fun n => .int k (.ofNat n)) vs → vs = l.map fun n => Value.int k (n : Nat)
  | [], _, h => by cases h; rfl
  | x :: l, _, h => by
    cases h with
    | cons _ v _ vs h1 h2 =>
      cases h1
      rw [vints_is h2]
      rfl

theorem heap0_get (n : Nat) : heap0.get n = if n = 0 then some signs1 else none := by
  unfold heap0
  rw [Tr.get_put _ _ _ _ _ (by omega), Tr.get_nil]

theorem start_ok {w : World} (h : Stands w) : SR th00 w.heap.size st0 w := by
  obtain ⟨c, fr, rest, h, hc⟩ := h
  refine ⟨⟨fun n o hn => ?_, fun n m b h1 h2 _ _ _ => ?_⟩, fun n hn => ?_, fun _ _ => rfl, Nat.le_refl _, fun g hg => by simp [th00, hg], Nat.le_refl _⟩
  · have hn : heap0.get n = some o := hn
    rw [heap0_get] at hn
    split at hn
    · rename_i h0
      subst h0
      cases hn
      exact ⟨0, _, by simp [th00], h, ⟨rfl, _, rest, hc, vints _ .u32 signsL, fun _ _ h => by cases h⟩, fun h => by omega⟩
    · cases hn
  · have h2 : heap0.get n ≠ none := h2
    rw [heap0_get, if_neg (by omega)] at h2
    exact (h2 rfl).elim
  · have hn : 64 ≤ n := hn
    simp [th00]
    omega

theorem standsAt_of {θ : Th} {B : Nat} {S : St} {w : World} (k : SR θ B S w) {g : Nat} {t : TypeId} {kd : IntKind} {l : List Nat} (hg : g < 64) (h : S.heap.get g = some (.cells (l.map fun n => .int kd (.ofNat n)) t none)) : StandsAt w g t (l.map fun n => Value.int kd (n : Nat)) := by
  obtain ⟨b, ob, h1, h2, h3, _⟩ := k.hr.obj g _ h
  rw [k.glob g hg] at h1
  cases h1
  cases ob <;> simp only [OR] at h3
  obtain ⟨rfl, pre, rest, h4, h5, _⟩ := h3
  exact ⟨_, _, rest, h2, by rw [h4, vints_is h5]⟩

/-- The tables are known. -/
def sameO (o : AObj) : Option AObj → Bool
  | some p => eqObj o p
  | none => false

def isTrue : Option Out → Bool
  | some (.call (.bool true) _) => true
  | _ => false
theorem true_of {o : Option Out} (h : isTrue o = true) : ∃ S, o = some (.call (.bool true) S) := by
  unfold isTrue at h
  split at h
  · exact ⟨_, rfl⟩
  · cases h

/-- What a run from the start that gives true says. -/
theorem said_of_run {E : Env} (hE : EnvOk Tryz.prog E) {N d : Nat} {f : FuncId} {args : List AV} (h : isTrue (calls E noMemo N d f args st0) = true) {w : World} (hw : Stands w) {args' : List Value} (ha : VRs th00 args args') :
    Calls Tryz.prog f args'.toArray w fun e w' => e = .returned (.bool true) ∧ Below w.heap.size w w' := by
  obtain ⟨S', h⟩ := true_of h
  exact (call_sound hE (noMemo_ok _) h (start_ok hw) ha).mono fun e w' ⟨v', θ', he, hv, _, hb⟩ => by
    cases hv
    exact ⟨he, hb⟩
end Go.Proofs.YtfdcjjaldoimgaaGreatDoor
