/- awake, and ConfigUsual, run by the executor. -/
import Derived.Test.YtlngchhjdnalbaaGreatDoorEnv
import Derived.Test.YtlngchhjdnalbaaGreatDoorExeFastF
set_option linter.unusedVariables false
set_option linter.unusedSimpArgs false
namespace Go.Proofs.YtlngchhjdnalbaaGreatDoor
open Go.Exe Go.RowKit

/-- The table of turnpike/octet's signs. -/
def signs0 : AObj := .cells [.int .u32 0, .int .u32 0x03ff6cfa, .int .u32 0xc7fffffe, .int .u32 0x57ffffff] 299 none
/-- What is known at the start. -/
def heap0 : Tr AObj := Tr.put 1 .nil 0 (some signs0)
def st0 : St := ⟨heap0, 64, 0, 0⟩
def th0 : Th := ⟨fun g => if g < 64 then some g else none, fun _ => none⟩

def isSigns : Option AObj → Bool
  | some (.cells [.int .u32 (.ofNat a), .int .u32 (.ofNat b), .int .u32 (.ofNat c), .int .u32 (.ofNat d)] e none) => Nat.beq a 0 && Nat.beq b 0x03ff6cfa && Nat.beq c 0xc7fffffe && Nat.beq d 0x57ffffff && Nat.beq e 299
  | _ => false
theorem isSigns_eq {o : Option AObj} (h : isSigns o = true) : o = some signs0 := by
  unfold isSigns at h
  split at h
  · simp only [Bool.and_eq_true, Nat.beq_eq] at h
    obtain ⟨⟨⟨⟨rfl, rfl⟩, rfl⟩, rfl⟩, rfl⟩ := h
    rfl
  · cases h

/-- The table stands in the world. -/
def Stands (w : World) : Prop := ∃ c fr rest, w.heap[0]? = some (.cells c 299 fr) ∧ c.toList = [.int .u32 0, .int .u32 0x03ff6cfa, .int .u32 0xc7fffffe, .int .u32 0x57ffffff] ++ rest

theorem start_ok {w : World} (h : Stands w) : SR th0 w.heap.size st0 w := by
  obtain ⟨c, fr, rest, h, hc⟩ := h
  have hg : ∀ n, st0.heap.get n = if n = 0 then some signs0 else none := fun n => by
    show (Tr.put 1 .nil 0 (some signs0)).get n = _
    rw [Tr.get_put _ _ _ _ _ (by omega), Tr.get_nil]
  refine ⟨⟨fun n o hn => ?_, fun n m b h1 h2 _ _ _ => ?_⟩, fun n hn => ?_, fun _ _ => rfl, Nat.le_refl _, fun g hg => by simp [th0, hg], Nat.le_refl _⟩
  · rw [hg] at hn
    split at hn
    · rename_i h0
      subst h0
      cases hn
      refine ⟨0, _, by simp [th0], h, ⟨rfl, _, rest, hc, ?_, fun _ _ h => by cases h⟩, fun h => by omega⟩
      exact .cons _ _ _ _ (.int _ _) (.cons _ _ _ _ (.int _ _) (.cons _ _ _ _ (.int _ _) (.cons _ _ _ _ (.int _ _) .nil)))
    · cases hn
  · rw [hg, if_neg (by omega)] at h2
    exact (h2 rfl).elim
  · have hn : 64 ≤ n := hn
    simp [th0]
    omega

theorem stands_of {θ : Th} {B : Nat} {S : St} {w : World} (k : SR θ B S w) (h : S.heap.get 0 = some signs0) : Stands w := by
  obtain ⟨b, ob, h1, h2, h3, _⟩ := k.hr.obj 0 _ h
  rw [k.glob 0 (by omega)] at h1
  cases h1
  cases ob <;> simp only [signs0, OR] at h3
  obtain ⟨rfl, pre, rest, h4, h5, _⟩ := h3
  cases h5 with
  | cons _ _ _ _ a h5 => cases h5 with
    | cons _ _ _ _ b h5 => cases h5 with
      | cons _ _ _ _ c h5 => cases h5 with
        | cons _ _ _ _ d h5 =>
          cases h5; cases a; cases b; cases c; cases d
          exact ⟨_, _, rest, h2, h4⟩

def isTrue : Option Out → Bool
  | some (.call (.bool true) _) => true
  | _ => false
theorem true_of {o : Option Out} (h : isTrue o = true) : ∃ S, o = some (.call (.bool true) S) := by
  unfold isTrue at h
  split at h
  · exact ⟨_, rfl⟩
  · cases h

/-- What a run from the start that gives true says. -/
theorem said_of_run {E : Env} (hE : EnvOk Tryz.prog E) {fuel : Nat} {f : FuncId} (h : isTrue (run E fuel 0 (.call f []) st0) = true) {w : World} (hw : Stands w) :
    Calls Tryz.prog f #[] w fun e w' => e = .returned (.bool true) ∧ Below w.heap.size w w' := by
  obtain ⟨S', h⟩ := true_of h
  exact (call_sound hE h (args' := []) (start_ok hw) .nil).mono fun e w' ⟨v', θ', he, hv, _, hb⟩ => by
    cases hv
    exact ⟨he, hb⟩
end Go.Proofs.YtlngchhjdnalbaaGreatDoor
