/- The executor's environment at this door: its tables, the shelf's functions, target.Normal at "/a", two closures that find nothing to recover. awake and AppNil, run by the executor: what is known at the start. -/
import Derived.Test.YtjlgdeeahcfcgaaGreatDoorNorm
import Derived.Test.YtjlgdeeahcfcgaaGreatDoorExeFastD
set_option linter.unusedVariables false
set_option linter.unusedSimpArgs false
namespace Go.Proofs.YtjlgdeeahcfcgaaGreatDoor
open Go.Exe Go.RowKit
set_option linter.unusedSectionVars false
variable [Opn]

def isPA : List AV → Bool
  | [.str s] => sameStr s [47, 97]
  | _ => false

def known (f : Nat) (args : List AV) (h : Tr AObj) : Option (Option AV) :=
  match knownP f args h with
  | some r => some r
  | none => match Nat.beq f 146, isPA args with
    | true, true => some (some (.tuple [.str [47, 97], .int .i64 0]))
    | _, _ => none

theorem isPA_eq {args : List AV} (h : isPA args = true) : args = [.str [47, 97]] := by
  unfold isPA at h
  split at h
  · rw [sameStr_eq _ _ h]
  · cases h

theorem known_ok (f : FuncId) (args : List AV) (hp : Tr AObj) (v : AV) (h : known f args hp = some (some v)) : (∀ args w, (callFunc f args).run Tryz.prog w = .ok (.enter f args) w) ∧
    ∀ θ B S args' w, S.heap = hp → SR θ B S w → VRs θ args args' → Calls Tryz.prog f args'.toArray w (fun e w' => ∃ v', e = .returned v' ∧ VR θ v v' ∧ Below w.heap.size w w') := by
  unfold known at h
  split at h
  · rename_i r hr
    simp only [Option.some.injEq] at h
    subst h
    exact knownP_ok f args hp v hr
  · split at h
    · rename_i h1 h2
      simp only [Option.some.injEq] at h
      subst h
      have h1 := Nat.eq_of_beq_eq_true h1
      subst h1
      have h2 := isPA_eq h2
      subst h2
      refine ⟨Tryz.call146, fun θ B S args' w _ k ha => ?_⟩
      cases ha with
      | cons _ v1 _ _ hv1 ha =>
        cases ha
        obtain ⟨s, rfl, hs⟩ := str_is hv1
        rw [bytes_is (l := [47, 97]) hs]
        exact (normal_a w).mono fun e w' ⟨he, hb⟩ => ⟨_, he, .tuple _ _ (.cons _ _ _ _ (vstr _ [47, 97]) (.cons _ _ _ _ (.int _ _) .nil)), hb⟩
    · cases h

noncomputable def env : Env := ⟨tyTab, fnTab, known, idle⟩
theorem env_ok : EnvOk Tryz.prog env := ⟨tyTab_ok, fnTab_ok, known_ok, idle_ok, by kernel_rfl⟩
end Go.Proofs.YtjlgdeeahcfcgaaGreatDoor
namespace Go.Proofs.YtjlgdeeahcfcgaaGreatDoor
open Go.Exe Go.RowKit
set_option linter.unusedSectionVars false
variable [Opn]

def signsL : List Nat := [0, 67071226, 3355443198, 1476395007]
def powL : List Nat := [1, 10, 100, 1000, 10000, 100000, 1000000, 10000000, 100000000, 1000000000, 10000000000, 100000000000, 1000000000000, 10000000000000, 100000000000000, 1000000000000000, 10000000000000000, 100000000000000000, 1000000000000000000, 10000000000000000000]
/-- The tables of turnpike/octet's signs and of strconv's powers of ten. -/
def signs0 : AObj := .cells (signsL.map fun n => .int .u32 (.ofNat n)) 437 (some (0, 0))
def pow0 : AObj := .cells (powL.map fun n => .int .u64 (.ofNat n)) 515 (some (0, 0))
def signs1 : AObj := .cells [.int .u32 0, .int .u32 67071226, .int .u32 3355443198, .int .u32 1476395007] 437 (some (0, 0))
def pow1 : AObj := .cells [.int .u64 1, .int .u64 10, .int .u64 100, .int .u64 1000, .int .u64 10000, .int .u64 100000, .int .u64 1000000, .int .u64 10000000, .int .u64 100000000, .int .u64 1000000000, .int .u64 10000000000, .int .u64 100000000000, .int .u64 1000000000000, .int .u64 10000000000000, .int .u64 100000000000000, .int .u64 1000000000000000, .int .u64 10000000000000000, .int .u64 100000000000000000, .int .u64 1000000000000000000, .int .u64 10000000000000000000] 515 (some (0, 0))
/-- What is known at the start. -/
def heap0 : Tr AObj := Tr.put 6 (Tr.put 4 .nil 2 (some signs1)) 4 (some pow1)
def st0 : St := ⟨heap0, 64, 1, 0⟩

/-- As th00; the room behind the tables is known (there is none). -/
def th01 : Th := ⟨th00.blk, fun s => if s = 0 then some 0 else none⟩

/-- The tables stand in the world. -/
def StandsAt (w : World) (g : Nat) (t : TypeId) (l : List Value) : Prop := ∃ c fr, w.heap[g]? = some (.cells c t fr) ∧ c.toList = l
def Stands (w : World) : Prop := StandsAt w 2 437 (signsL.map fun n => .int .u32 (n : Nat)) ∧ StandsAt w 4 515 (powL.map fun n => .int .u64 (n : Nat))

theorem vints (θ : Th) (k : IntKind) : ∀ l : List Nat, VRs θ (l.map fun n => .int k (.ofNat n)) (l.map fun n => Value.int k (n : Nat))
  | [] => .nil
  | x :: l => .cons _ _ _ _ (.int k _) (vints θ k l)

theorem vints_is {θ : Th} {k : IntKind} : ∀ {l : List Nat} {vs : List Value}, VRs θ (l.map fun n => .int k (.ofNat n)) vs → vs = l.map fun n => Value.int k (n : Nat)
  | [], _, h => by cases h; rfl
  | x :: l, _, h => by
    cases h with
    | cons _ v _ vs h1 h2 =>
      cases h1
      rw [vints_is h2]
      rfl

theorem heap0_get (n : Nat) : heap0.get n = if n = 4 then some pow1 else if n = 2 then some signs1 else none := by
  unfold heap0
  rw [Tr.get_put _ _ _ _ _ (by omega), Tr.get_put _ _ _ _ _ (by omega), Tr.get_nil]

theorem start_ok {w : World} (h : Stands w) : SR th01 w.heap.size st0 w := by
  obtain ⟨⟨c, fr, h, hc⟩, ⟨c', fr', h', hc'⟩⟩ := h
  refine ⟨⟨fun n o hn => ?_, fun n m b h1 h2 _ _ _ => ?_⟩, fun n hn => ?_, fun n hn => ?_, Nat.le_refl _, fun g hg => by simp [th01, th00, hg], Nat.le_refl _⟩
  · have hn : heap0.get n = some o := hn
    rw [heap0_get] at hn
    split at hn
    · rename_i h0
      subst h0
      cases hn
      exact ⟨4, _, by simp [th01, th00], h', ⟨rfl, _, [], by rw [hc', List.append_nil], vints _ .u64 powL, fun s z h => by cases h; exact ⟨0, rfl, rfl⟩⟩, fun h => by omega⟩
    · split at hn
      · rename_i h0
        subst h0
        cases hn
        exact ⟨2, _, by simp [th01, th00], h, ⟨rfl, _, [], by rw [hc, List.append_nil], vints _ .u32 signsL, fun s z h => by cases h; exact ⟨0, rfl, rfl⟩⟩, fun h => by omega⟩
      · cases hn
  · have h2 : heap0.get n ≠ none := h2
    rw [heap0_get, if_neg (by omega), if_neg (by omega)] at h2
    exact (h2 rfl).elim
  · have hn : 64 ≤ n := hn
    simp [th01, th00]
    omega
  · have hn : 1 ≤ n := hn
    simp [th01]
    omega

theorem standsAt_of {θ : Th} {B : Nat} {S : St} {w : World} (k : SR θ B S w) {g : Nat} {t : TypeId} {kd : IntKind} {l : List Nat} (hg : g < 64) (h : S.heap.get g = some (.cells (l.map fun n => .int kd (.ofNat n)) t (some (0, 0)))) : StandsAt w g t (l.map fun n => Value.int kd (n : Nat)) := by
  obtain ⟨b, ob, h1, h2, h3, _⟩ := k.hr.obj g _ h
  rw [k.glob g hg] at h1
  cases h1
  cases ob <;> simp only [OR] at h3
  obtain ⟨rfl, pre, rest, h4, h5, h6⟩ := h3
  obtain ⟨x, _, hx⟩ := h6 0 0 rfl
  have hr : rest = [] := List.eq_nil_of_length_eq_zero (by omega)
  subst hr
  exact ⟨_, _, h2, by rw [h4, vints_is h5, List.append_nil]⟩

/-- The tables are known. -/
def sameO (o : AObj) : Option AObj → Bool
  | some p => eqObj o p
  | none => false

def isTrue : Option Out → Bool
  | some (.call (.bool true) _) => true
  | _ => false
theorem true_of {o : Option Out} (h : isTrue o = true) : ∃ S, o = some (.call (.bool true) S) := by
  unfold isTrue at h
  split at h
  · exact ⟨_, rfl⟩
  · cases h

/-- What a run from the start that gives true says. -/
theorem said_of_run {E : Env} (hE : EnvOk Tryz.prog E) {N d : Nat} {f : FuncId} {args : List AV} (h : isTrue (calls E memoB N d f args st0) = true) {w : World} (hw : Stands w) {args' : List Value} (ha : VRs th01 args args') :
    Calls Tryz.prog f args'.toArray w fun e w' => e = .returned (.bool true) ∧ Below w.heap.size w w' := by
  obtain ⟨S', h⟩ := true_of h
  exact (call_sound hE memoB_ok h (start_ok hw) ha).mono fun e w' ⟨v', θ', he, hv, _, hb⟩ => by
    cases hv
    exact ⟨he, hb⟩
end Go.Proofs.YtjlgdeeahcfcgaaGreatDoor
