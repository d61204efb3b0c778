/- target.Normal at "/a": what it says, wherever it is called. -/
import Derived.Test.YtnnjnjginlkloaaGreatDoorTab
import Derived.Test.YtnnjnjginlkloaaGreatDoorIdle
import Derived.Test.YtnnjnjginlkloaaGreatDoorMemo
import Derived.RangeFuncBox
import Derived.RangeFuncLeaves
import Derived.Shelf.Abstract
import Derived.WalkKit
import Derived.OwnWalkIn
import Derived.TacticsInMore
import Derived.LoopNIn
import Derived.LoopIn
import Derived.Maps.AppendAt
set_option linter.unusedVariables false
set_option linter.unusedSimpArgs false
namespace Go.Proofs.YtnnjnjginlkloaaGreatDoor
open Go.Exe Go.RowKit Go.Shelf

attribute [local go_sem] Oper.semAt_some

def idxB : List Nat → Nat → Nat → Option Nat
  | [], _, _ => none
  | x :: xs, c, i => match Nat.beq x c with
    | true => some i
    | false => idxB xs c (i + 1)

theorem idxB_said (c : Nat) (hc : c ≤ 255) : ∀ (l : List UInt8) (i : Nat), (match idxB (l.map UInt8.toNat) c i with | some j => (Int.ofNat j) | none => -1) = (if Lib.indexByte l c.toUInt8 = -1 then -1 else Lib.indexByte l c.toUInt8 + i)
  | [], i => by simp [idxB, Lib.indexByte]
  | x :: xs, i => by
    have ih := idxB_said c hc xs (i + 1)
    have hx : (x == c.toUInt8) = Nat.beq x.toNat c := by
      rw [Bool.eq_iff_iff, beq_iff_eq, Nat.beq_eq]
      constructor
      · rintro rfl
        show (UInt8.ofNat c).toNat = c
        rw [UInt8.toNat_ofNat']
        omega
      · rintro rfl
        simp [Nat.toUInt8]
    simp only [idxB, Lib.indexByte, List.map_cons, hx]
    cases hb : Nat.beq x.toNat c with
    | true => simp
    | false =>
      simp only [Bool.false_eq_true, if_false]
      rw [ih]
      have := Lib.indexByte_ge xs c.toUInt8
      by_cases h1 : Lib.indexByte xs c.toUInt8 = -1
      · simp [h1]
      · have h2 : (Lib.indexByte xs c.toUInt8 == -1) = false := by simpa using h1
        simp only [h1, h2, if_false, Bool.false_eq_true]
        rw [if_neg (by omega)]
        push_cast
        omega

/-- The shelf's functions that are known: IndexByte (both), Clone. -/
def knownP (f : Nat) (args : List AV) (_ : Tr AObj) : Option (Option AV) :=
  match f with
  | 343 => match args with
    | [.str s, .int .u8 (.ofNat c)] => match Nat.ble c 255 with
      | true => some (some (.int .i64 (match idxB s c 0 with | some i => (.ofNat i) | none => -1)))
      | false => some none
    | _ => some none
  | 243 => match args with
    | [.str s, .int .u8 (.ofNat c)] => match Nat.ble c 255 with
      | true => some (some (.int .i64 (match idxB s c 0 with | some i => (.ofNat i) | none => -1)))
      | false => some none
    | _ => some none
  | 112 => match args with
    | [.str s] => match Nat.ble s.length 1000000 with
      | true => some (some (.str s))
      | false => some none
    | _ => some none
  | _ => none

theorem index_said {θ : Th} (b : ByteArray) (c : Nat) (hc : c ≤ 255) : VR θ (.int .i64 (match idxB (b.data.toList.map UInt8.toNat) c 0 with | some i => (.ofNat i) | none => -1)) (.int .i64 (Lib.indexByte b.data.toList (Int.ofNat c).toNat.toUInt8)) := by
  have := idxB_said c hc b.data.toList 0
  have e2 : Lib.indexByte b.data.toList (Int.ofNat c).toNat.toUInt8 = (match idxB (b.data.toList.map UInt8.toNat) c 0 with | some j => (Int.ofNat j) | none => -1) := by
    rw [this]
    simp only [Int.ofNat_eq_natCast, Int.toNat_natCast]
    split
    · assumption
    · simp
  rw [e2]
  exact .int _ _

theorem knownP_ok (f : FuncId) (args : List AV) (hp : Tr AObj) (v : AV) (h : knownP f args hp = some (some v)) : (∀ args w, (callFunc f args).run Tryz.prog w = .ok (.enter f args) w) ∧
    ∀ θ B S args' w, S.heap = hp → SR θ B S w → VRs θ args args' → Calls Tryz.prog f args'.toArray w (fun e w' => ∃ v', e = .returned v' ∧ VR θ v v' ∧ Below w.heap.size w w') := by
  unfold knownP at h
  split at h
  · split at h
    · rename_i s c
      split at h
      · rename_i hc
        have hc := Nat.le_of_ble_eq_true hc
        simp only [Option.some.injEq] at h
        subst h
        refine ⟨Tryz.call343, fun θ B S args' w _ _ ha => ?_⟩
        cases ha with
        | cons _ v1 _ _ h1 h2 =>
          cases h2 with
          | cons _ v2 _ _ h2 h3 =>
            cases h3
            cases h1 with
            | str b =>
              cases h2
              refine (Tryz.stringslite_IndexByte b (.ofNat c) w).mono fun e w' ⟨he, hw⟩ => ?_
              subst hw
              exact ⟨_, he, index_said b c hc, .refl _ _⟩
      · cases h
    · cases h
  · split at h
    · rename_i s c
      split at h
      · rename_i hc
        have hc := Nat.le_of_ble_eq_true hc
        simp only [Option.some.injEq] at h
        subst h
        refine ⟨Tryz.call243, fun θ B S args' w _ _ ha => ?_⟩
        cases ha with
        | cons _ v1 _ _ h1 h2 =>
          cases h2 with
          | cons _ v2 _ _ h2 h3 =>
            cases h3
            cases h1 with
            | str b =>
              cases h2
              refine (Tryz.strings_IndexByte b (.ofNat c) w).mono fun e w' ⟨he, hw⟩ => ?_
              subst hw
              exact ⟨_, he, index_said b c hc, .refl _ _⟩
      · cases h
    · cases h
  · split at h
    · rename_i s
      split at h
      · rename_i hc
        have hc := Nat.le_of_ble_eq_true hc
        simp only [Option.some.injEq] at h
        subst h
        refine ⟨Tryz.call112, fun θ B S args' w _ _ ha => ?_⟩
        cases ha with
        | cons _ v1 _ _ h1 h2 =>
          cases h2
          cases h1 with
          | str b =>
            have hb : b.size ≤ 1000000 := by
              have : (b.data.toList.map UInt8.toNat).length = b.size := by rw [List.length_map]; rfl
              omega
            refine (Tryz.stringslite_Clone b w (by omega)).mono fun e w' ⟨he, hw⟩ => ?_
            exact ⟨_, he, .str b, hw⟩
      · cases h
    · cases h
  · cases h

def idle (f : FuncId) : Option Nat :=
  match f with
  | 44 => some 2
  | 119 => some 1
  | _ => none

theorem idle_ok (f : FuncId) (n : Nat) (h : idle f = some n) (args : Array Value) (hs : args.size = n) : (∀ w, (callFunc f args).run Tryz.prog w = .ok (.enter f args) w) ∧
    ∀ w, CallsD Tryz.prog f args .returning w (fun e u w' => (∃ v, e = .returned v) ∧ u = .returning ∧ Below w.heap.size w w') := by
  obtain ⟨l⟩ := args
  unfold idle at h
  split at h
  · simp only [Option.some.injEq] at h
    subst h
    match l, hs with
    | [a, b], _ => exact ⟨Tryz.call44 _, idle44 a b⟩
  · simp only [Option.some.injEq] at h
    subst h
    match l, hs with
    | [a], _ => exact ⟨Tryz.call119 _, idle119 a⟩
  · cases h

noncomputable def env0 : Env := ⟨tyTab, fnTab, knownP, idle⟩
theorem env0_ok : EnvOk Tryz.prog env0 := ⟨tyTab_ok, fnTab_ok, knownP_ok, idle_ok, by kernel_rfl⟩

/-! ### Calls that look at no memory -/
def st00 : St := ⟨.nil, 64, 0, 0⟩
def th00 : Th := ⟨fun g => if g < 64 then some g else none, fun _ => none⟩

theorem start00 (w : World) : SR th00 w.heap.size st00 w := by
  have hg : ∀ n, st00.heap.get n = none := fun n => Tr.get_nil n
  refine ⟨⟨fun n o hn => ?_, fun n m b h1 h2 _ _ _ => ?_⟩, fun n hn => ?_, fun _ _ => rfl, Nat.le_refl _, fun g hg => by simp [th00, hg], Nat.le_refl _⟩
  · rw [hg] at hn; cases hn
  · rw [hg] at h2; exact (h2 rfl).elim
  · have hn : 64 ≤ n := hn
    simp [th00]
    omega

def gives (v : AV) : Option Out → Bool
  | some (.call u _) => eqV 5 v u
  | _ => false

theorem gives_of {v : AV} {o : Option Out} (h : gives v o = true) : ∃ S, o = some (.call v S) := by
  unfold gives at h
  split at h
  · exact ⟨_, by rw [eqV_eq _ _ _ h]⟩
  · cases h

theorem pure_run {N d : Nat} {f : FuncId} {args : List AV} {v : AV} (h : gives v (calls env0 noMemo N d f args st00) = true) {args' : List Value} (ha : VRs th00 args args') (w : World) :
    Calls Tryz.prog f args'.toArray w fun e w' => ∃ v' θ', e = .returned v' ∧ VR θ' v v' ∧ Below w.heap.size w w' := by
  obtain ⟨S', h⟩ := gives_of h
  exact (call_sound env0_ok (noMemo_ok _) h (start00 w) ha).mono fun e w' ⟨v', θ', he, hv, _, hb⟩ => ⟨v', θ', he, hv, hb⟩

theorem str_is {θ : Th} {l : List Nat} {v : Value} (h : VR θ (.str l) v) : ∃ s : ByteArray, v = .string s ∧ s.data.toList.map UInt8.toNat = l := by
  cases h
  exact ⟨_, rfl, rfl⟩

theorem bytes_is {s : ByteArray} {l : List UInt8} (h : s.data.toList.map UInt8.toNat = l.map UInt8.toNat) : s = ⟨l.toArray⟩ := by
  have : s.data.toList = l := by
    refine List.map_inj_right (fun x y hxy => ?_) |>.1 h
    exact UInt8.toNat_inj.1 hxy
  obtain ⟨d⟩ := s
  cases this
  rfl

theorem vstr (θ : Th) (l : List UInt8) : VR θ (.str (l.map UInt8.toNat)) (.string ⟨l.toArray⟩) := VR.str ⟨l.toArray⟩

theorem cutPrefix_a (w : World) : Calls Tryz.prog 301 #[.string ⟨#[47, 97]⟩, .string ⟨#[47]⟩] w fun e w' => e = .returned (.tuple #[.string ⟨#[97]⟩, .bool true]) ∧ Below w.heap.size w w' := by
  refine (pure_run (N := 200) (d := 10) (v := .tuple [.str [97], .bool true]) (by decide +kernel) (.cons _ _ _ _ (vstr _ [47, 97]) (.cons _ _ _ _ (vstr _ [47]) .nil)) w).mono fun e w' ⟨v', θ', he, hv, hb⟩ => ⟨?_, hb⟩
  cases hv with
  | tuple _ l h =>
    cases h with
    | cons _ v1 _ _ h1 h => cases h with
      | cons _ v2 _ _ h2 h =>
        cases h
        obtain ⟨s, rfl, hs⟩ := str_is h1
        cases h2
        rw [he, bytes_is (l := [97]) hs]

theorem cut_a (w : World) : Calls Tryz.prog 246 #[.string ⟨#[97]⟩, .string ⟨#[47]⟩] w fun e w' => e = .returned (.tuple #[.string ⟨#[97]⟩, .string ⟨#[]⟩, .bool false]) ∧ Below w.heap.size w w' := by
  refine (pure_run (N := 200) (d := 10) (v := .tuple [.str [97], .str [], .bool false]) (by decide +kernel) (.cons _ _ _ _ (vstr _ [97]) (.cons _ _ _ _ (vstr _ [47]) .nil)) w).mono fun e w' ⟨v', θ', he, hv, hb⟩ => ⟨?_, hb⟩
  cases hv with
  | tuple _ l h =>
    cases h with
    | cons _ v1 _ _ h1 h => cases h with
      | cons _ v2 _ _ h2 h => cases h with
        | cons _ v3 _ _ h3 h =>
          cases h
          obtain ⟨s, rfl, hs⟩ := str_is h1
          obtain ⟨s2, rfl, hs2⟩ := str_is h2
          cases h3
          rw [he, bytes_is (l := [97]) hs, bytes_is (l := []) hs2]

theorem isPath_a (w : World) : Calls Tryz.prog 229 #[.string ⟨#[47, 97]⟩] w fun e w' => e = .returned (.bool true) ∧ Below w.heap.size w w' := by
  refine (pure_run (N := 400) (d := 20) (v := .bool true) (by decide +kernel) (.cons _ _ _ _ (vstr _ [47, 97]) .nil) w).mono fun e w' ⟨v', θ', he, hv, hb⟩ => ⟨?_, hb⟩
  cases hv
  exact he

theorem triple_0 (w : World) : Calls Tryz.prog 230 #[.string ⟨#[47, 97]⟩, .int .i64 0] w fun e w' => e = .returned (.tuple #[.int .u8 0, .bool false]) ∧ Below w.heap.size w w' := by
  refine (pure_run (N := 400) (d := 20) (v := .tuple [.int .u8 0, .bool false]) (by decide +kernel) (.cons _ _ _ _ (vstr _ [47, 97]) (.cons _ _ _ _ (.int .i64 0) .nil)) w).mono fun e w' ⟨v', θ', he, hv, hb⟩ => ⟨?_, hb⟩
  cases hv with
  | tuple _ l h =>
    cases h with
    | cons _ v1 _ _ h1 h => cases h with
      | cons _ v2 _ _ h2 h =>
        cases h
        cases h1
        cases h2
        exact he

theorem triple_1 (w : World) : Calls Tryz.prog 230 #[.string ⟨#[47, 97]⟩, .int .i64 1] w fun e w' => e = .returned (.tuple #[.int .u8 0, .bool false]) ∧ Below w.heap.size w w' := by
  refine (pure_run (N := 400) (d := 20) (v := .tuple [.int .u8 0, .bool false]) (by decide +kernel) (.cons _ _ _ _ (vstr _ [47, 97]) (.cons _ _ _ _ (.int .i64 1) .nil)) w).mono fun e w' ⟨v', θ', he, hv, hb⟩ => ⟨?_, hb⟩
  cases hv with
  | tuple _ l h =>
    cases h with
    | cons _ v1 _ _ h1 h => cases h with
      | cons _ v2 _ _ h2 h =>
        cases h
        cases h1
        cases h2
        exact he

end Go.Proofs.YtnnjnjginlkloaaGreatDoor
