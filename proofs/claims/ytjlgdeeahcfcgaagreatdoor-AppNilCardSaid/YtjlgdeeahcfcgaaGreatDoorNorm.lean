/- target.Normal at "/a": what it says, wherever it is called. target.Normal at "/a": its range over each's rounds. -/
import Derived.Test.YtjlgdeeahcfcgaaGreatDoorTab
import Derived.Test.YtjlgdeeahcfcgaaGreatDoorIdle
import Derived.RangeFuncBox
import Derived.RangeFuncLeaves
import Derived.Shelf.Abstract
import Derived.WalkKit
import Derived.OwnWalkIn
import Derived.TacticsInMore
import Derived.LoopNIn
import Derived.LoopIn
import Derived.Maps.AppendAt
set_option linter.unusedVariables false
set_option linter.unusedSimpArgs false
namespace Go.Proofs.YtjlgdeeahcfcgaaGreatDoor
open Go.Exe Go.RowKit Go.Shelf
set_option linter.unusedSectionVars false
variable [Opn]

attribute [local go_sem] Oper.semAt_some

def idxB : List Nat → Nat → Nat → Option Nat
  | [], _, _ => none
  | x :: xs, c, i => match Nat.beq x c with
    | true => some i
    | false => idxB xs c (i + 1)

theorem idxB_said (c : Nat) (hc : c ≤ 255) : ∀ (l : List UInt8) (i : Nat), (match idxB (l.map UInt8.toNat) c i with | some j => (Int.ofNat j) | none => -1) = (if Lib.indexByte l c.toUInt8 = -1 then -1 else Lib.indexByte l c.toUInt8 + i)
  | [], i => by simp [idxB, Lib.indexByte]
  | x :: xs, i => by
    have ih := idxB_said c hc xs (i + 1)
    have hx : (x == c.toUInt8) = Nat.beq x.toNat c := by
      rw [Bool.eq_iff_iff, beq_iff_eq, Nat.beq_eq]
      constructor
      · rintro rfl
        show (UInt8.ofNat c).toNat = c
        rw [UInt8.toNat_ofNat']
        omega
      · rintro rfl
        simp [Nat.toUInt8]
    simp only [idxB, Lib.indexByte, List.map_cons, hx]
    cases hb : Nat.beq x.toNat c with
    | true => simp
    | false =>
      simp only [Bool.false_eq_true, if_false]
      rw [ih]
      have := Lib.indexByte_ge xs c.toUInt8
      by_cases h1 : Lib.indexByte xs c.toUInt8 = -1
      · simp [h1]
      · have h2 : (Lib.indexByte xs c.toUInt8 == -1) = false := by simpa using h1
        simp only [h1, h2, if_false, Bool.false_eq_true]
        rw [if_neg (by omega)]
        push_cast
        omega

/-- The shelf's functions that are known: IndexByte (both), Clone. -/
def knownP (f : Nat) (args : List AV) (_ : Tr AObj) : Option (Option AV) :=
  match f with
  | 366 => match args with
    | [.str s, .int .u8 (.ofNat c)] => match Nat.ble c 255 with
      | true => some (some (.int .i64 (match idxB s c 0 with | some i => (.ofNat i) | none => -1)))
      | false => some none
    | _ => some none
  | 241 => match args with
    | [.str s, .int .u8 (.ofNat c)] => match Nat.ble c 255 with
      | true => some (some (.int .i64 (match idxB s c 0 with | some i => (.ofNat i) | none => -1)))
      | false => some none
    | _ => some none
  | 207 => match args with
    | [.str s] => match Nat.ble s.length 1000000 with
      | true => some (some (.str s))
      | false => some none
    | _ => some none
  | _ => none

theorem index_said {θ : Th} (b : ByteArray) (c : Nat) (hc : c ≤ 255) : VR θ (.int .i64 (match idxB (b.data.toList.map UInt8.toNat) c 0 with | some i => (.ofNat i) | none => -1)) (.int .i64 (Lib.indexByte b.data.toList (Int.ofNat c).toNat.toUInt8)) := by
  have := idxB_said c hc b.data.toList 0
  have e2 : Lib.indexByte b.data.toList (Int.ofNat c).toNat.toUInt8 = (match idxB (b.data.toList.map UInt8.toNat) c 0 with | some j => (Int.ofNat j) | none => -1) := by
    rw [this]
    simp only [Int.ofNat_eq_natCast, Int.toNat_natCast]
    split
    · assumption
    · simp
  rw [e2]
  exact .int _ _

theorem knownP_ok (f : FuncId) (args : List AV) (hp : Tr AObj) (v : AV) (h : knownP f args hp = some (some v)) : (∀ args w, (callFunc f args).run Tryz.prog w = .ok (.enter f args) w) ∧
    ∀ θ B S args' w, S.heap = hp → SR θ B S w → VRs θ args args' → Calls Tryz.prog f args'.toArray w (fun e w' => ∃ v', e = .returned v' ∧ VR θ v v' ∧ Below w.heap.size w w') := by
  unfold knownP at h
  split at h
  · split at h
    · rename_i s c
      split at h
      · rename_i hc
        have hc := Nat.le_of_ble_eq_true hc
        simp only [Option.some.injEq] at h
        subst h
        refine ⟨Tryz.call366, fun θ B S args' w _ _ ha => ?_⟩
        cases ha with
        | cons _ v1 _ _ h1 h2 =>
          cases h2 with
          | cons _ v2 _ _ h2 h3 =>
            cases h3
            cases h1 with
            | str b =>
              cases h2
              refine (Tryz.stringslite_IndexByte b (.ofNat c) w).mono fun e w' ⟨he, hw⟩ => ?_
              subst hw
              exact ⟨_, he, index_said b c hc, .refl _ _⟩
      · cases h
    · cases h
  · split at h
    · rename_i s c
      split at h
      · rename_i hc
        have hc := Nat.le_of_ble_eq_true hc
        simp only [Option.some.injEq] at h
        subst h
        refine ⟨Tryz.call241, fun θ B S args' w _ _ ha => ?_⟩
        cases ha with
        | cons _ v1 _ _ h1 h2 =>
          cases h2 with
          | cons _ v2 _ _ h2 h3 =>
            cases h3
            cases h1 with
            | str b =>
              cases h2
              refine (Tryz.strings_IndexByte b (.ofNat c) w).mono fun e w' ⟨he, hw⟩ => ?_
              subst hw
              exact ⟨_, he, index_said b c hc, .refl _ _⟩
      · cases h
    · cases h
  · split at h
    · rename_i s
      split at h
      · rename_i hc
        have hc := Nat.le_of_ble_eq_true hc
        simp only [Option.some.injEq] at h
        subst h
        refine ⟨Tryz.call207, fun θ B S args' w _ _ ha => ?_⟩
        cases ha with
        | cons _ v1 _ _ h1 h2 =>
          cases h2
          cases h1 with
          | str b =>
            have hb : b.size ≤ 1000000 := by
              have : (b.data.toList.map UInt8.toNat).length = b.size := by rw [List.length_map]; rfl
              omega
            refine (Tryz.stringslite_Clone b w (by omega)).mono fun e w' ⟨he, hw⟩ => ?_
            exact ⟨_, he, .str b, hw⟩
      · cases h
    · cases h
  · cases h

def idle (f : FuncId) : Option Nat :=
  match f with
  | 214 => some 1
  | _ => none

theorem idle_ok (f : FuncId) (n : Nat) (h : idle f = some n) (args : Array Value) (hs : args.size = n) : (∀ w, (callFunc f args).run Tryz.prog w = .ok (.enter f args) w) ∧
    ∀ w, CallsD Tryz.prog f args .returning w (fun e u w' => (∃ v, e = .returned v) ∧ u = .returning ∧ Below w.heap.size w w') := by
  obtain ⟨l⟩ := args
  unfold idle at h
  split at h
  · simp only [Option.some.injEq] at h
    subst h
    match l, hs with
    | [a], _ => exact ⟨Tryz.call214 _, idle214 a⟩
  · cases h

noncomputable def env0 : Env := ⟨tyTab, fnTab, knownP, idle⟩
theorem env0_ok : EnvOk Tryz.prog env0 := ⟨tyTab_ok, fnTab_ok, knownP_ok, idle_ok, by kernel_rfl⟩

/-! ### Calls that look at no memory -/
def st00 : St := ⟨.nil, 64, 0, 0⟩
def th00 : Th := ⟨fun g => if g < 64 then some g else none, fun _ => none⟩

theorem start00 (w : World) : SR th00 w.heap.size st00 w := by
  have hg : ∀ n, st00.heap.get n = none := fun n => Tr.get_nil n
  refine ⟨⟨fun n o hn => ?_, fun n m b h1 h2 _ _ _ => ?_⟩, fun n hn => ?_, fun _ _ => rfl, Nat.le_refl _, fun g hg => by simp [th00, hg], Nat.le_refl _⟩
  · rw [hg] at hn; cases hn
  · rw [hg] at h2; exact (h2 rfl).elim
  · have hn : 64 ≤ n := hn
    simp [th00]
    omega

def gives (v : AV) : Option Out → Bool
  | some (.call u _) => eqV 5 v u
  | _ => false

theorem gives_of {v : AV} {o : Option Out} (h : gives v o = true) : ∃ S, o = some (.call v S) := by
  unfold gives at h
  split at h
  · exact ⟨_, by rw [eqV_eq _ _ _ h]⟩
  · cases h

theorem pure_run {N d : Nat} {f : FuncId} {args : List AV} {v : AV} (h : gives v (calls env0 noMemo N d f args st00) = true) {args' : List Value} (ha : VRs th00 args args') (w : World) :
    Calls Tryz.prog f args'.toArray w fun e w' => ∃ v' θ', e = .returned v' ∧ VR θ' v v' ∧ Below w.heap.size w w' := by
  obtain ⟨S', h⟩ := gives_of h
  exact (call_sound env0_ok (noMemo_ok _) h (start00 w) ha).mono fun e w' ⟨v', θ', he, hv, _, hb⟩ => ⟨v', θ', he, hv, hb⟩

theorem str_is {θ : Th} {l : List Nat} {v : Value} (h : VR θ (.str l) v) : ∃ s : ByteArray, v = .string s ∧ s.data.toList.map UInt8.toNat = l := by
  cases h
  exact ⟨_, rfl, rfl⟩

theorem bytes_is {s : ByteArray} {l : List UInt8} (h : s.data.toList.map UInt8.toNat = l.map UInt8.toNat) : s = ⟨l.toArray⟩ := by
  have : s.data.toList = l := by
    refine List.map_inj_right (fun x y hxy => ?_) |>.1 h
    exact UInt8.toNat_inj.1 hxy
  obtain ⟨d⟩ := s
  cases this
  rfl

theorem vstr (θ : Th) (l : List UInt8) : VR θ (.str (l.map UInt8.toNat)) (.string ⟨l.toArray⟩) := VR.str ⟨l.toArray⟩

theorem cutPrefix_a (w : World) : Calls Tryz.prog 351 #[.string ⟨#[47, 97]⟩, .string ⟨#[47]⟩] w fun e w' => e = .returned (.tuple #[.string ⟨#[97]⟩, .bool true]) ∧ Below w.heap.size w w' := by
  refine (pure_run (N := 200) (d := 10) (v := .tuple [.str [97], .bool true]) (by decide +kernel) (.cons _ _ _ _ (vstr _ [47, 97]) (.cons _ _ _ _ (vstr _ [47]) .nil)) w).mono fun e w' ⟨v', θ', he, hv, hb⟩ => ⟨?_, hb⟩
  cases hv with
  | tuple _ l h =>
    cases h with
    | cons _ v1 _ _ h1 h => cases h with
      | cons _ v2 _ _ h2 h =>
        cases h
        obtain ⟨s, rfl, hs⟩ := str_is h1
        cases h2
        rw [he, bytes_is (l := [97]) hs]

theorem cut_a (w : World) : Calls Tryz.prog 169 #[.string ⟨#[97]⟩, .string ⟨#[47]⟩] w fun e w' => e = .returned (.tuple #[.string ⟨#[97]⟩, .string ⟨#[]⟩, .bool false]) ∧ Below w.heap.size w w' := by
  refine (pure_run (N := 200) (d := 10) (v := .tuple [.str [97], .str [], .bool false]) (by decide +kernel) (.cons _ _ _ _ (vstr _ [97]) (.cons _ _ _ _ (vstr _ [47]) .nil)) w).mono fun e w' ⟨v', θ', he, hv, hb⟩ => ⟨?_, hb⟩
  cases hv with
  | tuple _ l h =>
    cases h with
    | cons _ v1 _ _ h1 h => cases h with
      | cons _ v2 _ _ h2 h => cases h with
        | cons _ v3 _ _ h3 h =>
          cases h
          obtain ⟨s, rfl, hs⟩ := str_is h1
          obtain ⟨s2, rfl, hs2⟩ := str_is h2
          cases h3
          rw [he, bytes_is (l := [97]) hs, bytes_is (l := []) hs2]

theorem isPath_a (w : World) : Calls Tryz.prog 252 #[.string ⟨#[47, 97]⟩] w fun e w' => e = .returned (.bool true) ∧ Below w.heap.size w w' := by
  refine (pure_run (N := 400) (d := 20) (v := .bool true) (by decide +kernel) (.cons _ _ _ _ (vstr _ [47, 97]) .nil) w).mono fun e w' ⟨v', θ', he, hv, hb⟩ => ⟨?_, hb⟩
  cases hv
  exact he

theorem triple_0 (w : World) : Calls Tryz.prog 253 #[.string ⟨#[47, 97]⟩, .int .i64 0] w fun e w' => e = .returned (.tuple #[.int .u8 0, .bool false]) ∧ Below w.heap.size w w' := by
  refine (pure_run (N := 400) (d := 20) (v := .tuple [.int .u8 0, .bool false]) (by decide +kernel) (.cons _ _ _ _ (vstr _ [47, 97]) (.cons _ _ _ _ (.int .i64 0) .nil)) w).mono fun e w' ⟨v', θ', he, hv, hb⟩ => ⟨?_, hb⟩
  cases hv with
  | tuple _ l h =>
    cases h with
    | cons _ v1 _ _ h1 h => cases h with
      | cons _ v2 _ _ h2 h =>
        cases h
        cases h1
        cases h2
        exact he

theorem triple_1 (w : World) : Calls Tryz.prog 253 #[.string ⟨#[47, 97]⟩, .int .i64 1] w fun e w' => e = .returned (.tuple #[.int .u8 0, .bool false]) ∧ Below w.heap.size w w' := by
  refine (pure_run (N := 400) (d := 20) (v := .tuple [.int .u8 0, .bool false]) (by decide +kernel) (.cons _ _ _ _ (vstr _ [47, 97]) (.cons _ _ _ _ (.int .i64 1) .nil)) w).mono fun e w' ⟨v', θ', he, hv, hb⟩ => ⟨?_, hb⟩
  cases hv with
  | tuple _ l h =>
    cases h with
    | cons _ v1 _ _ h1 h => cases h with
      | cons _ v2 _ _ h2 h =>
        cases h
        cases h1
        cases h2
        exact he

end Go.Proofs.YtjlgdeeahcfcgaaGreatDoor
namespace Go.Proofs.YtjlgdeeahcfcgaaGreatDoor
open Go.Exe Go.RowKit Go.Shelf
set_option linter.unusedSectionVars false
variable [Opn]

attribute [local go_sem] Oper.semAt_some

abbrev sA : Value := .string ⟨#[97]⟩
abbrev sPA : Value := .string ⟨#[47, 97]⟩

theorem abides_below {J : List Unit → World → Prop} {B : Nat} (hJ : AbidesFrom B J) {s : List Unit} {W W' : World} (h : J s W) (hb : Below W.heap.size W W') : J s W' :=
  hJ s W W' none h ⟨hb.os, hb.tape, hb.output, hb.size, fun k hk _ => hb.block k hk⟩ (fun r e => by cases e)

set_option maxRecDepth 100000 in
set_option maxHeartbeats 2000000 in
theorem each1_in (n : Nat) (hn : 1 ≤ n) (l Bn n₀ : Nat) (J Jx : List Unit → World → Prop) (B0 : Nat) (hJ : AbidesFrom B0 J)
    (hY : ∀ pre x W, J pre W → pre.length < 1 → YieldAt Fence.wide (n - 1) Tryz.prog l #[sA] W fun e W' =>
      (e = .returned (.bool true) ∧ J (pre ++ [x]) W' ∧ Below n₀ W W') ∨ (e = .returned (.bool false) ∧ Jx (pre ++ [x]) W'))
    (W : World) (hBn : W.cell? ⟨Bn, 0, none⟩ = some sPA) (h0 : J [] W) :
    CallsIn Fence.wide n Tryz.prog 375 #[.func (.yield l) #[] #[], .pointer (some ⟨Bn, 0, none⟩)] W fun e W' => (∃ v, e = .returned v) ∧
      ((∃ ys, ys = [()] ∧ J ys W') ∨ (∃ pre, pre <+: [()] ∧ Jx pre W')) := by
  refine callsIn_of_wp Tryz.func375 rfl trivial ?_ rfl
  simp only [Tryz.ntmps375, List.size_toArray, List.length_cons, List.length_nil, Nat.reduceAdd, Nat.reduceSub, Array.replicate_succ, Array.replicate_zero, List.push_toArray, List.append_toArray, List.nil_append, List.cons_append]
  gi_wp2_with (refine ⟨trivial, ?_⟩; gi_at_call 351; refine (callsIn_wide.2 (cutPrefix_a _)).mono ?_; rintro e w1 ⟨rfl, hb1⟩)
  have h1 := abides_below hJ h0 hb1
  gi_loopw [3, 4] (fun p q wr => (p = sA ∧ q = .bool true ∧ J [] wr) ∨ (p = .string ⟨#[]⟩ ∧ q = .bool false ∧ J [()] wr)) (fun p q wr => match q with | .bool true => 1 | _ => 0)
  case atStart => exact .inl ⟨rfl, rfl, h1⟩
  case round =>
    rcases hrel with ⟨rfl, rfl, hJ0⟩ | ⟨rfl, rfl, hJ1⟩
    · gi_wp2_with (refine ⟨trivial, ?_⟩; gi_at_call 169; refine (callsIn_wide.2 (cut_a _)).mono ?_; rintro e w2 ⟨rfl, hb2⟩; obtain ⟨fn, tmps, assign, body, hy, hR⟩ := hY [] () w2 (abides_below hJ hJ0 hb2) (by decide))
      refine hR.mono ?_
      rintro e W3 (⟨rfl, hJ3, hk3⟩ | ⟨rfl, hJx3⟩)
      · gi_wp2
        go_roundw
        case rel => exact .inr ⟨rfl, rfl, hJ3⟩
        case measure => decide
      · gi_wp2
        refine bodyPost_ret (results_none rfl _ _ _) rfl ?_
        exact ⟨⟨_, rfl⟩, .inr ⟨[()], List.prefix_rfl, hJx3⟩⟩
    · gi_wp2
      go_end0
      exact ⟨⟨_, rfl⟩, .inl ⟨[()], rfl, hJ1⟩⟩

theorem each_stops (n : Nat) (hn : 1 ≤ n) (Bn n₀ : Nat) (w : World) (hBn : Bn < w.heap.size) (hc : w.cell? ⟨Bn, 0, none⟩ = some sPA) :
    SeqStopsK Fence.wide n Tryz.prog 375 #[.pointer (some ⟨Bn, 0, none⟩)] (fun _ : Unit => #[sA]) (Below n₀) (fun ys => ys = [()]) (fun pre => pre <+: [()]) 1 w := fun l J Jx W hW hJ _ hY h0 =>
  each1_in n hn l Bn n₀ J Jx _ hJ hY W ((hW.cell (p := ⟨Bn, 0, none⟩) hBn).trans hc) h0

set_option maxHeartbeats 1000000 in
theorem each_in (n : Nat) (w : World) :
    CallsIn Fence.wide n Tryz.prog 257 #[sPA] w fun e w' => e = .returned (.func (.func 375) #[] #[.pointer (some ⟨w.heap.size, 0, none⟩)]) ∧ w' = w.alloc (.cells #[sPA] 9) := by
  refine callsIn_of_wp Tryz.func257 rfl trivial ?_ rfl
  simp only [Tryz.ntmps257, List.size_toArray, List.length_cons, List.length_nil, Nat.reduceAdd, Nat.reduceSub, Array.replicate_succ, Array.replicate_zero, List.push_toArray, List.append_toArray, List.nil_append, List.cons_append]
  gi_wp2
  go_ret
  exact ⟨rfl, rfl⟩

set_option maxHeartbeats 1000000 in
set_option maxRecDepth 100000 in
theorem join_one (b c : Nat) (w : World) (hc : w.cell? ⟨b, 0, none⟩ = some sA) :
    Calls Tryz.prog 258 #[.slice (some ⟨b, 0, none⟩) 1 c, .string ⟨#[47]⟩] w fun e w' => e = .returned sA ∧ w' = w := by
  go_enter Tryz.func258, Tryz.ntmps258
  go_wp2
  go_ret
  exact ⟨rfl, rfl⟩

/-! ### The builder's states -/
def bst0 : St := ⟨Tr.put 65 .nil 64 (some (.cells [.ptr none, .slice none 0 0 none] 196 none)), 65, 0, 1⟩
def stOf : Option Out → Option St
  | some (.call _ S) => some S
  | _ => none
def strIs (l : List Nat) : Option Out → Bool
  | some (.call (.str s) _) => sameStr s l
  | _ => false
noncomputable def chain : Bool :=
  match stOf (calls env0 memoB 400 20 254 [.ptr (some (64, 0)), .int .u8 47] bst0) with
  | some S1 => match stOf (calls env0 memoB 400 20 254 [.ptr (some (64, 0)), .int .u8 97] S1) with
    | some S2 => strIs [47, 97] (memoB 108 [.ptr (some (64, 0))] S2)
    | none => false
  | none => false
theorem chain_true : chain = true := by decide +kernel
theorem stOf_eq {o : Option Out} {S : St} (h : stOf o = some S) : ∃ v, o = some (.call v S) := by
  unfold stOf at h
  split at h
  · cases h; exact ⟨_, rfl⟩
  · cases h
theorem chain_is : ∃ S1 S2 S3 v1 v2, calls env0 memoB 400 20 254 [.ptr (some (64, 0)), .int .u8 47] bst0 = some (.call v1 S1) ∧ calls env0 memoB 400 20 254 [.ptr (some (64, 0)), .int .u8 97] S1 = some (.call v2 S2) ∧
    ∃ l, memoB 108 [.ptr (some (64, 0))] S2 = some (.call (.str l) S3) ∧ sameStr l [47, 97] = true := by
  have h := chain_true
  unfold chain at h
  split at h
  · rename_i S1 h1
    split at h
    · rename_i S2 h2
      obtain ⟨v1, h1⟩ := stOf_eq h1
      obtain ⟨v2, h2⟩ := stOf_eq h2
      unfold strIs at h
      split at h
      · rename_i l S3 h3
        exact ⟨S1, S2, S3, v1, v2, h1, h2, l, h3, h⟩
      · cases h
    · cases h
  · cases h

def thB (b : Nat) : Th := ⟨fun n => if n < 64 then some n else if n = 64 then some b else none, fun _ => none⟩

theorem bst0_get (n : Nat) : bst0.heap.get n = if n = 64 then some (.cells [.ptr none, .slice none 0 0 none] 196 none) else none := by
  show (Tr.put 65 .nil 64 _).get n = _
  rw [Tr.get_put _ _ _ _ _ (by omega), Tr.get_nil]

theorem startB (w : World) : SR (thB w.heap.size) w.heap.size bst0 (w.alloc (.cells #[.pointer none, .slice none 0 0] 196)) := by
  refine ⟨⟨fun n o hn => ?_, fun n m b h1 h2 h3 _ _ => ?_⟩, fun n hn => ?_, fun _ _ => rfl, by decide, fun g hg => by simp [thB, hg], by simp⟩
  · rw [bst0_get] at hn
    split at hn
    · rename_i h0
      subst h0
      cases hn
      refine ⟨w.heap.size, _, by simp [thB], World.alloc_heap_new w _, ⟨rfl, [.pointer none, .slice none 0 0], [], rfl, .cons _ _ _ _ .ptrN (.cons _ _ _ _ (.sliceN _ _ _ rfl) .nil), fun _ _ h => by cases h⟩, fun _ => ⟨Nat.le_refl _, .inl rfl⟩⟩
    · cases hn
  · rw [bst0_get] at h2 h3
    have : n = 64 := by
      by_cases e : n = 64
      · exact e
      · rw [if_neg e] at h2; exact (h2 rfl).elim
    have : m = 64 := by
      by_cases e : m = 64
      · exact e
      · rw [if_neg e] at h3; exact (h3 rfl).elim
    omega
  · have hn : 65 ≤ n := hn
    simp only [thB]
    rw [if_neg (by omega), if_neg (by omega)]

theorem write_at {S S' : St} {v : AV} {c : Int} (h : calls env0 memoB 400 20 254 [.ptr (some (64, 0)), .int .u8 c] S = some (.call v S')) {θ : Th} {b B : Nat} {w : World} (k : SR θ B S w) (hθ : θ.blk 64 = some b) (hn : 65 ≤ S.next) :
    Calls Tryz.prog 254 #[.pointer (some ⟨b, 0, none⟩), .int .u8 c] w fun e w' => (∃ v, e = .returned v) ∧ Below B w w' ∧ 65 ≤ S'.next ∧ ∃ θ', θ'.blk 64 = some b ∧ SR θ' B S' w' :=
  ((calls_sound env0_ok memoB_ok 20 0 254 _ S _ h θ B w _ k (.cons _ _ _ _ (.ptr _ _ _ hθ) (.cons _ _ _ _ (.int _ _) .nil))).2).mono fun e w' ⟨v', θ', he, _, hk, hx⟩ =>
    ⟨⟨_, he⟩, hx.below k, Nat.le_trans hn hx.next, θ', by rw [hx.old 64 (by omega)]; exact hθ, hk⟩

theorem sameStr_eq : ∀ (a b : List Nat), sameStr a b = true → a = b
  | [], [], _ => rfl
  | [], _ :: _, h => by simp [sameStr] at h
  | _ :: _, [], h => by simp [sameStr] at h
  | x :: xs, y :: ys, h => by
    unfold sameStr at h
    split at h
    · rename_i hb
      rw [Nat.eq_of_beq_eq_true hb, sameStr_eq xs ys h]
    · cases h

theorem text_at {S2 S3 : St} {l : List Nat} (h : memoB 108 [.ptr (some (64, 0))] S2 = some (.call (.str l) S3)) (hl : sameStr l [47, 97] = true) {θ : Th} {b B : Nat} {w : World} (k : SR θ B S2 w) (hθ : θ.blk 64 = some b) :
    Calls Tryz.prog 108 #[.pointer (some ⟨b, 0, none⟩)] w fun e w' => e = .returned sPA ∧ Below B w w' ∧ w.heap.size ≤ w'.heap.size ∧ ∀ j, j < w.heap.size → (∀ n, 64 ≤ n → S2.heap.get n ≠ none → θ.blk n ≠ some j) → w'.heap[j]? = w.heap[j]? := by
  obtain ⟨⟨_, v, S', he, hk⟩, _⟩ := memoB_known h
  cases he
  refine (hk θ B w _ k (.cons _ _ _ _ (.ptr _ _ _ hθ) .nil)).mono fun e w' ⟨v', θ', he, hv, hs, hx⟩ => ⟨?_, hx.below k, hx.size, hx.keep⟩
  rw [sameStr_eq _ _ hl] at hv
  obtain ⟨s, rfl, hs⟩ := str_is hv
  rw [he, bytes_is (l := [47, 97]) hs]

theorem owned_lt {θ : Th} {B : Nat} {S : St} {w : World} (k : SR θ B S w) {j : Nat} (hj : w.heap.size ≤ j) : ∀ n, 64 ≤ n → S.heap.get n ≠ none → θ.blk n ≠ some j := by
  intro n _ hn he
  cases ho : S.heap.get n with
  | none => exact hn ho
  | some o =>
    obtain ⟨b, ob, h1, h2, _⟩ := k.hr.obj n o ho
    rw [he] at h1
    cases h1
    have := (Array.getElem?_eq_some_iff.1 h2).1
    omega

theorem boxed_own {β : Type} (B : Nat) (t : TypeId) (v : Value) : Own (fun (_ : β) W => Boxed W B t v) := fun s X Y row hs hg hrow => hs.kept hg fun e' => by
  obtain ⟨o, ho, hc⟩ := hrow B e'.symm
  rw [show X.heap[B]? = _ from hs] at ho; cases ho; cases hc

theorem info9 : (Tryz.prog.info? 9).map (fun i => (i.zero, i.size, i.bytes)) = some (some (.string ⟨#[]⟩), 1, 16) := by kernel_rfl

set_option maxRecDepth 100000 in
set_option maxHeartbeats 4000000 in
theorem normal_a (w : World) : Calls Tryz.prog 146 #[sPA] w fun e w' => e = .returned (.tuple #[sPA, .int .i64 0]) ∧ Below w.heap.size w w' := by
  refine (callsIn_wide (n := 5)).1 ?_
  obtain ⟨S1, S2, S3, v1, v2, hS1, hS2, l, hS3, hl⟩ := chain_is
  refine callsIn_of_wp_marks Tryz.func146 rfl trivial ?_ rfl
  simp only [Tryz.ntmps146, List.size_toArray, List.length_cons, List.length_nil, Nat.reduceAdd, Nat.reduceSub, Array.replicate_succ, Array.replicate_zero, List.push_toArray, List.append_toArray, List.nil_append, List.cons_append]
  gi_wp2_with (refine ⟨trivial, ?_⟩; gi_at_call 252; refine (callsIn_wide.2 (isPath_a _)).mono ?_; rintro e w1 ⟨rfl, hb1⟩)
  have k0 := startB w1
  gi_loopw [5] (fun p wr => Below w.heap.size w wr ∧ ∃ θ, θ.blk 64 = some w1.heap.size ∧ ((p = .int .i64 0 ∧ SR θ w1.heap.size bst0 wr) ∨ (p = .int .i64 1 ∧ SR θ w1.heap.size S1 wr ∧ 65 ≤ S1.next) ∨ (p = .int .i64 2 ∧ SR θ w1.heap.size S2 wr ∧ 65 ≤ S2.next)))
    (fun p wr => match p with | .int .i64 (.ofNat n) => 2 - n | _ => 0)
  case atStart => exact ⟨hb1.alloc hb1.size _, _, by simp [thB], .inl ⟨rfl, k0⟩⟩
  case round =>
    obtain ⟨hbr, θ, hθ, ⟨rfl, k⟩ | ⟨rfl, k, hn⟩ | ⟨rfl, k, hn⟩⟩ := hrel
    · gi_wp2_with (first | (refine ⟨trivial, ?_⟩; gi_at_call 253; refine (callsIn_wide.2 (triple_0 _)).mono ?_; rintro e w2 ⟨rfl, hb2⟩) | (refine ⟨trivial, ?_⟩; gi_at_call 254; refine (callsIn_wide.2 (write_at hS1 (k.grow hb2).1 hθ (by decide))).mono ?_; rintro e w3 ⟨⟨v3, rfl⟩, hb3, hn3, θ3, hθ3, k3⟩))
      go_roundw
      case rel => exact ⟨(hbr.trans (hb2.mono hbr.size)).trans (hb3.mono hb1.size), θ3, hθ3, .inr (.inl ⟨rfl, k3, hn3⟩)⟩
      case measure => decide
    · gi_wp2_with (first | (refine ⟨trivial, ?_⟩; gi_at_call 253; refine (callsIn_wide.2 (triple_1 _)).mono ?_; rintro e w2 ⟨rfl, hb2⟩) | (refine ⟨trivial, ?_⟩; gi_at_call 254; refine (callsIn_wide.2 (write_at hS2 (k.grow hb2).1 hθ hn)).mono ?_; rintro e w3 ⟨⟨v3, rfl⟩, hb3, hn3, θ3, hθ3, k3⟩))
      go_roundw
      case rel => exact ⟨(hbr.trans (hb2.mono hbr.size)).trans (hb3.mono hb1.size), θ3, hθ3, .inr (.inr ⟨rfl, k3, hn3⟩)⟩
      case measure => decide
    · have hj0 := owned_lt k (Nat.le_refl _)
      have hj1 := owned_lt k (Nat.le_succ _)
      gi_wp2_with (first | (refine ⟨trivial, ?_⟩; gi_at_call 108; refine (callsIn_wide.2 (text_at hS3 hl (k.grow (((Below.refl _ wr).alloc (Nat.le_refl _) (.cells #[.slice none 0 0] 111)).alloc (by simp) (.cells #[.bool false] 4))).1 hθ)).mono ?_; rintro e w4 ⟨rfl, hb4, hsz4, hkeep⟩) | (refine ⟨trivial, ?_⟩; gi_at_call 257; refine (each_in _ _).mono ?_; rintro e w5 ⟨rfl, rfl⟩))
      have bK0 : Boxed w4 wr.heap.size 111 (.slice none 0 0) := (hkeep wr.heap.size (by simp; omega) hj0).trans ((Boxed.new wr 111 (.slice none 0 0)).alloc (.cells #[.bool false] 4))
      have bD0 : Boxed w4 (wr.heap.size + 1) 4 (.bool false) := (hkeep (wr.heap.size + 1) (by simp) hj1).trans (by have := Boxed.new (wr.alloc (.cells #[.slice none 0 0] 111)) 4 (.bool false); rwa [World.size_alloc] at this)
      have bK := bK0.alloc (.cells #[sPA] 9)
      have bD := bD0.alloc (.cells #[sPA] 9)
      have bP := Boxed.new w4 9 sPA
      simp only [World.size_alloc] at hsz4
      have hle : w.heap.size ≤ wr.heap.size := hbr.size
      have hB5 : Below w.heap.size w (w4.alloc (.cells #[sPA] 9)) := ((((hbr.alloc hle _).alloc (by simp; omega) _).trans (hb4.mono hb1.size))).alloc (by omega) _
      obtain ⟨i0, hi, hz0, hz1, hz2⟩ := info_parts info9
      refine wpIn_rangeFunc_ownG rfl (by decide) (gf := 375) (lb := #[.pointer (some ⟨w4.heap.size, 0, none⟩)]) rfl trivial (enters_of Tryz.func375 (by kernel_rfl) rfl)
        (each_stops 4 (by decide) w4.heap.size w.heap.size _ (by simp) bP.cell) belowK_t (belowK_b (by simp; omega)) (Below.refl _ _) (fun _ => rfl)
        (fun pre W => ((∃ v, Boxed W wr.heap.size 111 v ∧ W.ownsRow w.heap.size 9 1 v pre.length (pre.map fun _ => sA) ∧ (True ∨ v = v)) ∧ Boxed W (wr.heap.size + 1) 4 (.bool false)) ∧ Below w.heap.size w W)
        (fun _ _ _ => False)
        (OwnFrom.and (Own.from (fun s X Y row hs hg hr => ⟨holdsRow_own w.heap.size wr.heap.size 111 9 1 (fun pre : List Unit => pre.length) (fun pre => pre.map fun _ => sA) (fun _ v => True ∨ v = v) s X Y row hs.1 hg hr, boxed_own _ _ _ s X Y row hs.2 hg hr⟩) _) (ownFrom_below (Nat.le_refl _) (by simp; omega)))
        (fun _ _ _ _ _ hs _ _ => hs)
        ⟨⟨⟨_, bK, World.ownsRow_nil _ _ _ _, .inl trivial⟩, bD⟩, hB5⟩
        (fun _ => { tmps := #[sPA, undef, .string ⟨#[]⟩, .int .i64 0, .pointer (some ⟨w1.heap.size, 0, none⟩), .int .i64 2, u6, u7, .pointer (some ⟨wr.heap.size, 0, none⟩), .pointer (some ⟨wr.heap.size + 1, 0, none⟩), sA, sPA, .bool true, .bool false, .int .i64 2, sPA, .int .i64 2, .bool false, u18, u19, u20, u21, u22, u23, u24, u25, u26, u27, u28, u29, u30, u31, u32, u33, u34, u35, u36, u37, u38, u39, u40, u41, u42, u43, sPA, .func (.func 375) #[] #[.pointer (some ⟨w4.heap.size, 0, none⟩)], sA, undef, undef, undef, undef, undef, undef, undef, undef, undef, undef, undef, undef, undef, undef, undef, undef, undef, undef, undef, undef, undef, undef, undef, undef, undef, undef, undef, undef, undef, undef, undef, undef, undef], defers := [] }) ?assign ?body ?done ?stop
      case assign =>
        intro l x W K hK
        gi_wp2
        exact hK
      case body =>
        rintro l pre x W ⟨⟨⟨v, hv, hrow, _⟩, hd⟩, hB⟩ hlt
        have hc := hv.cell
        have hdc := hd.cell
        have hdf := hd.frozen
        have hne : wr.heap.size ≠ wr.heap.size + 1 := by omega
        have hv' : Boxed (W.setCell ⟨wr.heap.size + 1, 0, none⟩ (.bool false)) wr.heap.size 111 v := (Below.heap_setCell _ _ _ _ (by simp)).trans hv
        have hd' := hd.set (.bool false)
        have hrow' := hrow.kept (grownBy_setCell' W (wr.heap.size + 1) (.bool false)) (.inr (hd.not_row (by decide) hrow).symm)
        have hB' := hB.setCell (p := ⟨wr.heap.size + 1, 0, none⟩) (by simp; omega) (.bool false)
        have hc' := hv'.cell
        have hdc' := hd'.cell
        have hcn := cell_one_new (W.setCell ⟨wr.heap.size + 1, 0, none⟩ (.bool false)) sA 9
        simp only [World.size_setCell] at hcn
        have hmx : pre.length + 1 ≤ maxLen := Nat.le_trans (m := 1) (by omega) (by decide)
        gi_wp2_with (gi_at_builtin; refine wpListIn_append_own _ rfl _ _ 111 rfl w.heap.size 9 i0 (.string ⟨#[]⟩) 1 16 Tryz.underlying111 hi hz0 hz1 hz2 rfl (by decide) _ _ _ rfl (hrow'.alloc _) ⟨W.heap.size, 0, none⟩ 1 1 [sA] rfl rfl hcn (by simp [Value.oneCell']) hmx (by omega) (by have := hB.size; simp; omega) ?_; intro v' w1' hown' hgrow _; obtain ⟨g', cap', rfl⟩ := ownsRow_succ hown'; obtain ⟨hv1, hv2, hr2, hk2, hb2⟩ := hv'.appended (by decide) hrow' hB'.size (by omega) hown' hgrow; have hc1 := hv1.cell; have hf1 := hv1.frozen)
        have hd2 : Boxed (w1'.setCell ⟨wr.heap.size, 0, none⟩ (.slice (some ⟨g', 0, none⟩) (pre.length + 1) cap')) (wr.heap.size + 1) 4 (.bool false) :=
          (Below.heap_setCell _ _ _ _ (by simp)).trans ((hd'.alloc _).kept hgrow (hd'.not_row (by decide) hrow'))
        have hr3 := hr2
        exact ⟨((KeepsOthers.setCell _ _ _).trans hk2).from _, ((Below.refl _ W).setCell (p := ⟨wr.heap.size + 1, 0, none⟩) (by simp; omega) _).trans hb2, ⟨⟨_, hv2, by simpa using hr3⟩, hd2⟩, hB'.trans hb2⟩
      case done =>
        rintro D ys W hD rfl ⟨⟨⟨v, hv, hrow, _⟩, hd⟩, hB⟩ hK
        have hdc := hd.cell
        have hc := hv.cell
        obtain ⟨g, cap, rfl⟩ := ownsRow_succ hrow
        have hg : W.cell? ⟨g, 0, none⟩ = some sA := hrow.cells rfl 0 sA rfl
        gi_wp2_with (refine ⟨trivial, ?_⟩; gi_at_call 258; refine (callsIn_wide.2 (join_one g cap _ hg)).mono ?_; rintro e w6 ⟨rfl, rfl⟩)
        refine ⟨by simp, .inl ⟨_, _, rfl, run_takeDeferred hK, ?_⟩⟩
        exact ⟨_, results_tmp2 rfl _ _ _, by rfl, hB.trans (belowK_b (w := w) (Nat.le_refl _) _ D _ _ (by simp at hD; omega) hK rfl rfl)⟩
      case stop =>
        rintro D c pre W _ _ h _
        exact h.elim
end Go.Proofs.YtjlgdeeahcfcgaaGreatDoor
