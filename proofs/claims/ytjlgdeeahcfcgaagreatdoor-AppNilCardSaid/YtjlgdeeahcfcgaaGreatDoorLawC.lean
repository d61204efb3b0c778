/- AppNil returns true, wherever the two tables stand, at every request, number and fault. -/
import Derived.Test.YtjlgdeeahcfcgaaGreatDoorLawR0
import Derived.Test.YtjlgdeeahcfcgaaGreatDoorLawR2
import Derived.Test.YtjlgdeeahcfcgaaGreatDoorFailD
set_option linter.unusedVariables false
set_option linter.unusedSimpArgs false
namespace Go.Proofs.YtjlgdeeahcfcgaaGreatDoor
open Go.Exe Go.RowKit
set_option linter.unusedSectionVars false

/-- What is open in AppNil. -/
def opnAll (m g b s : ByteArray) (x y n q z u : Int) (a a' : Option Addr) (l k l' k' : Nat) (t : Nat) : Value := match t with
  | 0 => .string m
  | 1 => .string g
  | 2 => .int .i64 x
  | 3 => .int .i64 y
  | 4 => .int .i64 n
  | 5 => .int .i64 q
  | 6 => .string s
  | 8 => .int .i64 z
  | 9 => .int .i64 u
  | 10 => .slice a l k
  | 11 => .slice a' l' k'
  | 12 => .string b
  | _ => .int .i64 0


theorem nil_of {w : World} (hw : Stands w) (m g b s : ByteArray) (x y n q z u : Int) (a a' : Option Addr) (l k l' k' : Nat)
    (hs : ∀ w : World, Stands w →
      (Calls Tryz.prog 11 #[.pointer none, .agg #[.int .i64 q, .int .i64 z, .int .i64 u]] w fun e w' => e = .returned (.string s) ∧ Below w.heap.size w w') ∧
      Calls Tryz.prog 12 #[cfgV, .int .i64 q] w fun e w' => e = .returned (.string s) ∧ Below w.heap.size w w')
    {h c e f o : Bool} (hh : decide (toNats m = headL) = h) (hc : decide (toNats m = connectL) = c) (he : decide (y = 0) = e) (hl : decide (y < 0) = f) (hg : decide (0 < y) = o)
    (run : isTrue (callsF env3 memoB 4000 60 3 (args3 (methodA h c) (minorA e f o)) st0) = true) :
    Calls Tryz.prog 3 #[.agg #[.string m, .string g, .int .i64 x, .int .i64 y, .slice a l k, .string b, .slice a' l' k'], .int .i64 n, .agg #[.int .i64 q, .int .i64 z, .int .i64 u]] w fun e w' => e = .returned (.bool true) ∧ Below w.heap.size w w' := by
  letI : Opn := ⟨opnAll m g b s x y n q z u a a' l k l' k'⟩
  have F : FailOk q s := ⟨rfl, rfl, hs⟩
  have nf : ∀ (v : Value), ∀ f ∈ ([] : List AV), FactOk v f := fun _ _ h => by cases h
  have w0 : VR th01 (methodA h c) (.string m) := .opn 0 _ _ rfl rfl (fun f hf => by
    rcases List.mem_cons.1 hf with rfl | hf
    · exact ⟨m, rfl, hh⟩
    · rcases List.mem_cons.1 hf with rfl | hf
      · exact ⟨m, rfl, hc⟩
      · cases hf)
  have w3 : VR th01 (minorA e f o) (.int .i64 y) := .opn 3 _ _ rfl rfl (fun f hf => by
    rcases List.mem_cons.1 hf with rfl | hf
    · exact ⟨y, rfl, he, hl, hg⟩
    · cases hf)
  have w1 : VR th01 (opn 1 []) (.string g) := .opn 1 _ _ rfl rfl (nf _)
  have w2 : VR th01 (opn 2 []) (.int .i64 x) := .opn 2 _ _ rfl rfl (nf _)
  have w4 : VR th01 (opn 4 []) (.int .i64 n) := .opn 4 _ _ rfl rfl (nf _)
  have w5 : VR th01 (opn 5 []) (.int .i64 q) := .opn 5 _ _ rfl rfl (nf _)
  have w8 : VR th01 (opn 8 []) (.int .i64 z) := .opn 8 _ _ rfl rfl (nf _)
  have w9 : VR th01 (opn 9 []) (.int .i64 u) := .opn 9 _ _ rfl rfl (nf _)
  have w10 : VR th01 (opn 10 []) (.slice a l k) := .opn 10 _ _ rfl rfl (nf _)
  have w11 : VR th01 (opn 11 []) (.slice a' l' k') := .opn 11 _ _ rfl rfl (nf _)
  have w12 : VR th01 (opn 12 []) (.string b) := .opn 12 _ _ rfl rfl (nf _)
  have wr : VR th01 (reqA (methodA h c) (minorA e f o)) (.agg [.string m, .string g, .int .i64 x, .int .i64 y, .slice a l k, .string b, .slice a' l' k'].toArray) :=
    .agg _ _ (.cons _ _ _ _ w0 (.cons _ _ _ _ w1 (.cons _ _ _ _ w2 (.cons _ _ _ _ w3 (.cons _ _ _ _ w10 (.cons _ _ _ _ w12 (.cons _ _ _ _ w11 .nil)))))))
  have wf : VR th01 faultA (.agg [.int .i64 q, .int .i64 z, .int .i64 u].toArray) := .agg _ _ (.cons _ _ _ _ w5 (.cons _ _ _ _ w8 (.cons _ _ _ _ w9 .nil)))
  rw [callsF_eq] at run
  exact said_of_run (env3_ok F) run hw (.cons _ _ _ _ wr (.cons _ _ _ _ w4 (.cons _ _ _ _ wf .nil)))

theorem nil_any {w : World} (hw : Stands w) (m g b : ByteArray) (x y : Int) (a a' : Option Addr) (l k l' k' : Nat) (n q z u : Int) (lo : -9223372036854775808 ≤ q) (hi : q ≤ 9223372036854775807) :
    Calls Tryz.prog 3 #[.agg #[.string m, .string g, .int .i64 x, .int .i64 y, .slice a l k, .string b, .slice a' l' k'], .int .i64 n, .agg #[.int .i64 q, .int .i64 z, .int .i64 u]] w fun e w' => e = .returned (.bool true) ∧ Below w.heap.size w w' := by
  obtain ⟨s, hs⟩ := both_any q (.int .i64 z) (.int .i64 u) lo hi rfl rfl
  have H := fun {h c e f o : Bool} => @nil_of w hw m g b s x y n q z u a a' l k l' k' hs h c e f o
  by_cases h1 : toNats m = headL
  · have h2 : ¬ toNats m = connectL := by rw [h1]; decide
    rcases Int.lt_trichotomy y 0 with hy | hy | hy
    · exact H (decide_eq_true h1) (decide_eq_false h2) (decide_eq_false (by omega)) (decide_eq_true hy) (decide_eq_false (by omega)) ran3_hl
    · exact H (decide_eq_true h1) (decide_eq_false h2) (decide_eq_true hy) (decide_eq_false (by omega)) (decide_eq_false (by omega)) ran3_hz
    · exact H (decide_eq_true h1) (decide_eq_false h2) (decide_eq_false (by omega)) (decide_eq_false (by omega)) (decide_eq_true hy) ran3_hg
  · by_cases h2 : toNats m = connectL
    · rcases Int.lt_trichotomy y 0 with hy | hy | hy
      · exact H (decide_eq_false h1) (decide_eq_true h2) (decide_eq_false (by omega)) (decide_eq_true hy) (decide_eq_false (by omega)) ran3_cl
      · exact H (decide_eq_false h1) (decide_eq_true h2) (decide_eq_true hy) (decide_eq_false (by omega)) (decide_eq_false (by omega)) ran3_cz
      · exact H (decide_eq_false h1) (decide_eq_true h2) (decide_eq_false (by omega)) (decide_eq_false (by omega)) (decide_eq_true hy) ran3_cg
    · rcases Int.lt_trichotomy y 0 with hy | hy | hy
      · exact H (decide_eq_false h1) (decide_eq_false h2) (decide_eq_false (by omega)) (decide_eq_true hy) (decide_eq_false (by omega)) ran3_ol
      · exact H (decide_eq_false h1) (decide_eq_false h2) (decide_eq_true hy) (decide_eq_false (by omega)) (decide_eq_false (by omega)) ran3_oz
      · exact H (decide_eq_false h1) (decide_eq_false h2) (decide_eq_false (by omega)) (decide_eq_false (by omega)) (decide_eq_true hy) ran3_og
end Go.Proofs.YtjlgdeeahcfcgaaGreatDoor
