/- The socket layer's small functions: what each returns; no condition. -/
import Derived.Test.YtmgfpjfamdbhbaaDoorMask
import Derived.Deep.OwnRows
namespace Go.Proofs.YtmgfpjfamdbhbaaDoor
open Go.RowKit

def controlB (n : Int) : Bool := decide (8 ≤ n ∧ n ≤ 10)
def isOpB (n : Int) : Bool := decide ((0 ≤ n ∧ n ≤ 2) ∨ (8 ≤ n ∧ n ≤ 10))
def isCodeB (n : Int) : Bool := decide ((1000 ≤ n ∧ n ≤ 1003) ∨ (1007 ≤ n ∧ n ≤ 1011) ∨ (3000 ≤ n ∧ n ≤ 4999))

theorem control_any (n : Int) (w : World) :
    Calls Tryd.prog 41 #[.int .i64 n] w fun e w' => e = .returned (.bool (controlB n)) ∧ w = w' := by
  unfold controlB
  by_cases h1 : 8 ≤ n <;> by_cases h2 : n ≤ 10
  all_goals
    go_enter Tryd.func41, Tryd.ntmps41
    go_wp2
    go_ret
    simp [h1, h2]

theorem isOp_any (n : Int) (w : World) :
    Calls Tryd.prog 40 #[.int .i64 n] w fun e w' => e = .returned (.bool (isOpB n)) ∧ w = w' := by
  have hc := control_any n w
  have e : isOpB n = (decide (0 ≤ n ∧ n ≤ 2) || controlB n) := by simp [isOpB, controlB]
  rw [e]
  generalize controlB n = c at *
  clear e
  by_cases h1 : 0 ≤ n <;> by_cases h2 : n ≤ 2
  all_goals
    have hd : decide (0 ≤ n ∧ n ≤ 2) = decide (0 ≤ n ∧ n ≤ 2) := rfl
    simp only [h1, h2, and_self, and_true, and_false, decide_true, decide_false, Bool.true_or, Bool.false_or]
    clear hd
    go_enter Tryd.func40, Tryd.ntmps40
    go_wp2_with (go_at_call 41; refine hc.mono ?_; rintro e w' ⟨rfl, rfl⟩)
    go_ret
    exact ⟨rfl, rfl⟩

theorem risOp_any (n : Int) (w : World) :
    Calls Tryd.prog 42 #[.int .i64 n] w fun e w' => e = .returned (.bool (isOpB n)) ∧ w = w' := by
  unfold isOpB
  by_cases h1 : 0 ≤ n <;> by_cases h2 : n ≤ 2 <;> by_cases h3 : 8 ≤ n <;> by_cases h4 : n ≤ 10
  all_goals first | (exfalso; omega) | skip
  all_goals
    go_enter Tryd.func42, Tryd.ntmps42
    go_wp2
    go_ret
    simp [h1, h2, h3, h4]

theorem isCode_any (n : Int) (w : World) :
    Calls Tryd.prog 46 #[.int .i64 n] w fun e w' => e = .returned (.bool (isCodeB n)) ∧ w = w' := by
  unfold isCodeB
  by_cases h1 : 1000 ≤ n <;> by_cases h2 : n ≤ 1003 <;> by_cases h3 : 1007 ≤ n <;> by_cases h4 : n ≤ 1011 <;> by_cases h5 : 3000 ≤ n <;> by_cases h6 : n ≤ 4999
  all_goals first | (exfalso; omega) | skip
  all_goals
    go_enter Tryd.func46, Tryd.ntmps46
    go_wp2
    go_ret
    simp [h1, h2, h3, h4, h5, h6]
theorem risCode_any (n : Int) (w : World) :
    Calls Tryd.prog 47 #[.int .i64 n] w fun e w' => e = .returned (.bool (isCodeB n)) ∧ w = w' := by
  unfold isCodeB
  by_cases h1 : 1000 ≤ n <;> by_cases h2 : n ≤ 1003 <;> by_cases h3 : 1007 ≤ n <;> by_cases h4 : n ≤ 1011 <;> by_cases h5 : 3000 ≤ n <;> by_cases h6 : n ≤ 4999
  all_goals first | (exfalso; omega) | skip
  all_goals
    go_enter Tryd.func47, Tryd.ntmps47
    go_wp2
    go_ret
    simp [h1, h2, h3, h4, h5, h6]

/-- n by k bytes, the highest first; the places from c on are filled -/
def highTo (n k c : Nat) : List UInt8 := (List.range k).map fun j => if j < c then 0 else UInt8.ofNat (n >>> (8 * (k - 1 - j)))
def highL (n k : Nat) : List UInt8 := highTo n k 0
theorem highTo_length (n k c : Nat) : (highTo n k c).length = k := by simp [highTo]
theorem highTo_step (n k c : Nat) (_h : c < k) : highTo n k c = (highTo n k (c + 1)).set c (UInt8.ofNat (n >>> (8 * (k - 1 - c)))) := by
  apply List.ext_getElem
  · simp [highTo]
  · intro i h1 h2
    by_cases e : c = i
    · subst e; simp [highTo]
    · rw [List.getElem_set_ne e]
      simp only [highTo, List.getElem_map, List.getElem_range]
      by_cases h3 : i < c
      · rw [if_pos h3, if_pos (by omega)]
      · rw [if_neg h3, if_neg (by omega)]
theorem info5 : (Tryd.prog.info? 5).map (fun i => (i.zero, i.size, i.bytes)) = some (some (.int .u8 0), 1, 1) := by kernel_rfl

theorem RowB.made (w : World) (n k : Nat) : RowB (w.alloc (.cells (madeCells #[.int .u8 0] k) 5)) w.heap.size (highTo n k k) := by
  intro j hj
  have hj' : j < k := by simpa [highTo] using hj
  refine ⟨?_, World.frozen?_alloc_at _ _ _ _ rfl⟩
  rw [World.cell?_alloc_at _ _ _ _ rfl]
  have : (highTo n k k)[j] = 0 := by simp [highTo, hj']
  rw [this]
  simp [madeCells, hj', Nat.mod_one]

theorem u8_of (m : Nat) : ((UInt8.ofNat m).toNat : Int) = (m : Int) % 256 := by simp
theorem shr8 (n d : Nat) : n >>> (8 * (d + 1)) = (n >>> (8 * d)) / 256 := by
  rw [Nat.mul_add, Nat.shiftRight_add]; simp [Nat.shiftRight_eq_div_pow]

set_option maxHeartbeats 1000000 in
theorem high_any (n k : Nat) (w : World) (hn : n ≤ 9223372036854775807) (hk : 1 ≤ k) (hk8 : k ≤ 8) :
    Calls Tryd.prog 43 #[.int .i64 n, .int .i64 k] w fun e w' => e = .returned (.string (bs (highL n k))) ∧ Below w.heap.size w w' := by
  have hmk := fun w => Go.run_make_row' (P := Tryd.prog) 76 5 (.int .u8 0) 1 Tryd.underlying76 info5 rfl .i64 .i64 k (by omega) (by omega) w
  go_enter Tryd.func43, Tryd.ntmps43
  go_wp2
  go_loopw [0, 6] (fun m i wr => ∃ c p : Nat, c ≤ k ∧ p ≤ 9223372036854775807 ∧ Hid (p = n >>> (8 * (k - c))) ∧ m = .int .i64 p ∧ i = .int .i64 ((c : Int) - 1) ∧ RowB wr w.heap.size (highTo n k c) ∧ Below w.heap.size w wr)
      (fun _ i _ => (intOf i + 1).toNat)
  case atStart => exact ⟨k, n, Nat.le_refl _, hn, by show n = _; simp, rfl, rfl, RowB.made _ _ _, (Below.refl _ _).alloc (Nat.le_refl _) _⟩
  case round =>
    obtain ⟨c, p, hc, hp, Hp, rfl, rfl, hrow, hbel⟩ := hrel
    by_cases h0 : 0 < c
    · obtain ⟨hcl, hz⟩ := hrow (c - 1) (by rw [highTo_length]; omega)
      generalize (highTo n k c)[c-1]'_ = x at hcl
      go_wp2
      go_roundw
      case rel =>
        obtain ⟨d, rfl⟩ : ∃ d, c = d + 1 := ⟨c - 1, by omega⟩
        refine ⟨d, p / 256, by omega, by omega, ?_, by go_num, by go_num, ?_, hbel.setCell (Nat.le_refl _) _⟩
        · show p / 256 = _
          rw [show k - d = (k - (d + 1)) + 1 by omega, shr8, ← Hp.out]
        · rw [← u8_of]
          refine hrow.set (by rw [highTo_length]; omega) ?_
          rw [highTo_step _ _ _ (by omega), Hp.out]
          simp only [Nat.add_sub_cancel]
          rw [show k - 1 - d = k - (d + 1) by omega]
      case measure => simp [intOf]; omega
    · obtain rfl : c = 0 := by omega
      have hback := hrow.back k
      rw [highTo_length] at hback
      clear hrow
      go_wp2
      go_ret
      exact ⟨rfl, hbel⟩
end Go.Proofs.YtmgfpjfamdbhbaaDoor
