/- The reference's Digits (layer 12): a number's decimal digits; a negative one: a dash. The number is an int64. The reference's Digits (layer 1): the decimal digits of any int64. The reference's Reason (layer 12): the reason of a status, by a scan of one constant text. The plain scan. The reference's Reason (layer 12): the reason of a status, by a scan of one constant text. The status is an int64. -/
import Derived.Test.YtjlgdeeahcfcgaaGreatDoorProg
import Derived.WalkKit
import Derived.WalkSpells
import Derived.WalkLawsBesides
import Derived.Lib.Hide
import Derived.Deep.OwnRows
import Derived.Deep.QuietTactic
import Derived.BigQuiet
import Derived.Deep.DeepCutAuto
import Derived.Deep.CutBlock
import Derived.Deep.RegionWith
import Derived.Lib.IndexBytes
set_option linter.unusedVariables false
set_option linter.unusedSimpArgs false
namespace Go.Proofs.YtjlgdeeahcfcgaaGreatDoor
open Go.RowKit

/-- decimal digits -/
def digR (n : Nat) : List UInt8 := if h : n < 10 then [UInt8.ofNat (48 + n)] else digR (n / 10) ++ [UInt8.ofNat (48 + n % 10)]
termination_by n
decreasing_by omega
theorem digR_low {n : Nat} (h : n < 10) : digR n = [UInt8.ofNat (48 + n)] := by rw [digR, dif_pos h]
theorem digR_more {n : Nat} (h : ¬ n < 10) : digR n = digR (n / 10) ++ [UInt8.ofNat (48 + n % 10)] := by rw [digR, dif_neg h]
theorem digit_lt (k : Nat) : ((UInt8.ofNat (48 + k % 10)).toNat : Int) = 48 + (k : Int) % 10 := by
  have : k % 10 < 10 := Nat.mod_lt _ (by decide)
  rw [UInt8.toNat_ofNat_of_lt' (by show _ < 256; omega)]
  omega
def bs (l : List UInt8) : ByteArray := ⟨l.toArray⟩
theorem bs_size (l : List UInt8) : (bs l).size = l.length := by simp [bs, ByteArray.size]
theorem bs_append (a b : List UInt8) : bs a ++ bs b = bs (a ++ b) := by
  apply ByteArray.ext
  simp [bs, ByteArray.data_append]
theorem one_back (W : World) (x : UInt8) : (convert 191 9 (.slice (some ⟨W.heap.size, 0, none⟩) 1 1)).run Tryz.prog (W.alloc (.cells #[.int .u8 x.toNat] 5)) = .ok (.string (bs [x])) (W.alloc (.cells #[.int .u8 x.toNat] 5)) := by
  refine run_convert_bytes_back (P := Tryz.prog) _ 191 9 5 ⟨W.heap.size, 0, none⟩ 1 [x] Tryz.underlying191 Tryz.underlying5 Tryz.underlying9 (fun j hj => ?_)
  obtain rfl : j = 0 := by simpa using hj
  rw [show (⟨W.heap.size, 0, none⟩ : Addr).add 0 = ⟨W.heap.size, 0, none⟩ by simp [Addr.add], World.cell?_alloc_at _ _ _ _ rfl]
  rfl

set_option maxHeartbeats 1000000 in
theorem digits_any (n : Nat) (w : World) (hn : n ≤ 9223372036854775807) : Calls Tryz.prog 45 #[.int .i64 n] w fun e w' => e = .returned (.string (bs (digR n))) ∧ Below w.heap.size w w' := by
  go_enter Tryz.func45, Tryz.ntmps45
  go_wp2
  go_loopw [0, 3] (fun kv sv wr => ∃ (k : Nat) (acc : List UInt8), k ≤ n ∧ 2 * acc.length + k ≤ n ∧ kv = .int .i64 k ∧ sv = .string (bs acc) ∧ Hid (digR n = digR k ++ acc) ∧ Below w.heap.size w wr) (fun kv _ _ => (intOf kv).toNat)
  case atStart => exact ⟨n, [], Nat.le_refl _, by simp, rfl, rfl, Lib.hid (by simp), Below.refl _ _⟩
  case round =>
    obtain ⟨k, acc, hk, hl, rfl, rfl, HD, hbel⟩ := hrel
    obtain ⟨x, hxd⟩ : ∃ x, UInt8.ofNat (48 + k % 10) = x := ⟨_, rfl⟩
    have HX := Lib.hid hxd
    have hx := digit_lt k
    rw [hxd] at hx
    have hb := one_back wr x
    rw [hx] at hb
    have hsz : ¬ 9223372036854775807 < (bs [x]).size + (bs acc).size := by
      rw [bs_size, bs_size]
      simp only [List.length_singleton]
      omega
    clear hxd hx
    by_cases h0 : k < 10
    · have e1 : ((k : Int) / 10 == 0) = true := by rw [beq_iff_eq]; omega
      go_wp2
      go_ret
      refine ⟨?_, hbel.alloc hbel.size _⟩
      rw [HD.out, digR_low h0, bs_append, ← HX.out, Nat.mod_eq_of_lt h0]
      rfl
    · have e1 : ((k : Int) / 10 == 0) = false := by rw [beq_eq_false_iff_ne]; omega
      go_wp2
      go_roundw
      case rel => exact ⟨k / 10, x :: acc, by omega, by simp only [List.length_cons]; omega, by simp, by rw [bs_append]; rfl, Lib.hid (by rw [HD.out, digR_more h0, ← HX.out]; simp), hbel.alloc hbel.size _⟩
      case measure => simp [intOf]; omega
theorem digits_neg (n : Int) (w : World) (hn : n < 0) : Calls Tryz.prog 45 #[.int .i64 n] w fun e w' => e = .returned (.string ⟨#[45]⟩) ∧ w = w' := by
  go_enter Tryz.func45, Tryz.ntmps45
  go_wp2
  go_ret
  exact ⟨rfl, rfl⟩
end Go.Proofs.YtjlgdeeahcfcgaaGreatDoor
namespace Go.Proofs.YtjlgdeeahcfcgaaGreatDoor
open Go.RowKit

set_option maxHeartbeats 2000000 in
theorem digs_pos (n : Nat) (w : World) (hn0 : 0 < n) (hn : n ≤ 9223372036854775807) : Calls Tryz.prog 89 #[.int .i64 n] w fun e w' => e = .returned (.string (bs (digR n))) ∧ Below w.heap.size w w' := by
  have b0 : ((n : Int) == 0) = false := by rw [beq_eq_false_iff_ne]; omega
  have b1 : decide ((n : Int) < 0) = false := by rw [decide_eq_false_iff_not]; omega
  go_enter Tryz.func89, Tryz.ntmps89
  go_wp2
  go_loopw [0, 5, 4] (fun kv _ sv wr => ∃ (k : Nat) (acc : List UInt8), k ≤ n ∧ ((0 < k → 2 * acc.length + k ≤ n) ∧ 2 * acc.length ≤ n + 1) ∧ kv = .int .i64 k ∧ sv = .string (bs acc) ∧ Hid ((0 < k → digR n = digR k ++ acc) ∧ (k = 0 → digR n = acc)) ∧ Below w.heap.size w wr) (fun kv _ _ _ => (intOf kv).natAbs)
  case atStart => exact ⟨n, [], Nat.le_refl _, ⟨fun _ => by simp, by simp⟩, rfl, rfl, Lib.hid ⟨fun _ => by simp, fun h => by omega⟩, Below.refl _ _⟩
  case round =>
    obtain ⟨k, acc, hk, ⟨hl, hl2⟩, rfl, rfl, HD, hbel⟩ := hrel
    by_cases h0 : k = 0
    · subst h0
      have hsz : ¬ 9223372036854775807 < 1 + (bs acc).size := by
        rw [bs_size]
        omega
      go_wp2
      go_ret
      refine ⟨?_, hbel⟩
      rw [HD.out.2 trivial]
      rfl
    · obtain ⟨x, hxd⟩ : ∃ x, UInt8.ofNat (48 + k % 10) = x := ⟨_, rfl⟩
      have HX := Lib.hid hxd
      have hx := digit_lt k
      rw [hxd] at hx
      have hb := one_back wr x
      rw [hx] at hb
      have hsz : ¬ 9223372036854775807 < (bs [x]).size + (bs acc).size := by
        rw [bs_size, bs_size]
        simp only [List.length_singleton]
        omega
      clear hxd hx
      have e0 : ((k : Int) != 0) = true := by rw [bne, beq_eq_false_iff_ne.2 (by omega)]; rfl
      have e1 : decide ((k : Int) % 10 < 0) = false := by rw [decide_eq_false_iff_not]; omega
      go_wp2
      go_roundw
      case rel => exact ⟨k / 10, x :: acc, by omega, ⟨fun _ => by simp only [List.length_cons]; omega, by simp only [List.length_cons]; omega⟩, by simp, by rw [bs_append]; rfl, Lib.hid (by
        have hdg := HD.out.1 (by omega)
        rw [← HX.out]
        by_cases hlow : k < 10
        · refine ⟨fun h => by omega, fun _ => ?_⟩
          rw [hdg, digR_low hlow, Nat.mod_eq_of_lt hlow]
          rfl
        · refine ⟨fun _ => ?_, fun h => by omega⟩
          rw [hdg, digR_more hlow]
          simp), hbel.alloc hbel.size _⟩
      case measure => simp [intOf]; omega

set_option maxHeartbeats 2000000 in
theorem digs_neg (n : Nat) (w : World) (hn0 : 0 < n) (hn : n ≤ 9223372036854775808) : Calls Tryz.prog 89 #[.int .i64 (-(n : Int))] w fun e w' => e = .returned (.string (bs (45 :: digR n))) ∧ Below w.heap.size w w' := by
  have b0 : (((-(n : Int)) : Int) == 0) = false := by rw [beq_eq_false_iff_ne]; omega
  have b1 : decide (((-(n : Int)) : Int) < 0) = true := by rw [decide_eq_true_iff]; omega
  go_enter Tryz.func89, Tryz.ntmps89
  go_wp2
  go_loopw [0, 5, 4] (fun kv _ sv wr => ∃ (k : Nat) (acc : List UInt8), k ≤ n ∧ ((0 < k → 2 * acc.length + k ≤ n) ∧ 2 * acc.length ≤ n + 1) ∧ kv = .int .i64 (-(k : Int)) ∧ sv = .string (bs acc) ∧ Hid ((0 < k → digR n = digR k ++ acc) ∧ (k = 0 → digR n = acc)) ∧ Below w.heap.size w wr) (fun kv _ _ _ => (intOf kv).natAbs)
  case atStart => exact ⟨n, [], Nat.le_refl _, ⟨fun _ => by simp, by simp⟩, rfl, rfl, Lib.hid ⟨fun _ => by simp, fun h => by omega⟩, Below.refl _ _⟩
  case round =>
    obtain ⟨k, acc, hk, ⟨hl, hl2⟩, rfl, rfl, HD, hbel⟩ := hrel
    by_cases h0 : k = 0
    · subst h0
      have hsz : ¬ 9223372036854775807 < 1 + (bs acc).size := by
        rw [bs_size]
        omega
      go_wp2
      go_ret
      refine ⟨?_, hbel⟩
      rw [HD.out.2 trivial, show bs (45 :: acc) = bs [45] ++ bs acc from (bs_append [45] acc).symm]
      rfl
    · obtain ⟨x, hxd⟩ : ∃ x, UInt8.ofNat (48 + k % 10) = x := ⟨_, rfl⟩
      have HX := Lib.hid hxd
      have hx := digit_lt k
      rw [hxd] at hx
      have hb := one_back wr x
      rw [hx] at hb
      have hsz : ¬ 9223372036854775807 < (bs [x]).size + (bs acc).size := by
        rw [bs_size, bs_size]
        simp only [List.length_singleton]
        omega
      clear hxd hx
      have e0 : (((-(k : Int)) : Int) != 0) = true := by rw [bne, beq_eq_false_iff_ne.2 (by omega)]; rfl
      obtain ⟨z, hz⟩ : ∃ z : Int, -(k : Int) = z := ⟨_, rfl⟩
      have t1 : Int.tmod z 10 = -((k : Int) % 10) := by rw [← hz, Int.neg_tmod, Int.tmod_eq_emod_of_nonneg (by omega)]
      have t2 : Int.tdiv z 10 = -((k : Int) / 10) := by rw [← hz, Int.neg_tdiv, Int.tdiv_eq_ediv_of_nonneg (by omega)]
      obtain ⟨q, hq⟩ : ∃ q : Int, Int.tdiv z 10 = q := ⟨_, rfl⟩
      obtain ⟨t, ht⟩ : ∃ t : Int, Int.tmod z 10 = t := ⟨_, rfl⟩
      rw [hq] at t2
      rw [ht] at t1
      rw [hz] at e0
      simp only [hz]
      by_cases hz0 : k % 10 = 0
      · have e1 : decide (t < 0) = false := by rw [decide_eq_false_iff_not]; omega
        have hx0 : (k : Int) % 10 = t := by omega
        rw [hx0] at hb
        have w1 : -9223372036854775808 ≤ q ∧ q ≤ 9223372036854775807 := by omega
        have w2 : 0 ≤ t ∧ t < 10 := by omega
        have HT := Lib.hid (And.intro t2 hz)
        clear t1 t2 hz hx0 hz0
        obtain ⟨w1, w1'⟩ := w1
        obtain ⟨w2, w2'⟩ := w2
        go_wp2
        go_roundw
        case rel => exact ⟨k / 10, x :: acc, by omega, ⟨fun _ => by simp only [List.length_cons]; omega, by simp only [List.length_cons]; omega⟩, by rw [HT.out.1]; simp, by rw [bs_append]; rfl, Lib.hid (by
          have hdg := HD.out.1 (by omega)
          rw [← HX.out]
          by_cases hlow : k < 10
          · refine ⟨fun h => by omega, fun _ => ?_⟩
            rw [hdg, digR_low hlow, Nat.mod_eq_of_lt hlow]
            rfl
          · refine ⟨fun _ => ?_, fun h => by omega⟩
            rw [hdg, digR_more hlow]
            simp), hbel.alloc hbel.size _⟩
        case measure => have h1 := HT.out.1; have h2 := HT.out.2; simp only [intOf]; omega
      · have e1 : decide (t < 0) = true := by rw [decide_eq_true_iff]; omega
        have hx0 : (k : Int) % 10 = -t := by omega
        rw [hx0] at hb
        have w1 : -9223372036854775808 ≤ q ∧ q ≤ 9223372036854775807 := by omega
        have w2 : 0 ≤ -t ∧ -t < 10 := by omega
        have HT := Lib.hid (And.intro t2 hz)
        clear t1 t2 hz hx0 hz0
        obtain ⟨w1, w1'⟩ := w1
        obtain ⟨w2, w2'⟩ := w2
        go_wp2
        go_roundw
        case rel => exact ⟨k / 10, x :: acc, by omega, ⟨fun _ => by simp only [List.length_cons]; omega, by simp only [List.length_cons]; omega⟩, by rw [HT.out.1]; simp, by rw [bs_append]; rfl, Lib.hid (by
          have hdg := HD.out.1 (by omega)
          rw [← HX.out]
          by_cases hlow : k < 10
          · refine ⟨fun h => by omega, fun _ => ?_⟩
            rw [hdg, digR_low hlow, Nat.mod_eq_of_lt hlow]
            rfl
          · refine ⟨fun _ => ?_, fun h => by omega⟩
            rw [hdg, digR_more hlow]
            simp), hbel.alloc hbel.size _⟩
        case measure => have h1 := HT.out.1; have h2 := HT.out.2; simp only [intOf]; omega

/-- What the reference's Digits says of an int. -/
def digZ (n : Int) : List UInt8 := if n < 0 then 45 :: digR n.natAbs else digR n.toNat
theorem digZ_any (n : Int) (w : World) (h0 : -9223372036854775808 ≤ n) (h1 : n ≤ 9223372036854775807) : Calls Tryz.prog 89 #[.int .i64 n] w fun e w' => e = .returned (.string (bs (digZ n))) ∧ Below w.heap.size w w' := by
  unfold digZ
  rcases Int.lt_trichotomy n 0 with h | h | h
  · rw [if_pos h]
    have := digs_neg n.natAbs w (by omega) (by omega)
    rw [show (-(n.natAbs : Int)) = n by omega] at this
    exact this
  · subst h
    have : digR 0 = [48] := by rw [digR_low (by decide)]; rfl
    rw [if_neg (by decide), show (0 : Int).toNat = 0 from rfl, this]
    go_enter Tryz.func89, Tryz.ntmps89
    go_wp2
    go_ret
    exact ⟨rfl, Below.refl _ _⟩
  · rw [if_neg (by omega)]
    have := digs_pos n.toNat w (by omega) (by omega)
    rw [show (n.toNat : Int) = n by omega] at this
    exact this
end Go.Proofs.YtjlgdeeahcfcgaaGreatDoor
namespace Go.Proofs.YtjlgdeeahcfcgaaGreatDoor
open Go.RowKit

def bl (s : ByteArray) : List UInt8 := s.data.toList
theorem bl_length (s : ByteArray) : (bl s).length = s.size := Array.length_toList
theorem bl_extract (s : ByteArray) (i j : Nat) : bl (s.extract i j) = ((bl s).drop i).take (j - i) := by
  simp [bl, ByteArray.data_extract]
theorem bs_bl (s : ByteArray) : bs (bl s) = s := by
  apply ByteArray.ext; simp [bl, bs]
theorem bl_inj {a b : ByteArray} (h : bl a = bl b) : a = b := by rw [← bs_bl a, ← bs_bl b, h]
theorem drop_at (s : ByteArray) (i : Nat) (h : i < s.size) : (bl s).drop i = s[i] :: (bl s).drop (i + 1) := by
  rw [List.drop_eq_getElem_cons (by rw [bl_length]; exact h)]; rfl

def reasonsL : List UInt8 := [49, 48, 48, 32, 67, 111, 110, 116, 105, 110, 117, 101, 124, 49, 48, 49, 32, 83, 119, 105, 116, 99, 104, 105, 110, 103, 32, 80, 114, 111, 116, 111, 99, 111, 108, 115, 124, 50, 48, 48, 32, 79, 75, 124, 50, 48, 49, 32, 67, 114, 101, 97, 116, 101, 100, 124, 50, 48, 50, 32, 65, 99, 99, 101, 112, 116, 101, 100, 124, 50, 48, 52, 32, 78, 111, 32, 67, 111, 110, 116, 101, 110, 116, 124, 50, 48, 54, 32, 80, 97, 114, 116, 105, 97, 108, 32, 67, 111, 110, 116, 101, 110, 116, 124, 51, 48, 49, 32, 77, 111, 118, 101, 100, 32, 80, 101, 114, 109, 97, 110, 101, 110, 116, 108, 121, 124, 51, 48, 50, 32, 70, 111, 117, 110, 100, 124, 51, 48, 51, 32, 83, 101, 101, 32, 79, 116, 104, 101, 114, 124, 51, 48, 52, 32, 78, 111, 116, 32, 77, 111, 100, 105, 102, 105, 101, 100, 124, 51, 48, 55, 32, 84, 101, 109, 112, 111, 114, 97, 114, 121, 32, 82, 101, 100, 105, 114, 101, 99, 116, 124, 51, 48, 56, 32, 80, 101, 114, 109, 97, 110, 101, 110, 116, 32, 82, 101, 100, 105, 114, 101, 99, 116, 124, 52, 48, 48, 32, 66, 97, 100, 32, 82, 101, 113, 117, 101, 115, 116, 124, 52, 48, 49, 32, 85, 110, 97, 117, 116, 104, 111, 114, 105, 122, 101, 100, 124, 52, 48, 51, 32, 70, 111, 114, 98, 105, 100, 100, 101, 110, 124, 52, 48, 52, 32, 78, 111, 116, 32, 70, 111, 117, 110, 100, 124, 52, 48, 53, 32, 77, 101, 116, 104, 111, 100, 32, 78, 111, 116, 32, 65, 108, 108, 111, 119, 101, 100, 124, 52, 48, 54, 32, 78, 111, 116, 32, 65, 99, 99, 101, 112, 116, 97, 98, 108, 101, 124, 52, 48, 56, 32, 82, 101, 113, 117, 101, 115, 116, 32, 84, 105, 109, 101, 111, 117, 116, 124, 52, 49, 49, 32, 76, 101, 110, 103, 116, 104, 32, 82, 101, 113, 117, 105, 114, 101, 100, 124, 52, 49, 50, 32, 80, 114, 101, 99, 111, 110, 100, 105, 116, 105, 111, 110, 32, 70, 97, 105, 108, 101, 100, 124, 52, 49, 51, 32, 67, 111, 110, 116, 101, 110, 116, 32, 84, 111, 111, 32, 76, 97, 114, 103, 101, 124, 52, 49, 52, 32, 85, 82, 73, 32, 84, 111, 111, 32, 76, 111, 110, 103, 124, 52, 49, 53, 32, 85, 110, 115, 117, 112, 112, 111, 114, 116, 101, 100, 32, 77, 101, 100, 105, 97, 32, 84, 121, 112, 101, 124, 52, 49, 54, 32, 82, 97, 110, 103, 101, 32, 78, 111, 116, 32, 83, 97, 116, 105, 115, 102, 105, 97, 98, 108, 101, 124, 52, 49, 55, 32, 69, 120, 112, 101, 99, 116, 97, 116, 105, 111, 110, 32, 70, 97, 105, 108, 101, 100, 124, 52, 50, 49, 32, 77, 105, 115, 100, 105, 114, 101, 99, 116, 101, 100, 32, 82, 101, 113, 117, 101, 115, 116, 124, 52, 50, 50, 32, 85, 110, 112, 114, 111, 99, 101, 115, 115, 97, 98, 108, 101, 32, 67, 111, 110, 116, 101, 110, 116, 124, 52, 50, 54, 32, 85, 112, 103, 114, 97, 100, 101, 32, 82, 101, 113, 117, 105, 114, 101, 100, 124, 52, 50, 56, 32, 80, 114, 101, 99, 111, 110, 100, 105, 116, 105, 111, 110, 32, 82, 101, 113, 117, 105, 114, 101, 100, 124, 52, 50, 57, 32, 84, 111, 111, 32, 77, 97, 110, 121, 32, 82, 101, 113, 117, 101, 115, 116, 115, 124, 52, 51, 49, 32, 82, 101, 113, 117, 101, 115, 116, 32, 72, 101, 97, 100, 101, 114, 32, 70, 105, 101, 108, 100, 115, 32, 84, 111, 111, 32, 76, 97, 114, 103, 101, 124, 53, 48, 48, 32, 73, 110, 116, 101, 114, 110, 97, 108, 32, 83, 101, 114, 118, 101, 114, 32, 69, 114, 114, 111, 114, 124, 53, 48, 49, 32, 78, 111, 116, 32, 73, 109, 112, 108, 101, 109, 101, 110, 116, 101, 100, 124, 53, 48, 50, 32, 66, 97, 100, 32, 71, 97, 116, 101, 119, 97, 121, 124, 53, 48, 51, 32, 83, 101, 114, 118, 105, 99, 101, 32, 85, 110, 97, 118, 97, 105, 108, 97, 98, 108, 101, 124, 53, 48, 52, 32, 71, 97, 116, 101, 119, 97, 121, 32, 84, 105, 109, 101, 111, 117, 116, 124, 53, 48, 53, 32, 72, 84, 84, 80, 32, 86, 101, 114, 115, 105, 111, 110, 32, 78, 111, 116, 32, 83, 117, 112, 112, 111, 114, 116, 101, 100, 124]
/-- the scan: from the place f on an entry begins; i is looked at -/
def scanL (d : List UInt8) : Nat → Nat → List UInt8 → List UInt8
  | _, _, [] => []
  | f, i, c :: r => if c ≠ 124 then scanL d f (i + 1) r else if ((reasonsL.drop f).take 3) = d then (reasonsL.drop (f + 4)).take (i - (f + 4)) else scanL d (i + 1) (i + 1) r
/-- each entry has four bytes and more -/
def fineL : Nat → Nat → List UInt8 → Bool
  | _, _, [] => true
  | f, i, c :: r => if c ≠ 124 then fineL f (i + 1) r else decide (f + 4 ≤ i) && fineL (i + 1) (i + 1) r
set_option maxRecDepth 100000 in
theorem fine0 : fineL 0 0 reasonsL = true := by decide +kernel
def reasonL (d : List UInt8) : List UInt8 := scanL d 0 0 reasonsL
theorem reasons_size : reasonsL.length = 787 := by decide +kernel

/-- what Digits says of an int -/
def digI (n : Int) : List UInt8 := if n < 0 then [45] else digR n.toNat
theorem digI_any (n : Int) (w : World) (hn : n ≤ 9223372036854775807) : Calls Tryz.prog 45 #[.int .i64 n] w fun e w' => e = .returned (.string (bs (digI n))) ∧ Below w.heap.size w w' := by
  unfold digI
  by_cases h : n < 0
  · rw [if_pos h]
    refine (digits_neg n w h).mono ?_
    rintro e w' ⟨rfl, rfl⟩
    exact ⟨rfl, Below.refl _ _⟩
  · rw [if_neg h]
    obtain ⟨k, rfl⟩ : ∃ k : Nat, n = k := ⟨n.toNat, by omega⟩
    exact digits_any k w (by omega)
end Go.Proofs.YtjlgdeeahcfcgaaGreatDoor
namespace Go.Proofs.YtjlgdeeahcfcgaaGreatDoor
open Go.RowKit

set_option maxHeartbeats 3000000 in
set_option maxRecDepth 100000 in
theorem reason_any (n : Int) (w : World) (hn : n ≤ 9223372036854775807) : Calls Tryz.prog 44 #[.int .i64 n] w fun e w' => e = .returned (.string (bs (reasonL (digI n)))) ∧ Below w.heap.size w w' := by
  have hd := fun W => digI_any n W hn
  obtain ⟨d, hdd⟩ : ∃ d, digI n = d := ⟨_, rfl⟩
  rw [hdd]
  simp only [hdd] at hd
  clear hdd
  go_enter Tryz.func44, Tryz.ntmps44
  go_upto_region 2 with fail
  obtain ⟨rs, hrs, hbl⟩ : ∃ rs : ByteArray, rs = bs reasonsL ∧ bl rs = reasonsL := ⟨_, rfl, rfl⟩
  have hsz : rs.size ≤ 1000 := by rw [← bl_length, hbl, reasons_size]; decide
  change Code.wp _ _ _ ⟨#[_, _, _, Value.string (bs reasonsL), _, _, _, _, _, _, _, _, _, _, _, _, _, _, _, _, _, _, _, _, _, _, _, _, _, _, _], _⟩ _
  rw [← hrs]
  clear hrs
  go_wp2
  go_loopw [4, 5] (fun fv iv wr => ∃ (f i : Nat), f ≤ i ∧ i ≤ rs.size ∧ fv = .int .i64 f ∧ iv = .int .i64 i ∧ Hid (reasonL d = scanL d f i ((bl rs).drop i)) ∧ Hid (fineL f i ((bl rs).drop i) = true) ∧ Below w.heap.size w wr) (fun _ iv _ => rs.size - (intOf iv).toNat)
  case atStart => exact ⟨0, 0, Nat.le_refl _, by omega, rfl, rfl, Lib.hid (by rw [hbl]; rfl), Lib.hid (by rw [hbl]; exact fine0), Below.refl _ _⟩
  case round =>
    obtain ⟨f, i, hfi, hi, rfl, rfl, HS, HF, hbel⟩ := hrel
    by_cases h0 : i < rs.size
    · obtain ⟨c, hc⟩ : ∃ c, rs[i] = c := ⟨_, rfl⟩
      have hd1 := drop_at rs i h0
      rw [hc] at hd1
      rw [hd1] at HS HF
      clear hd1
      have hlt := c.toNat_lt
      by_cases c124 : c = 124
      · subst c124
        have b1 : (((124 : UInt8).toNat : Int) != 124) = false := rfl
        have hf4 : f + 4 ≤ i := by
          have := HF.out
          simp [fineL] at this
          exact this.1
        have hf3 : (f : Int) + 3 ≤ (rs.size : Int) := by omega
        have w3 : IntKind.i64.wrap ((f : Int) + 3) = (f : Int) + 3 := IntWalk.i64_in _ (by omega)
        have k0 : (0 : Int) ≤ (f : Int) := by omega
        have k1 : (0 : Int) ≤ (f : Int) + 3 := by omega
        have k2 : (f : Int) ≤ (f : Int) + 3 := by omega
        have k3 : (f : Int) ≤ (rs.size : Int) := by omega
        have k4 : ((f : Int) + 3).toNat = f + 3 := by omega
        have k5 : f ≤ f + 3 := by omega
        have k6 : f + 3 ≤ rs.size := by omega
        go_upto_region 7 with fail
        have HB := Lib.hid (And.intro hsz (And.intro hbl (And.intro hfi (And.intro hi hf4))))
        clear hsz hbl hfi hi hf4 b1
        go_region_with (go_at_call 45; refine (hd _).mono ?_; rintro e w1 ⟨rfl, hb1⟩)
        have hb2 : Below w.heap.size w w1 := (Below.drew hbel).trans (Below.mono hb1 hbel.size)
        have hsz := HB.out.1
        have hbl := HB.out.2.1
        have hfi := HB.out.2.2.1
        have hi := HB.out.2.2.2.1
        have hf4 := HB.out.2.2.2.2
        clear w3 k0 k1 k2 k3 k4 k5 k6 hb1
        have hl3 : bl (rs.extract f (f + 3)) = (reasonsL.drop f).take 3 := by rw [bl_extract, hbl]; simp
        have htl : ∀ s : ByteArray, s.toList = bl s := fun s => Lib.toList_data s
        by_cases heq : (reasonsL.drop f).take 3 = d
        · have be : ((rs.extract f (f + 3)).toList == (bs d).toList) = true := by rw [htl, htl, hl3, heq]; simp [bl, bs]
          rw [be]
          have HE := Lib.hid (And.intro heq hsz)
          have w4 : IntKind.i64.wrap ((f : Int) + 4) = (f : Int) + 4 := IntWalk.i64_in _ (by omega)
          have k0 : (0 : Int) ≤ (f : Int) + 4 := by omega
          have k1 : (f : Int) + 4 ≤ (i : Int) := by omega
          have k2 : (i : Int) ≤ (rs.size : Int) := by omega
          have k4 : ((f : Int) + 4).toNat = f + 4 := by omega
          have HBL := Lib.hid hbl
          clear hsz heq be hbl
          go_wp2
          go_ret
          refine ⟨?_, hb2⟩
          congr 2
          rw [HS.out, scanL, if_neg (by simp), if_pos HE.out.1, ← bs_bl (rs.extract (f + 4) i), bl_extract, HBL.out]
          rfl
        · have be : ((rs.extract f (f + 3)).toList == (bs d).toList) = false := by
            rw [htl, htl, hl3, beq_eq_false_iff_ne]
            simpa [bl, bs] using heq
          rw [be]
          have HE := Lib.hid heq
          clear heq be hl3
          go_wp2
          go_roundw
          case rel => exact ⟨i + 1, i + 1, by omega, by omega, by simp, by simp, Lib.hid (by rw [HS.out, scanL, if_neg (by simp), if_neg HE.out]), Lib.hid (by have := HF.out; simp [fineL] at this; exact this.2), hb2⟩
          case measure => simp [intOf]; omega
      · have b1 : ((c.toNat : Int) != 124) = true := by
          rw [bne, beq_eq_false_iff_ne.2 (fun e => c124 (UInt8.toNat_inj.1 (by show _ = 124; omega)))]
          rfl
        go_wp2
        go_roundw
        case rel => exact ⟨f, i + 1, by omega, by omega, rfl, by simp, Lib.hid (by rw [HS.out, scanL, if_pos c124]), Lib.hid (by have := HF.out; rw [fineL, if_pos c124] at this; exact this), hbel⟩
        case measure => simp [intOf]; omega
    · rw [List.drop_of_length_le (by rw [bl_length]; omega)] at HS
      go_wp2
      go_ret
      exact ⟨by rw [HS.out]; rfl, hbel⟩
end Go.Proofs.YtjlgdeeahcfcgaaGreatDoor
