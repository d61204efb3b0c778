/- The digits and the reason of a status, by plain law: in which class it lies. -/
import Derived.Test.YtjlgdeeahcfcgaaGreatDoorFailA
set_option linter.unusedVariables false
set_option linter.unusedSimpArgs false
namespace Go.Proofs.YtjlgdeeahcfcgaaGreatDoor
open Go.Exe Go.RowKit
set_option linter.unusedSectionVars false

/-- What digits say. -/
def valD (l : List UInt8) : Nat := l.foldl (fun a x => 10 * a + (x.toNat - 48)) 0
theorem valD_append (l : List UInt8) (x : UInt8) : valD (l ++ [x]) = 10 * valD l + (x.toNat - 48) := by simp [valD]
theorem valD_digR (n : Nat) : valD (digR n) = n := by
  induction n using Nat.strongRecOn with
  | ind n ih =>
    have hd := digit_lt n
    by_cases h : n < 10
    · rw [digR_low h]
      rw [Nat.mod_eq_of_lt h] at hd
      simp only [valD, List.foldl_cons, List.foldl_nil]
      omega
    · rw [digR_more h, valD_append, ih (n / 10) (by omega)]
      omega

theorem digR_eq (n : Nat) : digR n = Lib.decDigits n := by
  induction n using Nat.strongRecOn with
  | ind n ih =>
    rw [Lib.decDigits]
    by_cases h : n < 10
    · rw [dif_pos h, digR_low h]
    · rw [dif_neg h, digR_more h, ih (n / 10) (by omega)]
theorem itoa_eq (n : Int) : Lib.itoa n = digZ n := by unfold Lib.itoa digZ; rw [digR_eq, digR_eq]

theorem digR_len (k : Nat) : ∀ n : Nat, n < 10 ^ (k + 1) → (digR n).length ≤ k + 1 := by
  induction k with
  | zero => intro n h; rw [digR_low (by omega)]; simp
  | succ k ih =>
    intro n h
    by_cases h0 : n < 10
    · rw [digR_low h0]; simp
    · rw [digR_more h0]
      have := ih (n / 10) (by rw [Nat.pow_succ] at h; omega)
      simp only [List.length_append, List.length_singleton]
      omega
theorem digR_three {n : Nat} (h1 : 100 ≤ n) (h2 : n ≤ 999) : (digR n).length = 3 := by
  rw [digR_more (by omega), digR_more (by omega), digR_low (by omega)]
  rfl
theorem digZ_len (n : Int) (h0 : -9223372036854775808 ≤ n) (h1 : n ≤ 9223372036854775807) : (digZ n).length ≤ 30 := by
  unfold digZ
  split
  · have := digR_len 18 n.natAbs (by omega)
    simp only [List.length_cons]
    omega
  · have := digR_len 18 n.toNat (by omega)
    omega
theorem digI_len (n : Int) (h1 : n ≤ 9223372036854775807) : (digI n).length ≤ 30 := by
  unfold digI
  split
  · simp
  · have := digR_len 18 n.toNat (by omega)
    omega

/-- The texts of three bytes that the scan looks at. -/
def keysL : Nat → Nat → List UInt8 → List (List UInt8)
  | _, _, [] => []
  | f, i, c :: r => if c ≠ 124 then keysL f (i + 1) r else ((reasonsL.drop f).take 3) :: keysL (i + 1) (i + 1) r
theorem scan_none (d : List UInt8) : ∀ (r : List UInt8) (f i : Nat), d ∉ keysL f i r → scanL d f i r = []
  | [], _, _, _ => rfl
  | c :: r, f, i, h => by
    rw [keysL] at h
    rw [scanL]
    split
    · rename_i hc
      rw [if_pos hc] at h
      exact scan_none d r f (i + 1) h
    · rename_i hc
      rw [if_neg hc, List.mem_cons, not_or] at h
      rw [if_neg (fun e => h.1 e.symm)]
      exact scan_none d r (i + 1) (i + 1) h.2
def codesN : List Nat := (keysL 0 0 reasonsL).map valD
theorem reason_out {a b n : Int} (ha : a ≤ n) (hb : n ≤ b) (h : codesN.all (fun c => decide ((c : Int) < a) || decide (b < (c : Int))) = true) : reasonL (digI n) = [] := by
  refine scan_none _ _ _ _ fun hm => ?_
  unfold digI at hm
  split at hm
  · exact absurd hm (by decide +kernel)
  · have h2 : n.toNat ∈ codesN := by
      have := List.mem_map_of_mem (f := valD) hm
      rw [valD_digR] at this
      exact this
    have := List.all_eq_true.1 h _ h2
    rw [Bool.or_eq_true, decide_eq_true_eq, decide_eq_true_eq] at this
    omega

variable [Opn]
theorem bs_size' (l : List UInt8) : (bs l).size = l.length := bs_size l
theorem dig_any {n : Int} (lo : -9223372036854775808 ≤ n) (hi : n ≤ 9223372036854775807) (h5 : Opn.val 5 = .int .i64 n) (hr : reasonL (digI n) = []) : DigOk n wrongD [] where
  val := h5
  lo := lo
  hi := hi
  d1 := fun θ => by
    rw [itoa_eq]
    exact .anyS 30 (bs (digZ n)) (by rw [bs_size]; exact digZ_len n lo hi)
  d2 := fun θ => .anyS 30 (bs (digZ n)) (by rw [bs_size]; exact digZ_len n lo hi)
  d3 := fun θ => .anyS 30 (bs (digI n)) (by rw [bs_size]; exact digI_len n hi)
  r := fun θ => vnat (by rw [hr]; rfl)
theorem dig_three {n : Int} (h1 : 100 ≤ n) (h2 : n ≤ 999) (h5 : Opn.val 5 = .int .i64 n) (h7 : Opn.val 7 = .string (bs (digR n.toNat))) (hr : reasonL (digI n) = []) : DigOk n threeD [] := by
  have hv : ∀ θ, VR θ threeD (.string (bs (digR n.toNat))) := fun θ => .rope 3 _ _ (by rw [bs_size]; exact digR_three (by omega) (by omega)) (by
    simp only [RopeOk]
    exact ⟨_, [], h7, by simp, rfl⟩)
  have e2 : digZ n = digR n.toNat := by unfold digZ; rw [if_neg (by omega)]
  have e3 : digI n = digR n.toNat := by unfold digI; rw [if_neg (by omega)]
  exact ⟨h5, by omega, by omega, fun θ => by rw [itoa_eq, e2]; exact hv θ, fun θ => by rw [e2]; exact hv θ, fun θ => by rw [e3]; exact hv θ, fun θ => vnat (by rw [hr]; rfl)⟩
theorem dig_code {n : Int} {l rs : List Nat} (h1 : 0 ≤ n) (h2 : n ≤ 999) (h5 : Opn.val 5 = .int .i64 n) (hl : l = (digR n.toNat).map UInt8.toNat) (hr : rs = (reasonL (digI n)).map UInt8.toNat) : DigOk n (.str l) rs := by
  have e2 : digZ n = digR n.toNat := by unfold digZ; rw [if_neg (by omega)]
  have e3 : digI n = digR n.toNat := by unfold digI; rw [if_neg (by omega)]
  exact ⟨h5, by omega, by omega, fun θ => by rw [itoa_eq, e2]; exact vnat hl, fun θ => by rw [e2]; exact vnat hl, fun θ => by rw [e3]; exact vnat hl, fun θ => vnat hr⟩
end Go.Proofs.YtjlgdeeahcfcgaaGreatDoor
