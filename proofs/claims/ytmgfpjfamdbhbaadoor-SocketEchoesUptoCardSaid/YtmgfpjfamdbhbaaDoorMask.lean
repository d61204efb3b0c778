/- Mask, of the program and of the reference, is one function on bytes; its body is shorter than 2^47 bytes. -/
import Derived.Test.YtmgfpjfamdbhbaaDoorBase
namespace Go.Proofs.YtmgfpjfamdbhbaaDoor
open Go.RowKit

def maskTo (b m : List UInt8) (k : Nat) : List UInt8 := b.mapIdx (fun i x => if i < k then x ^^^ m.getD (i % 4) 0 else x)
def maskL (b m : List UInt8) : List UInt8 := if m.length = 4 then maskTo b m b.length else b

theorem maskTo_length (b m : List UInt8) (k : Nat) : (maskTo b m k).length = b.length := by simp [maskTo]
theorem maskL_length (b m : List UInt8) : (maskL b m).length = b.length := by unfold maskL; split <;> simp [maskTo_length]
theorem maskTo_zero (b m : List UInt8) : maskTo b m 0 = b := by apply List.ext_getElem <;> simp [maskTo]
theorem maskTo_get (b m : List UInt8) (k : Nat) (h : k < b.length) : (maskTo b m k)[k]'(by rw [maskTo_length]; exact h) = b[k] := by simp [maskTo]
theorem maskTo_succ (b m : List UInt8) (k : Nat) (h : k < b.length) : maskTo b m (k + 1) = (maskTo b m k).set k (b[k] ^^^ m.getD (k % 4) 0) := by
  apply List.ext_getElem
  · simp [maskTo]
  · intro i h1 h2
    have hi : i < b.length := by simpa [maskTo] using h1
    by_cases e : k = i
    · subst e; simp [maskTo]
    · rw [List.getElem_set_ne e]
      simp only [maskTo, List.getElem_mapIdx]
      by_cases h3 : i < k
      · rw [if_pos h3, if_pos (by omega)]
      · rw [if_neg h3, if_neg (by omega)]

set_option maxHeartbeats 1000000 in
theorem mask_any (b m : ByteArray) (w : World) (hb : b.size ≤ 281474976710656) :
    Calls Tryd.prog 18 #[.string b, .string m] w fun e w' => e = .returned (.string (bs (maskL (bl b) (bl m)))) ∧ Below w.heap.size w w' := by
  by_cases h4 : m.size = 4
  · have hm4 : ((m.size : Int) != 4) = false := by simp [h4]
    have hconv := fun w0 => run_bytes_of_string (P := Tryd.prog) w0 9 76 5 b Tryd.underlying9 Tryd.underlying76 Tryd.underlying5
    have H4 := Lib.hid h4
    clear h4
    go_enter Tryd.func18, Tryd.ntmps18
    go_wp2
    go_loopw [6, 15] (fun _ i wr => ∃ k : Nat, k ≤ b.size ∧ i = .int .i64 k ∧ RowB wr w.heap.size (maskTo (bl b) (bl m) k) ∧ Below w.heap.size w wr)
      (fun _ i _ => b.size - (intOf i).toNat)
    case atStart => exact ⟨0, Nat.zero_le _, rfl, by rw [maskTo_zero]; exact (RowB.conv _ _ _).drew, ((Below.refl _ _).alloc (Nat.le_refl _) _).drew⟩
    case round =>
      obtain ⟨k, hk, rfl, hrow, hbel⟩ := hrel
      by_cases hlt : k < b.size
      · have hkl : k < (maskTo (bl b) (bl m) k).length := by rw [maskTo_length, bl_length]; exact hlt
        obtain ⟨hc, hz⟩ := hrow k hkl
        rw [maskTo_get _ _ _ (by rw [bl_length]; exact hlt)] at hc
        have htm : (k : Int).tmod 4 = ((k % 4 : Nat) : Int) := by rw [Int.tmod_eq_emod_of_nonneg (by omega)]; omega
        have hkm0 : 0 ≤ (k : Int) % 4 := by omega
        have hkn : k % 4 < m.size := by have := H4.out; omega
        have hkm' : ((k : Int) % 4) < (m.size : Int) := by have := H4.out; omega
        have Hs := Lib.hid (maskTo_succ (bl b) (bl m) k (by rw [bl_length]; exact hlt))
        have Hg := Lib.hid (show (bl m).getD (k % 4) 0 = m[k % 4] by rw [bl_get, List.getD_eq_getElem?_getD, List.getElem?_eq_getElem (by rw [bl_length]; exact hkn)]; rfl)
        generalize (bl b)[k]'_ = x at hc Hs
        go_wp2
        go_region
        go_wp2
        go_roundw
        case rel => exact ⟨k + 1, by omega, by go_num, by rw [xor8, ← Hg.out]; exact (hrow.set hkl Hs.out).drew, (hbel.setCell (Nat.le_refl _) _).drew⟩
        case measure => simp [intOf]; omega
      · have hke : k = b.size := by omega
        have hfin : maskTo (bl b) (bl m) k = maskL (bl b) (bl m) := by rw [maskL, if_pos (by rw [bl_length]; exact H4.out), hke, bl_length]
        have hback := hrow.back (grownCap w b.size 0 5)
        rw [maskTo_length, bl_length, hfin] at hback
        clear hfin hrow hke
        go_wp2
        go_ret
        exact ⟨rfl, hbel⟩
  · have hm4 : ((m.size : Int) != 4) = true := by simpa using (fun h => h4 (by omega))
    go_enter Tryd.func18, Tryd.ntmps18
    go_wp2
    go_ret
    exact ⟨ret_str (by rw [bl_bs, maskL, if_neg (by rw [bl_length]; exact h4)]), Below.refl _ _⟩

set_option maxHeartbeats 1000000 in
theorem rmask_any (b m : ByteArray) (w : World) (hb : b.size ≤ 281474976710656) :
    Calls Tryd.prog 19 #[.string b, .string m] w fun e w' => e = .returned (.string (bs (maskL (bl b) (bl m)))) ∧ Below w.heap.size w w' := by
  by_cases h4 : m.size = 4
  · have hm4 : ((m.size : Int) != 4) = false := by simp [h4]
    have hconv := fun w0 => run_bytes_of_string (P := Tryd.prog) w0 9 76 5 b Tryd.underlying9 Tryd.underlying76 Tryd.underlying5
    have H4 := Lib.hid h4
    clear h4
    go_enter Tryd.func19, Tryd.ntmps19
    go_wp2
    go_loopw [6] (fun i wr => ∃ k : Nat, k ≤ b.size ∧ i = .int .i64 k ∧ RowB wr w.heap.size (maskTo (bl b) (bl m) k) ∧ Below w.heap.size w wr)
      (fun i _ => b.size - (intOf i).toNat)
    case atStart => exact ⟨0, Nat.zero_le _, rfl, by rw [maskTo_zero]; exact (RowB.conv _ _ _).drew, ((Below.refl _ _).alloc (Nat.le_refl _) _).drew⟩
    case round =>
      obtain ⟨k, hk, rfl, hrow, hbel⟩ := hrel
      by_cases hlt : k < b.size
      · have hkl : k < (maskTo (bl b) (bl m) k).length := by rw [maskTo_length, bl_length]; exact hlt
        obtain ⟨hc, hz⟩ := hrow k hkl
        rw [maskTo_get _ _ _ (by rw [bl_length]; exact hlt)] at hc
        have htm : (k : Int).tmod 4 = ((k % 4 : Nat) : Int) := by rw [Int.tmod_eq_emod_of_nonneg (by omega)]; omega
        have hkm0 : 0 ≤ (k : Int) % 4 := by omega
        have hkn : k % 4 < m.size := by have := H4.out; omega
        have hkm' : ((k : Int) % 4) < (m.size : Int) := by have := H4.out; omega
        have Hs := Lib.hid (maskTo_succ (bl b) (bl m) k (by rw [bl_length]; exact hlt))
        have Hg := Lib.hid (show (bl m).getD (k % 4) 0 = m[k % 4] by rw [bl_get, List.getD_eq_getElem?_getD, List.getElem?_eq_getElem (by rw [bl_length]; exact hkn)]; rfl)
        generalize (bl b)[k]'_ = x at hc Hs
        go_wp2
        go_region
        go_wp2
        go_roundw
        case rel => exact ⟨k + 1, by omega, by go_num, by rw [xor8, ← Hg.out]; exact (hrow.set hkl Hs.out).drew, (hbel.setCell (Nat.le_refl _) _).drew⟩
        case measure => simp [intOf]; omega
      · have hke : k = b.size := by omega
        have hfin : maskTo (bl b) (bl m) k = maskL (bl b) (bl m) := by rw [maskL, if_pos (by rw [bl_length]; exact H4.out), hke, bl_length]
        have hback := hrow.back (grownCap w b.size 0 5)
        rw [maskTo_length, bl_length, hfin] at hback
        clear hfin hrow hke
        go_wp2
        go_ret
        exact ⟨rfl, hbel⟩
  · have hm4 : ((m.size : Int) != 4) = true := by simpa using (fun h => h4 (by omega))
    go_enter Tryd.func19, Tryd.ntmps19
    go_wp2
    go_ret
    exact ⟨ret_str (by rw [bl_bs, maskL, if_neg (by rw [bl_length]; exact h4)]), Below.refl _ _⟩
end Go.Proofs.YtmgfpjfamdbhbaaDoor
