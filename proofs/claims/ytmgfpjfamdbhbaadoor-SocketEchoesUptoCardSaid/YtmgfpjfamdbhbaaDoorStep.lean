/- One call on a peer beside the document's: kind, begun, step. -/
import Derived.Test.YtmgfpjfamdbhbaaDoorKeepP
namespace Go.Proofs.YtmgfpjfamdbhbaaDoor
open Go.RowKit

theorem bs_nil' : bs [] = ⟨#[]⟩ := rfl
/-- a kind of calls for any number -/
def kindN (k : Int) (n : Nat) : Nat := ((k.tmod n + n) % n).toNat
theorem kindN_lt (k : Int) (n : Nat) (h : 0 < n) : kindN k n < n := by
  unfold kindN
  have := Int.emod_lt_of_pos (k.tmod n + n) (show (0 : Int) < n by omega)
  have := Int.emod_nonneg (k.tmod n + n) (show (n : Int) ≠ 0 by omega)
  omega
set_option maxHeartbeats 1000000 in
theorem kind_any (k : Int) (n : Nat) (w : World) (hn : 0 < n) (hn2 : n ≤ 4611686018427387904) :
    Calls Tryd.prog 29 #[.int .i64 k, .int .i64 n] w fun e w' => e = .returned (.int .i64 (kindN k n : Nat)) ∧ w = w' := by
  have hn0 : (1 : Int) ≤ (n : Int) := by omega
  obtain ⟨r, hr⟩ : ∃ r, k.tmod n = r := ⟨_, rfl⟩
  have h1 : -(n : Int) < r := by
    rw [← hr]
    have := Int.lt_tmod_of_pos k (show (0 : Int) < n by omega)
    exact this
  have h2 : r < n := by rw [← hr]; exact Int.tmod_lt_of_pos k (by omega)
  have Hf := Lib.hid (show ((kindN k n : Nat) : Int) = (r + n) % n by
    unfold kindN
    rw [hr, Int.toNat_of_nonneg (Int.emod_nonneg _ (by omega))])
  go_enter Tryd.func29, Tryd.ntmps29
  go_wp2_with fail
  go_ret
  exact ⟨by rw [Hf.out]; rfl, rfl⟩

set_option maxHeartbeats 1000000 in
set_option maxRecDepth 100000 in
theorem begun_bad (most : Int) (w : World) (h : most < 0 ∨ 16777216 < most) :
    Calls Tryd.prog 34 #[.int .i64 most] w fun e w' => e = .returned (.tuple #[.pointer none, rpV nilL, .bool true]) ∧ Below w.heap.size w w' := by
  have hN := fun wx => new_bad most wx h
  have hM := fun wx => rnew_bad most wx h
  unfold rpV nilL at hM
  unfold rpV nilL
  simp only at hM ⊢
  rw [bs_nil'] at hM ⊢
  clear h
  go_enter Tryd.func34, Tryd.ntmps34
  go_upto_region 3 with (first | (go_at_call 28; refine (hN _).mono ?_; rintro e w1 ⟨rfl, rfl⟩) | (go_at_call 48; refine (hM _).mono ?_; rintro e w2 ⟨rfl, hb2⟩))
  obtain ⟨W, hW⟩ : ∃ W, w2.alloc (.cells #[.int .i64 (-1), .string ⟨#[]⟩, .string ⟨#[]⟩, .int .i64 0, .int .i64 0, .int .i64 0] 59) = W := ⟨_, rfl⟩
  have hWm : W.heap[w2.heap.size]? = some (.cells #[.int .i64 (-1), .string ⟨#[]⟩, .string ⟨#[]⟩, .int .i64 0, .int .i64 0, .int .i64 0] 59 (0, 0)) := by rw [← hW]; exact heap_alloc_new _ _
  have hWz : W.heap[w.heap.size]? = some (.cells #[.int .i64 0, .string ⟨#[]⟩, .string ⟨#[]⟩, .int .i64 0, .int .i64 0, .int .i64 0] 59 (0, 0)) := by
    have h1 := (hb2.block w.heap.size (by simp)).trans (heap_alloc_new _ _)
    rw [← hW, Below.heap_alloc _ _ _ (hd_lt h1)]; exact h1
  have hWB : Below w.heap.size w W := by
    rw [← hW]
    have hs2 := hb2.size
    simp at hs2
    exact (((Below.refl _ _).alloc (Nat.le_refl _) _).trans (hb2.mono (by simp))).alloc (by omega) _
  rw [hW]
  clear hW hb2
  obtain ⟨c0, c1, c2, c3, c4, c5, cf⟩ := six_cells hWm
  obtain ⟨d0, d1, d2, d3, d4, d5, df⟩ := six_cells hWz
  go_region
  all_goals go_wp2_with fail
  have hb9 := sixW_same hWz rfl (.int .i64 (-1)) (.string ⟨#[]⟩) (.string ⟨#[]⟩) (.int .i64 0) (.int .i64 0) (.int .i64 0)
  have hB9 := sixW_below hWB (Nat.le_refl _) (.int .i64 (-1)) (.string ⟨#[]⟩) (.string ⟨#[]⟩) (.int .i64 0) (.int .i64 0) (.int .i64 0)
  obtain ⟨W9, hW9⟩ : ∃ W9, sixW W w.heap.size (.int .i64 (-1)) (.string ⟨#[]⟩) (.string ⟨#[]⟩) (.int .i64 0) (.int .i64 0) (.int .i64 0) = W9 := ⟨_, rfl⟩
  rw [hW9] at hb9 hB9
  unfold sixW at hW9
  rw [hW9]
  obtain ⟨r0, r1, r2, r3, r4, r5, -⟩ := six_cells hb9
  exact bodyPost_ret (v := .tuple #[.pointer none, .agg #[.int .i64 (-1), .string ⟨#[]⟩, .string ⟨#[]⟩, .int .i64 0, .int .i64 0, .int .i64 0], .bool true]) (by simp [results, Tryd.results34, go_sem, r0, r1, r2, r3, r4, r5]) rfl ⟨rfl, hB9.drew⟩

set_option maxHeartbeats 1000000 in
set_option maxRecDepth 100000 in
theorem begun_ok (most : Int) (w : World) (h0 : 0 ≤ most) (h1 : most ≤ 16777216) :
    Calls Tryd.prog 34 #[.int .i64 most] w fun e w' => ∃ b, e = .returned (.tuple #[.pointer (some ⟨b, 0, none⟩), rpV (newL most), .bool true]) ∧ PeerAt w' b b (newL most) (.slice none 0 0) ∧ w.heap.size ≤ b ∧ Below w.heap.size w w' := by
  have hN := fun wx => new_ok most wx h0 h1
  have hM := fun wx => rnew_ok most wx h0 h1
  have e : rpV (newL most) = .agg #[.int .i64 most, .string ⟨#[]⟩, .string ⟨#[]⟩, .int .i64 0, .int .i64 0, .int .i64 0] := rfl
  rw [e] at hM ⊢
  clear h0 h1 e
  go_enter Tryd.func34, Tryd.ntmps34
  go_upto_region 3 with (first | (go_at_call 28; refine (hN _).mono ?_; rintro e w1 ⟨rfl, hp1, hb1, hs1⟩) | (go_at_call 48; refine (hM _).mono ?_; rintro e w2 ⟨rfl, hb2⟩))
  obtain ⟨W, hW⟩ : ∃ W, w2.alloc (.cells #[.int .i64 most, .string ⟨#[]⟩, .string ⟨#[]⟩, .int .i64 0, .int .i64 0, .int .i64 0] 59) = W := ⟨_, rfl⟩
  have hWm : W.heap[w2.heap.size]? = some (.cells #[.int .i64 most, .string ⟨#[]⟩, .string ⟨#[]⟩, .int .i64 0, .int .i64 0, .int .i64 0] 59 (0, 0)) := by rw [← hW]; exact heap_alloc_new _ _
  have hs2 := hb2.size
  simp at hs1
  have hWz : W.heap[w.heap.size]? = some (.cells #[.int .i64 0, .string ⟨#[]⟩, .string ⟨#[]⟩, .int .i64 0, .int .i64 0, .int .i64 0] 59 (0, 0)) := by
    have h1 := (hb1.block w.heap.size (by simp)).trans (heap_alloc_new _ _)
    have h2 := (hb2.block _ (hd_lt h1)).trans h1
    rw [← hW, Below.heap_alloc _ _ _ (hd_lt h2)]; exact h2
  have hWB : Below w.heap.size w W := by
    rw [← hW]
    exact ((((Below.refl _ _).alloc (Nat.le_refl _) _).trans (hb1.mono (by simp))).trans (hb2.mono (by omega))).alloc (by omega) _
  have hWp : PeerAt W (w.heap.size + 1) (w.heap.size + 1) (newL most) (.slice none 0 0) := by
    rw [← hW]
    simp at hp1
    exact (hp1.below hb2 (Nat.le_refl _)).below ((Below.refl _ _).alloc (Nat.le_refl _) _) (Nat.le_refl _)
  rw [hW]
  have hlt := hd_lt hWz
  have hm1 : w.heap.size + 2 ≤ w2.heap.size := by omega
  clear hW hb2 hp1 hb1
  obtain ⟨c0, c1, c2, c3, c4, c5, cf⟩ := six_cells hWm
  obtain ⟨d0, d1, d2, d3, d4, d5, df⟩ := six_cells hWz
  have HWp := Lib.hid hWp
  clear hWp
  go_region
  all_goals go_wp2_with fail
  have hb9 := sixW_same hWz rfl (.int .i64 most) (.string ⟨#[]⟩) (.string ⟨#[]⟩) (.int .i64 0) (.int .i64 0) (.int .i64 0)
  have hB9 := sixW_below hWB (Nat.le_refl _) (.int .i64 most) (.string ⟨#[]⟩) (.string ⟨#[]⟩) (.int .i64 0) (.int .i64 0) (.int .i64 0)
  have hp9 : PeerAt (sixW W w.heap.size (.int .i64 most) (.string ⟨#[]⟩) (.string ⟨#[]⟩) (.int .i64 0) (.int .i64 0) (.int .i64 0)) (w.heap.size + 1) (w.heap.size + 1) (newL most) (.slice none 0 0) :=
    HWp.out.keep (sixW_other (by omega) _ _ _ _ _ _) (fun g hg => by simp [Value.ownBlock] at hg)
  obtain ⟨W9, hW9⟩ : ∃ W9, sixW W w.heap.size (.int .i64 most) (.string ⟨#[]⟩) (.string ⟨#[]⟩) (.int .i64 0) (.int .i64 0) (.int .i64 0) = W9 := ⟨_, rfl⟩
  rw [hW9] at hb9 hB9 hp9
  unfold sixW at hW9
  rw [hW9]
  obtain ⟨r0, r1, r2, r3, r4, r5, -⟩ := six_cells hb9
  exact bodyPost_ret (v := .tuple #[.pointer (some ⟨w.heap.size + 1, 0, none⟩), .agg #[.int .i64 most, .string ⟨#[]⟩, .string ⟨#[]⟩, .int .i64 0, .int .i64 0, .int .i64 0], .bool true]) (by simp [results, Tryd.results34, go_sem, r0, r1, r2, r3, r4, r5]) rfl ⟨_, rfl, hp9.below ((Below.refl _ _).drew) (Nat.le_refl _), by omega, hB9.drew⟩
end Go.Proofs.YtmgfpjfamdbhbaaDoor
