/- Parse of the program; the string is shorter than 2^47 bytes. -/
import Derived.Test.YtmgfpjfamdbhbaaDoorParseB
namespace Go.Proofs.YtmgfpjfamdbhbaaDoor
open Go.RowKit


set_option maxHeartbeats 2000000 in
set_option maxRecDepth 100000 in
theorem parse_good (s : ByteArray) (most : Int) (w : World) (hs : s.size ≤ 140737488355328) (hg : (parseL (bl s) most).2.2 = 0) :
    Calls Tryd.prog 32 #[.string s, .int .i64 most] w fun e w' => e = .returned (parseV (parseL (bl s) most)) ∧ Below w.heap.size w w' := by
  obtain ⟨R, hR⟩ : ∃ R, parseL (bl s) most = R := ⟨_, rfl⟩
  have hB1 : Below w.heap.size w (w.alloc (.cells #[.bool false, .bool false, .int .i64 0, .string ⟨#[]⟩, .string ⟨#[]⟩] 23)) := (Below.refl _ _).alloc (Nat.le_refl _) _
  have hm : ¬ most < 0 := by intro h; rw [parseL, if_pos h] at hg; cases hg
  have hok : ¬ headOk (bl s) = false := by intro h; rw [parseL, if_neg hm, if_pos h] at hg; cases hg
  have he : ¬ errN (bl s) ≠ 0 := by intro h; rw [parseL, if_neg hm, if_neg hok, if_pos h] at hg; exact h hg
  have hbig : ¬ (opN (bl s) < 8 ∧ (half ≤ lenN (bl s) ∨ most < (lenN (bl s) : Int))) := by intro h; rw [parseL, if_neg hm, if_neg hok, if_neg he, if_pos h] at hg; cases hg
  have hlen : ¬ (bl s).length < hsizeN (at1 (bl s)) + lenN (bl s) := by intro h; rw [parseL, if_neg hm, if_neg hok, if_neg he, if_neg hbig, if_pos h] at hg; cases hg
  rw [hR]
  have hR2 : R = (⟨hiB (at0 (bl s)), hiB (at1 (bl s)), opN (bl s), maskOf (bl s), maskL (((bl s).drop (hsizeN (at1 (bl s)))).take (lenN (bl s))) (maskOf (bl s))⟩, ((hsizeN (at1 (bl s)) + lenN (bl s) : Nat) : Int), 0) := by
    rw [← hR, parseL, if_neg hm, if_neg hok, if_neg he, if_neg hbig, if_neg hlen]
  have he0 : errN (bl s) = 0 := by simpa using he
  have hH : ∀ wx, Calls Tryd.prog 50 #[.string s] wx fun e w' => e = .returned (headRet (bl s)) ∧ Below wx.heap.size wx w' := fun wx => readHead_any s wx (by omega)
  have hok' : headOk (bl s) = true := by simpa using hok
  rw [headRet, hok', if_pos rfl, headV, he0] at hH
  have hzs := (headOk_size hok').2
  have hz2 := hsizeN_le (at1 (bl s))
  rw [bl_length] at hlen hzs
  have hC := control_any (opN (bl s))
  have hop := isOp_cases (err_op he0)
  have hlh : lenN (bl s) < half := by
    by_cases h8 : controlB (opN (bl s)) = true
    · exact err_ctl he0 h8
    · have : opN (bl s) < 8 := by unfold controlB at h8; simp at h8; omega
      omega
  have hbig2 : controlB (opN (bl s)) = false → ¬ most < (lenN (bl s) : Int) := by
    intro h h2; exact hbig ⟨by unfold controlB at h; simp at h; omega, .inr h2⟩
  have hLm : lenN (bl s) % half = lenN (bl s) := Nat.mod_eq_of_lt hlh
  have hLG : decide (half ≤ lenN (bl s)) = false := by simp; omega
  rw [hLm, hLG] at hH
  generalize hiB (at0 (bl s)) = fB at *
  generalize hiB (at1 (bl s)) = mB at *
  generalize hZ : hsizeN (at1 (bl s)) = z at *
  generalize opN (bl s) = o at *
  generalize hL : lenN (bl s) = L at *
  have hL63 : L ≤ 9223372036854775807 := by unfold half at hlh; omega
  have hmk : bl (bs (maskOf (bl s))) = maskOf (bl s) := rfl
  generalize hMM : maskOf (bl s) = MM at *
  generalize hMK : bs MM = MK at *
  obtain ⟨C, hCC⟩ : ∃ C, controlB o = C := ⟨_, rfl⟩
  rw [hCC] at hC hbig2
  have HQ := Lib.hid hR2
  have Hbig2 := Lib.hid hbig2
  have Hmk := Lib.hid hmk
  have b0 : (0 : Int) ≤ (z : Int) := by omega
  have b1 : (z : Int) ≤ (z : Int) + (L : Int) := by omega
  have b2 : (z : Int) + (L : Int) ≤ (s.size : Int) := by omega
  have b3 : ((z : Int) + (L : Int)).toNat = z + L := by omega
  have b4 : IntKind.i64.wrap ((z : Int) + (L : Int)) = (z : Int) + (L : Int) := by rw [IntKind.wrap_i64]; omega
  have hMk := fun wx => mask_any (s.extract z (z + L)) MK wx (by rw [ByteArray.size_extract]; omega)
  rw [show maskL (bl (s.extract z (z + L))) (bl MK) = maskL (((bl s).drop z).take L) MM by rw [bl_extract, hmk, Nat.add_sub_cancel_left]] at hMk
  generalize hBD : bs (maskL (((bl s).drop z).take L) MM) = BD at *
  have HBD := Lib.hid hBD
  have d1 : ¬ (s.size : Int) - (z : Int) < (L : Int) := by omega
  clear hR2 hok hok' he he0 hbig hbig2 hlh hLm hLG hg hR hZ hL hMM hMK hCC hmk hop hlen hBD
  go_enter Tryd.func32, Tryd.ntmps32
  go_upto_if 17 with (first | (go_at_call 50; refine (hH _).mono ?_; rintro e w2 ⟨rfl, hb2⟩))
  obtain ⟨W, hW⟩ : ∃ W, w2.alloc (.cells #[.bool fB, .bool mB, .int .i64 o, .string MK, .string ⟨#[]⟩, .int .i64 z, .int .i64 L, .bool false, .int .i64 0] 90) = W := ⟨_, rfl⟩
  have hbx : w.heap.size < (w.alloc (.cells #[.bool false, .bool false, .int .i64 0, .string ⟨#[]⟩, .string ⟨#[]⟩] 23)).heap.size := by simp
  have hWB : Below w.heap.size w W := by rw [← hW]; exact (hB1.trans (hb2.mono (by simp))).alloc (by have := hb2.size; omega) _
  have hWk : W.heap[w.heap.size]? = some (.cells #[.bool false, .bool false, .int .i64 0, .string ⟨#[]⟩, .string ⟨#[]⟩] 23 (0, 0)) := by
    rw [← hW, Below.heap_alloc _ _ _ (Nat.lt_of_lt_of_le hbx hb2.size), hb2.block _ hbx]; exact heap_alloc_new _ _
  have hWh : W.heap[w2.heap.size]? = some (.cells #[.bool fB, .bool mB, .int .i64 o, .string MK, .string ⟨#[]⟩, .int .i64 z, .int .i64 L, .bool false, .int .i64 0] 90 (0, 0)) := by rw [← hW]; exact heap_alloc_new _ _
  have hhs : w.heap.size < w2.heap.size := Nat.lt_of_lt_of_le hbx hb2.size
  rw [hW]
  clear hW hb2 hbx
  have k0 := hd_cell hWk 0
  have k1 := hd_cell hWk 1
  have k2 := hd_cell hWk 2
  have k3 := hd_cell hWk 3
  have k4 := hd_cell hWk 4
  have kf := hd_frozen hWk
  have i0 := hd_cell hWh 0
  have i1 := hd_cell hWh 1
  have i2 := hd_cell hWh 2
  have i3 := hd_cell hWh 3
  have i4 := hd_cell hWh 4
  have i5 := hd_cell hWh 5
  have i6 := hd_cell hWh 6
  have i7 := hd_cell hWh 7
  have i8 := hd_cell hWh 8
  simp only [List.getElem?_toArray, List.getElem?_cons_zero, List.getElem?_cons_succ] at k0 k1 k2 k3 k4 i0 i1 i2 i3 i4 i5 i6 i7 i8
  go_upto_region 8 with fail
  go_cut [30] (fun v wx => v = .bool false ∧ W = wx)
  case first =>
    cases C
    · have h3 := Hbig2.out rfl
      go_wp2_with (first | (go_at_call 41; refine (hC _).mono ?_; rintro e w' ⟨rfl, rfl⟩))
      go_meet
      exact ⟨by rw [decide_eq_false (show ¬ most < (L : Int) by omega)], rfl⟩
    · go_wp2_with (first | (go_at_call 41; refine (hC _).mono ?_; rintro e w' ⟨rfl, rfl⟩))
      go_meet
      exact ⟨rfl, rfl⟩
  case rest =>
  obtain ⟨rfl, rfl⟩ := hcut
  clear hC
  go_upto_region 12 with fail
  go_cut [] (fun wx => Hd w w.heap.size w.heap.size (.cells #[.bool false, .bool false, .int .i64 0, .string ⟨#[]⟩, .string ⟨#[]⟩] 23 (0, 0)) w2.heap.size 90 (fun cs => cs = #[.bool fB, .bool mB, .int .i64 o, .string MK, .string BD, .int .i64 z, .int .i64 L, .bool false, .int .i64 0]) wx)
  case first =>
    obtain ⟨PH, hPH⟩ : ∃ PH : World → Prop, PH = Hd w w.heap.size w.heap.size (.cells #[.bool false, .bool false, .int .i64 0, .string ⟨#[]⟩, .string ⟨#[]⟩] 23 (0, 0)) w2.heap.size 90 (fun cs => ∃ X, cs = #[.bool fB, .bool mB, .int .i64 o, .string MK, X, .int .i64 z, .int .i64 L, .bool false, .int .i64 0]) := ⟨_, rfl⟩
    have HKeep := Lib.hid (show ∀ wy, PH wy → wy.cell? ⟨w2.heap.size, 3, none⟩ = some (.string MK) ∧ wy.cell? ⟨w2.heap.size, 5, none⟩ = some (.int .i64 z) ∧ wy.cell? ⟨w2.heap.size, 6, none⟩ = some (.int .i64 L) ∧ PH wy by
      intro wy h; have h' := h; rw [hPH] at h'; obtain ⟨_, _, cs, ⟨X, rfl⟩, h4⟩ := h'; exact ⟨hd_cell h4 3, hd_cell h4 5, hd_cell h4 6, h⟩)
    have HPb := Lib.hid (show ∀ x y, PH x → Below x.heap.size x y → PH y by
      intro x y h hb; rw [hPH] at h ⊢; exact h.below hb (by have := h.size; omega))
    have HPf := Lib.hid (show ∀ x, PH x → x.frozen? ⟨w2.heap.size, 4, none⟩ = false by intro x h; rw [hPH] at h; exact h.frozen 4)
    have HPt := Lib.hid (show ∀ x, PH x → ∃ v, x.cell? ⟨w2.heap.size, 4, none⟩ = some v by
      intro x h; rw [hPH] at h; exact h.there 4 (by rintro cs ⟨X, rfl⟩; simp))
    have HP0 := Lib.hid (show PH W by rw [hPH]; exact ⟨hWB, hWk, _, ⟨_, rfl⟩, hWh⟩)
    have HPd := Lib.hid (show ∀ x, PH x → PH x.drew by intro x h; rw [hPH] at h ⊢; exact h.drew)
    have HPs := Lib.hid (show ∀ x Y, PH x → PH (x.setCell ⟨w2.heap.size, 4, none⟩ Y) by
      intro x Y h; rw [hPH] at h ⊢; exact h.set (by omega) (by omega) 4 Y (by rintro cs ⟨X, rfl⟩; exact ⟨Y, rfl⟩))
    have HPH := Lib.hid hPH
    clear hPH
    go_region_held3 (fun wy => wy.cell? ⟨w2.heap.size, 3, none⟩ = some (.string MK) ∧ wy.cell? ⟨w2.heap.size, 5, none⟩ = some (.int .i64 z) ∧ wy.cell? ⟨w2.heap.size, 6, none⟩ = some (.int .i64 L) ∧ PH wy)
      (first | (refine HKeep.out _ ?_; with_reducible (repeat (first | assumption | exact HP0.out | refine HPs.out _ _ ?_ | refine HPd.out _ ?_))))
      (first | (go_at_call 18; refine (hMk _).mono ?_; rintro e w5 ⟨rfl, hb5⟩; have hx : PH w5 := (by refine HPb.out _ _ ?_ hb5; with_reducible (repeat (first | assumption | exact HP0.out | refine HPs.out _ _ ?_ | refine HPd.out _ ?_))); obtain ⟨X4, x4⟩ := HPt.out _ hx; have xf := HPf.out _ hx))
    all_goals go_wp2_with fail
    all_goals go_meet
    rw [HPH.out] at hx
    obtain ⟨g1, g2, cs, ⟨X, rfl⟩, g4⟩ := hx
    exact ⟨g1.setCell (p := ⟨w2.heap.size, 4, none⟩) (by simp; omega) _, (Below.heap_setCell _ _ _ _ (by simp; omega)).trans g2, _, rfl, hd_set g4 4 _⟩
  case rest =>
  obtain ⟨g1, g2, cs, rfl, g4⟩ := hcut
  clear k0 k1 k2 k3 k4 kf i0 i1 i2 i3 i4 i5 i6 i7 i8 hWB hWk hWh
  have k0 := hd_cell g2 0
  have k1 := hd_cell g2 1
  have k2 := hd_cell g2 2
  have k3 := hd_cell g2 3
  have k4 := hd_cell g2 4
  have kf := hd_frozen g2
  have l0 := hd_cell g4 0
  have l1 := hd_cell g4 1
  have l2 := hd_cell g4 2
  have l3 := hd_cell g4 3
  have l4 := hd_cell g4 4
  have l5 := hd_cell g4 5
  have l6 := hd_cell g4 6
  simp only [List.getElem?_toArray, List.getElem?_cons_zero, List.getElem?_cons_succ] at k0 k1 k2 k3 k4 l0 l1 l2 l3 l4 l5 l6
  go_upto_region 13 with fail
  go_region
  all_goals go_wp2_with fail
  obtain ⟨Y, hY⟩ : ∃ Y, (((((wc.setCell ⟨w.heap.size, 0, none⟩ (.bool fB)).setCell ⟨w.heap.size, 1, none⟩ (.bool mB)).setCell ⟨w.heap.size, 2, none⟩ (.int .i64 o)).setCell ⟨w.heap.size, 3, none⟩ (.string MK)).setCell ⟨w.heap.size, 4, none⟩ (.string BD)) = Y := ⟨_, rfl⟩
  have hYb : Y.heap[w.heap.size]? = some (.cells #[.bool fB, .bool mB, .int .i64 o, .string MK, .string BD] 23 (0, 0)) := by
    rw [← hY]; exact hd_set (hd_set (hd_set (hd_set (hd_set g2 0 _) 1 _) 2 _) 3 _) 4 _
  have hYB : Below w.heap.size w Y := by
    rw [← hY]; exact below_setP (below_setP (below_setP (below_setP (below_setP g1 (Nat.le_refl _) _ _) (Nat.le_refl _) _ _) (Nat.le_refl _) _ _) (Nat.le_refl _) _ _) (Nat.le_refl _) _ _
  rw [hY]
  clear hY k0 k1 k2 k3 k4 kf l0 l1 l2 l3 l4 l5 l6
  have r0 := hd_cell hYb 0
  have r1 := hd_cell hYb 1
  have r2 := hd_cell hYb 2
  have r3 := hd_cell hYb 3
  have r4 := hd_cell hYb 4
  simp only [List.getElem?_toArray, List.getElem?_cons_zero, List.getElem?_cons_succ] at r0 r1 r2 r3 r4
  refine bodyPost_ret (v := .tuple #[.agg #[.bool fB, .bool mB, .int .i64 o, .string MK, .string BD], .int .i64 ((z : Int) + (L : Int)), .int .i64 0]) (by simp [results, Tryd.results32, go_sem, r0, r1, r2, r3, r4]) rfl ⟨?_, hYB.drew⟩
  rw [HQ.out]
  have e1 : bs MM = MK := by rw [← Hmk.out, bs_bl]
  unfold parseV FR.v
  simp only [e1, HBD.out]
  rw [show ((z + L : Nat) : Int) = (z : Int) + (L : Int) by omega]

theorem parse_any (s : ByteArray) (most : Int) (w : World) (hs : s.size ≤ 140737488355328) :
    Calls Tryd.prog 32 #[.string s, .int .i64 most] w fun e w' => e = .returned (parseV (parseL (bl s) most)) ∧ Below w.heap.size w w' := by
  by_cases hg : (parseL (bl s) most).2.2 = 0
  · exact parse_good s most w hs hg
  · exact parse_bad s most w hs hg
end Go.Proofs.YtmgfpjfamdbhbaaDoor
