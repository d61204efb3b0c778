/- Parse of the program; the string is shorter than 2^47 bytes. -/
import Derived.Test.YtmgfpjfamdbhbaaDoorRParse
namespace Go.Proofs.YtmgfpjfamdbhbaaDoor
open Go.RowKit

theorem below_setP {B b : Nat} {w x : World} (h : Below B w x) (hb : B ≤ b) (j : Nat) (v : Value) : Below B w (x.setCell ⟨b, j, none⟩ v) := h.setCell (p := ⟨b, j, none⟩) hb v
theorem headOk_size {s : List UInt8} (h : headOk s = true) : 2 ≤ s.length ∧ hsizeN (at1 s) ≤ s.length := by unfold headOk at h; simpa using h
theorem err_ctl {l : List UInt8} (h : errN l = 0) (h8 : controlB (opN l) = true) : lenN l < half := by
  have hw : wrongN l = 0 := by unfold errN at h; split at h <;> simp_all
  refine ctl_small hw ?_
  unfold controlB at h8; simp at h8; omega
theorem err_op {l : List UInt8} (h : errN l = 0) : isOpB (opN l) = true := by
  have hw : wrongN l = 0 := by unfold errN at h; split at h <;> simp_all
  unfold wrongN at hw
  split at hw
  · cases hw
  split at hw
  · cases hw
  · rename_i h; simpa using h

set_option maxHeartbeats 8000000 in
set_option maxRecDepth 100000 in
theorem parse_bad (s : ByteArray) (most : Int) (w : World) (hs : s.size ≤ 140737488355328) (hbad0 : (parseL (bl s) most).2.2 ≠ 0) :
    Calls Tryd.prog 32 #[.string s, .int .i64 most] w fun e w' => e = .returned (parseV (parseL (bl s) most)) ∧ Below w.heap.size w w' := by
  obtain ⟨R, hR⟩ : ∃ R, parseL (bl s) most = R := ⟨_, rfl⟩
  rw [hR] at hbad0 ⊢
  have HR := Lib.hid hR
  have Hbad := Lib.hid hbad0
  clear hR hbad0
  have hB1 : Below w.heap.size w (w.alloc (.cells #[.bool false, .bool false, .int .i64 0, .string ⟨#[]⟩, .string ⟨#[]⟩] 23)) := (Below.refl _ _).alloc (Nat.le_refl _) _
  by_cases hm : most < 0
  · have HQ := Lib.hid (show R = (FR.zero, 0, 1) by rw [← HR.out, parseL, if_pos hm])
    go_enter Tryd.func32, Tryd.ntmps32
    go_wp2_with fail
    exact bodyPost_ret (v := parseV (FR.zero, 0, 1)) (by simp [results, Tryd.results32, go_sem, parseV, FR.v, FR.zero, bs]) rfl ⟨by rw [HQ.out], hB1⟩
  have hH : ∀ wx, Calls Tryd.prog 50 #[.string s] wx fun e w' => e = .returned (headRet (bl s)) ∧ Below wx.heap.size wx w' := fun wx => readHead_any s wx (by omega)
  by_cases hok : headOk (bl s) = false
  · have HQ := Lib.hid (show R = (FR.zero, (s.size : Int), 124) by rw [← HR.out, parseL, if_neg hm, if_pos hok, bl_length])
    have e1 : headRet (bl s) = .tuple #[zeroHead, .bool false] := by rw [headRet, hok]; rfl
    rw [e1] at hH
    unfold zeroHead at hH
    clear e1 hok
    go_enter Tryd.func32, Tryd.ntmps32
    go_upto_if 17 with (first | (go_at_call 50; refine (hH _).mono ?_; rintro e w2 ⟨rfl, hb2⟩))
    obtain ⟨W, hW⟩ : ∃ W, w2.alloc (.cells #[.bool false, .bool false, .int .i64 0, .string ⟨#[]⟩, .string ⟨#[]⟩, .int .i64 0, .int .i64 0, .bool false, .int .i64 0] 90) = W := ⟨_, rfl⟩
    have hbx : w.heap.size < (w.alloc (.cells #[.bool false, .bool false, .int .i64 0, .string ⟨#[]⟩, .string ⟨#[]⟩] 23)).heap.size := by simp
    have hWB : Below w.heap.size w W := by rw [← hW]; exact (hB1.trans (hb2.mono (by simp))).alloc (by have := hb2.size; omega) _
    have hWk : W.heap[w.heap.size]? = some (.cells #[.bool false, .bool false, .int .i64 0, .string ⟨#[]⟩, .string ⟨#[]⟩] 23 (0, 0)) := by
      rw [← hW, Below.heap_alloc _ _ _ (Nat.lt_of_lt_of_le hbx hb2.size), hb2.block _ hbx]; exact heap_alloc_new _ _
    have hWh : W.heap[w2.heap.size]? = some (.cells #[.bool false, .bool false, .int .i64 0, .string ⟨#[]⟩, .string ⟨#[]⟩, .int .i64 0, .int .i64 0, .bool false, .int .i64 0] 90 (0, 0)) := by rw [← hW]; exact heap_alloc_new _ _
    have hhs : w.heap.size < w2.heap.size := Nat.lt_of_lt_of_le hbx hb2.size
    rw [hW]
    clear hW hb2 hbx
    have k0 := hd_cell hWk 0
    have k1 := hd_cell hWk 1
    have k2 := hd_cell hWk 2
    have k3 := hd_cell hWk 3
    have k4 := hd_cell hWk 4
    have kf := hd_frozen hWk
    have i0 := hd_cell hWh 0
    have i1 := hd_cell hWh 1
    have i2 := hd_cell hWh 2
    have i3 := hd_cell hWh 3
    have i4 := hd_cell hWh 4
    have i5 := hd_cell hWh 5
    have i6 := hd_cell hWh 6
    have i7 := hd_cell hWh 7
    have i8 := hd_cell hWh 8
    simp only [List.getElem?_toArray, List.getElem?_cons_zero, List.getElem?_cons_succ] at k0 k1 k2 k3 k4 i0 i1 i2 i3 i4 i5 i6 i7 i8
    clear i0 i1 i2 i3 i4 i5 i6 i7 i8 hWh
    go_wp2_with fail
    exact bodyPost_ret (v := parseV (FR.zero, (s.size : Int), 124)) (by simp [results, Tryd.results32, go_sem, parseV, FR.v, FR.zero, bs, k0, k1, k2, k3, k4]) rfl ⟨by rw [HQ.out], by repeat (first | exact hWB | refine Below.drew ?_ | refine below_setP ?_ (Nat.le_refl _) _ _)⟩
  have hok' : headOk (bl s) = true := by simpa using hok
  rw [headRet, hok', if_pos rfl, headV] at hH
  have hzs := (headOk_size hok')
  rw [bl_length] at hzs
  have hz2 := hsizeN_le (at1 (bl s))
  have hop16 : 0 ≤ opN (bl s) ∧ opN (bl s) < 16 := by unfold opN; have := Nat.mod_lt (at0 (bl s)).toNat (show 16 > 0 by decide); omega
  have hR2 : R = if errN (bl s) ≠ 0 then (FR.zero, 0, errN (bl s))
    else if opN (bl s) < 8 ∧ (half ≤ lenN (bl s) ∨ most < (lenN (bl s) : Int)) then (FR.zero, 0, 225)
    else if s.size < hsizeN (at1 (bl s)) + lenN (bl s) then (FR.zero, (s.size : Int), 124)
    else (⟨hiB (at0 (bl s)), hiB (at1 (bl s)), opN (bl s), maskOf (bl s), maskL (((bl s).drop (hsizeN (at1 (bl s)))).take (lenN (bl s))) (maskOf (bl s))⟩, ((hsizeN (at1 (bl s)) + lenN (bl s) : Nat) : Int), 0) := by
    rw [← HR.out, parseL, if_neg hm, if_neg hok, bl_length]
  have hC := control_any (opN (bl s))
  have Hctl := Lib.hid (fun (h : errN (bl s) = 0) (h8 : controlB (opN (bl s)) = true) => err_ctl h h8)
  have Hop := Lib.hid (fun (h : errN (bl s) = 0) => err_op h)
  have hmk : bl (bs (maskOf (bl s))) = maskOf (bl s) := rfl
  generalize hiB (at0 (bl s)) = fB at *
  generalize hiB (at1 (bl s)) = mB at *
  generalize hZ : hsizeN (at1 (bl s)) = z at *
  generalize opN (bl s) = o at *
  generalize errN (bl s) = EN at *
  generalize hL : lenN (bl s) = L at *
  obtain ⟨Lm, hLm⟩ : ∃ Lm, L % half = Lm := ⟨_, rfl⟩
  obtain ⟨LG, hLG⟩ : ∃ LG, decide (half ≤ L) = LG := ⟨_, rfl⟩
  have hLmb : Lm ≤ 9223372036854775807 := by rw [← hLm]; exact mod_half rfl
  rw [hLm, hLG] at hH
  generalize hMM : maskOf (bl s) = MM at *
  generalize hMK : bs MM = MK at *
  obtain ⟨C, hCC⟩ : ∃ C, controlB o = C := ⟨_, rfl⟩
  rw [hCC] at hC
  have HQ := Lib.hid hR2
  have HLm := Lib.hid hLm
  have HLG := Lib.hid hLG
  have HCC := Lib.hid hCC
  have Hmk := Lib.hid hmk
  clear hR2 hok hok' HR hZ hL hLm hLG hMM hMK hCC hmk
  go_enter Tryd.func32, Tryd.ntmps32
  go_upto_if 17 with (first | (go_at_call 50; refine (hH _).mono ?_; rintro e w2 ⟨rfl, hb2⟩))
  obtain ⟨W, hW⟩ : ∃ W, w2.alloc (.cells #[.bool fB, .bool mB, .int .i64 o, .string MK, .string ⟨#[]⟩, .int .i64 z, .int .i64 Lm, .bool LG, .int .i64 EN] 90) = W := ⟨_, rfl⟩
  have hbx : w.heap.size < (w.alloc (.cells #[.bool false, .bool false, .int .i64 0, .string ⟨#[]⟩, .string ⟨#[]⟩] 23)).heap.size := by simp
  have hWB : Below w.heap.size w W := by rw [← hW]; exact (hB1.trans (hb2.mono (by simp))).alloc (by have := hb2.size; omega) _
  have hWk : W.heap[w.heap.size]? = some (.cells #[.bool false, .bool false, .int .i64 0, .string ⟨#[]⟩, .string ⟨#[]⟩] 23 (0, 0)) := by
    rw [← hW, Below.heap_alloc _ _ _ (Nat.lt_of_lt_of_le hbx hb2.size), hb2.block _ hbx]; exact heap_alloc_new _ _
  have hWh : W.heap[w2.heap.size]? = some (.cells #[.bool fB, .bool mB, .int .i64 o, .string MK, .string ⟨#[]⟩, .int .i64 z, .int .i64 Lm, .bool LG, .int .i64 EN] 90 (0, 0)) := by rw [← hW]; exact heap_alloc_new _ _
  have hhs : w.heap.size < w2.heap.size := Nat.lt_of_lt_of_le hbx hb2.size
  rw [hW]
  clear hW hb2 hbx
  have k0 := hd_cell hWk 0
  have k1 := hd_cell hWk 1
  have k2 := hd_cell hWk 2
  have k3 := hd_cell hWk 3
  have k4 := hd_cell hWk 4
  have kf := hd_frozen hWk
  have i0 := hd_cell hWh 0
  have i1 := hd_cell hWh 1
  have i2 := hd_cell hWh 2
  have i3 := hd_cell hWh 3
  have i4 := hd_cell hWh 4
  have i5 := hd_cell hWh 5
  have i6 := hd_cell hWh 6
  have i7 := hd_cell hWh 7
  have i8 := hd_cell hWh 8
  simp only [List.getElem?_toArray, List.getElem?_cons_zero, List.getElem?_cons_succ] at k0 k1 k2 k3 k4 i0 i1 i2 i3 i4 i5 i6 i7 i8
  by_cases hE : EN ≠ 0
  · have HQ2 := Lib.hid (show R = (FR.zero, 0, EN) by rw [HQ.out, if_pos hE])
    have ew : (EN != 0) = true := by simpa using hE
    clear hE
    go_upto_region 7 with fail
    go_region
    all_goals go_wp2_with fail
    exact bodyPost_ret (v := parseV (FR.zero, 0, EN)) (by simp [results, Tryd.results32, go_sem, parseV, FR.v, FR.zero, bs, k0, k1, k2, k3, k4]) rfl ⟨by rw [HQ2.out], by repeat (first | exact hWB | refine Below.drew ?_ | refine below_setP ?_ (Nat.le_refl _) _ _)⟩
  have ew : (EN != 0) = false := by simpa using hE
  have hE0 : EN = 0 := by simpa using hE
  have HQ2 := Lib.hid (show R = if o < 8 ∧ (half ≤ L ∨ most < (L : Int)) then (FR.zero, 0, 225)
    else if s.size < z + L then (FR.zero, (s.size : Int), 124) else (⟨fB, mB, o, MM, maskL (((bl s).drop z).take L) MM⟩, ((z + L : Nat) : Int), 0) by rw [HQ.out, if_neg hE])
  have Hcl := Lib.hid (fun h8 => Hctl.out hE0 h8)
  have hoo := isOp_cases (Hop.out hE0)
  have Hoo := Lib.hid hoo
  have HE0 := Lib.hid hE0
  clear hE hE0 hoo HQ Hctl Hop
  by_cases hB : C = false ∧ (LG = true ∨ most < (Lm : Int))
  · have HQ3 := Lib.hid (show R = (FR.zero, 0, 225) by
      rw [HQ2.out, if_pos]
      obtain ⟨h1, h2⟩ := hB
      have hc := HCC.out
      rw [h1] at hc
      unfold controlB at hc
      have := Hoo.out
      refine ⟨by simp at hc; omega, ?_⟩
      rcases h2 with h2 | h2
      · have := HLG.out; rw [h2] at this; exact .inl (by simpa using this)
      · by_cases hh : half ≤ L
        · exact .inl hh
        · right; have := HLm.out; rw [Nat.mod_eq_of_lt (by omega)] at this; omega)
    obtain ⟨rfl, h2⟩ := hB
    cases LG
    · have h3 : most < (Lm : Int) := by simpa using h2
      clear h2
      go_wp2_with (first | (go_at_call 41; refine (hC _).mono ?_; rintro e w' ⟨rfl, rfl⟩))
      exact bodyPost_ret (v := parseV (FR.zero, 0, 225)) (by simp [results, Tryd.results32, go_sem, parseV, FR.v, FR.zero, bs, k0, k1, k2, k3, k4]) rfl ⟨by rw [HQ3.out], by repeat (first | exact hWB | refine Below.drew ?_ | refine below_setP ?_ (Nat.le_refl _) _ _)⟩
    · clear h2
      go_wp2_with (first | (go_at_call 41; refine (hC _).mono ?_; rintro e w' ⟨rfl, rfl⟩))
      exact bodyPost_ret (v := parseV (FR.zero, 0, 225)) (by simp [results, Tryd.results32, go_sem, parseV, FR.v, FR.zero, bs, k0, k1, k2, k3, k4]) rfl ⟨by rw [HQ3.out], by repeat (first | exact hWB | refine Below.drew ?_ | refine below_setP ?_ (Nat.le_refl _) _ _)⟩
  have hLs : L < half := by
    cases C
    · have h1 := HLG.out
      by_cases hh : half ≤ L
      · rw [decide_eq_true hh] at h1; exact absurd ⟨rfl, .inl h1.symm⟩ hB
      · omega
    · exact Hcl.out HCC.out
  have hLe : Lm = L := by rw [← HLm.out]; exact Nat.mod_eq_of_lt hLs
  have hLgf : LG = false := by rw [← HLG.out]; simp; omega
  subst hLe hLgf
  have HQ3 := Lib.hid (show R = if s.size < z + Lm then (FR.zero, (s.size : Int), 124) else (⟨fB, mB, o, MM, maskL (((bl s).drop z).take Lm) MM⟩, ((z + Lm : Nat) : Int), 0) by
    rw [HQ2.out, if_neg]
    intro ⟨h1, h2⟩
    refine hB ⟨?_, .inr ?_⟩
    · rw [← HCC.out]; unfold controlB; simp; omega
    · rcases h2 with h2 | h2 <;> omega)
  have hB2 : C = false → ¬ most < (Lm : Int) := fun h h2 => hB ⟨h, .inr h2⟩
  have HB2 := Lib.hid hB2
  clear hLs hB hB2 HQ2 Hcl HLm HLG
  by_cases hlen : s.size < z + Lm
  · have HQ4 := Lib.hid (show R = (FR.zero, (s.size : Int), 124) by rw [HQ3.out, if_pos hlen])
    have d1 : (s.size : Int) - (z : Int) < (Lm : Int) := by omega
    clear hlen
    cases C
    · have h3 := HB2.out rfl
      go_wp2_with (first | (go_at_call 41; refine (hC _).mono ?_; rintro e w' ⟨rfl, rfl⟩))
      exact bodyPost_ret (v := parseV (FR.zero, (s.size : Int), 124)) (by simp [results, Tryd.results32, go_sem, parseV, FR.v, FR.zero, bs, k0, k1, k2, k3, k4]) rfl ⟨by rw [HQ4.out], by repeat (first | exact hWB | refine Below.drew ?_ | refine below_setP ?_ (Nat.le_refl _) _ _)⟩
    · go_wp2_with (first | (go_at_call 41; refine (hC _).mono ?_; rintro e w' ⟨rfl, rfl⟩))
      exact bodyPost_ret (v := parseV (FR.zero, (s.size : Int), 124)) (by simp [results, Tryd.results32, go_sem, parseV, FR.v, FR.zero, bs, k0, k1, k2, k3, k4]) rfl ⟨by rw [HQ4.out], by repeat (first | exact hWB | refine Below.drew ?_ | refine below_setP ?_ (Nat.le_refl _) _ _)⟩
  exact absurd (show R.2.2 = 0 by rw [HQ3.out, if_neg hlen]) Hbad.out
end Go.Proofs.YtmgfpjfamdbhbaaDoor
