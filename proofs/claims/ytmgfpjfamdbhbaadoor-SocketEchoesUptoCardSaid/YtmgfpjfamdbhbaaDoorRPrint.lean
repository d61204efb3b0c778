/- Print of the reference is the same function as the program's; mask and body are shorter than 2^48 bytes. -/
import Derived.Test.YtmgfpjfamdbhbaaDoorPrint
import Derived.Deep.RegionWith
namespace Go.Proofs.YtmgfpjfamdbhbaaDoor
open Go.RowKit

theorem run_conv1 (y : UInt8) (W : World) (b : Nat) (h : W.cell? ⟨b, 0, none⟩ = some (.int .u8 y.toNat)) :
    (convert 76 9 (.slice (some ⟨b, 0, none⟩) 1 1)).run Tryd.prog W = .ok (.string (bs [y])) W :=
  run_convert_bytes_back (P := Tryd.prog) W 76 9 5 ⟨b, 0, none⟩ 1 [y] Tryd.underlying76 Tryd.underlying5 Tryd.underlying9
    (fun j hj => by obtain rfl : j = 0 := by simpa using hj
                    rw [addr_add]; exact h)
theorem first_add (x : UInt8) (h : isOpB x.toNat = true) : (x.toNat : Int) + 128 = ((firstB true x.toNat).toNat : Int) ∧ firstB false x.toNat = x := by
  refine ⟨?_, (first_or x h).2⟩
  have := isOp_cases h
  have hx := x.toNat_lt
  simp only [firstB, if_true, Int.toNat_natCast]
  rw [u8_of]; omega
theorem add_len (msk : Bool) (n : Nat) (h : n < 128) : (if msk = true then 128 else 0) + (n : Int) = ((UInt8.ofNat (n + if msk then 128 else 0)).toNat : Int) := by
  rw [u8_of]; cases msk <;> simp <;> omega

theorem wrap8 (y : UInt8) : IntKind.u8.wrap (y.toNat : Int) = y.toNat := by rw [IntKind.wrap_u8']; have := y.toNat_lt; omega
theorem wrap8i (y : UInt8) : IntKind.i64.wrap (y.toNat : Int) = y.toNat := by rw [IntKind.wrap_i64]; have := y.toNat_lt; omega

set_option maxHeartbeats 2000000 in
set_option maxRecDepth 100000 in
theorem rprint_any (fin msk : Bool) (op : Int) (mask body : ByteArray) (w : World) (hb : body.size ≤ 281474976710656) (hm : mask.size ≤ 281474976710656) :
    Calls Tryd.prog 16 #[.agg #[.bool fin, .bool msk, .int .i64 op, .string mask, .string body]] w fun e w' =>
      e = .returned (.tuple #[.string (bs (printL fin msk op (bl mask) (bl body)).1), .int .i64 (printL fin msk op (bl mask) (bl body)).2]) ∧ Below w.heap.size w w' := by
  have hO := risOp_any op
  obtain ⟨I, hI⟩ : ∃ I, isOpB op = I := ⟨_, rfl⟩
  rw [hI] at hO
  have HI := Lib.hid hI
  clear hI
  have hB1 : Below w.heap.size w (w.alloc (.cells #[.bool fin, .bool msk, .int .i64 op, .string mask, .string body] 30)) := (Below.refl _ _).alloc (Nat.le_refl _) _
  cases I
  · go_enter Tryd.func16, Tryd.ntmps16
    go_wp2_with (first | (go_at_call 42; refine (hO _).mono ?_; rintro e w' ⟨rfl, rfl⟩))
    go_ret2
    exact ⟨by rw [pl_1 HI.out rfl]; rfl, hB1⟩
  go_enter Tryd.func16, Tryd.ntmps16
  go_upto_region 3 with (first | (go_at_call 42; refine (hO _).mono ?_; rintro e w' ⟨rfl, rfl⟩))
  go_cut [0, 29] (fun _ v wx => v = .bool (maskBad msk mask) ∧ wx = w.alloc (.cells #[.bool fin, .bool msk, .int .i64 op, .string mask, .string body] 30))
  case first =>
    cases msk
    · cases hq : (!mask.toList.isEmpty)
      · have hx := mg_2 (msk := false) (by simp) hq
        go_wp2_with fail
        go_meet
        exact ⟨by rw [hx], rfl⟩
      · have hx := mb_2 (msk := false) (by simp) hq
        go_wp2_with fail
        go_meet
        exact ⟨by rw [hx], rfl⟩
    · cases hq : ((mask.size : Int) != 4)
      · have hx := mg_1 (msk := true) rfl hq
        go_wp2_with fail
        go_meet
        exact ⟨by rw [hx], rfl⟩
      · have hx := mb_1 (msk := true) rfl hq
        go_wp2_with fail
        go_meet
        exact ⟨by rw [hx], rfl⟩
  case rest =>
  obtain ⟨rfl, rfl⟩ := hcut
  cases hmb : maskBad msk mask
  case true =>
    go_wp2_with fail
    go_ret2
    exact ⟨by rw [pl_2 HI.out rfl hmb]; rfl, hB1⟩
  obtain ⟨x, rfl⟩ : ∃ x : UInt8, op = x.toNat := by rcases isOp_cases HI.out with h | h | h | h | h | h <;> exact ⟨UInt8.ofNat op.toNat, by subst h; rfl⟩
  have HM := Lib.hid hmb
  clear hmb
  have hx : (x.toNat : Int) < 256 := by have := x.toNat_lt; omega
  have hx0 : 0 ≤ (x.toNat : Int) := by omega
  go_upto_region 5 with fail
  go_cut [0, 43] (fun _ v wx => v = .bool (controlB x.toNat && (!fin || decide (125 < body.size))) ∧ wx = w.alloc (.cells #[.bool fin, .bool msk, .int .i64 x.toNat, .string mask, .string body] 30))
  case first =>
    have hc8 : controlB x.toNat = decide (8 ≤ (x.toNat : Int)) := by
      have := isOp_cases HI.out
      simp only [controlB, decide_eq_decide]; omega
    have H8 := Lib.hid hc8
    clear hc8
    by_cases h8 : 8 ≤ (x.toNat : Int)
    · cases fin
      · go_wp2_with fail
        go_meet
        exact ⟨by rw [H8.out]; simp [h8], rfl⟩
      · by_cases h9 : (125 : Int) < (body.size : Int)
        · go_wp2_with fail
          go_meet
          exact ⟨by rw [H8.out]; simp [h8]; omega, rfl⟩
        · go_wp2_with fail
          go_meet
          exact ⟨by rw [H8.out]; simp [h8]; omega, rfl⟩
    · go_wp2_with fail
      go_meet
      exact ⟨by rw [H8.out, decide_eq_false (by omega)]; rfl, rfl⟩
  case rest =>
  obtain ⟨rfl, rfl⟩ := hcut
  cases hcc : (controlB x.toNat && (!fin || decide (125 < body.size)))
  case true =>
    go_wp2_with fail
    go_ret2
    have hc1 : controlB x.toNat = true := by simp at hcc; exact hcc.1
    exact ⟨by rw [pl_3 HI.out rfl HM.out hc1 rfl (by intro hf; subst hf; simp at hcc; omega)]; rfl, hB1⟩
  have HG := Lib.hid (show Good fin msk x.toNat mask body from ⟨HI.out, HM.out, hcc⟩)
  clear hcc
  have hor := (first_add x HG.out.1).1
  have hx1 := (first_add x HG.out.1).2
  go_upto_if 47 with fail
  go_cut [0, 4] (fun _ v wx => v = .int .i64 (firstB fin x.toNat).toNat ∧ wx = w.alloc (.cells #[.bool fin, .bool msk, .int .i64 x.toNat, .string mask, .string body] 30))
  case first =>
    cases fin
    · go_wp2_with fail
      go_meet
      exact ⟨by rw [hx1], rfl⟩
    · go_wp2_with fail
      go_meet
      exact ⟨rfl, rfl⟩
  case rest =>
  obtain ⟨rfl, rfl⟩ := hcut
  clear hor hx1
  go_upto_if 51 with fail
  go_cut [0, 5] (fun _ v wx => ∃ M : Int, v = .int .i64 M ∧ Hid (M = if msk = true then 128 else 0) ∧ wx = w.alloc (.cells #[.bool fin, .bool msk, .int .i64 x.toNat, .string mask, .string body] 30))
  case first =>
    cases msk
    · go_wp2_with fail
      go_meet
      exact ⟨0, rfl, rfl, rfl⟩
    · go_wp2_with fail
      go_meet
      exact ⟨128, rfl, rfl, rfl⟩
  case rest =>
  obtain ⟨M, rfl, HMM, rfl⟩ := hcut
  generalize hF : firstB fin x.toNat = F at *
  have HF := Lib.hid hF
  clear hF
  have hFl : (F.toNat : Int) < 256 := by have := F.toNat_lt; omega
  have hc3 : (w.alloc (.cells #[.bool fin, .bool msk, .int .i64 x.toNat, .string mask, .string body] 30)).cell? ⟨w.heap.size, 3, none⟩ = some (.string mask) := by simp [World.cell?_alloc_at]
  have hc4 : (w.alloc (.cells #[.bool fin, .bool msk, .int .i64 x.toNat, .string mask, .string body] 30)).cell? ⟨w.heap.size, 4, none⟩ = some (.string body) := by simp [World.cell?_alloc_at]
  have hsz : (w.alloc (.cells #[.bool fin, .bool msk, .int .i64 x.toNat, .string mask, .string body] 30)).heap.size = w.heap.size + 1 := by simp
  have hcv := fun W b h => run_conv1 F W b h
  have hz1 : ∀ y : UInt8, (bs [y]).size = 1 := fun _ => rfl
  go_upto_if 60 with fail
  have hBa : Below (w.heap.size + 1) (w.alloc (.cells #[.bool fin, .bool msk, .int .i64 x.toNat, .string mask, .string body] 30)) ((w.alloc (.cells #[.bool fin, .bool msk, .int .i64 x.toNat, .string mask, .string body] 30)).alloc (.cells #[.int .u8 F.toNat] 5)) := (Below.refl _ _).alloc (by simp) _
  have hsz2 : ((w.alloc (.cells #[.bool fin, .bool msk, .int .i64 x.toNat, .string mask, .string body] 30)).alloc (.cells #[.int .u8 F.toNat] 5)).heap.size = w.heap.size + 2 := by simp
  generalize ((w.alloc (.cells #[.bool fin, .bool msk, .int .i64 x.toNat, .string mask, .string body] 30)).alloc (.cells #[.int .u8 F.toNat] 5)) = W1 at *
  generalize (w.alloc (.cells #[.bool fin, .bool msk, .int .i64 x.toNat, .string mask, .string body] 30)) = W0 at *
  go_cut [6] (fun v wx => ∃ s, v = .string s ∧ Hid (bl s = F :: lenL msk body.size) ∧ s.size ≤ 10 ∧ Below (w.heap.size + 1) W0 wx)
  case first =>
    clear hcv
    by_cases h1 : body.size ≤ 125
    · obtain ⟨y, hy⟩ : ∃ y, y = UInt8.ofNat (body.size + if msk then 128 else 0) := ⟨_, rfl⟩
      have hu : M + (body.size : Int) = (y.toNat : Int) := by rw [hy, HMM.out]; exact add_len msk body.size (by omega)
      have hyl : (y.toNat : Int) < 256 := by have := y.toNat_lt; omega
      have Hy := Lib.hid hy
      clear hy
      have hcv := fun W b h => run_conv1 y W b h
      go_wp2_with fail
      go_meet
      exact ⟨_, rfl, by show _ = _; simp [bl_append, bl_bs, lenL, h1, Hy.out], by simp [hz1], hBa.trans ((Below.refl _ _).alloc (by omega) _)⟩
    · by_cases h2 : body.size ≤ 65535
      · obtain ⟨y, hy⟩ : ∃ y, y = UInt8.ofNat (126 + if msk then 128 else 0) := ⟨_, rfl⟩
        have hu : M + 126 = (y.toNat : Int) := by rw [hy, HMM.out]; cases msk <;> rfl
        have hyl : (y.toNat : Int) < 256 := by have := y.toNat_lt; omega
        have Hy := Lib.hid hy
        clear hy
        have hcv := fun W b h => run_conv1 y W b h
        have hH : ∀ wx, Calls Tryd.prog 43 #[.int .i64 body.size, .int .i64 2] wx fun e w' => e = .returned (.string (bs (highL body.size 2))) ∧ Below wx.heap.size wx w' := fun wx => high_any body.size 2 wx (by omega) (by omega) (by omega)
        have hHz : (bs (highL body.size 2)).size = 2 := by rw [bs_size, highL, highTo_length]
        have hHb : bl (bs (highL body.size 2)) = highL body.size 2 := rfl
        generalize bs (highL body.size 2) = H2 at hH hHz hHb
        have HHb := Lib.hid hHb
        clear hHb
        go_upto_region 17 with fail
        have hw8 := wrap8 y
        have hw64 := wrap8i y
        go_region_with (go_at_call 43; refine (hH _).mono ?_; rintro e w5 ⟨rfl, hbm⟩; have hq := fun (b o : Nat) (h : b < _) => hbm.cell (p := ⟨b, o, none⟩) h)
        all_goals
          go_wp2_with fail
          go_meet
          refine ⟨_, rfl, by show _ = _; simp [bl_append, bl_bs, lenL, h1, h2, Hy.out, HHb.out], by simp [hz1, hHz], ?_⟩
          repeat (first | exact hBa | refine Below.drew ?_ | refine Below.alloc ?_ (by first | (simp [hsz2]; done) | (have h9 := hbm.size; simp [hsz2] at h9; omega)) _ | refine Below.trans ?_ (Below.mono (by assumption) (by simp [hsz2]; try omega)))
      · obtain ⟨y, hy⟩ : ∃ y, y = UInt8.ofNat (127 + if msk then 128 else 0) := ⟨_, rfl⟩
        have hu : M + 127 = (y.toNat : Int) := by rw [hy, HMM.out]; cases msk <;> rfl
        have hyl : (y.toNat : Int) < 256 := by have := y.toNat_lt; omega
        have Hy := Lib.hid hy
        clear hy
        have hcv := fun W b h => run_conv1 y W b h
        have hH : ∀ wx, Calls Tryd.prog 43 #[.int .i64 body.size, .int .i64 8] wx fun e w' => e = .returned (.string (bs (highL body.size 8))) ∧ Below wx.heap.size wx w' := fun wx => high_any body.size 8 wx (by omega) (by omega) (by omega)
        have hHz : (bs (highL body.size 8)).size = 8 := by rw [bs_size, highL, highTo_length]
        have hHb : bl (bs (highL body.size 8)) = highL body.size 8 := rfl
        generalize bs (highL body.size 8) = H8 at hH hHz hHb
        have HHb := Lib.hid hHb
        clear hHb
        go_upto_region 18 with fail
        have hw8 := wrap8 y
        have hw64 := wrap8i y
        go_region_with (go_at_call 43; refine (hH _).mono ?_; rintro e w5 ⟨rfl, hbm⟩; have hq := fun (b o : Nat) (h : b < _) => hbm.cell (p := ⟨b, o, none⟩) h)
        all_goals
          go_wp2_with fail
          go_meet
          refine ⟨_, rfl, by show _ = _; simp [bl_append, bl_bs, lenL, h1, h2, Hy.out, HHb.out], by simp [hz1, hHz], ?_⟩
          repeat (first | exact hBa | refine Below.drew ?_ | refine Below.alloc ?_ (by first | (simp [hsz2]; done) | (have h9 := hbm.size; simp [hsz2] at h9; omega)) _ | refine Below.trans ?_ (Below.mono (by assumption) (by simp [hsz2]; try omega)))
  case rest =>
  obtain ⟨L, rfl, HL, hLs, hbel3⟩ := hcut
  clear hcv
  have hd3 := (hbel3.cell (p := ⟨w.heap.size, 3, none⟩) (by simp)).trans hc3
  have hd4 := (hbel3.cell (p := ⟨w.heap.size, 4, none⟩) (by simp)).trans hc4
  have hlt := hbel3.size
  have hM := fun wx => rmask_any body mask wx hb
  have hR : (bs (maskL (bl body) (bl mask))).size ≤ 281474976710656 := by rw [bs_size, maskL_length, bl_length]; exact hb
  have hRb : bl (bs (maskL (bl body) (bl mask))) = maskL (bl body) (bl mask) := rfl
  generalize bs (maskL (bl body) (bl mask)) = R at hM hR hRb
  have HR := Lib.hid hRb
  obtain ⟨FI, FF, hFN, hF1, hF2⟩ := family wc.heap.size wc
  have f3 := fun i => ((hF1 i).cell (p := ⟨w.heap.size, 3, none⟩) (by simp; omega)).trans hd3
  have f4 := fun i => ((hF1 i).cell (p := ⟨w.heap.size, 4, none⟩) (by simp; omega)).trans hd4
  clear hRb
  go_wp2
  refine wp_region_quiet_fam FF (by kernel_rfl) (by kernel_rfl) (hF2 _ (Below.refl _ _).drew) ?_
  repeat (any_goals (first | go_big_quiet_step ((go_at_call 19; refine (hM _).mono ?_; rintro e w5 ⟨rfl, hbm⟩; exact ⟨rfl, hF2 _ ((hF1 _).trans (hbm.mono (hF1 _).size))⟩)) | quiet_step ((go_at_call 19; refine (hM _).mono ?_; rintro e w5 ⟨rfl, hbm⟩; exact ⟨rfl, hF2 _ ((hF1 _).trans (hbm.mono (hF1 _).size))⟩))))
  refine wpQuiet_nil ?_
  intro wz hw'
  obtain ⟨nq, rfl⟩ := hw'
  have hbz := hF1 nq
  generalize FF nq = wz at *
  clear f3 f4 hF1 hF2
  go_wp2
  go_ret2
  refine ⟨?_, ?_⟩
  · rw [pl_good HG.out]
    refine ret2_str ?_ rfl
    rw [bl_bs, bl_append, bl_append, HL.out, HR.out, HF.out]
    simp
  · exact hB1.trans ((hbel3.mono (by omega)).trans (hbz.mono (by omega)))
end Go.Proofs.YtmgfpjfamdbhbaaDoor
