/- The reference's PrintClose and ParseClose; the strings are shorter than 2^62 bytes. -/
import Derived.Test.YtmgfpjfamdbhbaaDoorClose
import Derived.Test.YtmgfpjfamdbhbaaDoorRChar
import Derived.Test.YtmgfpjfamdbhbaaDoorRPrint
namespace Go.Proofs.YtmgfpjfamdbhbaaDoor
open Go.RowKit

set_option maxHeartbeats 1000000 in
set_option maxRecDepth 100000 in
theorem rprintClose_any (code : Int) (reason : ByteArray) (w : World) (hs : reason.size ≤ 4611686018427387904) :
    Calls Tryd.prog 23 #[.int .i64 code, .string reason] w fun e w' =>
      e = .returned (.tuple #[.string (bs (closeL code (bl reason)).1), .int .i64 (closeL code (bl reason)).2]) ∧ Below w.heap.size w w' := by
  have hV := risText_any reason w hs
  have hCo := risCode_any code
  obtain ⟨V, hVV⟩ : ∃ V, Lib.validD (bl reason) = V := ⟨_, rfl⟩
  obtain ⟨C, hCC⟩ : ∃ C, isCodeB code = C := ⟨_, rfl⟩
  rw [hVV] at hV
  rw [hCC] at hCo
  have HV := Lib.hid hVV
  have HC := Lib.hid hCC
  clear hVV hCC
  by_cases h0 : code = 0 ∧ reason.toList.isEmpty = true
  · have e0 : (code == 0) = true := by simp [h0.1]
    have e1 : reason.toList.isEmpty = true := h0.2
    have Hr := Lib.hid (show closeL code (bl reason) = ([], 0) by rw [closeL, if_pos (by rw [← bl_toList]; exact h0)])
    clear h0
    go_enter Tryd.func23, Tryd.ntmps23
    go_wp2_with fail
    go_ret2
    exact ⟨by rw [Hr.out]; rfl, Below.refl _ _⟩
  have Hr := Lib.hid (show closeL code (bl reason) = if C = false then ([], 224) else if V = false ∨ 123 < reason.size then ([], 223) else (highL code.toNat 2 ++ bl reason, 0) by
    rw [closeL, if_neg (by rw [← bl_toList]; exact h0), HV.out, HC.out, bl_length])
  have hg : (code == 0) = false ∨ ((code == 0) = true ∧ reason.toList.isEmpty = false) := by
    by_cases hc : code = 0
    · exact .inr ⟨by simp [hc], by simpa [hc] using h0⟩
    · exact .inl (by simp [hc])
  clear h0
  cases C
  · rcases hg with g0 | ⟨g0, g1⟩
    all_goals
      go_enter Tryd.func23, Tryd.ntmps23
      go_wp2_with (first | (go_at_call 47; refine (hCo _).mono ?_; rintro e w' ⟨rfl, rfl⟩))
      go_ret2
      exact ⟨by rw [Hr.out]; rfl, Below.refl _ _⟩
  · have hr := isCode_range HC.out
    have g0 : (code == 0) = false := by simp; omega
    clear hg
    obtain ⟨c, rfl⟩ : ∃ c : Nat, code = c := ⟨code.toNat, by omega⟩
    cases V
    · go_enter Tryd.func23, Tryd.ntmps23
      go_wp2_with (first | (go_at_call 47; refine (hCo _).mono ?_; rintro e w' ⟨rfl, rfl⟩) | (go_at_call 21; refine hV.mono ?_; rintro e w5 ⟨rfl, rfl⟩))
      go_ret2
      exact ⟨by rw [Hr.out]; rfl, Below.refl _ _⟩
    · by_cases h3 : (123 : Int) < (reason.size : Int)
      · go_enter Tryd.func23, Tryd.ntmps23
        go_wp2_with (first | (go_at_call 47; refine (hCo _).mono ?_; rintro e w' ⟨rfl, rfl⟩) | (go_at_call 21; refine hV.mono ?_; rintro e w5 ⟨rfl, rfl⟩))
        go_ret2
        exact ⟨by rw [Hr.out, if_neg (by simp), if_pos (by right; omega)]; rfl, Below.refl _ _⟩
      · go_enter Tryd.func23, Tryd.ntmps23
        go_upto_region 7 with (first | (go_at_call 47; refine (hCo _).mono ?_; rintro e w' ⟨rfl, rfl⟩) | (go_at_call 21; refine hV.mono ?_; rintro e w5 ⟨rfl, rfl⟩))
        have hH : ∀ wx, Calls Tryd.prog 43 #[.int .i64 (c : Int), .int .i64 2] wx fun e w' => e = .returned (.string (bs (highL c 2))) ∧ Below wx.heap.size wx w' := fun wx => high_any c 2 wx (by omega) (by omega) (by omega)
        have hs2 : (bs (highL c 2)).size = 2 := by rw [bs_size]; exact highTo_length c 2 0
        go_wp2_with (first | (go_at_call 43; refine (hH _).mono ?_; rintro e w6 ⟨rfl, hb6⟩))
        go_ret2
        refine ⟨?_, hb6⟩
        rw [Hr.out, if_neg (by simp), if_neg (by intro h; rcases h with h | h; exact absurd h (by simp); omega)]
        refine ret2_str ?_ rfl
        rw [bl_append, bl_bs, bl_bs, Int.toNat_natCast]

set_option maxHeartbeats 1000000 in
set_option maxRecDepth 100000 in
theorem rparseClose_any (body : ByteArray) (w : World) (hs : body.size ≤ 4611686018427387904) :
    Calls Tryd.prog 25 #[.string body] w fun e w' =>
      e = .returned (.tuple #[.int .i64 (parseCloseL (bl body)).1, .string (bs (parseCloseL (bl body)).2.1), .int .i64 (parseCloseL (bl body)).2.2]) ∧ Below w.heap.size w w' := by
  by_cases he : body.toList.isEmpty = true
  · have Hr := Lib.hid (show parseCloseL (bl body) = (1005, [], 0) by rw [parseCloseL, if_pos (by rw [← bl_toList]; exact he)])
    go_enter Tryd.func25, Tryd.ntmps25
    go_wp2_with fail
    go_ret3
    exact ⟨by rw [Hr.out]; rfl, Below.refl _ _⟩
  have hp : 0 < body.size := by
    rcases Nat.eq_zero_or_pos body.size with h | h
    · exact absurd (by rw [bl_toList]; rw [← bl_length] at h; simpa using h) he
    · exact h
  have hne : body.toList.isEmpty = false := by simpa using he
  by_cases h1 : body.size = 1 ∨ 125 < body.size
  · have Hr := Lib.hid (show parseCloseL (bl body) = (0, [], 224) by rw [parseCloseL, if_neg (by rw [← bl_toList]; exact he), if_pos (by rw [bl_length]; exact h1)])
    rcases (show ((body.size : Int) == 1) = true ∨ (((body.size : Int) == 1) = false ∧ (125 : Int) < (body.size : Int)) by
      rcases h1 with h1 | h1
      · exact .inl (by simp [h1])
      · exact .inr ⟨by simp; omega, by omega⟩) with g | ⟨g, g2⟩
    all_goals
      clear h1 he
      go_enter Tryd.func25, Tryd.ntmps25
      go_wp2_with fail
      go_ret3
      exact ⟨by rw [Hr.out]; rfl, Below.refl _ _⟩
  have hge : ((body.size : Int) == 1) = false := by simp; omega
  have hg2 : (2 : Int) ≤ (body.size : Int) := by omega
  have hg125 : (body.size : Int) ≤ 125 := by omega
  have hi0 : (0 : Int) < (body.size : Int) := by omega
  have hi1 : (1 : Int) < (body.size : Int) := by omega
  have hp1 : 1 < body.size := by omega
  obtain ⟨x0, hx0⟩ : ∃ x0, body[0]'hp = x0 := ⟨_, rfl⟩
  obtain ⟨x1, hx1⟩ : ∃ x1, body[1]'hp1 = x1 := ⟨_, rfl⟩
  obtain ⟨n, hn⟩ : ∃ n, n = 256 * x0.toNat + x1.toNat := ⟨_, rfl⟩
  obtain ⟨t, ht⟩ : ∃ t, body.extract 2 body.size = t := ⟨_, rfl⟩
  have htb : bl t = (bl body).drop 2 := by rw [← ht, bl_extract, ← bl_length]; exact List.take_of_length_le (by simp)
  have hts : t.size ≤ 125 := by rw [← bl_length, htb, List.length_drop, bl_length]; omega
  have hV := fun wx => risText_any t wx (by omega)
  obtain ⟨V, hVV⟩ : ∃ V, Lib.validD (bl t) = V := ⟨_, rfl⟩
  rw [hVV] at hV
  have hCo := risCode_any (n : Int)
  obtain ⟨C, hCC⟩ : ∃ C, isCodeB (n : Int) = C := ⟨_, rfl⟩
  rw [hCC] at hCo
  have Hr := Lib.hid (show parseCloseL (bl body) = if C = false then (0, [], 224) else if V = false then (0, [], 223) else ((n : Int), bl t, 0) by
    rw [parseCloseL, if_neg (by rw [← bl_toList]; exact he), if_neg (by rw [bl_length]; exact h1), ← htb, hVV, at0_of body hx0, at1_of body hx1, ← hn, hCC])
  have hor : (256 : Int) * (x0.toNat : Int) + (x1.toNat : Int) = (n : Int) := by rw [hn]; omega
  have Ht := Lib.hid htb
  clear h1 he hn htb hVV hCC
  go_enter Tryd.func25, Tryd.ntmps25
  go_upto_region 5 with fail
  have hw0 := wrap8i x0
  have hw1 := wrap8i x1
  have hwr : IntKind.i64.wrap (256 * (x0.toNat : Int)) = 256 * (x0.toNat : Int) := by have := x0.toNat_lt; rw [IntKind.wrap_i64]; omega
  have hwr2 : IntKind.i64.wrap (n : Int) = (n : Int) := by have := x0.toNat_lt; have := x1.toNat_lt; rw [IntKind.wrap_i64]; omega
  go_cut [5] (fun v wx => v = .int .i64 n ∧ Below w.heap.size w wx)
  case first =>
    go_quiet (fail)
    go_wp2_with fail
    go_meet
    exact ⟨rfl, drewN_below _ _ _⟩
  case rest =>
  obtain ⟨rfl, hbw⟩ := hcut
  have hV2 := hV wc
  clear hV hw0 hw1 hwr hwr2 hor
  cases C
  · go_wp2_with (first | (go_at_call 47; refine (hCo _).mono ?_; rintro e w' ⟨rfl, rfl⟩))
    go_ret3
    exact ⟨by rw [Hr.out]; rfl, hbw⟩
  cases V
  · go_wp2_with (first | (go_at_call 47; refine (hCo _).mono ?_; rintro e w' ⟨rfl, rfl⟩) | (go_at_call 21; refine hV2.mono ?_; rintro e w5 ⟨rfl, rfl⟩))
    go_ret3
    exact ⟨by rw [Hr.out]; rfl, hbw⟩
  · go_upto_region 10 with (first | (go_at_call 47; refine (hCo _).mono ?_; rintro e w' ⟨rfl, rfl⟩) | (go_at_call 21; refine hV2.mono ?_; rintro e w5 ⟨rfl, rfl⟩))
    go_quiet (fail)
    go_wp2_with fail
    go_ret3
    refine ⟨?_, hbw.trans (drewN_below _ _ _)⟩
    rw [Hr.out, if_neg (by simp), if_neg (by simp)]
    show Ending.returned (.tuple #[.int .i64 n, .string t, .int .i64 0]) = _
    rw [bs_bl]
end Go.Proofs.YtmgfpjfamdbhbaaDoor
