/- The reference's char and IsText: Go's test of a text. -/
import Derived.Test.YtmgfpjfamdbhbaaDoorBase
import Derived.Test.YtmgfpjfamdbhbaaDoorValid
import Derived.Lib.Hide
import Derived.Deep.LoopGhost
import Derived.Deep.DeepCutAuto
import Derived.Deep.CutBlock
namespace Go.Proofs.YtmgfpjfamdbhbaaDoor
open Go.RowKit Go.Lib

theorem charN_low (l : List UInt8) (h : (l.getD 0 0).toNat < 128) : charN l = 1 := by unfold charN; rw [if_pos h]
theorem charN_bad (l : List UInt8) (h : ¬ (l.getD 0 0).toNat < 128) (h2 : wideN (l.getD 0 0).toNat = 0) : charN l = 0 := by unfold charN; rw [if_neg h, if_pos h2]
theorem at_eq (s : ByteArray) (i : Nat) (h : i < s.size) : (bl s).getD i 0 = s[i] := by
  rw [List.getD_eq_getElem?_getD, List.getElem?_eq_getElem (by rw [bl_length]; exact h)]; rfl

theorem leadN_bound (c : Nat) (h : ¬ c < 128) (h2 : 2 ≤ wideN c) : 0 ≤ leadN c ∧ leadN c ≤ 31 := by
  unfold wideN at h2
  unfold leadN
  rw [if_neg h] at h2
  split
  · split at h2
    · omega
    · split at h2
      · omega
      · split at h2 <;> omega
  · split
    · omega
    · split at h2
      · omega
      · split at h2
        · omega
        · split at h2 <;> omega

set_option maxHeartbeats 1000000 in
set_option maxRecDepth 100000 in
theorem char_any (s : ByteArray) (w : World) (h : 0 < s.size) (hs : s.size ≤ 4611686018427387904) :
    Calls Tryd.prog 45 #[.string s] w fun e w' => e = .returned (.int .i64 (charN (bl s) : Nat)) ∧ w = w' := by
  have h0 : (0 : Int) < (s.size : Int) := by omega
  obtain ⟨x0, hx0⟩ : ∃ x0, s[0] = x0 := ⟨_, rfl⟩
  have hg0 : (bl s).getD 0 0 = x0 := by rw [at_eq s 0 h, hx0]
  have hlt := x0.toNat_lt
  obtain ⟨c, hc⟩ : ∃ c, x0.toNat = c := ⟨_, rfl⟩
  obtain ⟨R, hR⟩ : ∃ R, charN (bl s) = R := ⟨_, rfl⟩
  rw [hR]
  by_cases c1 : c < 128
  · have HR := Lib.hid (show R = 1 by rw [← hR, charN_low _ (by rw [hg0, hc]; exact c1)])
    have d1 : ((c : Int) < 128) := by omega
    clear hR hg0
    go_enter Tryd.func45, Tryd.ntmps45
    go_wp2
    go_ret
    exact ⟨by rw [HR.out]; rfl, rfl⟩
  have c1i : ¬ ((c : Int) < 128) := by omega
  have hch : charN (bl s) = if wideN c = 0 then 0 else if (bl s).length < wideN c then 0 else if (List.range (wideN c - 1)).all (fun i => contB ((bl s).getD (i + 1) 0).toNat) = false then 0
      else if noneB (wideN c) (valN (bl s) (wideN c - 1)) = true then 0 else wideN c := by
    unfold charN; rw [hg0, hc, if_neg c1]
  rw [hR] at hch
  have Hch := Lib.hid hch
  have Hv0 := Lib.hid (show valN (bl s) 0 = leadN c by rw [← hc, ← hg0]; rfl)
  have H1 := Lib.hid c1
  clear hch hR hg0 c1
  go_enter Tryd.func45, Tryd.ntmps45
  go_upto_region 5 with fail
  go_cut [17] (fun b wx => ∃ D : Bool, b = .bool D ∧ Hid (D = decide (194 ≤ c ∧ c < 224)) ∧ w = wx)
  case first =>
    by_cases q : 194 ≤ c
    · have d1 : ((194 : Int) ≤ (c : Int)) := by omega
      by_cases q2 : c < 224
      · have d2 : ((c : Int) < 224) := by omega
        have Hd := Lib.hid (show true = decide (194 ≤ c ∧ c < 224) by simp [q, q2])
        clear q q2
        go_wp2
        go_meet
        exact ⟨true, rfl, Hd.out, rfl⟩
      · have d2 : ¬ ((c : Int) < 224) := by omega
        have Hd := Lib.hid (show false = decide (194 ≤ c ∧ c < 224) by simp [q2])
        clear q q2
        go_wp2
        go_meet
        exact ⟨false, rfl, Hd.out, rfl⟩
    · have d1 : ¬ ((194 : Int) ≤ (c : Int)) := by omega
      have Hd := Lib.hid (show false = decide (194 ≤ c ∧ c < 224) by simp [q])
      clear q
      go_wp2
      go_meet
      exact ⟨false, rfl, Hd.out, rfl⟩
  case rest =>
  obtain ⟨D, rfl, HD, rfl⟩ := hcut
  go_upto_if 17 with fail
  go_cut [4, 5] (fun a b wx => ∃ n : Nat, a = .int .i64 n ∧ b = .int .i64 (leadN c) ∧ Hid (n = wideN c) ∧ Hid (2 ≤ n ∧ n ≤ 4) ∧ w = wx)
  case first =>
    by_cases q : c < 194 ∨ 245 ≤ c
    · have HR := Lib.hid (show R = 0 by rw [Hch.out, if_pos (by unfold wideN; rw [if_neg H1.out, if_neg (by omega), if_neg (by omega), if_neg (by omega)])])
      obtain rfl : D = false := by rw [HD.out]; simp; omega
      rcases q with q | q
      · have d1 : ¬ ((194 : Int) ≤ (c : Int)) := by omega
        have d2 : ¬ ((224 : Int) ≤ (c : Int)) := by omega
        have d3 : ¬ ((240 : Int) ≤ (c : Int)) := by omega
        clear q
        go_wp2
        go_ret
        exact ⟨by rw [HR.out]; rfl, rfl⟩
      · have d1 : ((194 : Int) ≤ (c : Int)) := by omega
        have d2 : ((224 : Int) ≤ (c : Int)) := by omega
        have d3 : ((240 : Int) ≤ (c : Int)) := by omega
        have d4 : ¬ ((c : Int) < 224) := by omega
        have d5 : ¬ ((c : Int) < 240) := by omega
        have d6 : ¬ ((c : Int) < 245) := by omega
        clear q
        go_wp2
        go_ret
        exact ⟨by rw [HR.out]; rfl, rfl⟩
    · by_cases q2 : c < 224
      · have d1 : ((194 : Int) ≤ (c : Int)) := by omega
        have d2 : ((c : Int) < 224) := by omega
        have Hn := Lib.hid (show 2 = wideN c by unfold wideN; rw [if_neg H1.out, if_pos (by omega)])
        have Hl := Lib.hid (show (c : Int) - 192 = leadN c by unfold leadN; rw [if_pos q2])
        obtain rfl : D = true := by rw [HD.out]; simp; omega
        clear q q2
        go_wp2
        go_meet
        exact ⟨2, rfl, by rw [← Hl.out], Hn.out, Lib.hid (by decide), rfl⟩
      · obtain rfl : D = false := by rw [HD.out]; simp; omega
        by_cases q3 : c < 240
        · have d1 : ((224 : Int) ≤ (c : Int)) := by omega
          have d2 : ((c : Int) < 240) := by omega
          have d0 : ¬ ((c : Int) < 224) := by omega
          have d9 : ((194 : Int) ≤ (c : Int)) := by omega
          have Hn := Lib.hid (show 3 = wideN c by unfold wideN; rw [if_neg H1.out, if_neg (by omega), if_pos (by omega)])
          have Hl := Lib.hid (show (c : Int) - 224 = leadN c by unfold leadN; rw [if_neg q2, if_pos q3])
          clear q q2 q3
          go_wp2
          go_meet
          exact ⟨3, rfl, by rw [← Hl.out], Hn.out, Lib.hid (by decide), rfl⟩
        · have d1 : ((240 : Int) ≤ (c : Int)) := by omega
          have d2 : ((c : Int) < 245) := by omega
          have d0 : ¬ ((c : Int) < 224) := by omega
          have d8 : ¬ ((c : Int) < 240) := by omega
          have d9 : ((194 : Int) ≤ (c : Int)) := by omega
          have d7 : ((224 : Int) ≤ (c : Int)) := by omega
          have Hn := Lib.hid (show 4 = wideN c by unfold wideN; rw [if_neg H1.out, if_neg (by omega), if_neg (by omega), if_pos (by omega)])
          have Hl := Lib.hid (show (c : Int) - 240 = leadN c by unfold leadN; rw [if_neg q2, if_neg q3])
          clear q q2 q3
          go_wp2
          go_meet
          exact ⟨4, rfl, by rw [← Hl.out], Hn.out, Lib.hid (by decide), rfl⟩
  case rest =>
  obtain ⟨n, rfl, rfl, Hn, Hnb, rfl⟩ := hcut
  by_cases hln : s.size < n
  · have HR := Lib.hid (show R = 0 by rw [Hch.out, if_neg (by rw [← Hn.out]; have := Hnb.out; omega), if_pos (by rw [← Hn.out, bl_length]; exact hln)])
    have d1 : (s.size : Int) < (n : Int) := by omega
    clear hln
    go_wp2
    go_ret
    exact ⟨by rw [HR.out]; rfl, rfl⟩
  have d1 : ¬ ((s.size : Int) < (n : Int)) := by omega
  have hlead := leadN_bound c H1.out (by rw [← Hn.out]; exact Hnb.out.1)
  have hn4 := Hnb.out.2
  have hn2 := Hnb.out.1
  obtain ⟨v0, hv0⟩ : ∃ v0, leadN c = v0 := ⟨_, rfl⟩
  rw [hv0] at hlead Hv0 ⊢
  clear hv0
  have hl0 := hlead.1
  have hl1 := hlead.2
  have Hbase := Lib.hid hlead
  have hsn : n ≤ s.size := by omega
  clear hlead hln
  go_wp2_with fail
  go_loopg [5, 6, 54] (n - 1 + 1) (fun gk a i _ wr => ∃ (k : Nat) (v : Int), 1 ≤ k ∧ k ≤ n ∧ gk = n - k + 1 ∧ i = .int .i64 k ∧ a = .int .i64 v ∧ 0 ≤ v ∧ v ≤ 8388607 ∧ Hid ((k = 1 ∧ v ≤ 31) ∨ (k = 2 ∧ v ≤ 2047) ∨ (k = 3 ∧ v ≤ 131071) ∨ k = 4) ∧
    Hid (v = valN (bl s) (k - 1)) ∧ Hid (∀ j, j + 1 < k → contB ((bl s).getD (j + 1) 0).toNat = true) ∧ w = wr)
  case atStart => exact ⟨1, v0, Nat.le_refl _, by omega, by omega, rfl, rfl, hl0, by omega, .inl ⟨rfl, by omega⟩, Hv0.out.symm, fun j hj => by omega, rfl⟩
  case round =>
    obtain ⟨k, v, hk1, hkn, rfl, rfl, rfl, hv1, hv2, Hvb, Hv, Hall, rfl⟩ := hrel
    clear hl0 hl1
    by_cases hlt : k < n
    · have hi : k < s.size := by omega
      have hi1 : (k : Int) < (s.size : Int) := by omega
      obtain ⟨y, hy⟩ : ∃ y, s[k]'hi = y := ⟨_, rfl⟩
      have hgy : (bl s).getD k 0 = y := by rw [at_eq s k hi, hy]
      have hyl := y.toNat_lt
      have hvv : v ≤ 131071 := by rcases Hvb.out with q | q | q | q <;> omega
      by_cases q : contB y.toNat = true
      · have hq : 128 ≤ y.toNat ∧ y.toNat ≤ 191 := by simpa [contB] using q
        have e1 : ¬ ((y.toNat : Int) < 128) := by omega
        have e2 : ¬ ((191 : Int) < (y.toNat : Int)) := by omega
        have Hst := Lib.hid (show 64 * v + (y.toNat : Int) - 128 = valN (bl s) (k + 1 - 1) by
          rw [Hv.out]; obtain ⟨d, rfl⟩ : ∃ d, k = d + 1 := ⟨k - 1, by omega⟩
          rw [Nat.add_sub_cancel, Nat.add_sub_cancel, valN, hgy])
        have Hnew := Lib.hid (show ∀ j, j + 1 < k + 1 → contB ((bl s).getD (j + 1) 0).toNat = true from fun j hj => by
          by_cases e : j + 1 = k
          · rw [e, hgy]; exact q
          · exact Hall.out j (by omega))
        have hb3 : 0 ≤ 64 * v + (y.toNat : Int) - 128 ∨ v = 0 ∨ True := .inr (.inr trivial)
        have Hb3 := Lib.hid (show (k + 1 = 2 ∧ 64 * v + (y.toNat : Int) - 128 ≤ 2047) ∨ (k + 1 = 3 ∧ 64 * v + (y.toNat : Int) - 128 ≤ 131071) ∨ k + 1 = 4 by rcases Hvb.out with r | r | r | r <;> omega)
        have hq1 : (128 : Int) ≤ (y.toNat : Int) := by omega
        have hq2 : (y.toNat : Int) ≤ 191 := by omega
        clear hgy q hq hb3
        go_wp2_with fail
        go_roundg (n - (k + 1) + 1)
        case measure => omega
        case rel => exact ⟨k + 1, 64 * v + (y.toNat : Int) - 128, by omega, by omega, rfl, by go_num, by go_num, by omega, by omega, by rcases Hb3.out with r | r | r; exact .inr (.inl r); exact .inr (.inr (.inl r)); exact .inr (.inr (.inr r)), Hst.out, Hnew.out, rfl⟩
      · have hq : y.toNat < 128 ∨ 191 < y.toNat := by simp only [contB, decide_eq_true_eq] at q; omega
        have HR := Lib.hid (show R = 0 by
          rw [Hch.out, if_neg (by rw [← Hn.out]; omega), if_neg (by rw [← Hn.out, bl_length]; omega), if_pos]
          rw [List.all_eq_false]
          refine ⟨k - 1, by rw [List.mem_range, ← Hn.out]; omega, ?_⟩
          rw [show k - 1 + 1 = k by omega, hgy]; exact q)
        clear q hgy
        rcases hq with q | q
        · have e1 : ((y.toNat : Int) < 128) := by omega
          clear q
          go_wp2_with fail
          go_ret
          exact ⟨by rw [HR.out]; rfl, rfl⟩
        · have e1 : ¬ ((y.toNat : Int) < 128) := by omega
          have e2 : ((191 : Int) < (y.toNat : Int)) := by omega
          clear q
          go_wp2_with fail
          go_ret
          exact ⟨by rw [HR.out]; rfl, rfl⟩
    · obtain rfl : k = n := by omega
      have HC := Lib.hid (show R = if noneB k v = true then 0 else k by
        rw [Hch.out, if_neg (by rw [← Hn.out]; omega), if_neg (by rw [← Hn.out, bl_length]; omega), if_neg, ← Hn.out, ← Hv.out]
        rw [Bool.not_eq_false, List.all_eq_true]
        intro j hj
        exact Hall.out j (by rw [List.mem_range, ← Hn.out] at hj; omega))
      have HN := Lib.hid (show noneB k v = decide ((k = 3 ∧ v < 2048) ∨ (k = 4 ∧ v < 65536) ∨ v > 1114111 ∨ (v ≥ 55296 ∧ v ≤ 57343)) from rfl)
      have Hkk := Lib.hid (show k = 2 ∨ k = 3 ∨ k = 4 by omega)
      have Hvb2 := Hvb
      clear Hvb
      go_upto_region 20 with fail
      go_cut [88] (fun b wx => b = .bool (noneB k v) ∧ w = wx)
      case first =>
        rcases Hkk.out with rfl | rfl | rfl
        · have hv3 : v ≤ 2047 := by rcases Hvb2.out with q | q | q | q <;> omega
          go_wp2_with fail
          go_meet
          exact ⟨by rw [HN.out]; congr 1; simp; omega, rfl⟩
        · have hv3 : v ≤ 131071 := by rcases Hvb2.out with q | q | q | q <;> omega
          have q9 : ¬ (1114111 < v) := by omega
          by_cases q1 : v < 2048
          · go_wp2_with fail
            go_meet
            exact ⟨by rw [HN.out]; congr 1; simp; omega, rfl⟩
          · by_cases q2 : 55296 ≤ v <;> by_cases q3 : v ≤ 57343
            all_goals first | (exfalso; omega) | skip
            all_goals
              go_wp2_with fail
              go_meet
              exact ⟨by rw [HN.out]; congr 1; simp; omega, rfl⟩
        · by_cases q1 : v < 65536
          · go_wp2_with fail
            go_meet
            exact ⟨by rw [HN.out]; congr 1; simp; omega, rfl⟩
          · by_cases q2 : 1114111 < v
            · go_wp2_with fail
              go_meet
              exact ⟨by rw [HN.out]; congr 1; simp; omega, rfl⟩
            · have q3 : ¬ v ≤ 57343 := by omega
              have q4 : 55296 ≤ v := by omega
              go_wp2_with fail
              go_meet
              exact ⟨by rw [HN.out]; congr 1; simp; omega, rfl⟩
      case rest =>
      obtain ⟨rfl, rfl⟩ := hcut
      clear HN
      generalize noneB k v = NB at *
      cases NB
      · go_wp2_with fail
        go_ret
        exact ⟨by rw [HC.out]; rfl, rfl⟩
      · go_wp2_with fail
        go_ret
        exact ⟨by rw [HC.out]; rfl, rfl⟩

set_option maxHeartbeats 1000000 in
set_option maxRecDepth 100000 in
/-- the reference's IsText is Go's test -/
theorem risText_any (s : ByteArray) (w : World) (hs : s.size ≤ 4611686018427387904) :
    Calls Tryd.prog 21 #[.string s] w fun e w' => e = .returned (.bool (validD (bl s))) ∧ w = w' := by
  obtain ⟨V, hV⟩ : ∃ V, validD (bl s) = V := ⟨_, rfl⟩
  rw [hV]
  have HV := Lib.hid hV
  clear hV
  go_enter Tryd.func21, Tryd.ntmps21
  go_wp2_with fail
  go_loopg [0, 3] (s.size + 1) (fun gk a _ wr => ∃ t : ByteArray, a = .string t ∧ gk = t.size + 1 ∧ t.size ≤ 4611686018427387904 ∧ Hid (validD (bl t) = V) ∧ w = wr)
  case atStart => exact ⟨s, rfl, rfl, hs, HV.out, rfl⟩
  case round =>
    obtain ⟨t, rfl, rfl, ht, Ht, rfl⟩ := hrel
    clear HV hs
    by_cases h0 : t.size = 0
    · have hte : t = ⟨#[]⟩ := by
        apply bl_inj
        have : bl t = [] := List.eq_nil_of_length_eq_zero (by rw [bl_length]; exact h0)
        rw [this]; rfl
      have HT := Lib.hid (show V = true by rw [← Ht.out, hte]; rfl)
      subst hte
      clear h0
      go_wp2_with fail
      go_ret
      exact ⟨by rw [HT.out]; rfl, rfl⟩
    · have hne : bl t ≠ [] := by intro h; apply h0; rw [← bl_length, h]; rfl
      have hC := char_any t w (by omega) ht
      have hst := validD_char (bl t) hne
      rw [Ht.out] at hst
      have hcp := charN_pos hne
      rw [bl_length] at hcp
      have hte : t.toList.isEmpty = false := by rw [bl_toList]; simpa using hne
      have htn : (!t.toList.isEmpty) = true := by rw [hte]; rfl
      generalize hCN : charN (bl t) = n at *
      have Hst := Lib.hid hst
      clear hst hCN hne h0
      by_cases hn : n = 0
      · have HR := Lib.hid (show V = false by rw [Hst.out, if_pos hn])
        subst hn
        clear hcp
        go_wp2_with (first | (go_at_call 45; refine hC.mono ?_; rintro e w' ⟨rfl, rfl⟩))
        go_ret
        exact ⟨by rw [HR.out]; rfl, rfl⟩
      · have HR := Lib.hid (show validD ((bl t).drop n) = V by rw [Hst.out, if_neg hn])
        have e1 : ((n : Int) == 0) = false := by simp; omega
        have hn1 : (1 : Int) ≤ (n : Int) := by omega
        have hn2 : (n : Int) ≤ (t.size : Int) := by omega
        clear hn
        go_wp2_with (first | (go_at_call 45; refine hC.mono ?_; rintro e w' ⟨rfl, rfl⟩))
        go_roundg (t.size - n + 1)
        case measure => omega
        case rel =>
          refine ⟨t.extract n t.size, rfl, by rw [ByteArray.size_extract]; omega, by rw [ByteArray.size_extract]; omega, ?_, rfl⟩
          show _ = _
          rw [bl_extract, List.take_of_length_le (by rw [List.length_drop, bl_length]; omega)]; exact HR.out
end Go.Proofs.YtmgfpjfamdbhbaaDoor
