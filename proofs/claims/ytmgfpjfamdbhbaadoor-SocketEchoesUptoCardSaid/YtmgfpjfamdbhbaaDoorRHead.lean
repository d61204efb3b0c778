/- readHead of the program: the head of a frame, by the plain functions; the text is shorter than 2^62 bytes. -/
import Derived.Test.YtmgfpjfamdbhbaaDoorHead
import Derived.Deep.LoopGhost
namespace Go.Proofs.YtmgfpjfamdbhbaaDoor
open Go.RowKit

def zeroHead : Value := .agg #[.bool false, .bool false, .int .i64 0, .string ⟨#[]⟩, .string ⟨#[]⟩, .int .i64 0, .int .i64 0, .bool false, .int .i64 0]

theorem or_byte (b : Nat) (y : UInt8) (hb : b < 72057594037927936) : bits .or .u64 ((b : Int) * 256) (y.toNat : Int) = ((256 * b + y.toNat : Nat) : Int) := by
  have hy := y.toNat_lt
  have e : ((b : Int) * 256) = ((b * 256 : Nat) : Int) := by omega
  rw [e, u64_or_nat _ _ (by omega) (by omega), nat_join 8 _ _ (by omega) (by omega)]
  rw [Nat.mul_comm]
theorem big_step (l : List UInt8) (k : Nat) (y : UInt8) (h : 2 + k < l.length) (hy : l[2 + k]'h = y) : bigN ((l.drop 2).take (k + 1)) = 256 * bigN ((l.drop 2).take k) + y.toNat := by
  have hk : k < (l.drop 2).length := by rw [List.length_drop]; omega
  rw [List.take_succ_eq_append_getElem hk, bigN_snoc, List.getElem_drop, hy]
theorem big_lt (b k : Nat) (y : UInt8) (h : b < 256 ^ k) : 256 * b + y.toNat < 256 ^ (k + 1) := by
  have := y.toNat_lt
  rw [Nat.pow_succ]; omega
theorem shortB_of (l : List UInt8) {k b : Nat} (h1 : moreN (at1 l) = k) (hb : b = bigN ((l.drop 2).take k)) : shortB l = (k == 2 && decide (b ≤ 125) || k == 8 && decide (b ≤ 65535)) := by
  unfold shortB lenN
  rw [h1]
  by_cases h0 : k = 0
  · subst h0; rfl
  · rw [if_neg h0, ← hb]
theorem u64_of {b k m : Nat} (hb : b < 256 ^ k) (hk : k ≤ m) (hm : m ≤ 8 := by assumption) : b < 18446744073709551616 := by
  have : 256 ^ k ≤ 256 ^ 8 := Nat.pow_le_pow_right (by omega) (by omega)
  omega
theorem mod_half {Ln b : Nat} (h : Ln = b % half) : Ln ≤ 9223372036854775807 := by
  have : b % half < half := Nat.mod_lt _ (by unfold half; omega)
  unfold half at this h; omega
theorem and_half (b : Nat) (h : b < 18446744073709551616) : bits .and .u64 (b : Int) 9223372036854775807 = ((b % half : Nat) : Int) := by
  have e : (9223372036854775807 : Int) = ((9223372036854775807 : Nat) : Int) := rfl
  rw [e, u64_and_nat _ _ h (by omega)]
  have := Nat.and_two_pow_sub_one_eq_mod b 63
  simp only [half]
  have e2 : (2 : Nat) ^ 63 - 1 = 9223372036854775807 := by decide
  have e3 : (2 : Nat) ^ 63 = 9223372036854775808 := by decide
  rw [e2, e3] at this
  rw [this]
theorem gt_half (b : Nat) : decide ((9223372036854775807 : Int) < (b : Int)) = decide (half ≤ b) := by
  rw [decide_eq_decide]; unfold half; omega
theorem len_big (l : List UInt8) {k : Nat} (h1 : moreN (at1 l) = k) (h0 : 0 < k) : lenN l = bigN ((l.drop 2).take k) := by
  unfold lenN; rw [h1, if_neg (by omega)]
theorem len_small (l : List UInt8) {x1 : UInt8} {L0 : Nat} (h1 : at1 l = x1) (h0 : moreN x1 = 0) (hL : L0 = x1.toNat % 128) : L0 = lenN l % half := by
  unfold lenN; rw [h1, if_pos h0, ← hL]; unfold half; omega
theorem len_small2 (l : List UInt8) {x1 : UInt8} (h1 : at1 l = x1) (h0 : moreN x1 = 0) : false = decide (half ≤ lenN l) := by
  unfold lenN; rw [h1, if_pos h0]; symm; rw [decide_eq_false_iff_not]; unfold half; omega
theorem at0_eq (s : ByteArray) (h : 0 < s.size) : at0 (bl s) = s[0] := by
  unfold at0; rw [List.getD_eq_getElem?_getD, List.getElem?_eq_getElem (by rw [bl_length]; exact h)]; rfl
theorem at1_eq (s : ByteArray) (h : 1 < s.size) : at1 (bl s) = s[1] := by
  unfold at1; rw [List.getD_eq_getElem?_getD, List.getElem?_eq_getElem (by rw [bl_length]; exact h)]; rfl
theorem errN_of (l : List UInt8) {x0 x1 : UInt8} {fB : Bool} {o : Int} {k : Nat} (h0 : at0 l = x0) (h1 : at1 l = x1) (hf : hiB x0 = fB) (ho : ((x0.toNat % 16 : Nat) : Int) = o) (hk : moreN x1 = k) :
    errN l = if decide (x0.toNat / 16 % 8 ≠ 0) then 226 else if isOpB o = false then 221 else if (controlB o && (!fB || decide (0 < k))) then 222 else if shortB l then 225 else 0 := by
  unfold errN wrongN
  have : opN l = o := by unfold opN; rw [h0]; exact ho
  rw [this, h0, h1, hf, hk]
  by_cases c1 : x0.toNat / 16 % 8 ≠ 0
  · simp [c1]
  · simp only [c1, if_false, decide_false, Bool.false_eq_true]
    by_cases c2 : isOpB o = false
    · simp [c2]
    · simp only [c2]
      by_cases c3 : (controlB o && (!fB || decide (0 < k))) = true
      · simp [c3]
      · simp [c3]
/-- what readHead returns -/
def headRet (s : List UInt8) : Value := .tuple #[if headOk s then headV s else zeroHead, .bool (headOk s)]

theorem headRet_of (s : ByteArray) {x0 x1 : UInt8} {fB : Bool} {o : Int} {z Lq : Nat} {lg : Bool} {M : ByteArray} {e : Int} (h2 : 2 ≤ s.size) (h0 : at0 (bl s) = x0) (h1 : at1 (bl s) = x1) (hf : hiB x0 = fB)
    (ho : ((x0.toNat % 16 : Nat) : Int) = o) (hz : z = hsizeN x1) (hzs : z ≤ s.size) (hM : bl M = maskOf (bl s)) (hL : Lq = lenN (bl s) % half) (hlg : lg = decide (half ≤ lenN (bl s))) (he : e = errN (bl s)) :
    headRet (bl s) = .tuple #[.agg #[.bool fB, .bool (hiB x1), .int .i64 o, .string M, .string ⟨#[]⟩, .int .i64 z, .int .i64 Lq, .bool lg, .int .i64 e], .bool true] := by
  have hok : headOk (bl s) = true := by
    unfold headOk
    rw [h1, ← hz, bl_length]
    simp; omega
  have hop : opN (bl s) = o := by unfold opN; rw [h0]; exact ho
  rw [headRet, hok, if_pos rfl, headV, h0, h1, hf, hop, ← hz, ← hL, ← hlg, ← he, ← hM, bs_bl]

set_option maxHeartbeats 2000000 in
set_option maxRecDepth 100000 in
theorem readHead_short (s : ByteArray) (w : World) (hs : s.size < 2) :
    Calls Tryd.prog 50 #[.string s] w fun e w' => e = .returned (.tuple #[zeroHead, .bool false]) ∧ Below w.heap.size w w' := by
  go_enter Tryd.func50, Tryd.ntmps50
  go_wp2
  exact bodyPost_ret (v := .tuple #[zeroHead, .bool false]) (by simp [results, Tryd.results50, go_sem, zeroHead]) rfl ⟨rfl, by repeat (first | exact Below.refl _ _ | refine Below.alloc ?_ (by simp) _)⟩

set_option maxHeartbeats 2000000 in
set_option maxRecDepth 100000 in
theorem readHead_any (s : ByteArray) (w : World) (hs : s.size ≤ 4611686018427387904) :
    Calls Tryd.prog 50 #[.string s] w fun e w' => e = .returned (headRet (bl s)) ∧ Below w.heap.size w w' := by
  by_cases h2 : s.size < 2
  · refine (readHead_short s w h2).mono ?_
    rintro e w' ⟨rfl, hb⟩
    have : headOk (bl s) = false := by unfold headOk; rw [bl_length]; simp; omega
    exact ⟨by rw [headRet, this]; rfl, hb⟩
  have h2z : (2 : Int) ≤ (s.size : Int) := by omega
  obtain ⟨x0, hx0⟩ : ∃ x0, s[0]'(by omega) = x0 := ⟨_, rfl⟩
  obtain ⟨x1, hx1⟩ : ∃ x1, s[1]'(by omega) = x1 := ⟨_, rfl⟩
  have bf0 := bit_fin x0
  have bf1 := bit_fin x1
  have bo := bit_op x0
  have bw := bit_low x1
  have br := bit_res x0
  have h0 : (0 : Int) < (s.size : Int) := by omega
  have h1 : (1 : Int) < (s.size : Int) := by omega
  have ho0 : (0 : Int) ≤ ((x0.toNat % 16 : Nat) : Int) := by omega
  have ho1 : ((x0.toNat % 16 : Nat) : Int) < 16 := by omega
  generalize hoo : ((x0.toNat % 16 : Nat) : Int) = o at *
  generalize hff : hiB x0 = fB at *
  have Hoo := Lib.hid hoo
  have Hff := Lib.hid hff
  clear hoo hff
  have hl1 : (x1.toNat % 128 : Nat) < 128 := by omega
  go_enter Tryd.func50, Tryd.ntmps50
  go_upto_region 4 with fail
  have hBW : Below w.heap.size w (w.alloc (.cells #[.bool false, .bool false, .int .i64 0, .string ⟨#[]⟩, .string ⟨#[]⟩, .int .i64 0, .int .i64 0, .bool false, .int .i64 0] 90)) := (Below.refl _ _).alloc (Nat.le_refl _) _
  go_cut [] (fun wx => wx = ((w.alloc (.cells #[.bool false, .bool false, .int .i64 0, .string ⟨#[]⟩, .string ⟨#[]⟩, .int .i64 0, .int .i64 0, .bool false, .int .i64 0] 90)).alloc (.cells #[.bool fB, .bool (hiB x1), .int .i64 o, .string ⟨#[]⟩, .string ⟨#[]⟩, .int .i64 2, .int .i64 0, .bool false, .int .i64 0] 90)).drew)
  case first =>
    go_region
    go_wp2_with fail
    go_meet
    rfl
  case rest =>
  obtain rfl := hcut
  go_upto_block 0 with fail
  go_cut [5] (fun v wx => ∃ L0 : Nat, v = .int .i64 (moreN x1 : Nat) ∧ Hid (L0 = if moreN x1 = 0 then x1.toNat % 128 else 0) ∧
    wx = ((w.alloc (.cells #[.bool false, .bool false, .int .i64 0, .string ⟨#[]⟩, .string ⟨#[]⟩, .int .i64 0, .int .i64 0, .bool false, .int .i64 0] 90)).alloc (.cells #[.bool fB, .bool (hiB x1), .int .i64 o, .string ⟨#[]⟩, .string ⟨#[]⟩, .int .i64 2, .int .i64 L0, .bool false, .int .i64 0] 90)).drew)
  case first =>
    by_cases c6 : x1.toNat % 128 = 126
    · have e6 : ((x1.toNat : Int) % 128 == 126) = true := by simp; omega
      have e7 : ((x1.toNat : Int) % 128 == 127) = false := by simp; omega
      have Hm := Lib.hid (show moreN x1 = 2 by simp [moreN, c6])
      clear c6
      go_wp2_with fail
      go_meet
      exact ⟨0, by rw [Hm.out]; rfl, by show _ = _; rw [Hm.out]; rfl, rfl⟩
    · by_cases c7 : x1.toNat % 128 = 127
      · have e6 : ((x1.toNat : Int) % 128 == 126) = false := by simp; omega
        have e7 : ((x1.toNat : Int) % 128 == 127) = true := by simp; omega
        have Hm := Lib.hid (show moreN x1 = 8 by simp [moreN, c7])
        clear c6 c7
        go_wp2_with fail
        go_meet
        exact ⟨0, by rw [Hm.out]; rfl, by show _ = _; rw [Hm.out]; rfl, rfl⟩
      · have e6 : ((x1.toNat : Int) % 128 == 126) = false := by simp; omega
        have e7 : ((x1.toNat : Int) % 128 == 127) = false := by simp; omega
        have Hm := Lib.hid (show moreN x1 = 0 by simp [moreN, c6, c7])
        clear c6 c7
        go_wp2_with fail
        go_meet
        exact ⟨x1.toNat % 128, by rw [Hm.out]; rfl, by show _ = _; rw [Hm.out]; rfl, rfl⟩
  case rest =>
  obtain ⟨L0, rfl, HL0, rfl⟩ := hcut
  have hmn : moreN x1 ≤ 8 := by have := moreN_cases x1; omega
  have Hms := Lib.hid (moreN_cases x1)
  generalize hmm : moreN x1 = m at *
  have Hmm := Lib.hid hmm
  clear hmm
  go_upto_if 51 with fail
  go_cut [] (fun wx => ∃ z : Nat, Hid (z = hsizeN x1) ∧ z ≤ 14 ∧ 2 ≤ z ∧
    wx = ((w.alloc (.cells #[.bool false, .bool false, .int .i64 0, .string ⟨#[]⟩, .string ⟨#[]⟩, .int .i64 0, .int .i64 0, .bool false, .int .i64 0] 90)).alloc (.cells #[.bool fB, .bool (hiB x1), .int .i64 o, .string ⟨#[]⟩, .string ⟨#[]⟩, .int .i64 z, .int .i64 L0, .bool false, .int .i64 0] 90)).drew)
  case first =>
    have hhs : hsizeN x1 = 2 + m + if hiB x1 then 4 else 0 := by rw [hsizeN, Hmm.out]
    have Hhs := Lib.hid hhs
    clear hhs
    cases hh : hiB x1
    · go_wp2_with fail
      go_meet
      exact ⟨2 + m, by show _ = _; rw [Hhs.out, hh]; rfl, by omega, by omega, by rw [hh]; rfl⟩
    · go_wp2_with fail
      go_meet
      exact ⟨2 + m + 4, by show _ = _; rw [Hhs.out, hh]; rfl, by omega, by omega, by rw [hh]; rfl⟩
  case rest =>
  obtain ⟨z, Hz, hz14, hz2, rfl⟩ := hcut
  by_cases hok : z ≤ s.size
  case neg =>
    have hzz : (s.size : Int) < (z : Int) := by omega
    have Hn := Lib.hid (show headOk (bl s) = false by unfold headOk; rw [at1_eq s (by omega), hx1, ← Hz.out, bl_length]; simp; omega)
    go_wp2_with fail
    refine bodyPost_ret (v := .tuple #[zeroHead, .bool false]) (by simp [results, Tryd.results50, go_sem, zeroHead]) rfl ⟨by rw [headRet, Hn.out]; rfl, ?_⟩
    exact (hBW.alloc (by simp) _).drew
  have hzz : (z : Int) ≤ (s.size : Int) := by omega
  have hzd : decide (s.size < z) = false := by simp; omega
  go_upto_region 18 with fail
  go_wp2_with fail
  go_loopg [6, 7, 63] (m + 1) (fun gk n i c wr => ∃ k b : Nat, k ≤ m ∧ gk = m - k + 1 ∧ c = .int .i64 k ∧ n = .int .u64 b ∧ b < 256 ^ k ∧ Hid (b = bigN (((bl s).drop 2).take k)) ∧
    wr = ((w.alloc (.cells #[.bool false, .bool false, .int .i64 0, .string ⟨#[]⟩, .string ⟨#[]⟩, .int .i64 0, .int .i64 0, .bool false, .int .i64 0] 90)).alloc (.cells #[.bool fB, .bool (hiB x1), .int .i64 o, .string ⟨#[]⟩, .string ⟨#[]⟩, .int .i64 z, .int .i64 L0, .bool false, .int .i64 0] 90)).drew)
  case atStart => exact ⟨0, 0, Nat.zero_le _, rfl, rfl, rfl, by simp, by show _ = _; simp [bigN], rfl⟩
  case round =>
    obtain ⟨k, b, hk, rfl, rfl, rfl, hb, Hb, rfl⟩ := hrel
    by_cases hlt : k < m
    · have hi : (2 + k : Nat) < s.size := by
        have h1 := Hz.out
        have h2 := Hmm.out
        unfold hsizeN at h1
        omega
      obtain ⟨y, hy⟩ : ∃ y, s[2 + k]'hi = y := ⟨_, rfl⟩
      have hb7 : b < 72057594037927936 := by
        have : 256 ^ k ≤ 256 ^ 7 := Nat.pow_le_pow_right (by omega) (by omega)
        omega
      have hwy : IntKind.u64.wrap (y.toNat : Int) = y.toNat := by rw [IntKind.wrap_u64]; have := y.toNat_lt; omega
      have hor : bits .or .u64 ((b : Int) * 256) (y.toNat : Int) = ((256 * b + y.toNat : Nat) : Int) := or_byte b y hb7
      have hi1 : (2 : Int) + (k : Int) < (s.size : Int) := by omega
      have Hy := Lib.hid (big_step (bl s) k y (by rw [bl_length]; omega) (by rw [← hy]; rfl))
      have Hlt := Lib.hid (big_lt b k y hb)
      go_wp2_with fail
      go_roundg (m - (k + 1) + 1)
      case measure => omega
      case rel => exact ⟨k + 1, 256 * b + y.toNat, by omega, rfl, by go_num, by go_num, Hlt.out, by show _ = _; rw [Hy.out, ← Hb.out], rfl⟩
    · obtain rfl : k = m := by omega
      go_upto_region 23 with fail
      have hL : at1 (bl s) = x1 := by rw [← hx1]; exact at1_eq s _
      have hsh : shortB (bl s) = (k == 2 && decide (b ≤ 125) || k == 8 && decide (b ≤ 65535)) := shortB_of _ (by rw [hL]; exact Hmm.out) Hb.out
      have Hsh := Lib.hid hsh
      have HL := Lib.hid hL
      clear hsh hL
      have h63 : b < 18446744073709551616 := u64_of hb hk
      go_cut [8] (fun v wx => v = .bool (shortB (bl s)) ∧ wx = ((w.alloc (.cells #[.bool false, .bool false, .int .i64 0, .string ⟨#[]⟩, .string ⟨#[]⟩, .int .i64 0, .int .i64 0, .bool false, .int .i64 0] 90)).alloc (.cells #[.bool fB, .bool (hiB x1), .int .i64 o, .string ⟨#[]⟩, .string ⟨#[]⟩, .int .i64 z, .int .i64 L0, .bool false, .int .i64 0] 90)).drew)
      case first =>
        clear h63
        rcases Hms.out with hk0 | hk2 | hk8
        · have e2 : ((k : Int) == 2) = false := by simp; omega
          have e8 : ((k : Int) == 8) = false := by simp; omega
          have Hk := Lib.hid hk0
          clear hk0
          go_wp2_with fail
          go_meet
          exact ⟨by rw [Hsh.out, Hk.out]; rfl, rfl⟩
        · have e2 : ((k : Int) == 2) = true := by simp; omega
          have e8 : ((k : Int) == 8) = false := by simp; omega
          have Hk := Lib.hid hk2
          clear hk2
          by_cases hd : (b : Int) ≤ 125
          · go_wp2_with fail
            go_meet
            exact ⟨by rw [Hsh.out, Hk.out]; simp; omega, rfl⟩
          · go_wp2_with fail
            go_meet
            exact ⟨by rw [Hsh.out, Hk.out]; simp; omega, rfl⟩
        · have e2 : ((k : Int) == 2) = false := by simp; omega
          have e8 : ((k : Int) == 8) = true := by simp; omega
          have Hk := Lib.hid hk8
          clear hk8
          by_cases hd : (b : Int) ≤ 65535
          · go_wp2_with fail
            go_meet
            exact ⟨by rw [Hsh.out, Hk.out]; simp; omega, rfl⟩
          · go_wp2_with fail
            go_meet
            exact ⟨by rw [Hsh.out, Hk.out]; simp; omega, rfl⟩
      case rest =>
      obtain ⟨rfl, rfl⟩ := hcut
      obtain ⟨Ln, hLn⟩ : ∃ Ln, Ln = b % half := ⟨_, rfl⟩
      have hLb : Ln ≤ 9223372036854775807 := mod_half hLn
      have hand : bits .and .u64 (b : Int) 9223372036854775807 = (Ln : Int) := by rw [hLn]; exact and_half b h63
      have HLn := Lib.hid hLn
      clear hLn
      go_upto_if 90 with fail
      go_cut [] (fun wx => ∃ (Lq : Nat) (lg : Bool), Hid (Lq = lenN (bl s) % half) ∧ Hid (lg = decide (half ≤ lenN (bl s))) ∧
         wx = ((w.alloc (.cells #[.bool false, .bool false, .int .i64 0, .string ⟨#[]⟩, .string ⟨#[]⟩, .int .i64 0, .int .i64 0, .bool false, .int .i64 0] 90)).alloc (.cells #[.bool fB, .bool (hiB x1), .int .i64 o, .string ⟨#[]⟩, .string ⟨#[]⟩, .int .i64 z, .int .i64 Lq, .bool lg, .int .i64 0] 90)).drew)
      case first =>
        by_cases hk0 : (0 : Int) < (k : Int)
        · go_wp2_with fail
          go_meet
          exact ⟨Ln, _, by show _ = _; rw [len_big (k := k) _ (by rw [HL.out]; exact Hmm.out) (by omega), ← Hb.out]; exact HLn.out, by show _ = _; rw [len_big (k := k) _ (by rw [HL.out]; exact Hmm.out) (by omega), ← Hb.out]; exact gt_half b, rfl⟩
        · go_wp2_with fail
          go_meet
          exact ⟨L0, false, by show _ = _; exact len_small (x1 := x1) _ HL.out (by rw [Hmm.out]; omega) (by rw [HL0.out, if_pos (by omega)]), by show _ = _; exact (len_small2 (x1 := x1) _ HL.out (by rw [Hmm.out]; omega)), rfl⟩
      case rest =>
      obtain ⟨Lq, lg, HLq, Hlg, rfl⟩ := hcut
      go_upto_if 100 with fail
      go_cut [] (fun wx => ∃ M : ByteArray, Hid (bl M = maskOf (bl s)) ∧
         wx = ((w.alloc (.cells #[.bool false, .bool false, .int .i64 0, .string ⟨#[]⟩, .string ⟨#[]⟩, .int .i64 0, .int .i64 0, .bool false, .int .i64 0] 90)).alloc (.cells #[.bool fB, .bool (hiB x1), .int .i64 o, .string M, .string ⟨#[]⟩, .int .i64 z, .int .i64 Lq, .bool lg, .int .i64 0] 90)).drew)
      case first =>
        have hzz2 := Hz.out
        cases hh : hiB x1
        · go_wp2_with fail
          go_meet
          exact ⟨⟨#[]⟩, by show _ = _; rw [maskOf, HL.out, hh]; rfl, by rw [hh]⟩
        · have hz6 : (4 : Int) ≤ (z : Int) := by rw [hsizeN, hh] at hzz2; simp at hzz2; omega
          clear hzz2
          go_wp2_with fail
          go_meet
          exact ⟨s.extract (z - 4) z, by show _ = _; rw [maskOf, HL.out, hh, bl_extract, ← Hz.out]; simp only [if_true]; congr 1; omega, by rw [hh]⟩
      case rest =>
      obtain ⟨M, HMk, rfl⟩ := hcut
      have Hret := fun e he => Lib.hid (headRet_of s (x0 := x0) (x1 := x1) (fB := fB) (o := o) (z := z) (Lq := Lq) (lg := lg) (M := M) (e := e) (by omega) (by rw [← hx0]; exact at0_eq s _) HL.out Hff.out Hoo.out Hz.out (by omega) HMk.out HLq.out Hlg.out he)
      have hO := isOp_any o
      have hC := control_any o
      have HE := Lib.hid (errN_of (bl s) (x0 := x0) (x1 := x1) (fB := fB) (o := o) (k := k) (by rw [← hx0]; exact at0_eq s _) HL.out Hff.out Hoo.out Hmm.out)
      generalize hR : decide (x0.toNat / 16 % 8 ≠ 0) = R at *
      generalize hI : isOpB o = I at *
      generalize hCC : controlB o = C at *
      generalize hSH : shortB (bl s) = SH at *
      clear hR hI hCC hSH
      cases R
      case true =>
        (go_wp2_with (first | (go_at_call 40; refine (hO _).mono ?_; rintro e w' ⟨rfl, rfl⟩) | (go_at_call 41; refine (hC _).mono ?_; rintro e w' ⟨rfl, rfl⟩)); exact bodyPost_ret (v := .tuple #[.agg #[.bool fB, .bool (hiB x1), .int .i64 o, .string M, .string ⟨#[]⟩, .int .i64 z, .int .i64 Lq, .bool lg, .int .i64 226], .bool true]) (by simp [results, Tryd.results50, go_sem]) rfl ⟨by rw [(Hret 226 (by rw [HE.out]; simp)).out], (((Below.refl _ _).alloc (Nat.le_refl _) _).alloc (by simp) _).drew⟩)
      cases I
      case false =>
        (go_wp2_with (first | (go_at_call 40; refine (hO _).mono ?_; rintro e w' ⟨rfl, rfl⟩) | (go_at_call 41; refine (hC _).mono ?_; rintro e w' ⟨rfl, rfl⟩)); exact bodyPost_ret (v := .tuple #[.agg #[.bool fB, .bool (hiB x1), .int .i64 o, .string M, .string ⟨#[]⟩, .int .i64 z, .int .i64 Lq, .bool lg, .int .i64 221], .bool true]) (by simp [results, Tryd.results50, go_sem]) rfl ⟨by rw [(Hret 221 (by rw [HE.out]; simp)).out], (((Below.refl _ _).alloc (Nat.le_refl _) _).alloc (by simp) _).drew⟩)
      by_cases hk0 : (0 : Int) < (k : Int)
      · have HK : Hid (decide (0 < k) = true) := Lib.hid (by simp; omega)
        have hd0 : decide (0 < k) = true := HK.out
        cases C
        · cases SH
          · (go_wp2_with (first | (go_at_call 40; refine (hO _).mono ?_; rintro e w' ⟨rfl, rfl⟩) | (go_at_call 41; refine (hC _).mono ?_; rintro e w' ⟨rfl, rfl⟩)); exact bodyPost_ret (v := .tuple #[.agg #[.bool fB, .bool (hiB x1), .int .i64 o, .string M, .string ⟨#[]⟩, .int .i64 z, .int .i64 Lq, .bool lg, .int .i64 0], .bool true]) (by simp [results, Tryd.results50, go_sem]) rfl ⟨by rw [(Hret 0 (by rw [HE.out]; simp [HK.out])).out], (((Below.refl _ _).alloc (Nat.le_refl _) _).alloc (by simp) _).drew⟩)
          · (go_wp2_with (first | (go_at_call 40; refine (hO _).mono ?_; rintro e w' ⟨rfl, rfl⟩) | (go_at_call 41; refine (hC _).mono ?_; rintro e w' ⟨rfl, rfl⟩)); exact bodyPost_ret (v := .tuple #[.agg #[.bool fB, .bool (hiB x1), .int .i64 o, .string M, .string ⟨#[]⟩, .int .i64 z, .int .i64 Lq, .bool lg, .int .i64 225], .bool true]) (by simp [results, Tryd.results50, go_sem]) rfl ⟨by rw [(Hret 225 (by rw [HE.out]; simp [HK.out])).out], (((Below.refl _ _).alloc (Nat.le_refl _) _).alloc (by simp) _).drew⟩)
        · cases fB
          · (go_wp2_with (first | (go_at_call 40; refine (hO _).mono ?_; rintro e w' ⟨rfl, rfl⟩) | (go_at_call 41; refine (hC _).mono ?_; rintro e w' ⟨rfl, rfl⟩)); exact bodyPost_ret (v := .tuple #[.agg #[.bool false, .bool (hiB x1), .int .i64 o, .string M, .string ⟨#[]⟩, .int .i64 z, .int .i64 Lq, .bool lg, .int .i64 222], .bool true]) (by simp [results, Tryd.results50, go_sem]) rfl ⟨by rw [(Hret 222 (by rw [HE.out]; simp [HK.out])).out], (((Below.refl _ _).alloc (Nat.le_refl _) _).alloc (by simp) _).drew⟩)
          · (go_wp2_with (first | (go_at_call 40; refine (hO _).mono ?_; rintro e w' ⟨rfl, rfl⟩) | (go_at_call 41; refine (hC _).mono ?_; rintro e w' ⟨rfl, rfl⟩)); exact bodyPost_ret (v := .tuple #[.agg #[.bool true, .bool (hiB x1), .int .i64 o, .string M, .string ⟨#[]⟩, .int .i64 z, .int .i64 Lq, .bool lg, .int .i64 222], .bool true]) (by simp [results, Tryd.results50, go_sem]) rfl ⟨by rw [(Hret 222 (by rw [HE.out]; simp [HK.out])).out], (((Below.refl _ _).alloc (Nat.le_refl _) _).alloc (by simp) _).drew⟩)
      · have HK : Hid (decide (0 < k) = false) := Lib.hid (by simp; omega)
        have hd0 : decide (0 < k) = false := HK.out
        cases C
        · cases SH
          · (go_wp2_with (first | (go_at_call 40; refine (hO _).mono ?_; rintro e w' ⟨rfl, rfl⟩) | (go_at_call 41; refine (hC _).mono ?_; rintro e w' ⟨rfl, rfl⟩)); exact bodyPost_ret (v := .tuple #[.agg #[.bool fB, .bool (hiB x1), .int .i64 o, .string M, .string ⟨#[]⟩, .int .i64 z, .int .i64 Lq, .bool lg, .int .i64 0], .bool true]) (by simp [results, Tryd.results50, go_sem]) rfl ⟨by rw [(Hret 0 (by rw [HE.out]; simp [HK.out])).out], (((Below.refl _ _).alloc (Nat.le_refl _) _).alloc (by simp) _).drew⟩)
          · (go_wp2_with (first | (go_at_call 40; refine (hO _).mono ?_; rintro e w' ⟨rfl, rfl⟩) | (go_at_call 41; refine (hC _).mono ?_; rintro e w' ⟨rfl, rfl⟩)); exact bodyPost_ret (v := .tuple #[.agg #[.bool fB, .bool (hiB x1), .int .i64 o, .string M, .string ⟨#[]⟩, .int .i64 z, .int .i64 Lq, .bool lg, .int .i64 225], .bool true]) (by simp [results, Tryd.results50, go_sem]) rfl ⟨by rw [(Hret 225 (by rw [HE.out]; simp [HK.out])).out], (((Below.refl _ _).alloc (Nat.le_refl _) _).alloc (by simp) _).drew⟩)
        · cases fB
          · (go_wp2_with (first | (go_at_call 40; refine (hO _).mono ?_; rintro e w' ⟨rfl, rfl⟩) | (go_at_call 41; refine (hC _).mono ?_; rintro e w' ⟨rfl, rfl⟩)); exact bodyPost_ret (v := .tuple #[.agg #[.bool false, .bool (hiB x1), .int .i64 o, .string M, .string ⟨#[]⟩, .int .i64 z, .int .i64 Lq, .bool lg, .int .i64 222], .bool true]) (by simp [results, Tryd.results50, go_sem]) rfl ⟨by rw [(Hret 222 (by rw [HE.out]; simp [HK.out])).out], (((Below.refl _ _).alloc (Nat.le_refl _) _).alloc (by simp) _).drew⟩)
          · cases SH
            · (go_wp2_with (first | (go_at_call 40; refine (hO _).mono ?_; rintro e w' ⟨rfl, rfl⟩) | (go_at_call 41; refine (hC _).mono ?_; rintro e w' ⟨rfl, rfl⟩)); exact bodyPost_ret (v := .tuple #[.agg #[.bool true, .bool (hiB x1), .int .i64 o, .string M, .string ⟨#[]⟩, .int .i64 z, .int .i64 Lq, .bool lg, .int .i64 0], .bool true]) (by simp [results, Tryd.results50, go_sem]) rfl ⟨by rw [(Hret 0 (by rw [HE.out]; simp [HK.out])).out], (((Below.refl _ _).alloc (Nat.le_refl _) _).alloc (by simp) _).drew⟩)
            · (go_wp2_with (first | (go_at_call 40; refine (hO _).mono ?_; rintro e w' ⟨rfl, rfl⟩) | (go_at_call 41; refine (hC _).mono ?_; rintro e w' ⟨rfl, rfl⟩)); exact bodyPost_ret (v := .tuple #[.agg #[.bool true, .bool (hiB x1), .int .i64 o, .string M, .string ⟨#[]⟩, .int .i64 z, .int .i64 Lq, .bool lg, .int .i64 225], .bool true]) (by simp [results, Tryd.results50, go_sem]) rfl ⟨by rw [(Hret 225 (by rw [HE.out]; simp [HK.out])).out], (((Below.refl _ _).alloc (Nat.le_refl _) _).alloc (by simp) _).drew⟩)
end Go.Proofs.YtmgfpjfamdbhbaaDoor
