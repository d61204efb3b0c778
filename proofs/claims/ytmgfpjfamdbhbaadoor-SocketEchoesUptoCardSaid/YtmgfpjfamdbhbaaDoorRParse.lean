/- The reference's head, wrongHead and Parse; the string is shorter than 2^62 bytes. -/
import Derived.Test.YtmgfpjfamdbhbaaDoorRHead
import Derived.Test.YtmgfpjfamdbhbaaDoorMask
import Derived.Test.YtmgfpjfamdbhbaaDoorHd
import Derived.Deep.LoopGhost
import Derived.Deep.RegionHeld3
namespace Go.Proofs.YtmgfpjfamdbhbaaDoor
open Go.RowKit

theorem big_mono_aux (l : List UInt8) : ∀ (d : Nat) (n : Nat), n ≤ (l.take d).foldl (fun n b => 256 * n + b.toNat) n := by
  induction l with
  | nil => intro d n; simp
  | cons b l ih =>
    intro d n
    cases d with
    | zero => simp
    | succ d => rw [List.take_succ_cons, List.foldl_cons]; exact Nat.le_trans (by omega) (ih d _)
theorem big_mono (l : List UInt8) {k m : Nat} (h : k ≤ m) : bigN ((l.drop 2).take k) ≤ bigN ((l.drop 2).take m) := by
  obtain ⟨d, rfl⟩ : ∃ d, m = k + d := ⟨m - k, by omega⟩
  rw [List.take_add]
  unfold bigN
  rw [List.foldl_append]
  exact big_mono_aux _ _ _

/-- the reference's length: -1 where it is above all -/
def rlenI (s : List UInt8) : Int := if half ≤ lenN s then -1 else lenN s
def rheadV (s : List UInt8) : Value := if headOk s then .tuple #[.int .i64 (hsizeN (at1 s) : Nat), .int .i64 (rlenI s), .bool (!shortB s)] else .tuple #[.int .i64 0, .int .i64 0, .bool false]

set_option maxHeartbeats 1000000 in
set_option maxRecDepth 100000 in
theorem rhead_any (s : ByteArray) (w : World) (hs : s.size ≤ 4611686018427387904) :
    Calls Tryd.prog 56 #[.string s] w fun e w' => e = .returned (rheadV (bl s)) ∧ w = w' := by
  by_cases h2 : s.size < 2
  · have HR := Lib.hid (show rheadV (bl s) = .tuple #[.int .i64 0, .int .i64 0, .bool false] by
      have : headOk (bl s) = false := by unfold headOk; rw [bl_length]; simp; omega
      rw [rheadV, this]; rfl)
    have h2z : (s.size : Int) < 2 := by omega
    have H2 := Lib.hid h2
    go_enter Tryd.func56, Tryd.ntmps56
    go_wp2_with fail
    go_ret3
    exact ⟨by rw [HR.out]; rfl, rfl⟩
  have h2z : ¬ (s.size : Int) < 2 := by omega
  have h1 : (1 : Int) < (s.size : Int) := by omega
  obtain ⟨x1, hx1⟩ : ∃ x1, s[1]'(by omega) = x1 := ⟨_, rfl⟩
  have Hx1 := Lib.hid ((at1_eq s (by omega)).trans hx1)
  obtain ⟨q, hq⟩ : ∃ q, x1.toNat % 128 = q := ⟨_, rfl⟩
  have hqi : (x1.toNat : Int) % 128 = (q : Int) := by omega
  have hq128 : q < 128 := by omega
  have Hq := Lib.hid hq
  clear hq
  go_enter Tryd.func56, Tryd.ntmps56
  go_upto_if 17 with fail
  go_cut [5] (fun a wx => ∃ m : Nat, a = .int .i64 m ∧ Hid (m = if q = 126 then 2 else 0) ∧ w = wx)
  case first =>
    by_cases c6 : q = 126
    · have Hm := Lib.hid (show 2 = if q = 126 then 2 else 0 by rw [if_pos c6])
      have e6 : ((q : Int) == 126) = true := by simp; omega
      clear c6
      go_wp2_with fail
      go_meet
      exact ⟨2, rfl, Hm.out, rfl⟩
    · have Hm := Lib.hid (show 0 = if q = 126 then 2 else 0 by rw [if_neg c6])
      have e6 : ((q : Int) == 126) = false := by simp; omega
      clear c6
      go_wp2_with fail
      go_meet
      exact ⟨0, rfl, Hm.out, rfl⟩
  case rest =>
  obtain ⟨m0, rfl, Hm0, rfl⟩ := hcut
  go_upto_if 19 with fail
  go_cut [5] (fun a wx => ∃ m : Nat, a = .int .i64 m ∧ Hid (m = moreN x1) ∧ w = wx)
  case first =>
    by_cases c7 : q = 127
    · have Hm := Lib.hid (show 8 = moreN x1 by simp [moreN, Hq.out, c7])
      have e6 : ((q : Int) == 127) = true := by simp; omega
      clear c7
      go_wp2_with fail
      go_meet
      exact ⟨8, rfl, Hm.out, rfl⟩
    · have Hm := Lib.hid (show m0 = moreN x1 by rw [Hm0.out]; simp [moreN, Hq.out, c7])
      have e6 : ((q : Int) == 127) = false := by simp; omega
      clear c7
      go_wp2_with fail
      go_meet
      exact ⟨m0, rfl, Hm.out, rfl⟩
  case rest =>
  obtain ⟨m, rfl, Hm, rfl⟩ := hcut
  clear Hm0
  have hmn : m ≤ 8 := by have := moreN_cases x1; rw [Hm.out]; omega
  have Hms := Lib.hid (show m = 0 ∨ m = 2 ∨ m = 8 by rw [Hm.out]; exact moreN_cases x1)
  go_upto_if 24 with fail
  go_cut [7] (fun a wx => ∃ z : Nat, a = .int .i64 z ∧ Hid (z = hsizeN x1) ∧ z ≤ 14 ∧ 2 ≤ z ∧ w = wx)
  case first =>
    by_cases hh : 128 ≤ x1.toNat
    · have Hz := Lib.hid (show 2 + m + 4 = hsizeN x1 by rw [hsizeN, Hm.out, hiB, if_pos (by simpa using hh)])
      have e1 : (128 : Int) ≤ (x1.toNat : Int) := by omega
      clear hh
      go_wp2_with fail
      go_meet
      exact ⟨2 + m + 4, rfl, Hz.out, by omega, by omega, rfl⟩
    · have Hz := Lib.hid (show 2 + m = hsizeN x1 by rw [hsizeN, Hm.out, hiB, if_neg (by simpa using hh)]; rfl)
      have e1 : ¬ (128 : Int) ≤ (x1.toNat : Int) := by omega
      clear hh
      go_wp2_with fail
      go_meet
      exact ⟨2 + m, rfl, Hz.out, by omega, by omega, rfl⟩
  case rest =>
  obtain ⟨z, rfl, Hz, hz14, hz2, rfl⟩ := hcut
  by_cases hok : z ≤ s.size
  case neg =>
    have HR := Lib.hid (show rheadV (bl s) = .tuple #[.int .i64 0, .int .i64 0, .bool false] by
      have : headOk (bl s) = false := by unfold headOk; rw [Hx1.out, ← Hz.out, bl_length]; simp; omega
      rw [rheadV, this]; rfl)
    have hzz : (s.size : Int) < (z : Int) := by omega
    clear hok
    go_wp2_with fail
    go_ret3
    exact ⟨by rw [HR.out]; rfl, rfl⟩
  have hzz : ¬ (s.size : Int) < (z : Int) := by omega
  have HR := Lib.hid (show rheadV (bl s) = .tuple #[.int .i64 z, .int .i64 (rlenI (bl s)), .bool (!shortB (bl s))] by
    have : headOk (bl s) = true := by unfold headOk; rw [Hx1.out, ← Hz.out, bl_length]; simp; omega
    rw [rheadV, this, Hx1.out, ← Hz.out]; rfl)
  have hzm : m + 2 ≤ z := by rw [Hz.out, Hm.out]; unfold hsizeN; omega
  by_cases hm0 : m = 0
  · have HQ := Lib.hid (show rlenI (bl s) = (q : Int) ∧ shortB (bl s) = false by
      have hl : lenN (bl s) = q := by unfold lenN; rw [Hx1.out, ← Hm.out, if_pos hm0, Hq.out]
      refine ⟨?_, ?_⟩
      · unfold rlenI; rw [hl, if_neg (by unfold half; omega)]
      · unfold shortB; rw [Hx1.out, ← Hm.out, hm0]; rfl)
    subst hm0
    go_wp2_with fail
    go_ret3
    exact ⟨by rw [HR.out, HQ.out.1, HQ.out.2]; rfl, rfl⟩
  have hm0' : ((m : Int) == 0) = false := by simp; omega
  have hm2 : 2 ≤ m := by rcases Hms.out with h | h | h <;> omega
  have Hlen := Lib.hid (show lenN (bl s) = bigN (((bl s).drop 2).take m) by unfold lenN; rw [Hx1.out, ← Hm.out, if_neg hm0])
  clear hm0
  go_wp2_with fail
  go_loopg [6, 8, 41] (m + 1) (fun gk a i _ wr => ∃ k b : Nat, k ≤ m ∧ gk = m - k + 1 ∧ i = .int .i64 k ∧ a = .int .i64 b ∧ Hid (b < 256 ^ k) ∧ Hid (b < 9223372036854775808) ∧ Hid (b = bigN (((bl s).drop 2).take k)) ∧ w = wr)
  case atStart => exact ⟨0, 0, Nat.zero_le _, rfl, rfl, rfl, Lib.hid (by simp), Lib.hid (by omega), by show _ = _; simp [bigN], rfl⟩
  case round =>
    obtain ⟨k, b, hk, rfl, rfl, rfl, HB1, HB63, Hb, rfl⟩ := hrel
    by_cases hlt : k < m
    · have hi : (2 + k : Nat) < s.size := by omega
      obtain ⟨y, hy⟩ : ∃ y, s[2 + k]'hi = y := ⟨_, rfl⟩
      have Hy := Lib.hid (big_step (bl s) k y (by rw [bl_length]; omega) (by rw [← hy]; rfl))
      have Hlt := Lib.hid (big_lt b k y HB1.out)
      have hi1 : (2 : Int) + (k : Int) < (s.size : Int) := by omega
      have hyl : (y.toNat : Int) < 256 := by have := y.toNat_lt; omega
      have hy0 : (0 : Int) ≤ (y.toNat : Int) := by omega
      by_cases hc : b < 36028797018963968
      · have e1 : (b : Int) ≤ 36028797018963967 := by omega
        have e0 : decide ((36028797018963968 : Int) ≤ (b : Int)) = false := by simp; omega
        clear hc
        go_wp2_with fail
        go_roundg (m - (k + 1) + 1)
        case measure => omega
        case rel => exact ⟨k + 1, 256 * b + y.toNat, by omega, rfl, by go_num, by go_num, Hlt, Lib.hid (by omega), by show _ = _; rw [Hy.out, ← Hb.out], rfl⟩
      · have e1 : ((36028797018963968 : Int) ≤ (b : Int)) := by omega
        have HB := Lib.hid (show half ≤ lenN (bl s) by
          rw [Hlen.out]
          have h1 : 256 * b ≤ bigN (((bl s).drop 2).take (k + 1)) := by rw [Hy.out, ← Hb.out]; omega
          have h3 := big_mono (bl s) (k := k + 1) (m := m) (by omega)
          unfold half; omega)
        have HQ := Lib.hid (show rlenI (bl s) = -1 ∧ shortB (bl s) = false by
          have := HB.out
          refine ⟨by unfold rlenI; rw [if_pos this], ?_⟩
          unfold half at this
          unfold shortB
          rw [Bool.or_eq_false_iff, Bool.and_eq_false_iff, Bool.and_eq_false_iff]
          exact ⟨.inr (by simp; omega), .inr (by simp; omega)⟩)
        clear hc
        go_wp2_with fail
        go_ret3
        exact ⟨by rw [HR.out, HQ.out.1, HQ.out.2]; rfl, rfl⟩
    · obtain rfl : k = m := by omega
      have HQ := Lib.hid (show rlenI (bl s) = (b : Int) ∧ shortB (bl s) = ((k == 2) && decide (b ≤ 125) || (k == 8) && decide (b ≤ 65535)) by
        have hl : lenN (bl s) = b := by rw [Hlen.out, ← Hb.out]
        refine ⟨?_, ?_⟩
        · unfold rlenI; rw [hl, if_neg (by have := HB63.out; unfold half; omega)]
        · unfold shortB; rw [Hx1.out, ← Hm.out, hl])
      have hk2 : k = 2 ∨ k = 8 := by rcases Hms.out with h | h | h <;> omega
      have Hk2 := Lib.hid hk2
      clear hk2 Hms
      rcases Hk2.out with rfl | rfl
      · by_cases c : b ≤ 125
        · have e1 : ¬ ((125 : Int) < (b : Int)) := by omega
          go_wp2_with fail
          go_ret3
          exact ⟨by rw [HR.out, HQ.out.1, HQ.out.2]; simp [c], rfl⟩
        · have e1 : ((125 : Int) < (b : Int)) := by omega
          go_wp2_with fail
          go_ret3
          exact ⟨by rw [HR.out, HQ.out.1, HQ.out.2]; simp [c], rfl⟩
      · by_cases c : b ≤ 65535
        · have e1 : ¬ ((65535 : Int) < (b : Int)) := by omega
          go_wp2_with fail
          go_ret3
          exact ⟨by rw [HR.out, HQ.out.1, HQ.out.2]; simp [c], rfl⟩
        · have e1 : ((65535 : Int) < (b : Int)) := by omega
          go_wp2_with fail
          go_ret3
          exact ⟨by rw [HR.out, HQ.out.1, HQ.out.2]; simp [c], rfl⟩

theorem more_gt (x : UInt8) : decide (0 < moreN x) = decide (125 < x.toNat % 128) := by
  rw [decide_eq_decide]; unfold moreN; split
  · omega
  · split <;> omega
theorem wrongN_of (l : List UInt8) {x0 x1 : UInt8} {o : Nat} (h0 : at0 l = x0) (h1 : at1 l = x1) (ho : x0.toNat % 16 = o) :
    wrongN l = if x0.toNat / 16 % 8 ≠ 0 then 226 else if isOpB (o : Int) = false then 221 else if 8 ≤ o ∧ (x0.toNat < 128 ∨ 125 < x1.toNat % 128) then 222 else 0 := by
  have hop : opN l = (o : Int) := by unfold opN; rw [h0, ho]
  unfold wrongN
  rw [hop, h0, h1]
  by_cases p : x0.toNat / 16 % 8 ≠ 0
  · rw [if_pos p, if_pos p]
  rw [if_neg p, if_neg p]
  by_cases q : isOpB (o : Int) = false
  · rw [if_pos q, if_pos q]
  rw [if_neg q, if_neg q]
  have hc : controlB (o : Int) = decide (8 ≤ o) := by
    have := isOp_cases (op := (o : Int)) (by simpa using q)
    unfold controlB; rw [decide_eq_decide]; omega
  rw [hc, more_gt]
  congr 1
  simp only [hiB, Bool.and_eq_true, Bool.or_eq_true, Bool.not_eq_true', decide_eq_true_eq, decide_eq_false_iff_not, eq_iff_iff]
  omega

set_option maxHeartbeats 1000000 in
set_option maxRecDepth 100000 in
theorem rwrongHead_any (s : ByteArray) (w : World) (h2 : 2 ≤ s.size) :
    Calls Tryd.prog 57 #[.string s] w fun e w' => e = .returned (.int .i64 (wrongN (bl s))) ∧ w = w' := by
  obtain ⟨x0, hx0⟩ : ∃ x0, s[0]'(by omega) = x0 := ⟨_, rfl⟩
  obtain ⟨x1, hx1⟩ : ∃ x1, s[1]'(by omega) = x1 := ⟨_, rfl⟩
  obtain ⟨o, ho⟩ : ∃ o, x0.toNat % 16 = o := ⟨_, rfl⟩
  have hW := wrongN_of (bl s) ((at0_eq s (by omega)).trans hx0) ((at1_eq s (by omega)).trans hx1) ho
  have h0 : (0 : Int) < (s.size : Int) := by omega
  have h1 : (1 : Int) < (s.size : Int) := by omega
  have hoi : (x0.toNat : Int) % 16 = (o : Int) := by omega
  obtain ⟨R, hR⟩ : ∃ R, wrongN (bl s) = R := ⟨_, rfl⟩
  rw [hR] at hW ⊢
  have HW := Lib.hid hW
  have hO := risOp_any (o : Int)
  obtain ⟨I, hI⟩ : ∃ I, isOpB (o : Int) = I := ⟨_, rfl⟩
  rw [hI] at hO
  have HI := Lib.hid hI
  have Ho := Lib.hid ho
  clear hW hR hI ho
  by_cases p : x0.toNat / 16 % 8 ≠ 0
  · have HR := Lib.hid (show R = 226 by rw [HW.out, if_pos p])
    have e1 : ((x0.toNat : Int) / 16 % 8 != 0) = true := by simp; omega
    clear p
    go_enter Tryd.func57, Tryd.ntmps57
    go_wp2_with (first | (go_at_call 42; refine (hO _).mono ?_; rintro e w' ⟨rfl, rfl⟩))
    go_ret
    exact ⟨by rw [HR.out]; rfl, rfl⟩
  have e1 : ((x0.toNat : Int) / 16 % 8 != 0) = false := by simp; omega
  have Hp := Lib.hid p
  clear p
  cases I
  · have HR := Lib.hid (show R = 221 by rw [HW.out, if_neg Hp.out, if_pos HI.out])
    go_enter Tryd.func57, Tryd.ntmps57
    go_wp2_with (first | (go_at_call 42; refine (hO _).mono ?_; rintro e w' ⟨rfl, rfl⟩))
    go_ret
    exact ⟨by rw [HR.out]; rfl, rfl⟩
  have HR0 := Lib.hid (show R = if 8 ≤ o ∧ (x0.toNat < 128 ∨ 125 < x1.toNat % 128) then 222 else 0 by rw [HW.out, if_neg Hp.out, if_neg (by rw [HI.out]; simp)])
  by_cases q1 : 8 ≤ o
  · have d1 : (8 : Int) ≤ (o : Int) := by omega
    by_cases q2 : x0.toNat < 128
    · have d2 : (x0.toNat : Int) < 128 := by omega
      have HR := Lib.hid (show R = 222 by rw [HR0.out, if_pos ⟨q1, .inl q2⟩])
      clear q1 q2
      go_enter Tryd.func57, Tryd.ntmps57
      go_wp2_with (first | (go_at_call 42; refine (hO _).mono ?_; rintro e w' ⟨rfl, rfl⟩))
      go_ret
      exact ⟨by rw [HR.out]; rfl, rfl⟩
    · have d2 : ¬ (x0.toNat : Int) < 128 := by omega
      by_cases q3 : 125 < x1.toNat % 128
      · have d3 : (125 : Int) < (x1.toNat : Int) % 128 := by omega
        have HR := Lib.hid (show R = 222 by rw [HR0.out, if_pos ⟨q1, .inr q3⟩])
        clear q1 q2 q3
        go_enter Tryd.func57, Tryd.ntmps57
        go_wp2_with (first | (go_at_call 42; refine (hO _).mono ?_; rintro e w' ⟨rfl, rfl⟩))
        go_ret
        exact ⟨by rw [HR.out]; rfl, rfl⟩
      · have d3 : ¬ (125 : Int) < (x1.toNat : Int) % 128 := by omega
        have HR := Lib.hid (show R = 0 by rw [HR0.out, if_neg (by omega)])
        clear q1 q2 q3
        go_enter Tryd.func57, Tryd.ntmps57
        go_wp2_with (first | (go_at_call 42; refine (hO _).mono ?_; rintro e w' ⟨rfl, rfl⟩))
        go_ret
        exact ⟨by rw [HR.out]; rfl, rfl⟩
  · have d1 : ¬ (8 : Int) ≤ (o : Int) := by omega
    have HR := Lib.hid (show R = 0 by rw [HR0.out, if_neg (by omega)])
    clear q1
    go_enter Tryd.func57, Tryd.ntmps57
    go_wp2_with (first | (go_at_call 42; refine (hO _).mono ?_; rintro e w' ⟨rfl, rfl⟩))
    go_ret
    exact ⟨by rw [HR.out]; rfl, rfl⟩

theorem ctl_small {l : List UInt8} (h : wrongN l = 0) (h8 : ¬ opN l < 8) : lenN l < half := by
  unfold wrongN at h
  split at h
  · cases h
  split at h
  · cases h
  · rename_i h1 h2
    split at h
    · cases h
    · rename_i h3
      have hop := isOp_cases (op := opN l) (by simpa using h2)
      have hc : controlB (opN l) = true := by unfold controlB; simp; omega
      rw [hc] at h3
      simp at h3
      unfold lenN
      rw [if_pos h3.2]
      unfold half; omega

/-- a frame -/
structure FR where
  fin : Bool
  msk : Bool
  op : Int
  mask : List UInt8
  body : List UInt8
def FR.zero : FR := ⟨false, false, 0, [], []⟩
def FR.v (f : FR) : Value := .agg #[.bool f.fin, .bool f.msk, .int .i64 f.op, .string (bs f.mask), .string (bs f.body)]
/-- what Parse answers -/
def parseL (s : List UInt8) (most : Int) : FR × Int × Int :=
  if most < 0 then (FR.zero, 0, 1)
  else if headOk s = false then (FR.zero, (s.length : Int), 124)
  else if errN s ≠ 0 then (FR.zero, 0, errN s)
  else if opN s < 8 ∧ (half ≤ lenN s ∨ most < (lenN s : Int)) then (FR.zero, 0, 225)
  else if s.length < hsizeN (at1 s) + lenN s then (FR.zero, (s.length : Int), 124)
  else (⟨hiB (at0 s), hiB (at1 s), opN s, maskOf s, maskL ((s.drop (hsizeN (at1 s))).take (lenN s)) (maskOf s)⟩, ((hsizeN (at1 s) + lenN s : Nat) : Int), 0)
def parseV (r : FR × Int × Int) : Value := .tuple #[r.1.v, .int .i64 r.2.1, .int .i64 r.2.2]

set_option maxHeartbeats 2000000 in
set_option maxRecDepth 100000 in
theorem rparse_any (s : ByteArray) (most : Int) (w : World) (hs : s.size ≤ 140737488355328) :
    Calls Tryd.prog 33 #[.string s, .int .i64 most] w fun e w' => e = .returned (parseV (parseL (bl s) most)) ∧ Below w.heap.size w w' := by
  obtain ⟨R, hR⟩ : ∃ R, parseL (bl s) most = R := ⟨_, rfl⟩
  rw [hR]
  have HR := Lib.hid hR
  clear hR
  have hB1 : Below w.heap.size w (w.alloc (.cells #[.bool false, .bool false, .int .i64 0, .string ⟨#[]⟩, .string ⟨#[]⟩] 30)) := (Below.refl _ _).alloc (Nat.le_refl _) _
  by_cases hm : most < 0
  · have HQ := Lib.hid (show R = (FR.zero, 0, 1) by rw [← HR.out, parseL, if_pos hm])
    go_enter Tryd.func33, Tryd.ntmps33
    go_wp2_with fail
    exact bodyPost_ret (v := parseV (FR.zero, 0, 1)) (by simp [results, Tryd.results33, go_sem, parseV, FR.v, FR.zero, bs]) rfl ⟨by rw [HQ.out], hB1⟩
  have hH := rhead_any s
  by_cases hok : headOk (bl s) = false
  · have HQ := Lib.hid (show R = (FR.zero, (s.size : Int), 124) by rw [← HR.out, parseL, if_neg hm, if_pos hok, bl_length])
    have e1 : rheadV (bl s) = .tuple #[.int .i64 0, .int .i64 0, .bool false] := by rw [rheadV, hok]; rfl
    simp only [e1] at hH
    clear e1 hok
    go_enter Tryd.func33, Tryd.ntmps33
    go_wp2_with (first | (go_at_call 56; refine (hH _ (by omega)).mono ?_; rintro e w' ⟨rfl, rfl⟩))
    exact bodyPost_ret (v := parseV (FR.zero, (s.size : Int), 124)) (by simp [results, Tryd.results33, go_sem, parseV, FR.v, FR.zero, bs]) rfl ⟨by rw [HQ.out], hB1⟩
  have hok' : headOk (bl s) = true := by simpa using hok
  have e1 : rheadV (bl s) = .tuple #[.int .i64 (hsizeN (at1 (bl s)) : Nat), .int .i64 (rlenI (bl s)), .bool (!shortB (bl s))] := by rw [rheadV, hok']; rfl
  simp only [e1] at hH
  have h2 : 2 ≤ s.size := by unfold headOk at hok'; rw [bl_length] at hok'; simp at hok'; omega
  have hzs : hsizeN (at1 (bl s)) ≤ s.size := by unfold headOk at hok'; rw [bl_length] at hok'; simp at hok'; omega
  have hW := rwrongHead_any s
  have HQ := Lib.hid (show R = if errN (bl s) ≠ 0 then (FR.zero, 0, errN (bl s))
    else if opN (bl s) < 8 ∧ (half ≤ lenN (bl s) ∨ most < (lenN (bl s) : Int)) then (FR.zero, 0, 225)
    else if s.size < hsizeN (at1 (bl s)) + lenN (bl s) then (FR.zero, (s.size : Int), 124)
    else (⟨hiB (at0 (bl s)), hiB (at1 (bl s)), opN (bl s), maskOf (bl s), maskL (((bl s).drop (hsizeN (at1 (bl s)))).take (lenN (bl s))) (maskOf (bl s))⟩, ((hsizeN (at1 (bl s)) + lenN (bl s) : Nat) : Int), 0) by
    rw [← HR.out, parseL, if_neg hm, if_neg hok, bl_length])
  have HE := Lib.hid (show errN (bl s) = if wrongN (bl s) ≠ 0 then wrongN (bl s) else if shortB (bl s) then 225 else 0 from rfl)
  have hz2 := hsizeN_le (at1 (bl s))
  obtain ⟨z, hz⟩ : ∃ z, hsizeN (at1 (bl s)) = z := ⟨_, rfl⟩
  rw [hz] at hzs hz2
  simp only [hz] at hH
  have Hz := Lib.hid hz
  have ez : ((z : Int) == 0) = false := by simp; omega
  clear e1 hok hok' hz
  by_cases hw0 : wrongN (bl s) ≠ 0
  · have HQ2 := Lib.hid (show R = (FR.zero, 0, wrongN (bl s)) by rw [HQ.out, if_pos (by rw [HE.out, if_pos hw0]; exact hw0), HE.out, if_pos hw0])
    have ew : (wrongN (bl s) != 0) = true := by simpa using hw0
    generalize wrongN (bl s) = wn at *
    clear hw0
    go_enter Tryd.func33, Tryd.ntmps33
    go_wp2_with (first | (go_at_call 56; refine (hH _ (by omega)).mono ?_; rintro e w' ⟨rfl, rfl⟩) | (go_at_call 57; refine (hW _ (by omega)).mono ?_; rintro e w' ⟨rfl, rfl⟩))
    exact bodyPost_ret (v := parseV (FR.zero, 0, wn)) (by simp [results, Tryd.results33, go_sem, parseV, FR.v, FR.zero, bs]) rfl ⟨by rw [HQ2.out], hB1⟩
  have hw0' : wrongN (bl s) = 0 := by omega
  have HE2 := Lib.hid (show errN (bl s) = if shortB (bl s) then 225 else 0 by rw [HE.out, if_neg hw0])
  rw [hw0'] at hW
  obtain ⟨x0, hx0⟩ : ∃ x0, s[0]'(by omega) = x0 := ⟨_, rfl⟩
  obtain ⟨x1, hx1⟩ : ∃ x1, s[1]'(by omega) = x1 := ⟨_, rfl⟩
  have ha0 : at0 (bl s) = x0 := (at0_eq s (by omega)).trans hx0
  have ha1 : at1 (bl s) = x1 := (at1_eq s (by omega)).trans hx1
  have hop : opN (bl s) = ((x0.toNat % 16 : Nat) : Int) := by unfold opN; rw [ha0]
  obtain ⟨o, ho⟩ : ∃ o, x0.toNat % 16 = o := ⟨_, rfl⟩
  rw [ho] at hop
  have hoi : (x0.toNat : Int) % 16 = (o : Int) := by omega
  have h0 : (0 : Int) < (s.size : Int) := by omega
  have h1 : (1 : Int) < (s.size : Int) := by omega
  have hhi0 : decide ((128 : Int) ≤ (x0.toNat : Int)) = hiB x0 := by unfold hiB; rw [decide_eq_decide]; omega
  have hhi1 : decide ((128 : Int) ≤ (x1.toNat : Int)) = hiB x1 := by unfold hiB; rw [decide_eq_decide]; omega
  have hctl := fun h8 => ctl_small hw0' h8
  have HQ3 := HQ.out
  rw [hop, HE2.out, Hz.out, ha0, ha1] at HQ3
  rw [hop] at hctl
  have hz6 : hiB x1 = true → 6 ≤ z := by
    intro h; have := Hz.out; rw [ha1, hsizeN, if_pos h] at this; omega
  have hmk : bl (if hiB x1 then s.extract (z - 4) z else ⟨#[]⟩) = maskOf (bl s) := by
    unfold maskOf
    rw [ha1]
    by_cases h : hiB x1 = true
    · rw [if_pos h, if_pos h, bl_extract, ← ha1, Hz.out]
      have := hz6 h
      congr 1; omega
    · rw [if_neg h, if_neg h]; rfl
  obtain ⟨n, hn⟩ : ∃ n, rlenI (bl s) = n := ⟨_, rfl⟩
  obtain ⟨L, hL⟩ : ∃ L, lenN (bl s) = L := ⟨_, rfl⟩
  have hnL : n = if half ≤ L then -1 else (L : Int) := by rw [← hn, ← hL]; rfl
  rw [hL] at HQ3 hctl
  simp only [hn] at hH
  generalize hF : hiB x0 = fB at *
  generalize hM : hiB x1 = mB at *
  generalize shortB (bl s) = SH at *
  have HnL := Lib.hid hnL
  have Hctl := Lib.hid hctl
  have HQ4 := Lib.hid HQ3
  have Hmk := Lib.hid hmk
  have Hz6 := Lib.hid hz6
  have hLmax : L < 18446744073709551616 ∨ True := .inr trivial
  clear ha0 ha1 hop ho HQ HE HE2 hw0 hw0' HR hF hM HQ3 hnL hctl hn hL hmk hz6 hLmax
  go_enter Tryd.func33, Tryd.ntmps33
  go_upto_region 9 with (first | (go_at_call 56; refine (hH _ (by omega)).mono ?_; rintro e w' ⟨rfl, rfl⟩) | (go_at_call 57; refine (hW _ (by omega)).mono ?_; rintro e w' ⟨rfl, rfl⟩))
  go_region
  go_upto_region 10 with fail
  go_cut [58] (fun b wx => b = .bool (SH || (decide (o < 8) && (decide (n < 0) || decide (most < n)))) ∧ ((w.alloc (.cells #[.bool false, .bool false, .int .i64 0, .string ⟨#[]⟩, .string ⟨#[]⟩] 30)).alloc (.cells #[.bool fB, .bool mB, .int .i64 o, .string ⟨#[]⟩, .string ⟨#[]⟩] 30)).drew = wx)
  case first =>
    cases SH
    · by_cases q1 : o < 8
      · have d1 : (o : Int) < 8 := by omega
        by_cases q2 : n < 0
        · go_wp2_with fail
          go_meet
          exact ⟨by simp [q1, q2], rfl⟩
        · by_cases q3 : most < n
          · go_wp2_with fail
            go_meet
            exact ⟨by simp [q1, q3], rfl⟩
          · go_wp2_with fail
            go_meet
            exact ⟨by simp [q1, q2, q3], rfl⟩
      · have d1 : ¬ (o : Int) < 8 := by omega
        go_wp2_with fail
        go_meet
        exact ⟨by simp [q1], rfl⟩
    · go_wp2_with fail
      go_meet
      exact ⟨rfl, rfl⟩
  case rest =>
  obtain ⟨rfl, rfl⟩ := hcut
  have hB2 : Below w.heap.size w (((w.alloc (.cells #[.bool false, .bool false, .int .i64 0, .string ⟨#[]⟩, .string ⟨#[]⟩] 30)).alloc (.cells #[.bool fB, .bool mB, .int .i64 o, .string ⟨#[]⟩, .string ⟨#[]⟩] 30)).drew) := (hB1.alloc (by simp) _).drew
  obtain ⟨B, hBB⟩ : ∃ B, (SH || (decide (o < 8) && (decide (n < 0) || decide (most < n)))) = B := ⟨_, rfl⟩
  rw [hBB]
  cases B
  case true =>
    have HQ5 := Lib.hid (show R = (FR.zero, 0, 225) by
      rw [HQ4.out]
      cases SH
      · rw [if_neg (by simp), if_pos]
        simp only [Bool.false_or, Bool.and_eq_true, Bool.or_eq_true, decide_eq_true_eq] at hBB
        refine ⟨by omega, ?_⟩
        by_cases hh : half ≤ L
        · exact .inl hh
        · have := HnL.out; rw [if_neg hh] at this; right; omega
      · rw [if_pos (by simp)]; rfl)
    clear hBB
    go_wp2_with fail
    exact bodyPost_ret (v := parseV (FR.zero, 0, 225)) (by simp [results, Tryd.results33, go_sem, parseV, FR.v, FR.zero, bs]) rfl ⟨by rw [HQ5.out], (((Below.refl _ _).alloc (Nat.le_refl _) _).alloc (by simp) _).drew⟩
  have hSH : SH = false := by cases SH; rfl; simp at hBB
  subst hSH
  simp only [Bool.false_or, Bool.and_eq_false_iff, Bool.or_eq_false_iff, decide_eq_false_iff_not] at hBB
  have hnn : n = (L : Int) := by
    have h1 := HnL.out
    by_cases hh : half ≤ L
    · rw [if_pos hh] at h1
      rcases hBB with h | h
      · exact absurd (Hctl.out (by omega)) (by omega)
      · omega
    · rw [if_neg hh] at h1; exact h1
  subst hnn
  have HQ5 := Lib.hid (show R = if s.size < z + L then (FR.zero, (s.size : Int), 124) else
      (⟨fB, mB, (o : Int), maskOf (bl s), maskL (((bl s).drop z).take L) (maskOf (bl s))⟩, ((z + L : Nat) : Int), 0) by
    rw [HQ4.out, if_neg (by simp), if_neg]
    intro ⟨h1, h2⟩
    have h3 := HnL.out
    rcases h2 with h2 | h2
    · rw [if_pos h2] at h3; omega
    · rcases hBB with h | h <;> omega)
  clear hBB
  by_cases hlen : s.size < z + L
  · have HQ6 := Lib.hid (show R = (FR.zero, (s.size : Int), 124) by rw [HQ5.out, if_pos hlen])
    have d1 : (s.size : Int) - (z : Int) < (L : Int) := by omega
    clear hlen
    go_wp2_with fail
    exact bodyPost_ret (v := parseV (FR.zero, (s.size : Int), 124)) (by simp [results, Tryd.results33, go_sem, parseV, FR.v, FR.zero, bs]) rfl ⟨by rw [HQ6.out], (((Below.refl _ _).alloc (Nat.le_refl _) _).alloc (by simp) _).drew⟩
  have d1 : ¬ (s.size : Int) - (z : Int) < (L : Int) := by omega
  have HQ6 := Lib.hid (show R = (⟨fB, mB, (o : Int), maskOf (bl s), maskL (((bl s).drop z).take L) (maskOf (bl s))⟩, ((z + L : Nat) : Int), 0) by rw [HQ5.out, if_neg hlen])
  clear hlen
  go_upto_if 70 with fail
  obtain ⟨MK, hMK⟩ : ∃ MK, (if mB = true then s.extract (z - 4) z else ⟨#[]⟩) = MK := ⟨_, rfl⟩
  have HMK := Lib.hid hMK
  rw [hMK] at Hmk
  go_cut [] (fun wx => ((w.alloc (.cells #[.bool false, .bool false, .int .i64 0, .string ⟨#[]⟩, .string ⟨#[]⟩] 30)).alloc (.cells #[.bool fB, .bool mB, .int .i64 o, .string MK, .string ⟨#[]⟩] 30)).drew = wx)
  case first =>
    cases mB
    · have HM2 := Lib.hid (show MK = ⟨#[]⟩ by rw [← HMK.out]; rfl)
      clear hMK
      go_wp2_with fail
      go_meet
      rw [HM2.out]
    · have HM2 := Lib.hid (show MK = s.extract (z - 4) z by rw [← HMK.out]; rfl)
      have d6 : (6 : Int) ≤ (z : Int) := by have := Hz6.out rfl; omega
      clear hMK
      go_wp2_with fail
      go_meet
      rw [HM2.out]
  case rest =>
  subst hcut
  clear hMK
  have b0 : (0 : Int) ≤ (z : Int) := by omega
  have b1 : (z : Int) ≤ (z : Int) + (L : Int) := by omega
  have b2 : (z : Int) + (L : Int) ≤ (s.size : Int) := by omega
  have b3 : ((z : Int) + (L : Int)).toNat = z + L := by omega
  have b4 : IntKind.i64.wrap ((z : Int) + (L : Int)) = (z : Int) + (L : Int) := by rw [IntKind.wrap_i64]; omega
  have hMk := fun wx => rmask_any (s.extract z (z + L)) MK wx (by rw [ByteArray.size_extract]; omega)
  rw [show maskL (bl (s.extract z (z + L))) (bl MK) = maskL (((bl s).drop z).take L) (maskOf (bl s)) by rw [bl_extract, Hmk.out, Nat.add_sub_cancel_left]] at hMk
  generalize hBD : bs (maskL (((bl s).drop z).take L) (maskOf (bl s))) = BD at *
  have HBD := Lib.hid hBD
  clear hBD
  go_upto_region 16 with fail
  have hS0 : Hd w w.heap.size w.heap.size (.cells #[.bool false, .bool false, .int .i64 0, .string ⟨#[]⟩, .string ⟨#[]⟩] 30 (0, 0)) (w.heap.size + 1) 30 (fun cs => ∃ X, cs = #[.bool fB, .bool mB, .int .i64 o, .string MK, X])
      (((w.alloc (.cells #[.bool false, .bool false, .int .i64 0, .string ⟨#[]⟩, .string ⟨#[]⟩] 30)).alloc (.cells #[.bool fB, .bool mB, .int .i64 o, .string MK, .string ⟨#[]⟩] 30)).drew) := by
    refine ⟨(hB1.alloc (by simp) _).drew, ?_, #[.bool fB, .bool mB, .int .i64 o, .string MK, .string ⟨#[]⟩], ⟨.string ⟨#[]⟩, rfl⟩, ?_⟩
    · have := heap_alloc_new w (.cells #[.bool false, .bool false, .int .i64 0, .string ⟨#[]⟩, .string ⟨#[]⟩] 30)
      exact (Below.heap_alloc (w.alloc _) _ _ (by simp)).trans this
    · have := heap_alloc_new (w.alloc (.cells #[.bool false, .bool false, .int .i64 0, .string ⟨#[]⟩, .string ⟨#[]⟩] 30)) (.cells #[.bool fB, .bool mB, .int .i64 o, .string MK, .string ⟨#[]⟩] 30)
      rw [show (w.alloc (.cells #[.bool false, .bool false, .int .i64 0, .string ⟨#[]⟩, .string ⟨#[]⟩] 30)).heap.size = w.heap.size + 1 by simp] at this
      exact this
  go_cut [] (fun wx => Hd w w.heap.size w.heap.size (.cells #[.bool false, .bool false, .int .i64 0, .string ⟨#[]⟩, .string ⟨#[]⟩] 30 (0, 0)) (w.heap.size + 1) 30 (fun cs => cs = #[.bool fB, .bool mB, .int .i64 o, .string MK, .string BD]) wx)
  case first =>
    obtain ⟨PH, hPH⟩ : ∃ PH : World → Prop, PH = Hd w w.heap.size w.heap.size (.cells #[.bool false, .bool false, .int .i64 0, .string ⟨#[]⟩, .string ⟨#[]⟩] 30 (0, 0)) (w.heap.size + 1) 30 (fun cs => ∃ X, cs = #[.bool fB, .bool mB, .int .i64 o, .string MK, X]) := ⟨_, rfl⟩
    have hKeep : ∀ wy, PH wy → wy.cell? ⟨w.heap.size + 1, 3, none⟩ = some (.string MK) ∧ PH wy := by
      intro wy h; refine ⟨?_, h⟩; rw [hPH] at h; obtain ⟨_, _, cs, ⟨X, rfl⟩, h4⟩ := h; exact hd_cell h4 3
    have hPb : ∀ x y, PH x → Below x.heap.size x y → PH y := by
      intro x y h hb; rw [hPH] at h ⊢; exact h.below hb (by have := h.size; omega)
    have hPf : ∀ x, PH x → x.frozen? ⟨w.heap.size + 1, 4, none⟩ = false := by intro x h; rw [hPH] at h; exact h.frozen 4
    have hPt : ∀ x, PH x → ∃ v, x.cell? ⟨w.heap.size + 1, 4, none⟩ = some v := by
      intro x h; rw [hPH] at h; exact h.there 4 (by rintro cs ⟨X, rfl⟩; simp)
    have hP0 : PH (((w.alloc (.cells #[.bool false, .bool false, .int .i64 0, .string ⟨#[]⟩, .string ⟨#[]⟩] 30)).alloc (.cells #[.bool fB, .bool mB, .int .i64 o, .string MK, .string ⟨#[]⟩] 30)).drew) := by rw [hPH]; exact hS0
    have hPd : ∀ x, PH x → PH x.drew := by intro x h; rw [hPH] at h ⊢; exact h.drew
    have hPs : ∀ x Y, PH x → PH (x.setCell ⟨w.heap.size + 1, 4, none⟩ Y) := by
      intro x Y h; rw [hPH] at h ⊢; exact h.set (by omega) (by omega) 4 Y (by rintro cs ⟨X, rfl⟩; exact ⟨Y, rfl⟩)
    have HPH := Lib.hid hPH
    clear hPH hS0
    go_region_held3 (fun wy => wy.cell? ⟨w.heap.size + 1, 3, none⟩ = some (.string MK) ∧ PH wy) (first | (refine hKeep _ ?_; first | assumption | exact hP0 | exact hPd _ hP0 | exact hPs _ _ (by assumption)))
      (first | (go_at_call 19; refine (hMk _).mono ?_; rintro e w5 ⟨rfl, hb5⟩; have hx : PH w5 := (by refine hPb _ _ ?_ hb5; first | assumption | exact hP0 | exact hPd _ hP0); obtain ⟨X4, x4⟩ := hPt _ hx; have xf := hPf _ hx))
    all_goals go_wp2_with fail
    all_goals go_meet
    rw [HPH.out] at hx
    obtain ⟨g1, g2, cs, ⟨X, rfl⟩, g4⟩ := hx
    exact ⟨g1.setCell (p := ⟨w.heap.size + 1, 4, none⟩) (by simp) _, (Below.heap_setCell _ _ _ _ (by simp)).trans g2, _, rfl, hd_set g4 4 _⟩
  case rest =>
  obtain ⟨g1, g2, cs, rfl, g4⟩ := hcut
  have k0 := hd_cell g2 0
  have k1 := hd_cell g2 1
  have k2 := hd_cell g2 2
  have k3 := hd_cell g2 3
  have k4 := hd_cell g2 4
  have kf := hd_frozen g2
  have l0 := hd_cell g4 0
  have l1 := hd_cell g4 1
  have l2 := hd_cell g4 2
  have l3 := hd_cell g4 3
  have l4 := hd_cell g4 4
  simp only [List.getElem?_toArray, List.getElem?_cons_zero, List.getElem?_cons_succ] at k0 k1 k2 k3 k4 l0 l1 l2 l3 l4
  clear hS0
  go_wp2_with fail
  obtain ⟨W, hW⟩ : ∃ W, (((((wc.setCell ⟨w.heap.size, 0, none⟩ (.bool fB)).setCell ⟨w.heap.size, 1, none⟩ (.bool mB)).setCell ⟨w.heap.size, 2, none⟩ (.int .i64 o)).setCell ⟨w.heap.size, 3, none⟩ (.string MK)).setCell ⟨w.heap.size, 4, none⟩ (.string BD)) = W := ⟨_, rfl⟩
  have hWb : W.heap[w.heap.size]? = some (.cells #[.bool fB, .bool mB, .int .i64 o, .string MK, .string BD] 30 (0, 0)) := by
    rw [← hW]; exact hd_set (hd_set (hd_set (hd_set (hd_set g2 0 _) 1 _) 2 _) 3 _) 4 _
  have hWB : Below w.heap.size w W := by
    rw [← hW]; exact ((((g1.setCell (p := ⟨w.heap.size, 0, none⟩) (Nat.le_refl _) _).setCell (p := ⟨w.heap.size, 1, none⟩) (Nat.le_refl _) _).setCell (p := ⟨w.heap.size, 2, none⟩) (Nat.le_refl _) _).setCell (p := ⟨w.heap.size, 3, none⟩) (Nat.le_refl _) _).setCell (p := ⟨w.heap.size, 4, none⟩) (Nat.le_refl _) _
  rw [hW]
  clear hW k0 k1 k2 k3 k4 kf l0 l1 l2 l3 l4
  have r0 := hd_cell hWb 0
  have r1 := hd_cell hWb 1
  have r2 := hd_cell hWb 2
  have r3 := hd_cell hWb 3
  have r4 := hd_cell hWb 4
  simp only [List.getElem?_toArray, List.getElem?_cons_zero, List.getElem?_cons_succ] at r0 r1 r2 r3 r4
  refine bodyPost_ret (v := .tuple #[.agg #[.bool fB, .bool mB, .int .i64 o, .string MK, .string BD], .int .i64 ((z : Int) + (L : Int)), .int .i64 0]) (by simp [results, Tryd.results33, go_sem, r0, r1, r2, r3, r4]) rfl ⟨?_, hWB⟩
  rw [HQ6.out]
  have e1 : bs (maskOf (bl s)) = MK := by rw [← Hmk.out, bs_bl]
  unfold parseV FR.v
  simp only [e1, HBD.out]
  rw [show ((z + L : Nat) : Int) = (z : Int) + (L : Int) by omega]
end Go.Proofs.YtmgfpjfamdbhbaaDoor
