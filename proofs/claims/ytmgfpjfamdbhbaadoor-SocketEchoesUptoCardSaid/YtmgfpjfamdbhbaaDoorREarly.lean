/- The reference's New and early; the peer's limit is one. -/
import Derived.Test.YtmgfpjfamdbhbaaDoorRPeer
import Derived.Test.YtmgfpjfamdbhbaaDoorSmallM
namespace Go.Proofs.YtmgfpjfamdbhbaaDoor
open Go.RowKit

def nilL : RP := ⟨-1, [], [], 0, 0, 0⟩
set_option maxHeartbeats 1000000 in
set_option maxRecDepth 100000 in
theorem rnew_bad (most : Int) (w : World) (h : most < 0 ∨ 16777216 < most) :
    Calls Tryd.prog 48 #[.int .i64 most] w fun e w' => e = .returned (.tuple #[rpV nilL, .int .i64 1]) ∧ Below w.heap.size w w' := by
  by_cases h0 : most < 0
  all_goals
    go_enter Tryd.func48, Tryd.ntmps48
    go_wp2_with fail
    exact bodyPost_ret (v := .tuple #[rpV nilL, .int .i64 1]) (by simp [results, Tryd.results48, go_sem, rpV, nilL, bs]) rfl ⟨rfl, (Below.refl _ _).alloc (Nat.le_refl _) _⟩
set_option maxHeartbeats 1000000 in
set_option maxRecDepth 100000 in
theorem rnew_ok (most : Int) (w : World) (h0 : 0 ≤ most) (h1 : most ≤ 16777216) :
    Calls Tryd.prog 48 #[.int .i64 most] w fun e w' => e = .returned (.tuple #[rpV (newL most), .int .i64 0]) ∧ Below w.heap.size w w' := by
  have h2 : ¬ most < 0 := by omega
  have h3 : ¬ 16777216 < most := by omega
  go_enter Tryd.func48, Tryd.ntmps48
  go_wp2_with fail
  exact bodyPost_ret (v := .tuple #[rpV (newL most), .int .i64 0]) (by simp [results, Tryd.results48, go_sem, rpV, newL, bs]) rfl ⟨rfl, (Below.refl _ _).alloc (Nat.le_refl _) _⟩

theorem wrong_op {l : List UInt8} (h : wrongN l = 0) : isOpB (opN l) = true := by
  by_cases q : isOpB (opN l) = true
  · exact q
  · have q' : isOpB (opN l) = false := by simpa using q
    unfold wrongN at h
    rw [if_pos q'] at h
    split at h <;> cases h

set_option maxHeartbeats 4000000 in
set_option maxRecDepth 100000 in
theorem rearly_any (p : RP) (n : Int) (sh : Bool) (w : World) (hn : n = rlenI p.rest) (hsh : sh = !shortB p.rest) (hr : 2 ≤ p.rest.length) (hm0 : 0 ≤ p.most) (hm1 : p.most ≤ 16777216) (hml : p.msg.length ≤ 140737488355328) :
    Calls Tryd.prog 59 #[rpV p, .int .i64 n, .bool sh] w fun e w' => e = .returned (.int .i64 (earlyL p)) ∧ Below w.heap.size w w' := by
  have HE := Lib.hid (show earlyL p = if wrongN p.rest ≠ 0 ∨ hiB (at1 p.rest) = false ∨ shortB p.rest = true then 1002
    else if (opN p.rest = 0 ∧ p.op = 0) ∨ ((opN p.rest = 1 ∨ opN p.rest = 2) ∧ p.op ≠ 0) then 1002
    else if opN p.rest < 8 ∧ (half ≤ lenN p.rest ∨ p.most - p.msg.length < lenN p.rest) then 1009 else 0 from rfl)
  have hctl := fun h h8 => ctl_small (l := p.rest) h h8
  have hopw := fun h => wrong_op (l := p.rest) h
  have hnl : n = if half ≤ lenN p.rest then -1 else (lenN p.rest : Int) := hn
  generalize earlyL p = E at *
  obtain ⟨most, rest, msg, op, cd, ec⟩ := p
  obtain ⟨RS, rfl⟩ : ∃ RS : ByteArray, rest = bl RS := ⟨bs rest, rfl⟩
  obtain ⟨MS, rfl⟩ : ∃ MS : ByteArray, msg = bl MS := ⟨bs msg, rfl⟩
  show Calls _ _ #[.agg #[.int .i64 most, .string (bs (bl RS)), .string (bs (bl MS)), .int .i64 op, .int .i64 cd, .int .i64 ec], _, _] _ _
  rw [bs_bl, bs_bl]
  simp only at *
  rw [bl_length] at hr hml
  have hW := fun wx => rwrongHead_any RS wx hr
  obtain ⟨x0, hx0⟩ : ∃ x0, RS[0]'(by omega) = x0 := ⟨_, rfl⟩
  obtain ⟨x1, hx1⟩ : ∃ x1, RS[1]'(by omega) = x1 := ⟨_, rfl⟩
  have ha0 : at0 (bl RS) = x0 := (at0_eq RS (by omega)).trans hx0
  have ha1 : at1 (bl RS) = x1 := (at1_eq RS (by omega)).trans hx1
  obtain ⟨o, ho⟩ : ∃ o, x0.toNat % 16 = o := ⟨_, rfl⟩
  have hop : opN (bl RS) = (o : Int) := by unfold opN; rw [ha0, ho]
  have hoi : (x0.toNat : Int) % 16 = (o : Int) := by omega
  have h0 : (0 : Int) < (RS.size : Int) := by omega
  have h1 : (1 : Int) < (RS.size : Int) := by omega
  have hhi : hiB x1 = decide (128 ≤ x1.toNat) := rfl
  have HE2 := HE.out
  rw [ha1, hop, bl_length] at HE2
  rw [hop] at hctl hopw
  obtain ⟨L, hL⟩ : ∃ L, lenN (bl RS) = L := ⟨_, rfl⟩
  rw [hL] at HE2 hnl hctl
  generalize wrongN (bl RS) = wn at *
  generalize shortB (bl RS) = SB at *
  have HE3 := Lib.hid HE2
  have Hnl := Lib.hid hnl
  have Hctl := Lib.hid hctl
  have Hopw := Lib.hid hopw
  have Hhi := Lib.hid hhi
  have Hsh := Lib.hid hsh
  clear HE HE2 hnl hctl hopw hhi hn hL hop ha0 ha1 ho hsh
  by_cases hw0 : wn ≠ 0
  · have HR := Lib.hid (show E = 1002 by rw [HE3.out, if_pos (.inl hw0)])
    have ew : (wn != 0) = true := by simpa using hw0
    clear hw0
    go_enter Tryd.func59, Tryd.ntmps59
    go_wp2_with (first | (go_at_call 57; refine (hW _).mono ?_; rintro e w' ⟨rfl, rfl⟩))
    go_ret
    exact ⟨by rw [HR.out]; rfl, (Below.refl _ _).alloc (Nat.le_refl _) _⟩
  have ew : (wn != 0) = false := by simpa using hw0
  have hwn : wn = 0 := by simpa using hw0
  have hoo := isOp_cases (Hopw.out hwn)
  have Hoo := Lib.hid hoo
  have Hwn := Lib.hid hwn
  have Hcl := Lib.hid (fun h8 => Hctl.out hwn h8)
  clear hw0 hwn hoo Hctl Hopw
  by_cases hx : x1.toNat < 128
  · have HR := Lib.hid (show E = 1002 by rw [HE3.out, if_pos (.inr (.inl (by rw [Hhi.out]; simp; omega)))])
    have d1 : (x1.toNat : Int) < 128 := by omega
    clear hx
    go_enter Tryd.func59, Tryd.ntmps59
    go_wp2_with (first | (go_at_call 57; refine (hW _).mono ?_; rintro e w' ⟨rfl, rfl⟩))
    go_ret
    exact ⟨by rw [HR.out]; rfl, (Below.refl _ _).alloc (Nat.le_refl _) _⟩
  have d1 : ¬ (x1.toNat : Int) < 128 := by omega
  have Hx := Lib.hid hx
  clear hx
  cases SB
  case true =>
    have HR := Lib.hid (show E = 1002 by rw [HE3.out, if_pos (.inr (.inr rfl))])
    obtain rfl : sh = false := Hsh.out
    go_enter Tryd.func59, Tryd.ntmps59
    go_wp2_with (first | (go_at_call 57; refine (hW _).mono ?_; rintro e w' ⟨rfl, rfl⟩))
    go_ret
    exact ⟨by rw [HR.out]; rfl, (Below.refl _ _).alloc (Nat.le_refl _) _⟩
  obtain rfl : sh = true := Hsh.out
  have HE4 := Lib.hid (show E = if ((o : Int) = 0 ∧ op = 0) ∨ (((o : Int) = 1 ∨ (o : Int) = 2) ∧ op ≠ 0) then 1002
    else if (o : Int) < 8 ∧ (half ≤ L ∨ most - (MS.size : Int) < (L : Int)) then 1009 else 0 by
    rw [HE3.out, if_neg]
    rintro (h | h | h)
    · exact h Hwn.out
    · rw [Hhi.out] at h; have := Hx.out; simp at h; omega
    · cases h)
  have HD := Lib.hid (show (o : Int) < 8 → ((half ≤ L ∨ most - (MS.size : Int) < (L : Int)) ↔ (n < 0 ∨ most - (MS.size : Int) < n)) by
    intro h8
    have h1 := Hnl.out
    by_cases hh : half ≤ L
    · rw [if_pos hh] at h1; exact ⟨fun _ => .inl (by omega), fun _ => .inl hh⟩
    · rw [if_neg hh] at h1; rw [h1]
      exact ⟨fun h => h.elim (fun q => absurd q hh) .inr, fun h => h.elim (fun q => by omega) .inr⟩)
  clear HE3 Hnl Hcl
  by_cases h8 : (o : Int) < 8
  case neg =>
    have HR := Lib.hid (show E = 0 by rw [HE4.out, if_neg (by omega), if_neg (by omega)])
    have e0 : ((o : Int) == 0) = false := by simp; omega
    have e1 : ((o : Int) == 1) = false := by simp; omega
    have e2 : ((o : Int) == 2) = false := by simp; omega
    go_enter Tryd.func59, Tryd.ntmps59
    go_wp2_with (first | (go_at_call 57; refine (hW _).mono ?_; rintro e w' ⟨rfl, rfl⟩))
    go_ret
    exact ⟨by rw [HR.out]; rfl, (Below.refl _ _).alloc (Nat.le_refl _) _⟩
  have hocs : o = 0 ∨ o = 1 ∨ o = 2 := by have := Hoo.out; omega
  clear h8
  rcases hocs with rfl | rfl | rfl
  · by_cases hp : op = 0
    · have HR := Lib.hid (show E = 1002 by rw [HE4.out, if_pos (.inl ⟨rfl, hp⟩)])
      subst hp
      go_enter Tryd.func59, Tryd.ntmps59
      go_wp2_with (first | (go_at_call 57; refine (hW _).mono ?_; rintro e w' ⟨rfl, rfl⟩))
      go_ret
      exact ⟨by rw [HR.out]; rfl, (Below.refl _ _).alloc (Nat.le_refl _) _⟩
    · have ep : (op == 0) = false := by simpa using hp
      have HE5 := Lib.hid (show E = if (n < 0 ∨ most - (MS.size : Int) < n) then 1009 else 0 by
        rw [HE4.out, if_neg (by simp [hp])]; congr 1; rw [HD.out (by decide)]; simp)
      clear hp
      by_cases q1 : n < 0
      · have HR := Lib.hid (show E = 1009 by rw [HE5.out, if_pos (.inl q1)])
        go_enter Tryd.func59, Tryd.ntmps59
        go_wp2_with (first | (go_at_call 57; refine (hW _).mono ?_; rintro e w' ⟨rfl, rfl⟩))
        go_ret
        exact ⟨by rw [HR.out]; rfl, (Below.refl _ _).alloc (Nat.le_refl _) _⟩
      · by_cases q2 : most - (MS.size : Int) < n
        · have HR := Lib.hid (show E = 1009 by rw [HE5.out, if_pos (.inr q2)])
          go_enter Tryd.func59, Tryd.ntmps59
          go_wp2_with (first | (go_at_call 57; refine (hW _).mono ?_; rintro e w' ⟨rfl, rfl⟩))
          go_ret
          exact ⟨by rw [HR.out]; rfl, (Below.refl _ _).alloc (Nat.le_refl _) _⟩
        · have HR := Lib.hid (show E = 0 by rw [HE5.out, if_neg (by omega)])
          go_enter Tryd.func59, Tryd.ntmps59
          go_wp2_with (first | (go_at_call 57; refine (hW _).mono ?_; rintro e w' ⟨rfl, rfl⟩))
          go_ret
          exact ⟨by rw [HR.out]; rfl, (Below.refl _ _).alloc (Nat.le_refl _) _⟩
  all_goals
    by_cases hp : op = 0
    · have ep : (op != 0) = false := by simpa using hp
      have HE5 := Lib.hid (show E = if (n < 0 ∨ most - (MS.size : Int) < n) then 1009 else 0 by
        rw [HE4.out, if_neg (by simp [hp])]; congr 1; rw [HD.out (by decide)]; simp)
      clear hp
      by_cases q1 : n < 0
      · have HR := Lib.hid (show E = 1009 by rw [HE5.out, if_pos (.inl q1)])
        go_enter Tryd.func59, Tryd.ntmps59
        go_wp2_with (first | (go_at_call 57; refine (hW _).mono ?_; rintro e w' ⟨rfl, rfl⟩))
        go_ret
        exact ⟨by rw [HR.out]; rfl, (Below.refl _ _).alloc (Nat.le_refl _) _⟩
      · by_cases q2 : most - (MS.size : Int) < n
        · have HR := Lib.hid (show E = 1009 by rw [HE5.out, if_pos (.inr q2)])
          go_enter Tryd.func59, Tryd.ntmps59
          go_wp2_with (first | (go_at_call 57; refine (hW _).mono ?_; rintro e w' ⟨rfl, rfl⟩))
          go_ret
          exact ⟨by rw [HR.out]; rfl, (Below.refl _ _).alloc (Nat.le_refl _) _⟩
        · have HR := Lib.hid (show E = 0 by rw [HE5.out, if_neg (by omega)])
          go_enter Tryd.func59, Tryd.ntmps59
          go_wp2_with (first | (go_at_call 57; refine (hW _).mono ?_; rintro e w' ⟨rfl, rfl⟩))
          go_ret
          exact ⟨by rw [HR.out]; rfl, (Below.refl _ _).alloc (Nat.le_refl _) _⟩
    · have HR := Lib.hid (show E = 1002 by rw [HE4.out, if_pos (.inr ⟨by simp, hp⟩)])
      have ep : (op != 0) = true := by simpa using hp
      clear hp
      go_enter Tryd.func59, Tryd.ntmps59
      go_wp2_with (first | (go_at_call 57; refine (hW _).mono ?_; rintro e w' ⟨rfl, rfl⟩))
      go_ret
      exact ⟨by rw [HR.out]; rfl, (Below.refl _ _).alloc (Nat.le_refl _) _⟩
end Go.Proofs.YtmgfpjfamdbhbaaDoor
