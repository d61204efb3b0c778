/- The law SocketRow's walk. -/
import Derived.Test.YtmgfpjfamdbhbaaDoorKeepP
import Derived.Test.YtmgfpjfamdbhbaaDoorParse
namespace Go.Proofs.YtmgfpjfamdbhbaaDoor
open Go.RowKit

theorem bs_nil : bs [] = ⟨#[]⟩ := rfl
theorem bs_test (l : List UInt8) : (bs l).toList = l := by rw [bl_toList]; rfl
theorem flat_cons (f : Int × List UInt8) (r : List (Int × List UInt8)) : flatL (f :: r) = sayL f.1 f.2 ++ flatL r := rfl

set_option maxHeartbeats 3000000 in
set_option maxRecDepth 100000 in
theorem row_any (most : Int) (s : ByteArray) (w : World) (hT : Tabs w) (hs : s.size ≤ 1048576) :
    Calls Tryd.prog 13 #[.int .i64 most, .string s] w fun e w' => e = .returned (.bool true) ∧ Below w.heap.size w w' := by
  have hA := awake_any w hT
  have h2 := hT.two
  by_cases hm : most < 0 ∨ 16777216 < most
  · rcases (show most < 0 ∨ (¬ most < 0 ∧ 16777216 < most) by omega) with hm | ⟨hm, hm2⟩
    all_goals
      go_enter Tryd.func13, Tryd.ntmps13
      go_wp2_with (first | (go_at_call 14; refine hA.mono ?_; rintro e w1 ⟨rfl, hb1⟩))
      go_ret
      exact ⟨rfl, hb1⟩
  have hm0 : ¬ most < 0 := by omega
  have hm1 : ¬ 16777216 < most := by omega
  have hN := fun wx => new_ok most wx (by omega) (by omega)
  have hfed := row_new most (bl s) (by omega) (by omega)
  have haft := feed_after (newL most) (bl s) ⟨by show 0 ≤ most; omega, by show most ≤ 16777216; omega⟩ (by simp [newL])
  have hF := fun (wx : World) (b : Nat) (hp : PeerAt wx b b (newL most) (.slice none 0 0)) (hT : Tabs wx) (hb : 2 ≤ b) (hsz : b ≤ wx.heap.size) =>
    feed_any b b (newL most) (.slice none 0 0) s wx hp hT hb hsz ⟨by show 0 ≤ most; omega, by show most ≤ 16777216; omega⟩ (by show 0 ≤ _; omega) (by show 0 + 0 + s.size + 12 ≤ _; omega)
  have hfh := feed_held (newL most) (bl s)
  generalize feedL (newL most) (bl s) = F at *
  obtain ⟨P, O⟩ := F
  simp only at hfed haft hF hfh
  have hO : O.length ≤ 2097152 := by have := haft.out; simp only [newL, List.length_nil, bl_length] at this; omega
  have hPh : P.msg.length + P.rest.length ≤ 1048576 := by simp only [newL, List.length_nil, bl_length] at hfh; omega
  obtain ⟨fs, hfs, hrow⟩ := hfed.rows
  have hheld := hfed.held
  have hshut := hfed.shut
  have Hfs := Lib.hid hfs
  have Hrow := Lib.hid hrow
  have Hshut := Lib.hid hshut
  have HO := Lib.hid hO
  obtain ⟨H, hH⟩ : ∃ H, P.msg.length + P.rest.length = H := ⟨_, rfl⟩
  rw [hH] at hPh hheld
  have HH := Lib.hid hH
  have HT := Lib.hid (fun wx (hb : Below w.heap.size w wx) => hT.below hT.size hb)
  have hmx1 : most ≤ max most 125 := Int.le_max_left _ _
  have hmx2 : (125 : Int) ≤ max most 125 := Int.le_max_right _ _
  have hmx3 : max most 125 ≤ 16777216 := by omega
  clear hm hfed haft hfs hrow hshut hO hfh hH hT
  go_enter Tryd.func13, Tryd.ntmps13
  go_upto_region 9 with (first | (go_at_call 14; refine hA.mono ?_; rintro e w1 ⟨rfl, hb1⟩) | (go_at_call 28; refine (hN _).mono ?_; rintro e w2 ⟨rfl, hp2, hb2, hs2⟩) | (go_at_call 30; refine (hF _ _ hp2 (HT.out _ (hb1.trans (hb2.mono hb1.size))) (by have := hb1.size; omega) (by omega)).mono ?_; rintro e w3 ⟨rfl, v3, hl3⟩))
  have hp3 := hl3.1
  have hB3 : Below w.heap.size w w3 := (hb1.trans (hb2.mono hb1.size)).trans (hl3.2.1.own (by have := hb1.size; omega) hb1.size (by simp [Value.ownBlock]))
  have HHd := Lib.hid (fun wx (h : Below w3.heap.size w3 wx) => held_any w1.heap.size w1.heap.size P v3 wx (hp3.below h (Nat.le_refl _)) (by rw [HH.out]; omega))
  have HCl := Lib.hid (fun wx (h : Below w3.heap.size w3 wx) => closed_any w1.heap.size w1.heap.size P v3 wx (hp3.below h (Nat.le_refl _)))
  have HCo := Lib.hid (fun wx (h : Below w3.heap.size w3 wx) => code_any w1.heap.size w1.heap.size P v3 wx (hp3.below h (Nat.le_refl _)))
  have hHd := fun wx (h : Below w3.heap.size w3 wx) => HHd.out wx h
  rw [HH.out] at hHd
  have hr3 := Below.refl w3.heap.size w3
  have HB3 := Lib.hid hB3
  clear hp3 hB3 hl3 hp2 hb2 hb1 hs2 hA hN hF
  obtain ⟨mx, hmx⟩ : ∃ mx, max most 125 = mx := ⟨_, rfl⟩
  rw [hmx] at hmx1 hmx2 hmx3 hheld
  go_wp2_with fail
  refine (hHd _ hr3).mono ?_
  rintro e w4 ⟨rfl, hb4⟩
  go_wp2_with fail
  refine (hHd _ hb4).mono ?_
  rintro e w5 ⟨rfl, hb5⟩
  have hr5 := hb4.trans (hb5.mono hb4.size)
  clear hb4 hb5 hHd
  go_wp2_with fail
  have HR5 := Lib.hid hr5
  clear hr5 hr3 hmx1 hmx2 hmx3 hheld
  go_loopg [7] (O.length + 1) (fun gk o wr => ∃ (out : List UInt8) (gs : List (Int × List UInt8)), o = .string (bs out) ∧ Hid (out = flatL gs) ∧ Hid (RowOf (decide (P.code ≠ 0)) gs) ∧ gk = out.length + 1 ∧ Hid (out.length ≤ 2097152) ∧ Hid (Below w3.heap.size w3 wr))
  case atStart => exact ⟨O, fs, rfl, Hfs, Hrow, rfl, HO, HR5⟩
  case round =>
    obtain ⟨out, gs, rfl, Hout, Hgs, rfl, Hol, Hbr⟩ := hrel
    clear Hfs Hrow HO HR5
    have hCl := HCl.out wr Hbr.out
    have hCo := HCo.out wr Hbr.out
    have hpc : (P.code != 0) = decide (P.code ≠ 0) := by rw [Bool.eq_iff_iff]; simp
    rw [hpc] at hCl
    clear hpc
    obtain ⟨CL, hCL⟩ : ∃ CL, decide (P.code ≠ 0) = CL := ⟨_, rfl⟩
    rw [hCL] at hCl Hgs
    have HCL := Lib.hid hCL
    clear hCL
    cases gs with
    | nil =>
      have hcf : CL = false := Hgs.out
      subst hcf
      have ho : out = [] := Hout.out
      subst ho
      have hc0 : P.code = 0 := by have := HCL.out; simpa using this
      rw [bs_nil]
      rw [hc0] at hCo
      clear hc0
      go_wp2_with (first | (go_at_call 31; refine hCl.mono ?_; rintro e w6 ⟨rfl, rfl⟩) | (go_at_call 39; refine hCo.mono ?_; rintro e w6 ⟨rfl, rfl⟩))
      go_ret
      exact ⟨rfl, HB3.out.trans (Hbr.out.mono HB3.out.size)⟩
    | cons f r =>
      obtain ⟨fop, fbody⟩ := f
      have hg := Hgs.out
      obtain ⟨hfine, hfl, hif⟩ := hg
      simp only at hfine hfl hif
      have hout := Hout.out
      rw [flat_cons] at hout
      simp only at hout
      have hn := said_ne hfine
      have hpl := parse_said hfine (flatL r) hfl
      rw [← hout] at hpl
      have hPa : ∀ wx, Calls Tryd.prog 32 #[.string (bs out), .int .i64 16777216] wx fun e w' => e = .returned (.tuple #[.agg #[.bool true, .bool false, .int .i64 fop, .string ⟨#[]⟩, .string (bs fbody)], .int .i64 ((sayL fop fbody).length : Nat), .int .i64 0]) ∧ Below wx.heap.size wx w' := fun wx => by
        have := parse_any (bs out) 16777216 wx (by rw [bs_size]; have := Hol.out; omega)
        rw [show bl (bs out) = out from rfl, hpl] at this
        exact this
      have hol : out.length = (sayL fop fbody).length + (flatL r).length := by rw [hout, List.length_append]
      have hEx : (bs out).extract (sayL fop fbody).length (bs out).size = bs (flatL r) := by
        apply bl_inj; rw [bl_extract, bl_bs, bl_bs, bs_size, hout, List.drop_append_of_le_length (by omega), List.drop_of_length_le (by omega), List.nil_append, List.take_of_length_le (by rw [List.length_append]; omega)]
      have hosz : (bs out).size = out.length := bs_size _
      have hne : (bs out).toList.isEmpty = false := by
        rw [bs_test]
        cases out with
        | nil => simp at hol; omega
        | cons _ _ => rfl
      obtain ⟨n, hnn⟩ : ∃ n, (sayL fop fbody).length = n := ⟨_, rfl⟩
      simp only [hnn] at hn hPa hol hEx
      have hn1 : ((n : Int) < 2) = False := by simp; omega
      have hnle : (n : Int) ≤ ((bs out).size : Int) := by rw [hosz]; omega
      have Hol2 := Lib.hid hol
      have Hosz := Lib.hid hosz
      have Hif := Lib.hid hif
      have hn2 : (2 : Int) ≤ (n : Int) := by omega
      generalize hOB : bs out = OB at *
      clear hn1 hol hosz hif hout hpl hfine hfl hnn hOB hn
      by_cases h8 : fop = 8
      · have hif := Hif.out
        rw [if_pos h8] at hif
        obtain ⟨rfl, rfl⟩ := hif
        have hpc0 : (P.code != 0) = true := by have := HCL.out; simpa using this
        have hh0 : H = 0 := by rw [← HH.out]; exact Hshut.out (by simpa using HCL.out)
        have hHd := HHd.out
        rw [HH.out, hh0] at hHd
        subst h8
        have hEx2 : OB.extract n OB.size = ⟨#[]⟩ := hEx
        clear hEx hh0
        go_upto_region 17 with (first | (go_at_call 32; refine (hPa _).mono ?_; rintro e w6 ⟨rfl, hb6⟩))
        have hx7 : Below w3.heap.size w3 (w6.alloc (.cells #[.bool true, .bool false, .int .i64 8, .string ⟨#[]⟩, .string (bs fbody)] 23)) := (Hbr.out.trans (hb6.mono Hbr.out.size)).alloc (Nat.le_trans Hbr.out.size hb6.size) _
        have hC7 := HCl.out _ hx7
        have hD7 := HCo.out _ hx7
        have hE7 := hHd _ hx7
        rw [hpc0] at hC7
        have hpc1 : (P.code != 0) = true := hpc0
        clear hHd
        go_wp2_with (first | (go_at_call 31; refine hC7.mono ?_; rintro e w8 ⟨rfl, rfl⟩) | (go_at_call 39; refine hD7.mono ?_; rintro e w8 ⟨rfl, rfl⟩) | (go_at_call 38; refine hE7.mono ?_; rintro e w8 ⟨rfl, hb8⟩))
        go_ret
        exact ⟨by simp, HB3.out.trans ((hx7.trans (hb8.mono hx7.size)).mono HB3.out.size)⟩
      · have hif := Hif.out
        rw [if_neg h8] at hif
        have e8 : (fop == 8) = false := by simpa using h8
        have Hrr := Lib.hid hif
        clear h8 hif
        go_wp2_with (first | (go_at_call 32; refine (hPa _).mono ?_; rintro e w6 ⟨rfl, hb6⟩))
        go_roundg ((flatL r).length + 1)
        case measure => have := Hol2.out; omega
        case rel => exact ⟨flatL r, r, rfl, rfl, Lib.hid (by rw [HCL.out]; exact Hrr.out), rfl, Lib.hid (by have := Hol2.out; have := Hol.out; omega), Lib.hid ((Hbr.out.trans (hb6.mono Hbr.out.size)).alloc (Nat.le_trans Hbr.out.size hb6.size) _)⟩
end Go.Proofs.YtmgfpjfamdbhbaaDoor
