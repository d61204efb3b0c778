/- Print, of the program and of the reference, is one function; mask and body are shorter than 2^48 bytes. -/
import Derived.Test.YtmgfpjfamdbhbaaDoorFam
namespace Go.Proofs.YtmgfpjfamdbhbaaDoor
open Go.RowKit

def firstB (fin : Bool) (op : Int) : UInt8 := UInt8.ofNat (op.toNat + if fin then 128 else 0)
def lenL (msk : Bool) (n : Nat) : List UInt8 :=
  if n ≤ 125 then [UInt8.ofNat (n + if msk then 128 else 0)]
  else if n ≤ 65535 then UInt8.ofNat (126 + if msk then 128 else 0) :: highL n 2
  else UInt8.ofNat (127 + if msk then 128 else 0) :: highL n 8
/-- a frame's bytes, and an error's number -/
def printL (fin msk : Bool) (op : Int) (mask body : List UInt8) : List UInt8 × Int :=
  if isOpB op = false then ([], 221)
  else if (msk && mask.length != 4) || (!msk && !mask.isEmpty) then ([], 220)
  else if controlB op && (!fin || decide (125 < body.length)) then ([], 222)
  else (firstB fin op :: (lenL msk body.length ++ (mask ++ maskL body mask)), 0)

theorem ret2_str {a b : ByteArray} {n m : Int} (h : bl a = bl b) (h2 : n = m) : Ending.returned (.tuple #[.string a, .int .i64 n]) = .returned (.tuple #[.string b, .int .i64 m]) := by rw [bl_inj h, h2]

def frameV (fin msk : Bool) (op : Int) (mask body : ByteArray) : Value := .agg #[.bool fin, .bool msk, .int .i64 op, .string mask, .string body]


theorem isOp_cases {op : Int} (h : isOpB op = true) : op = 0 ∨ op = 1 ∨ op = 2 ∨ op = 8 ∨ op = 9 ∨ op = 10 := by
  simp only [isOpB, decide_eq_true_eq] at h; omega


/-- is a mask as it must not be? -/
def maskBad (msk : Bool) (mask : ByteArray) : Bool := (msk && (mask.size != 4)) || (!msk && !(bl mask).isEmpty)
theorem or_fin : ∀ n : Fin 128, bits .or .u8 128 (n.val : Int) = ((UInt8.ofNat (n.val + 128)).toNat : Int) := by decide
theorem or_fin0 : ∀ n : Fin 128, bits .or .u8 0 (n.val : Int) = ((UInt8.ofNat (n.val + 0)).toNat : Int) := by decide
theorem or_len (msk : Bool) (n : Nat) (h : n < 128) : bits .or .u8 (if msk = true then 128 else 0) (n : Int) = ((UInt8.ofNat (n + if msk then 128 else 0)).toNat : Int) := by
  cases msk
  · exact or_fin0 ⟨n, h⟩
  · exact or_fin ⟨n, h⟩
theorem byte_shr (n d : Nat) : (n : Int) / 2 ^ (8 * d) % 256 = ((UInt8.ofNat (n >>> (8 * d))).toNat : Int) := by
  rw [u8_of, Nat.shiftRight_eq_div_pow]; simp
theorem highL_drop (n k d : Nat) (h : d < k) : (highL n k).drop (k - (d + 1)) = UInt8.ofNat (n >>> (8 * d)) :: (highL n k).drop (k - d) := by
  rw [List.drop_eq_getElem_cons (by rw [highL, highTo_length]; omega), show k - (d + 1) + 1 = k - d by omega]
  congr 1
  simp only [highL, highTo, List.getElem_map, List.getElem_range, Nat.not_lt_zero, if_false]
  rw [show k - 1 - (k - (d + 1)) = d by omega]
theorem first_or (x : UInt8) (h : isOpB x.toNat = true) : bits .or .u8 (x.toNat : Int) 128 = ((firstB true x.toNat).toNat : Int) ∧ firstB false x.toNat = x := by
  have key : ∀ k : Nat, (x.toNat : Int) = (k : Int) → x = UInt8.ofNat k := fun k hk => by
    apply UInt8.toNat_inj.1
    have := x.toNat_lt
    simp; omega
  rcases isOp_cases h with h | h | h | h | h | h
  · obtain rfl := key 0 h; exact ⟨by decide, by decide⟩
  · obtain rfl := key 1 h; exact ⟨by decide, by decide⟩
  · obtain rfl := key 2 h; exact ⟨by decide, by decide⟩
  · obtain rfl := key 8 h; exact ⟨by decide, by decide⟩
  · obtain rfl := key 9 h; exact ⟨by decide, by decide⟩
  · obtain rfl := key 10 h; exact ⟨by decide, by decide⟩
/-- what a frame must be to be printed -/
def Good (fin msk : Bool) (op : Int) (mask body : ByteArray) : Prop :=
  isOpB op = true ∧ maskBad msk mask = false ∧ (controlB op && (!fin || decide (125 < body.size))) = false
theorem printL_eq (fin msk : Bool) (op : Int) (mask body : ByteArray) : printL fin msk op (bl mask) (bl body) =
    if isOpB op = false then ([], 221) else if maskBad msk mask then ([], 220) else if controlB op && (!fin || decide (125 < body.size)) then ([], 222)
    else (firstB fin op :: (lenL msk body.size ++ (bl mask ++ maskL (bl body) (bl mask))), 0) := by
  unfold printL maskBad
  rw [bl_length, bl_length]
section
variable {fin msk I C : Bool} {op : Int} {mask body : ByteArray}
theorem int_ne4 (n : Nat) : ((n : Int) != 4) = (n != 4) := by rw [Bool.eq_iff_iff]; simp; omega
theorem mb_1 (h : msk = true) (h2 : ((mask.size : Int) != 4) = true) : maskBad msk mask = true := by rw [int_ne4] at h2; simp [maskBad, h, h2]
theorem mb_2 (h : ¬ msk = true) (h2 : (!mask.toList.isEmpty) = true) : maskBad msk mask = true := by rw [bl_toList] at h2; simp at h; simp only [maskBad, h, h2]; rfl
theorem mg_1 (h : msk = true) (h2 : ((mask.size : Int) != 4) = false) : maskBad msk mask = false := by rw [int_ne4] at h2; simp [maskBad, h, h2]
theorem mg_2 (h : ¬ msk = true) (h2 : (!mask.toList.isEmpty) = false) : maskBad msk mask = false := by rw [bl_toList] at h2; simp at h; simp only [maskBad, h, h2]; rfl
theorem pl_1 (h : isOpB op = I) (h1 : (!I) = true) : printL fin msk op (bl mask) (bl body) = ([], 221) := by
  rw [printL_eq, if_pos (by rw [h]; simpa using h1)]
theorem pl_2 (h : isOpB op = I) (h1 : (!I) = false) (h2 : maskBad msk mask = true) : printL fin msk op (bl mask) (bl body) = ([], 220) := by
  rw [printL_eq, if_neg (by rw [h]; simpa using h1), if_pos h2]
theorem pl_3 (h : isOpB op = I) (h1 : (!I) = false) (h2 : maskBad msk mask = false) (hc : controlB op = C) (h3 : C = true) (h4 : fin = true → (125 : Int) < (body.size : Int)) :
    printL fin msk op (bl mask) (bl body) = ([], 222) := by
  rw [printL_eq, if_neg (by rw [h]; simpa using h1), if_neg (by rw [h2]; simp), if_pos]
  rw [hc, h3]
  cases fin
  · rfl
  · have := h4 rfl
    simp; omega
theorem good_of (h : isOpB op = I) (h1 : (!I) = false) (h2 : maskBad msk mask = false) (hc : controlB op = C) (h3 : C = true → fin = true ∧ (body.size : Int) ≤ 125) : Good fin msk op mask body := by
  refine ⟨by rw [h]; simpa using h1, h2, ?_⟩
  rw [hc]
  cases C
  · rfl
  · obtain ⟨rfl, h⟩ := h3 rfl
    simp; omega
theorem pl_good (h : Good fin msk op mask body) : printL fin msk op (bl mask) (bl body) = (firstB fin op :: (lenL msk body.size ++ (bl mask ++ maskL (bl body) (bl mask))), 0) := by
  obtain ⟨h1, h2, h3⟩ := h
  rw [printL_eq, if_neg (by rw [h1]; simp), if_neg (by rw [h2]; simp), if_neg (by rw [h3]; simp)]
end

set_option maxHeartbeats 1000000 in
set_option maxRecDepth 100000 in
theorem print_any (fin msk : Bool) (op : Int) (mask body : ByteArray) (w : World) (hb : body.size ≤ 281474976710656) (hm : mask.size ≤ 281474976710656) :
    Calls Tryd.prog 15 #[.agg #[.bool fin, .bool msk, .int .i64 op, .string mask, .string body]] w fun e w' =>
      e = .returned (.tuple #[.string (bs (printL fin msk op (bl mask) (bl body)).1), .int .i64 (printL fin msk op (bl mask) (bl body)).2]) ∧ Below w.heap.size w w' := by
  have hO := isOp_any op
  have hC := control_any op
  obtain ⟨I, hI⟩ : ∃ I, isOpB op = I := ⟨_, rfl⟩
  obtain ⟨C, hCC⟩ : ∃ C, controlB op = C := ⟨_, rfl⟩
  rw [hI] at hO
  rw [hCC] at hC
  have HI := Lib.hid hI
  have HC := Lib.hid hCC
  clear hI hCC
  have hB1 : Below w.heap.size w (w.alloc (.cells #[.bool fin, .bool msk, .int .i64 op, .string mask, .string body] 23)) := (Below.refl _ _).alloc (Nat.le_refl _) _
  go_enter Tryd.func15, Tryd.ntmps15
  go_upto_block 0 with (first | (go_at_call 40; refine (hO _).mono ?_; rintro e w' ⟨rfl, rfl⟩) | (go_at_call 41; refine (hC _).mono ?_; rintro e w' ⟨rfl, rfl⟩))
  go_cut [] (fun wx => Hid (Good fin msk op mask body) ∧ wx = w.alloc (.cells #[.bool fin, .bool msk, .int .i64 op, .string mask, .string body] 23))
  case first =>
    cases fin <;> cases msk
    all_goals
      go_wp2_with (first | (go_at_call 40; refine (hO _).mono ?_; rintro e w' ⟨rfl, rfl⟩) | (go_at_call 41; refine (hC _).mono ?_; rintro e w' ⟨rfl, rfl⟩))
    all_goals first
      | (go_ret2; exact ⟨by rw [pl_1 HI.out ‹(!I) = true›]; rfl, hB1⟩)
      | (go_ret2; refine ⟨?_, hB1⟩; rw [pl_2 HI.out ‹(!I) = false› ?_]; rfl; (first | exact mb_1 rfl ‹_› | exact mb_2 (by simp) ‹_›))
      | (go_ret2; refine ⟨?_, hB1⟩; rw [pl_3 HI.out ‹(!I) = false› ?_ HC.out ‹C = true› ?_]; rfl; (first | exact mg_1 rfl ‹_› | exact mg_2 (by simp) ‹_›); (intro hf; first | assumption | exact absurd hf (by simp)))
      | (go_meet; exact ⟨good_of HI.out ‹(!I) = false› (by first | exact mg_1 rfl ‹_› | exact mg_2 (by simp) ‹_›) HC.out (by intro hc; first | exact ⟨rfl, ‹_›⟩ | exact absurd hc ‹¬ C = true›), rfl⟩)
      | skip
  case rest =>
    obtain ⟨HG, rfl⟩ := hcut
    obtain ⟨x, rfl⟩ : ∃ x : UInt8, op = x.toNat := by rcases isOp_cases HG.out.1 with h | h | h | h | h | h <;> exact ⟨UInt8.ofNat op.toNat, by subst h; rfl⟩
    have hx : (x.toNat : Int) < 256 := by have := x.toNat_lt; omega
    have hx0 : 0 ≤ (x.toNat : Int) := by omega
    have hor := (first_or x HG.out.1).1
    have hx1 := (first_or x HG.out.1).2
    go_upto_if 51 with fail
    go_cut [0, 4] (fun s0 v wx => v = .int .u8 (firstB fin x.toNat).toNat ∧ wx = w.alloc (.cells #[.bool fin, .bool msk, .int .i64 x.toNat, .string mask, .string body] 23))
    case first =>
      cases fin
      · go_wp2_with fail
        go_meet
        exact ⟨by rw [hx1], rfl⟩
      · go_wp2_with fail
        go_meet
        exact ⟨rfl, rfl⟩
    case rest =>
    obtain ⟨rfl, rfl⟩ := hcut
    clear hor hx1
    go_upto_if 55 with fail
    go_cut [0, 5] (fun s0 v wx => ∃ M : Int, v = .int .u8 M ∧ Hid (M = if msk = true then 128 else 0) ∧ wx = w.alloc (.cells #[.bool fin, .bool msk, .int .i64 x.toNat, .string mask, .string body] 23))
    case first =>
      cases msk
      · go_wp2_with fail
        go_meet
        exact ⟨0, rfl, rfl, rfl⟩
      · go_wp2_with fail
        go_meet
        exact ⟨128, rfl, rfl, rfl⟩
    case rest =>
    obtain ⟨M, rfl, HM, rfl⟩ := hcut
    have hown : OwnB ((w.alloc (.cells #[.bool fin, .bool msk, .int .i64 x.toNat, .string mask, .string body] 23)).alloc (.cells #[.int .u8 (firstB fin x.toNat).toNat] 5)) (w.heap.size + 1) (w.heap.size + 1) 1 [firstB fin x.toNat] := by
      have := OwnB.one (w.alloc (.cells #[.bool fin, .bool msk, .int .i64 x.toNat, .string mask, .string body] 23)) (w.heap.size + 1) (firstB fin x.toNat) (by simp)
      simpa using this
    generalize hF : firstB fin x.toNat = F at *
    have HF := Lib.hid hF
    clear hF
    have hc3 : (w.alloc (.cells #[.bool fin, .bool msk, .int .i64 x.toNat, .string mask, .string body] 23)).cell? ⟨w.heap.size, 3, none⟩ = some (.string mask) := by simp [World.cell?_alloc_at]
    have hc4 : (w.alloc (.cells #[.bool fin, .bool msk, .int .i64 x.toNat, .string mask, .string body] 23)).cell? ⟨w.heap.size, 4, none⟩ = some (.string body) := by simp [World.cell?_alloc_at]
    have hBa : Below (w.heap.size + 1) (w.alloc (.cells #[.bool fin, .bool msk, .int .i64 x.toNat, .string mask, .string body] 23)) ((w.alloc (.cells #[.bool fin, .bool msk, .int .i64 x.toNat, .string mask, .string body] 23)).alloc (.cells #[.int .u8 F.toNat] 5)) := (Below.refl _ _).alloc (by simp) _
    have hsz : (w.alloc (.cells #[.bool fin, .bool msk, .int .i64 x.toNat, .string mask, .string body] 23)).heap.size = w.heap.size + 1 := by simp
    go_upto_block 1 with fail
    generalize (w.alloc (.cells #[.bool fin, .bool msk, .int .i64 x.toNat, .string mask, .string body] 23)) = W0 at *
    go_cut [6, 8] (fun s6 s8 wx => ∃ (g cap nb : Nat) (l : List UInt8), s6 = .slice (some ⟨g, 0, none⟩) l.length cap ∧ s8 = .int .i64 nb ∧ nb ≤ 8 ∧ l.length ≤ 2 ∧ Hid (l ++ highL body.size nb = F :: lenL msk body.size) ∧
      OwnB wx (w.heap.size + 1) g cap l ∧ Below (w.heap.size + 1) W0 wx)
    case first =>
      by_cases h1 : body.size ≤ 125
      · obtain ⟨y, hy⟩ : ∃ y, y = UInt8.ofNat (body.size + if msk then 128 else 0) := ⟨_, rfl⟩
        have hu : bits .or .u8 M (body.size : Int) = (y.toNat : Int) := by rw [hy, HM.out]; exact or_len msk body.size (by omega)
        have Hy := Lib.hid hy
        clear hy
        go_wp2_with (at_builtin; refine wpList_append_byte _ rfl _ _ rfl _ _ _ _ _ rfl hown rfl _ y _ rfl (by simp [hsz]) rfl (by simp) (by simp [hsz]) ?_; intro g' cap' w' hown' hbel')
        go_meet
        exact ⟨g', cap', 0, _, rfl, rfl, by omega, by simp, by show _ = _; simp [lenL, h1, Hy.out, highL, highTo], hown', hBa.trans hbel'⟩
      · by_cases h2 : body.size ≤ 65535
        · obtain ⟨y, hy⟩ : ∃ y, y = UInt8.ofNat (126 + if msk then 128 else 0) := ⟨_, rfl⟩
          have hu : bits .or .u8 M 126 = (y.toNat : Int) := by rw [hy, HM.out]; cases msk <;> rfl
          have Hy := Lib.hid hy
          clear hy
          go_wp2_with (at_builtin; refine wpList_append_byte _ rfl _ _ rfl _ _ _ _ _ rfl hown rfl _ y _ rfl (by simp [hsz]) rfl (by simp) (by simp [hsz]) ?_; intro g' cap' w' hown' hbel')
          go_meet
          exact ⟨g', cap', 2, _, rfl, rfl, by omega, by simp, by show _ = _; simp [lenL, h1, h2, Hy.out], hown', hBa.trans hbel'⟩
        · obtain ⟨y, hy⟩ : ∃ y, y = UInt8.ofNat (127 + if msk then 128 else 0) := ⟨_, rfl⟩
          have hu : bits .or .u8 M 127 = (y.toNat : Int) := by rw [hy, HM.out]; cases msk <;> rfl
          have Hy := Lib.hid hy
          clear hy
          go_wp2_with (at_builtin; refine wpList_append_byte _ rfl _ _ rfl _ _ _ _ _ rfl hown rfl _ y _ rfl (by simp [hsz]) rfl (by simp) (by simp [hsz]) ?_; intro g' cap' w' hown' hbel')
          go_meet
          exact ⟨g', cap', 8, _, rfl, rfl, by omega, by simp, by show _ = _; simp [lenL, h1, h2, Hy.out], hown', hBa.trans hbel'⟩
    case rest =>
    obtain ⟨g, cap, nb, l, rfl, rfl, hnb, hl, Hl, hown2, hbel2⟩ := hcut
    clear hown hBa
    go_wp2
    go_loopw [6, 9] (fun s6 s9 wr => ∃ (c g cap : Nat) (l : List UInt8), s6 = .slice (some ⟨g, 0, none⟩) l.length cap ∧ s9 = .int .i64 ((c : Int) - 1) ∧ c ≤ nb ∧ l.length ≤ 2 + (nb - c) ∧
      Hid (l ++ (highL body.size nb).drop (nb - c) = F :: lenL msk body.size) ∧ OwnB wr (w.heap.size + 1) g cap l ∧ Below (w.heap.size + 1) W0 wr) (fun _ i _ => (intOf i + 1).toNat)
    case atStart => exact ⟨nb, g, cap, l, rfl, rfl, Nat.le_refl _, by omega, by show _ = _; rw [Nat.sub_self, List.drop_zero]; exact Hl.out, hown2, hbel2⟩
    case round =>
      clear hown2 hbel2 Hl
      obtain ⟨c, g', cap', l', rfl, rfl, hc, hl', Hl', hown3, hbel3⟩ := hrel
      by_cases h0 : 0 < c
      · obtain ⟨d, rfl⟩ : ∃ d, c = d + 1 := ⟨c - 1, by omega⟩
        have hbs := hbel3.size
        go_wp2_with (at_builtin; refine wpList_append_byte _ rfl _ _ rfl _ _ _ _ _ rfl hown3 rfl _ (UInt8.ofNat (body.size >>> (8 * d))) _ rfl (by simp) (byte_shr _ _) (by omega) (by omega) ?_; intro g2 cap2 w2 hown4 hbel4)
        go_roundw
        case rel =>
          refine ⟨d, g2, cap2, _, by simp, by go_num, by omega, by simp; omega, ?_, hown4, hbel3.trans hbel4⟩
          show _ = _
          rw [← Hl'.out, highL_drop _ _ _ (by omega)]; simp
        case measure => simp [intOf]
      · obtain rfl : c = 0 := by omega
        have hl2 := Hl'.out
        rw [Nat.sub_zero, List.drop_of_length_le (by rw [highL, highTo_length]; exact Nat.le_refl _), List.append_nil] at hl2
        have Hl2 := Lib.hid hl2
        clear hl2 Hl'
        have hback : ∀ wx, Below wr.heap.size wr wx → (convert 76 9 (.slice (some ⟨g', 0, none⟩) l'.length cap')).run Tryd.prog wx = .ok (.string (bs l')) wx :=
          fun wx hx => (hown3.kept hx).back
        have hd3 := (hbel3.cell (p := ⟨w.heap.size, 3, none⟩) (by simp)).trans hc3
        have hd4 := (hbel3.cell (p := ⟨w.heap.size, 4, none⟩) (by simp)).trans hc4
        have hlt := hbel3.size
        have hls : (bs l').size ≤ 10 := by rw [bs_size]; omega
        have hLb : bl (bs l') = l' := rfl
        generalize bs l' = L at *
        have hM := fun wx => mask_any body mask wx hb
        have hR : (bs (maskL (bl body) (bl mask))).size ≤ 281474976710656 := by rw [bs_size, maskL_length, bl_length]; exact hb
        have hRb : bl (bs (maskL (bl body) (bl mask))) = maskL (bl body) (bl mask) := rfl
        generalize bs (maskL (bl body) (bl mask)) = R at hM hR hRb
        have HL := Lib.hid hLb
        have HR := Lib.hid hRb
        obtain ⟨FI, FF, hFN, hF1, hF2⟩ := family wr.heap.size wr
        have fb := fun i => hback (FF i) (hF1 i)
        have f3 := fun i => ((hF1 i).cell (p := ⟨w.heap.size, 3, none⟩) (by simp; omega)).trans hd3
        have f4 := fun i => ((hF1 i).cell (p := ⟨w.heap.size, 4, none⟩) (by simp; omega)).trans hd4
        clear hLb hRb hback
        go_wp2
        refine wp_region_quiet_fam FF (by kernel_rfl) (by kernel_rfl) (hF2 _ (Below.refl _ _).drew) ?_
        repeat (any_goals (first | go_big_quiet_step ((go_at_call 18; refine (hM _).mono ?_; rintro e w5 ⟨rfl, hbm⟩; exact ⟨rfl, hF2 _ ((hF1 _).trans (hbm.mono (hF1 _).size))⟩)) | quiet_step ((go_at_call 18; refine (hM _).mono ?_; rintro e w5 ⟨rfl, hbm⟩; exact ⟨rfl, hF2 _ ((hF1 _).trans (hbm.mono (hF1 _).size))⟩))))
        refine wpQuiet_nil ?_
        intro wz hw'
        obtain ⟨nq, rfl⟩ := hw'
        have hbz := hF1 nq
        generalize FF nq = wz at *
        clear fb f3 f4 hF1 hF2
        go_wp2
        go_ret2
        refine ⟨?_, ?_⟩
        · rw [pl_good HG.out]
          refine ret2_str ?_ rfl
          rw [bl_bs, bl_append, bl_append, HL.out, HR.out, HF.out, Hl2.out]
          simp
        · exact hB1.trans ((hbel3.mono (by omega)).trans (hbz.mono (by omega)))
end Go.Proofs.YtmgfpjfamdbhbaaDoor
