/- IsText, PrintClose and ParseClose of the program, by plain functions; the tables of unicode/utf8 are as laid; texts are shorter than 2^62 bytes. -/
import Derived.Test.YtmgfpjfamdbhbaaDoorRPrint
import Derived.Test.YtmgfpjfamdbhbaaDoorHead
import Derived.Test.YtmgfpjfamdbhbaaDoorUtf
namespace Go.Proofs.YtmgfpjfamdbhbaaDoor
open Go.RowKit

def Tabs (w : World) : Prop := Lib.Utf8Tabs 0 1 w
theorem Tabs.below {w w' : World} {B : Nat} (h : Tabs w) (hB : 2 ≤ B) (hb : Below B w w') : Tabs w' :=
  ⟨fun c hc => (hb.cell (p := ⟨0, c, none⟩) (by show 0 < B; omega)).trans (h.1 c hc),
   fun i hi => ⟨(hb.cell (p := ⟨1, 2 * i, none⟩) (by show 1 < B; omega)).trans (h.2 i hi).1, (hb.cell (p := ⟨1, 2 * i + 1, none⟩) (by show 1 < B; omega)).trans (h.2 i hi).2⟩⟩
theorem Tabs.size {w : World} (h : Tabs w) : 2 ≤ w.heap.size := by
  have := World.block_lt_of_cell? w _ ((h.2 0 (by omega)).1)
  exact this

theorem drewN_below (B : Nat) (w : World) : ∀ q, Below B w (w.drewN q)
  | 0 => Below.refl _ _
  | q + 1 => (drewN_below B w q).drew
theorem isText_any (s : ByteArray) (w : World) (hs : s.size ≤ 4611686018427387904) (hT : Tabs w) :
    Calls Tryd.prog 20 #[.string s] w fun e w' => e = .returned (.bool (Lib.validD (bl s))) ∧ Below w.heap.size w w' := by
  have cV : Calls Tryd.prog 44 #[.string s] w fun e w' => e = .returned (.bool (Lib.validD (bl s))) ∧ Below w.heap.size w w' := Any.utf8_ValidString Tryd.laysValid s w (by omega) hT
  generalize Lib.validD (bl s) = V at *
  clear hT
  go_enter Tryd.func20, Tryd.ntmps20
  go_wp2_with (go_at_call 44; refine cV.mono ?_; rintro e w' ⟨rfl, hb⟩)
  go_ret
  exact ⟨rfl, hb⟩

/-- a close body, and an error's number -/
def closeL (code : Int) (reason : List UInt8) : List UInt8 × Int :=
  if code = 0 ∧ reason.isEmpty = true then ([], 0)
  else if isCodeB code = false then ([], 224)
  else if Lib.validD reason = false ∨ 123 < reason.length then ([], 223)
  else (highL code.toNat 2 ++ reason, 0)
/-- the code, the reason, an error's number -/
def parseCloseL (body : List UInt8) : Int × List UInt8 × Int :=
  if body.isEmpty = true then (1005, [], 0)
  else if body.length = 1 ∨ 125 < body.length then (0, [], 224)
  else if isCodeB ((256 * (at0 body).toNat + (at1 body).toNat : Nat) : Int) = false then (0, [], 224)
  else if Lib.validD (body.drop 2) = false then (0, [], 223)
  else (((256 * (at0 body).toNat + (at1 body).toNat : Nat) : Int), body.drop 2, 0)

theorem at0_of (s : ByteArray) {x : UInt8} {h : 0 < s.size} (hx : s[0] = x) : at0 (bl s) = x := by
  rw [← hx]; unfold at0; rw [List.getD_eq_getElem?_getD, List.getElem?_eq_getElem (by rw [bl_length]; exact h)]; rfl
theorem at1_of (s : ByteArray) {x : UInt8} {h : 1 < s.size} (hx : s[1] = x) : at1 (bl s) = x := by
  rw [← hx]; unfold at1; rw [List.getD_eq_getElem?_getD, List.getElem?_eq_getElem (by rw [bl_length]; exact h)]; rfl
theorem or_byte_i64 (x y : UInt8) : bits .or .i64 ((x.toNat : Int) * 256) (y.toNat : Int) = ((256 * x.toNat + y.toNat : Nat) : Int) := by
  have hx := x.toNat_lt
  have hy := y.toNat_lt
  have e : ((x.toNat : Int) * 256) = ((x.toNat * 256 : Nat) : Int) := by omega
  rw [e]
  show IntKind.i64.wrap ((BitVec.ofInt 64 ((x.toNat * 256 : Nat) : Int) ||| BitVec.ofInt 64 ((y.toNat : Nat) : Int)).toNat : Int) = _
  rw [BitVec.toNat_or, ofInt_u64 _ (by omega), ofInt_u64 _ (by omega), nat_join 8 _ _ (by omega) (by omega), IntKind.wrap_i64]
  omega
theorem isCode_range {n : Int} (h : isCodeB n = true) : 1000 ≤ n ∧ n ≤ 4999 := by
  simp only [isCodeB, decide_eq_true_eq] at h; omega

theorem conv2 (x y : UInt8) {u v : Int} (hu : u = x.toNat) (hv : v = y.toNat) : ∀ (W : World) (b : Nat), b = W.heap.size → (convert 76 9 (.slice (some ⟨b, 0, none⟩) 2 2)).run Tryd.prog (W.alloc (.cells #[.int .u8 u, .int .u8 v] 5)) =
    .ok (.string (bs [x, y])) (W.alloc (.cells #[.int .u8 u, .int .u8 v] 5)) := by
  intro W b hb
  subst hb hu hv
  refine run_convert_bytes_back (P := Tryd.prog) _ 76 9 5 ⟨W.heap.size, 0, none⟩ 2 [x, y] Tryd.underlying76 Tryd.underlying5 Tryd.underlying9 ?_
  intro j hj
  rw [addr_add, World.cell?_alloc_at _ _ _ _ rfl]
  match j, hj with
  | 0, _ => rfl
  | 1, _ => rfl
theorem highL2 (c : Nat) : highL c 2 = [UInt8.ofNat (c / 256), UInt8.ofNat c] := by
  simp [highL, highTo, List.range_succ, Nat.shiftRight_eq_div_pow]

set_option maxHeartbeats 1000000 in
set_option maxRecDepth 100000 in
theorem printClose_any (code : Int) (reason : ByteArray) (w : World) (hs : reason.size ≤ 4611686018427387904) (hT : Tabs w) :
    Calls Tryd.prog 22 #[.int .i64 code, .string reason] w fun e w' =>
      e = .returned (.tuple #[.string (bs (closeL code (bl reason)).1), .int .i64 (closeL code (bl reason)).2]) ∧ Below w.heap.size w w' := by
  have hV := isText_any reason w hs hT
  have hCo := isCode_any code
  obtain ⟨V, hVV⟩ : ∃ V, Lib.validD (bl reason) = V := ⟨_, rfl⟩
  obtain ⟨C, hCC⟩ : ∃ C, isCodeB code = C := ⟨_, rfl⟩
  rw [hVV] at hV
  rw [hCC] at hCo
  have HV := Lib.hid hVV
  have HC := Lib.hid hCC
  clear hVV hCC hT
  by_cases h0 : code = 0 ∧ reason.toList.isEmpty = true
  · have e0 : (code == 0) = true := by simp [h0.1]
    have e1 : reason.toList.isEmpty = true := h0.2
    have Hr := Lib.hid (show closeL code (bl reason) = ([], 0) by rw [closeL, if_pos (by rw [← bl_toList]; exact h0)])
    clear h0
    go_enter Tryd.func22, Tryd.ntmps22
    go_wp2_with fail
    go_ret2
    exact ⟨by rw [Hr.out]; rfl, Below.refl _ _⟩
  have Hr := Lib.hid (show closeL code (bl reason) = if C = false then ([], 224) else if V = false ∨ 123 < reason.size then ([], 223) else (highL code.toNat 2 ++ bl reason, 0) by
    rw [closeL, if_neg (by rw [← bl_toList]; exact h0), HV.out, HC.out, bl_length])
  have hg : (code == 0) = false ∨ ((code == 0) = true ∧ reason.toList.isEmpty = false) := by
    by_cases hc : code = 0
    · exact .inr ⟨by simp [hc], by simpa [hc] using h0⟩
    · exact .inl (by simp [hc])
  clear h0
  cases C
  · rcases hg with g0 | ⟨g0, g1⟩
    all_goals
      go_enter Tryd.func22, Tryd.ntmps22
      go_wp2_with (first | (go_at_call 46; refine (hCo _).mono ?_; rintro e w' ⟨rfl, rfl⟩))
      go_ret2
      exact ⟨by rw [Hr.out]; rfl, Below.refl _ _⟩
  · have hr := isCode_range HC.out
    have g0 : (code == 0) = false := by simp; omega
    clear hg
    obtain ⟨c, rfl⟩ : ∃ c : Nat, code = c := ⟨code.toNat, by omega⟩
    cases V
    · go_enter Tryd.func22, Tryd.ntmps22
      go_wp2_with (first | (go_at_call 46; refine (hCo _).mono ?_; rintro e w' ⟨rfl, rfl⟩) | (go_at_call 20; refine hV.mono ?_; rintro e w5 ⟨rfl, hb5⟩))
      go_ret2
      exact ⟨by rw [Hr.out]; rfl, hb5⟩
    · by_cases h3 : (123 : Int) < (reason.size : Int)
      · go_enter Tryd.func22, Tryd.ntmps22
        go_wp2_with (first | (go_at_call 46; refine (hCo _).mono ?_; rintro e w' ⟨rfl, rfl⟩) | (go_at_call 20; refine hV.mono ?_; rintro e w5 ⟨rfl, hb5⟩))
        go_ret2
        exact ⟨by rw [Hr.out, if_neg (by simp), if_pos (by right; omega)]; rfl, hb5⟩
      · go_enter Tryd.func22, Tryd.ntmps22
        go_upto_region 7 with (first | (go_at_call 46; refine (hCo _).mono ?_; rintro e w' ⟨rfl, rfl⟩) | (go_at_call 20; refine hV.mono ?_; rintro e w5 ⟨rfl, hb5⟩))
        have hH := conv2 (UInt8.ofNat (c / 256)) (UInt8.ofNat c) (u := (c : Int) / 256) (v := (c : Int) % 256) (by rw [u8_of]; omega) (by rw [u8_of])
        have hs2 : ∀ a b : UInt8, (bs [a, b]).size = 2 := fun _ _ => rfl
        go_wp2_with fail
        go_ret2
        refine ⟨?_, hb5.trans ((Below.refl _ _).alloc hb5.size _)⟩
        rw [Hr.out, if_neg (by simp), if_neg (by intro h; rcases h with h | h; exact absurd h (by simp); omega)]
        refine ret2_str ?_ rfl
        rw [bl_append, bl_bs, bl_bs, Int.toNat_natCast, highL2]

set_option maxHeartbeats 1000000 in
set_option maxRecDepth 100000 in
theorem parseClose_any (body : ByteArray) (w : World) (hs : body.size ≤ 4611686018427387904) (hT : Tabs w) :
    Calls Tryd.prog 24 #[.string body] w fun e w' =>
      e = .returned (.tuple #[.int .i64 (parseCloseL (bl body)).1, .string (bs (parseCloseL (bl body)).2.1), .int .i64 (parseCloseL (bl body)).2.2]) ∧ Below w.heap.size w w' := by
  by_cases he : body.toList.isEmpty = true
  · have Hr := Lib.hid (show parseCloseL (bl body) = (1005, [], 0) by rw [parseCloseL, if_pos (by rw [← bl_toList]; exact he)])
    go_enter Tryd.func24, Tryd.ntmps24
    go_wp2_with fail
    go_ret3
    exact ⟨by rw [Hr.out]; rfl, Below.refl _ _⟩
  have hp : 0 < body.size := by
    rcases Nat.eq_zero_or_pos body.size with h | h
    · exact absurd (by rw [bl_toList]; rw [← bl_length] at h; simpa using h) he
    · exact h
  have hne : body.toList.isEmpty = false := by simpa using he
  by_cases h1 : body.size = 1 ∨ 125 < body.size
  · have Hr := Lib.hid (show parseCloseL (bl body) = (0, [], 224) by rw [parseCloseL, if_neg (by rw [← bl_toList]; exact he), if_pos (by rw [bl_length]; exact h1)])
    rcases (show ((body.size : Int) == 1) = true ∨ (((body.size : Int) == 1) = false ∧ (125 : Int) < (body.size : Int)) by
      rcases h1 with h1 | h1
      · exact .inl (by simp [h1])
      · exact .inr ⟨by simp; omega, by omega⟩) with g | ⟨g, g2⟩
    all_goals
      clear h1 he
      go_enter Tryd.func24, Tryd.ntmps24
      go_wp2_with fail
      go_ret3
      exact ⟨by rw [Hr.out]; rfl, Below.refl _ _⟩
  have hge : ((body.size : Int) == 1) = false := by simp; omega
  have hg2 : (2 : Int) ≤ (body.size : Int) := by omega
  have hg125 : (body.size : Int) ≤ 125 := by omega
  have hi0 : (0 : Int) < (body.size : Int) := by omega
  have hi1 : (1 : Int) < (body.size : Int) := by omega
  have hp1 : 1 < body.size := by omega
  obtain ⟨x0, hx0⟩ : ∃ x0, body[0]'hp = x0 := ⟨_, rfl⟩
  obtain ⟨x1, hx1⟩ : ∃ x1, body[1]'hp1 = x1 := ⟨_, rfl⟩
  obtain ⟨n, hn⟩ : ∃ n, n = 256 * x0.toNat + x1.toNat := ⟨_, rfl⟩
  obtain ⟨t, ht⟩ : ∃ t, body.extract 2 body.size = t := ⟨_, rfl⟩
  have htb : bl t = (bl body).drop 2 := by rw [← ht, bl_extract, ← bl_length]; exact List.take_of_length_le (by simp)
  have hts : t.size ≤ 125 := by rw [← bl_length, htb, List.length_drop, bl_length]; omega
  have hV := fun wx hTx => isText_any t wx (by omega) hTx
  obtain ⟨V, hVV⟩ : ∃ V, Lib.validD (bl t) = V := ⟨_, rfl⟩
  rw [hVV] at hV
  have hCo := isCode_any (n : Int)
  obtain ⟨C, hCC⟩ : ∃ C, isCodeB (n : Int) = C := ⟨_, rfl⟩
  rw [hCC] at hCo
  have Hr := Lib.hid (show parseCloseL (bl body) = if C = false then (0, [], 224) else if V = false then (0, [], 223) else ((n : Int), bl t, 0) by
    rw [parseCloseL, if_neg (by rw [← bl_toList]; exact he), if_neg (by rw [bl_length]; exact h1), ← htb, hVV, at0_of body hx0, at1_of body hx1, ← hn, hCC])
  have hor : bits .or .i64 ((x0.toNat : Int) * 256) (x1.toNat : Int) = (n : Int) := by rw [hn]; exact or_byte_i64 x0 x1
  have Ht := Lib.hid htb
  clear h1 he hn htb hVV hCC
  go_enter Tryd.func24, Tryd.ntmps24
  go_upto_region 5 with fail
  have hw0 := wrap8i x0
  have hw1 := wrap8i x1
  have hwr : wrap64 ((x0.toNat : Int) * 256) = (x0.toNat : Int) * 256 := by have := x0.toNat_lt; unfold wrap64; omega
  go_cut [5] (fun v wx => v = .int .i64 n ∧ Below w.heap.size w wx)
  case first =>
    go_quiet (fail)
    go_wp2_with fail
    go_meet
    exact ⟨rfl, drewN_below _ _ _⟩
  case rest =>
  obtain ⟨rfl, hbw⟩ := hcut
  have hT2 := hT.below hT.size hbw
  have hs2 := hT.size
  have hV2 := hV wc hT2
  clear hV hw0 hw1 hwr hor hT hT2
  cases C
  · go_wp2_with (first | (go_at_call 46; refine (hCo _).mono ?_; rintro e w' ⟨rfl, rfl⟩))
    go_ret3
    exact ⟨by rw [Hr.out]; rfl, hbw⟩
  cases V
  · go_wp2_with (first | (go_at_call 46; refine (hCo _).mono ?_; rintro e w' ⟨rfl, rfl⟩) | (go_at_call 20; refine hV2.mono ?_; rintro e w5 ⟨rfl, hb5⟩))
    go_ret3
    exact ⟨by rw [Hr.out]; rfl, hbw.trans (hb5.mono hbw.size)⟩
  · go_upto_region 10 with (first | (go_at_call 46; refine (hCo _).mono ?_; rintro e w' ⟨rfl, rfl⟩) | (go_at_call 20; refine hV2.mono ?_; rintro e w5 ⟨rfl, hb5⟩))
    go_quiet (fail)
    go_wp2_with fail
    go_ret3
    refine ⟨?_, (hbw.trans (hb5.mono hbw.size)).trans (drewN_below _ _ _)⟩
    rw [Hr.out, if_neg (by simp), if_neg (by simp)]
    show Ending.returned (.tuple #[.int .i64 n, .string t, .int .i64 0]) = _
    rw [bs_bl]
end Go.Proofs.YtmgfpjfamdbhbaaDoor
