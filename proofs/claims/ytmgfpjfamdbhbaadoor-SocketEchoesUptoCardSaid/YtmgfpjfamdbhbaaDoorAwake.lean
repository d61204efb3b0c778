/- Whole, plain and awake. -/
import Derived.Test.YtmgfpjfamdbhbaaDoorFeed
import Derived.Handy
namespace Go.Proofs.YtmgfpjfamdbhbaaDoor
open Go.RowKit

/-- what Whole answers -/
def wholeL (most : Int) (s : List UInt8) : List UInt8 × Bool :=
  if most < 0 ∨ 16777216 < most then ([], false) else ((feedL (newL most) s).2, (feedL (newL most) s).1.code != 0)

theorem Touch.own {w w' : World} {b : Nat} {v : Value} (h : Touch w w' (Own b v)) {B : Nat} (hB : B ≤ w.heap.size) (hb : B ≤ b) (hv : ∀ g, v.ownBlock = some g → B ≤ g) : Below B w w' :=
  h.toBelow hB fun k hk => by
    rcases hk with rfl | hk
    · exact hb
    · exact hv k hk
theorem Tabs.two {w : World} (h : Tabs w) : 2 ≤ w.heap.size := h.size

set_option maxHeartbeats 1000000 in
set_option maxRecDepth 100000 in
theorem whole_any (most : Int) (s : ByteArray) (w : World) (hT : Tabs w) (hs : s.size + 12 ≤ 140737488355328) :
    Calls Tryd.prog 26 #[.int .i64 most, .string s] w fun e w' => e = .returned (.tuple #[.string (bs (wholeL most (bl s)).1), .bool (wholeL most (bl s)).2]) ∧ Below w.heap.size w w' := by
  by_cases hm : most < 0 ∨ 16777216 < most
  · have hN := fun wx => new_bad most wx hm
    have Hf := Lib.hid (show wholeL most (bl s) = ([], false) by rw [wholeL, if_pos hm])
    clear hm
    go_enter Tryd.func26, Tryd.ntmps26
    go_wp2_with (go_at_call 28; refine (hN _).mono ?_; rintro e w' ⟨rfl, rfl⟩)
    go_ret2
    exact ⟨by rw [Hf.out]; rfl, Below.refl _ _⟩
  · have hN := fun wx => new_ok most wx (by omega) (by omega)
    have Hf := Lib.hid (show wholeL most (bl s) = ((feedL (newL most) (bl s)).2, (feedL (newL most) (bl s)).1.code != 0) by rw [wholeL, if_neg hm])
    have h2 := hT.two
    have hF := fun (wx : World) (hb : Below w.heap.size w wx) (hp : PeerAt wx w.heap.size w.heap.size (newL most) (.slice none 0 0)) (hsz : wx.heap.size = w.heap.size + 1) =>
      feed_any w.heap.size w.heap.size (newL most) (.slice none 0 0) s wx hp (hT.below hT.size hb) (by omega) (by omega) ⟨by show 0 ≤ most; omega, by show most ≤ 16777216; omega⟩ (by show 0 ≤ _; omega) (by show 0 + 0 + s.size + 12 ≤ _; omega)
    generalize feedL (newL most) (bl s) = F at *
    obtain ⟨F1, F2⟩ := F
    simp only at hF Hf
    generalize hS : bs F2 = S2 at *
    have HS := Lib.hid hS
    clear hm hS
    go_enter Tryd.func26, Tryd.ntmps26
    go_wp2_with (first | (go_at_call 28; refine (hN _).mono ?_; rintro e w1 ⟨rfl, hp1, hb1, hs1⟩) | (go_at_call 30; refine (hF _ hb1 hp1 hs1).mono ?_; rintro e w2 ⟨rfl, v2, hp2, ht2, hv2⟩; have hC := closed_any _ _ _ _ _ hp2) | (go_at_call 31; refine hC.mono ?_; rintro e w3 ⟨rfl, rfl⟩))
    go_ret2
    refine ⟨by rw [Hf.out, HS.out]; rfl, hb1.trans (ht2.own (by omega) (Nat.le_refl _) (by simp [Value.ownBlock]))⟩

theorem whole_bytes : wholeL 2 [129, 130, 1, 2, 3, 4, 73, 107] = ([129, 2, 72, 105], false) := by decide +kernel
theorem print_bytes : printL true true 1 [1, 2, 3, 4] [72, 105] = ([129, 130, 1, 2, 3, 4, 73, 107], 0) := by decide +kernel

set_option maxHeartbeats 1000000 in
set_option maxRecDepth 100000 in
theorem awake_any (w : World) (hT : Tabs w) : Calls Tryd.prog 14 #[] w fun e w' => e = .returned (.bool true) ∧ Below w.heap.size w w' := by
  have hP : ∀ wx, Calls Tryd.prog 15 #[.agg #[.bool true, .bool true, .int .i64 1, .string ⟨#[1, 2, 3, 4]⟩, .string ⟨#[72, 105]⟩]] wx fun e w' =>
      e = .returned (.tuple #[.string ⟨#[129, 130, 1, 2, 3, 4, 73, 107]⟩, .int .i64 0]) ∧ Below wx.heap.size wx w' := by
    intro wx
    have := print_any true true 1 ⟨#[1, 2, 3, 4]⟩ ⟨#[72, 105]⟩ wx (by decide) (by decide)
    rw [show printL true true 1 (bl ⟨#[1, 2, 3, 4]⟩) (bl ⟨#[72, 105]⟩) = ([129, 130, 1, 2, 3, 4, 73, 107], 0) from print_bytes] at this
    exact this
  have hW : ∀ wx, Below w.heap.size w wx → Calls Tryd.prog 26 #[.int .i64 2, .string ⟨#[129, 130, 1, 2, 3, 4, 73, 107]⟩] wx fun e w' =>
      e = .returned (.tuple #[.string ⟨#[129, 2, 72, 105]⟩, .bool false]) ∧ Below wx.heap.size wx w' := by
    intro wx hb
    have := whole_any 2 ⟨#[129, 130, 1, 2, 3, 4, 73, 107]⟩ wx (hT.below hT.size hb) (by decide)
    rw [show wholeL 2 (bl ⟨#[129, 130, 1, 2, 3, 4, 73, 107]⟩) = ([129, 2, 72, 105], false) from whole_bytes] at this
    exact this
  go_enter Tryd.func14, Tryd.ntmps14
  go_wp2_with (first | (go_at_call 15; refine (hP _).mono ?_; rintro e w1 ⟨rfl, hb1⟩) | (go_at_call 26; refine (hW _ hb1).mono ?_; rintro e w2 ⟨rfl, hb2⟩))
  go_ret
  exact ⟨rfl, hb1.trans (hb2.mono hb1.size)⟩

theorem plain_any (fin msk : Bool) (op : Int) (mask body : ByteArray) (w : World) :
    Calls Tryd.prog 17 #[.agg #[.bool fin, .bool msk, .int .i64 op, .string mask, .string body]] w fun e w' => e = .returned (.agg #[.bool fin, .bool msk, .int .i64 op, .string mask, .string body]) ∧ Below w.heap.size w w' := by
  go_enter Tryd.func17, Tryd.ntmps17
  go_wp2
  go_returns
  exact ⟨rfl, ((Below.refl _ _).alloc (Nat.le_refl _) _).alloc (by simp) _⟩
end Go.Proofs.YtmgfpjfamdbhbaaDoor
