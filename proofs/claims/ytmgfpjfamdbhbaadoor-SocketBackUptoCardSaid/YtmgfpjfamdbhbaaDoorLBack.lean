/- The law SocketBack's walk. -/
import Derived.Test.YtmgfpjfamdbhbaaDoorStep
import Derived.Test.YtmgfpjfamdbhbaaDoorBackP
import Derived.Test.YtmgfpjfamdbhbaaDoorParse
namespace Go.Proofs.YtmgfpjfamdbhbaaDoor
open Go.RowKit

theorem five_there {w : World} {b : Nat} {t : TypeId} {cs : Array Value} (h : w.heap[b]? = some (.cells cs t (0, 0))) (hs : cs.size = 5) :
    ∃ x0 x1 x2 x3 x4, w.cell? ⟨b, 0, none⟩ = some x0 ∧ w.cell? ⟨b, 1, none⟩ = some x1 ∧ w.cell? ⟨b, 2, none⟩ = some x2 ∧ w.cell? ⟨b, 3, none⟩ = some x3 ∧ w.cell? ⟨b, 4, none⟩ = some x4 := by
  obtain ⟨l⟩ := cs
  match l, hs with
  | [a0, a1, a2, a3, a4], _ => exact ⟨a0, a1, a2, a3, a4, hd_cell h 0, hd_cell h 1, hd_cell h 2, hd_cell h 3, hd_cell h 4⟩
theorem five_set {w : World} {b : Nat} {cs : Array Value} {t : TypeId} (h : w.heap[b]? = some (.cells cs t (0, 0))) (hs : cs.size = 5) (v0 v1 v2 v3 v4 : Value) :
    (((((w.setCell ⟨b, 0, none⟩ v0).setCell ⟨b, 1, none⟩ v1).setCell ⟨b, 2, none⟩ v2).setCell ⟨b, 3, none⟩ v3).setCell ⟨b, 4, none⟩ v4).heap[b]? = some (.cells #[v0, v1, v2, v3, v4] t (0, 0)) := by
  obtain ⟨l⟩ := cs
  match l, hs with
  | [a0, a1, a2, a3, a4], _ => exact hd_set (hd_set (hd_set (hd_set (hd_set h 0 _) 1 _) 2 _) 3 _) 4 _

set_option maxHeartbeats 3000000 in
set_option maxRecDepth 100000 in
theorem back_any (fin msk : Bool) (op : Int) (mask body behind : ByteArray) (cut : Int) (w : World) (hT : Tabs w) (hm : mask.size ≤ 1048576) (hb : body.size ≤ 1048576) (hh : behind.size ≤ 1048576) :
    Calls Tryd.prog 11 #[.agg #[.bool fin, .bool msk, .int .i64 op, .string mask, .string body], .string behind, .int .i64 cut] w fun e w' => e = .returned (.bool true) ∧ Below w.heap.size w w' := by
  have hB0 : Below w.heap.size w (w.alloc (.cells #[.bool fin, .bool msk, .int .i64 op, .string mask, .string body] 23)) := (Below.refl _ _).alloc (Nat.le_refl _) _
  have hA := awake_any (w.alloc (.cells #[.bool fin, .bool msk, .int .i64 op, .string mask, .string body] 23)) (hT.below hT.size hB0)
  have hL := fun wx => plain_any fin msk op mask body wx
  have hR := fun wx => rprint_any fin msk op mask body wx (by omega) (by omega)
  by_cases hz : (printL fin msk op (bl mask) (bl body)).2 = 0
  case neg =>
    have ez : ((printL fin msk op (bl mask) (bl body)).2 != 0) = true := by simpa using hz
    generalize printL fin msk op (bl mask) (bl body) = Z at *
    obtain ⟨Z1, Z2⟩ := Z
    simp only at hR ez
    generalize bs Z1 = Z1 at *
    clear hz
    go_enter Tryd.func11, Tryd.ntmps11
    go_wp2_with (first | (go_at_call 14; refine hA.mono ?_; rintro e w1 ⟨rfl, hb1⟩; have hk1 := (hb1.block w.heap.size (by simp)).trans (heap_alloc_new _ _); obtain ⟨c0, c1, c2, c3, c4, cf⟩ := five_cells hk1) | (go_at_call 17; refine (hL _).mono ?_; rintro e w2 ⟨rfl, hb2⟩) | (go_at_call 16; refine (hR _).mono ?_; rintro e w3 ⟨rfl, hb3⟩))
    go_ret
    exact ⟨rfl, ((hB0.trans (hb1.mono (by simp))).trans (hb2.mono (by have := hb1.size; simp at this; omega))).trans (hb3.mono (by have := hb1.size; have := hb2.size; simp at *; omega))⟩
  have hfine := fine_of hz (by rw [bl_length]; unfold half; omega)
  have hP := fun wx => print_any fin msk op mask body wx (by omega) (by omega)
  have hsz := print_size hfine
  have hpp := parse_print hfine (bl behind)
  have hpb := fun k => parse_begin hfine k
  rw [bl_length] at hsz hpp
  simp only [bl_length] at hpb
  rw [hz] at hR hP
  generalize hS : (printL fin msk op (bl mask) (bl body)).1 = PL at *
  obtain ⟨S, rfl⟩ : ∃ S : ByteArray, PL = bl S := ⟨bs PL, rfl⟩
  simp only [bs_bl] at hR hP
  rw [bl_length] at hsz hpp
  simp only [bl_length] at hpb
  have hQ : ∀ wx, Calls Tryd.prog 32 #[.string (S ++ behind), .int .i64 body.size] wx fun e w' => e = .returned (.tuple #[.agg #[.bool fin, .bool msk, .int .i64 op, .string mask, .string body], .int .i64 S.size, .int .i64 0]) ∧ Below wx.heap.size wx w' := fun wx => by
    have := parse_any (S ++ behind) body.size wx (by rw [ByteArray.size_append]; omega)
    rw [bl_append, hpp] at this
    unfold parseV FR.v at this
    simp only [bs_bl] at this
    exact this
  have hK := fun wx => kind_any cut S.size wx (by omega) (by omega)
  have hkl := kindN_lt cut S.size (by omega)
  generalize kindN cut S.size = k at *
  have hQ2 : ∀ wx, Calls Tryd.prog 32 #[.string (S.extract 0 k), .int .i64 body.size] wx fun e w' => e = .returned (.tuple #[.agg #[.bool false, .bool false, .int .i64 0, .string ⟨#[]⟩, .string ⟨#[]⟩], .int .i64 k, .int .i64 124]) ∧ Below wx.heap.size wx w' := fun wx => by
    have := parse_any (S.extract 0 k) body.size wx (by rw [ByteArray.size_extract]; omega)
    rw [bl_extract, List.drop_zero, Nat.sub_zero, hpb k hkl] at this
    exact this
  have hM1 := fun wx => mask_any body mask wx (by omega)
  have hmz : (bs (maskL (bl body) (bl mask))).size ≤ 281474976710656 := by rw [bs_size, maskL_length, bl_length]; omega
  have hM2 := fun wx => mask_any (bs (maskL (bl body) (bl mask))) mask wx hmz
  rw [show bl (bs (maskL (bl body) (bl mask))) = maskL (bl body) (bl mask) from rfl, maskL_twice, bs_bl] at hM2
  generalize bs (maskL (bl body) (bl mask)) = MM at *
  have hs1 : (body.size : Int) + 2 ≤ (S.size : Int) := by omega
  have hs2 : S.size + behind.size ≤ 4194304 := by omega
  have hk0 : (0 : Int) ≤ (k : Int) := by omega
  have hk1 : (k : Int) ≤ (S.size : Int) := by omega
  have H2 := Lib.hid hT.two
  clear hS hpp hpb hfine hz hT hmz
  go_enter Tryd.func11, Tryd.ntmps11
  go_upto_region 10 with (first | (go_at_call 14; refine hA.mono ?_; rintro e w1 ⟨rfl, hb1⟩; have hk1 := (hb1.block w.heap.size (by simp)).trans (heap_alloc_new _ _); obtain ⟨c0, c1, c2, c3, c4, cf⟩ := five_cells hk1) | (go_at_call 17; refine (hL _).mono ?_; rintro e w2 ⟨rfl, hb2⟩) | (go_at_call 16; refine (hR _).mono ?_; rintro e w3 ⟨rfl, hb3⟩; have hk3 := (hb3.block _ (Nat.lt_of_lt_of_le (hd_lt hk1) hb2.size)).trans ((hb2.block _ (hd_lt hk1)).trans hk1); obtain ⟨d0, d1, d2, d3, d4, df⟩ := five_cells hk3) | (go_at_call 15; refine (hP _).mono ?_; rintro e w4 ⟨rfl, hb4⟩; have hk4 := (hb4.block _ (hd_lt hk3)).trans hk3; obtain ⟨e0, e1, e2, e3, e4, ef⟩ := five_cells hk4) | (go_at_call 32; refine (hQ _).mono ?_; rintro e w5 ⟨rfl, hb5⟩; have hk5 := (hb5.block _ (hd_lt hk4)).trans hk4; obtain ⟨f0, f1, f2, f3, f4, ff⟩ := five_cells hk5))
  have hBW : Below w.heap.size w (w5.alloc (.cells #[.bool fin, .bool msk, .int .i64 op, .string mask, .string body] 23)) := by
    have q1 := hb1.size
    have q2 := hb2.size
    have q3 := hb3.size
    have q4 := hb4.size
    have q5 := hb5.size
    simp at q1
    exact (((((hB0.trans (hb1.mono (by simp))).trans (hb2.mono (by omega))).trans (hb3.mono (by omega))).trans (hb4.mono (by omega))).trans (hb5.mono (by omega))).alloc (by omega) _
  obtain ⟨W, hW⟩ : ∃ W, w5.alloc (.cells #[.bool fin, .bool msk, .int .i64 op, .string mask, .string body] 23) = W := ⟨_, rfl⟩
  have hWf : W.heap[w.heap.size]? = some (.cells #[.bool fin, .bool msk, .int .i64 op, .string mask, .string body] 23 (0, 0)) := by rw [← hW, Below.heap_alloc _ _ _ (hd_lt hk5)]; exact hk5
  have hWg : W.heap[w5.heap.size]? = some (.cells #[.bool fin, .bool msk, .int .i64 op, .string mask, .string body] 23 (0, 0)) := by rw [← hW]; exact heap_alloc_new _ _
  have hlt5 := hd_lt hk5
  rw [hW] at hBW ⊢
  have HC := Lib.hid (show ∀ x, Below W.heap.size W x → x.cell? ⟨w.heap.size, 0, none⟩ = some (.bool fin) ∧ x.cell? ⟨w.heap.size, 1, none⟩ = some (.bool msk) ∧ x.cell? ⟨w.heap.size, 2, none⟩ = some (.int .i64 op) ∧ x.cell? ⟨w.heap.size, 3, none⟩ = some (.string mask) ∧ x.cell? ⟨w.heap.size, 4, none⟩ = some (.string body) ∧ x.cell? ⟨w5.heap.size, 0, none⟩ = some (.bool fin) ∧ x.cell? ⟨w5.heap.size, 1, none⟩ = some (.bool msk) ∧ x.cell? ⟨w5.heap.size, 2, none⟩ = some (.int .i64 op) ∧ x.cell? ⟨w5.heap.size, 3, none⟩ = some (.string mask) ∧ x.cell? ⟨w5.heap.size, 4, none⟩ = some (.string body) ∧ Below W.heap.size W x from fun x h => by
    have a := (h.block _ (hd_lt hWf)).trans hWf
    have b := (h.block _ (hd_lt hWg)).trans hWg
    exact ⟨hd_cell a 0, hd_cell a 1, hd_cell a 2, hd_cell a 3, hd_cell a 4, hd_cell b 0, hd_cell b 1, hd_cell b 2, hd_cell b 3, hd_cell b 4, h⟩)
  have HR0 := Lib.hid (Below.refl W.heap.size W)
  have HBW := Lib.hid hBW
  have HWf := Lib.hid hWf
  have HWg := Lib.hid hWg
  clear hW hBW hWf hWg hk1 hk3 hk4 hk5 hb1 hb2 hb3 hb4 hb5 c0 c1 c2 c3 c4 cf d0 d1 d2 d3 d4 df e0 e1 e2 e3 e4 ef f0 f1 f2 f3 f4 ff hA hL hR hP hQ hB0
  go_cut [76] (fun v wx => v = .bool false ∧ Below W.heap.size W wx)
  case first =>
    obtain ⟨c0, c1, c2, c3, c4, d0, d1, d2, d3, d4, -⟩ := HC.out W HR0.out
    have hBT := Lib.hid (show ∀ x y : World, Below W.heap.size W x → Below x.heap.size x y → Below W.heap.size W y from fun x y h1 h2 => h1.trans (h2.mono h1.size))
    go_region_held3 (fun x => x.cell? ⟨w.heap.size, 0, none⟩ = some (.bool fin) ∧ x.cell? ⟨w.heap.size, 1, none⟩ = some (.bool msk) ∧ x.cell? ⟨w.heap.size, 2, none⟩ = some (.int .i64 op) ∧ x.cell? ⟨w.heap.size, 3, none⟩ = some (.string mask) ∧ x.cell? ⟨w.heap.size, 4, none⟩ = some (.string body) ∧ x.cell? ⟨w5.heap.size, 0, none⟩ = some (.bool fin) ∧ x.cell? ⟨w5.heap.size, 1, none⟩ = some (.bool msk) ∧ x.cell? ⟨w5.heap.size, 2, none⟩ = some (.int .i64 op) ∧ x.cell? ⟨w5.heap.size, 3, none⟩ = some (.string mask) ∧ x.cell? ⟨w5.heap.size, 4, none⟩ = some (.string body) ∧ Below W.heap.size W x)
      (first | (refine HC.out _ ?_; first | assumption | exact HR0.out | exact HR0.out.drew))
      (first | (go_at_call 18; (with_reducible refine (hM1 _).mono ?_); rintro e w6 ⟨rfl, hb6⟩; have hx6 : Below W.heap.size W w6 := (by refine hBT.out _ _ ?_ hb6; first | assumption | exact HR0.out | exact HR0.out.drew)) | (go_at_call 18; (with_reducible refine (hM2 _).mono ?_); rintro e w7 ⟨rfl, hb7⟩; have hx7 : Below W.heap.size W w7 := (by refine hBT.out _ _ ?_ hb7; exact hx6)))
    all_goals
      go_wp2_with fail
      go_meet
      exact ⟨rfl, hx7⟩
  case rest =>
  obtain ⟨rfl, hWx⟩ := hcut
  have hWf := (hWx.block _ (hd_lt HWf.out)).trans HWf.out
  have hWg := (hWx.block _ (hd_lt HWg.out)).trans HWg.out
  have hBx := HBW.out.trans (hWx.mono HBW.out.size)
  clear hWx HC HR0 HBW HWf HWg hM1 hM2
  obtain ⟨PH, hPH⟩ : ∃ PH, PH = Hd w w.heap.size w.heap.size (.cells #[.bool fin, .bool msk, .int .i64 op, .string mask, .string body] 23 (0, 0)) w5.heap.size 23 (fun cs => cs.size = 5) := ⟨_, rfl⟩
  have HP0 := Lib.hid (show PH wc by rw [hPH]; exact ⟨hBx, hWf, _, rfl, hWg⟩)
  have HPd := Lib.hid (show ∀ x, PH x → PH x.drew by intro x h; rw [hPH] at h ⊢; exact h.drew)
  have HPb := Lib.hid (show ∀ x y, PH x → Below x.heap.size x y → PH y by intro x y h hb; rw [hPH] at h ⊢; exact h.below hb (by have := h.size; omega))
  have HPs := Lib.hid (show ∀ x j Y, PH x → PH (x.setCell ⟨w5.heap.size, j, none⟩ Y) by intro x j Y h; rw [hPH] at h ⊢; exact h.set (by omega) (by omega) j Y (fun cs hc => by simpa using hc))
  have HPf := Lib.hid (show ∀ x, PH x → ∀ j, x.frozen? ⟨w5.heap.size, j, none⟩ = false by intro x h j; rw [hPH] at h; exact h.frozen j)
  have HPt := Lib.hid (show ∀ x, PH x → ∃ x0 x1 x2 x3 x4, x.cell? ⟨w5.heap.size, 0, none⟩ = some x0 ∧ x.cell? ⟨w5.heap.size, 1, none⟩ = some x1 ∧ x.cell? ⟨w5.heap.size, 2, none⟩ = some x2 ∧ x.cell? ⟨w5.heap.size, 3, none⟩ = some x3 ∧ x.cell? ⟨w5.heap.size, 4, none⟩ = some x4 by
    intro x h; rw [hPH] at h; obtain ⟨_, _, cs, hs, h4⟩ := h; exact five_there h4 hs)
  have HKeep := Lib.hid (show ∀ x, PH x → x.cell? ⟨w.heap.size, 4, none⟩ = some (.string body) ∧ PH x by
    intro x h; have h' := h; rw [hPH] at h'; exact ⟨h'.cell 4, h⟩)
  have HPH := Lib.hid hPH
  obtain ⟨c0, c1, c2, c3, c4, cf⟩ := five_cells hWf
  clear hPH hWf hWg hBx
  go_upto_region 13 with (first | (go_at_call 29; refine (hK _).mono ?_; rintro e w6 ⟨rfl, rfl⟩))
  go_cut [10, 12] (fun a b wx => a = .int .i64 124 ∧ b = .int .i64 k ∧ Below w.heap.size w wx ∧ wx.heap[w5.heap.size]? = some (.cells #[.bool false, .bool false, .int .i64 0, .string ⟨#[]⟩, .string ⟨#[]⟩] 23 (0, 0)))
  case first =>
    go_region_held3 (fun x => x.cell? ⟨w.heap.size, 4, none⟩ = some (.string body) ∧ PH x)
      (first | (refine HKeep.out _ ?_; with_reducible (repeat (first | assumption | exact HP0.out | refine HPs.out _ _ _ ?_ | refine HPd.out _ ?_))))
      (first | (go_at_call 32; refine (hQ2 _).mono ?_; rintro e w7 ⟨rfl, hb7⟩; have hx : PH w7 := (by refine HPb.out _ _ ?_ hb7; with_reducible (repeat (first | assumption | exact HP0.out | refine HPs.out _ _ _ ?_ | refine HPd.out _ ?_))); obtain ⟨z0, z1, z2, z3, z4, g0, g1, g2, g3, g4⟩ := HPt.out _ hx; have gf := HPf.out _ hx))
    all_goals
      go_wp2_with fail
      go_meet
      rw [HPH.out] at hx
      obtain ⟨q1, q2, cs, hcs, q4⟩ := hx
      exact ⟨rfl, rfl, below_set (below_set (below_set (below_set (below_set q1 (by omega) _ _) (by omega) _ _) (by omega) _ _) (by omega) _ _) (by omega) _ _, five_set q4 hcs _ _ _ _ _⟩
  case rest =>
  obtain ⟨rfl, rfl, hB9, hg9⟩ := hcut
  obtain ⟨c0, c1, c2, c3, c4, cf⟩ := five_cells hg9
  go_wp2_with fail
  go_ret
  exact ⟨rfl, hB9⟩
end Go.Proofs.YtmgfpjfamdbhbaaDoor
