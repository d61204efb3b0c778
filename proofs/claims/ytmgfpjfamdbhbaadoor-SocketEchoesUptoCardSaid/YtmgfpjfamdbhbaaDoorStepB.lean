/- One call on a peer beside the document's: the feeding call. -/
import Derived.Test.YtmgfpjfamdbhbaaDoorStepA
namespace Go.Proofs.YtmgfpjfamdbhbaaDoor
open Go.RowKit

theorem touch_set {a b : World} {n : Nat} (h : Touch a b (fun g => g = n)) (j : Nat) (v : Value) : Touch a (b.setCell ⟨n, j, none⟩ v) (fun g => g = n) := h.setCell (p := ⟨n, j, none⟩) (.inl rfl) v
set_option maxHeartbeats 2000000 in
set_option maxRecDepth 100000 in
theorem step_feed (ptr : Value) (p q : RP) (o : List UInt8) (kd : Int) (S : ByteArray) (w : World) (R : World → World → Prop) (hk : kindN kd 5 = 0)
    (hG : ∀ wx, Calls Tryd.prog 49 #[rpV p, .string S] wx fun e w' => e = .returned (rpRet (q, o)) ∧ Below wx.heap.size wx w')
    (hF : ∀ wx, Below w.heap.size w wx → Calls Tryd.prog 30 #[ptr, .string S] wx fun e w' => e = .returned (.string (bs o)) ∧ R wx w')
    (hR : ∀ x y, Below w.heap.size w x → R x y → (∀ g, w.heap.size ≤ g → g < x.heap.size → y.heap[g]? = x.heap[g]?)) :
    Calls Tryd.prog 35 #[ptr, rpV p, .agg #[.int .i64 kd, .string S]] w fun e w' => e = .returned (.tuple #[rpV q, .bool true]) ∧
      ∃ x y, Below w.heap.size w x ∧ w.heap.size + 2 < x.heap.size ∧ R x y ∧ Touch y w' (fun g => g = w.heap.size + 2) := by
  have hK : ∀ wx, Calls Tryd.prog 29 #[.int .i64 kd, .int .i64 5] wx fun e w' => e = .returned (.int .i64 0) ∧ wx = w' := fun wx => by
    have := kind_any kd 5 wx (by omega) (by omega)
    rw [hk] at this; exact this
  have hB0 : Below w.heap.size w (((w.alloc (.cells #[.int .i64 p.most, .string (bs p.rest), .string (bs p.msg), .int .i64 p.op, .int .i64 p.code, .int .i64 p.echoed] 59)).alloc (.cells #[.int .i64 kd, .string S] 63)).alloc (.cells #[.int .i64 0, .string ⟨#[]⟩, .string ⟨#[]⟩, .int .i64 0, .int .i64 0, .int .i64 0] 59)) := (((Below.refl _ _).alloc (Nat.le_refl _) _).alloc (by simp) _).alloc (by simp <;> omega) _
  have hT0 := tri0' p kd S w
  unfold mCells at hT0
  unfold rpV at hG ⊢
  unfold rpRet rpV at hG
  simp only at hG
  generalize bs o = OB at *
  clear hk
  go_enter Tryd.func35, Tryd.ntmps35
  go_upto_region 11 with (first | (go_at_call 29; refine (hK _).mono ?_; rintro e w4 ⟨rfl, rfl⟩) | (go_at_call 49; refine (hG _).mono ?_; rintro e w5 ⟨rfl, hb5⟩; have hT5 := hT0.keep (fun g _ hg => hb5.block g hg); obtain ⟨d0, d1, d2, d3, d4, d5, df⟩ := six_cells hT5.1))
  obtain ⟨e1, e2, cs, hcs, e4⟩ := hT5
  have hB5 : Below w.heap.size w w5 := hB0.trans (hb5.mono (by simp <;> omega))
  have hs1 := sixW_same e1 rfl (.int .i64 q.most) (.string (bs q.rest)) (.string (bs q.msg)) (.int .i64 q.op) (.int .i64 q.code) (.int .i64 q.echoed)
  have hs2 := (sixW_other (b := w.heap.size) (g := w.heap.size + 1) (by omega) (.int .i64 q.most) (.string (bs q.rest)) (.string (bs q.msg)) (.int .i64 q.op) (.int .i64 q.code) (.int .i64 q.echoed)).trans e2
  have hs3 := (sixW_other (b := w.heap.size) (g := w.heap.size + 2) (by omega) (.int .i64 q.most) (.string (bs q.rest)) (.string (bs q.msg)) (.int .i64 q.op) (.int .i64 q.code) (.int .i64 q.echoed)).trans e4
  have hs4 := sixW_below hB5 (Nat.le_refl _) (.int .i64 q.most) (.string (bs q.rest)) (.string (bs q.msg)) (.int .i64 q.op) (.int .i64 q.code) (.int .i64 q.echoed)
  obtain ⟨W, hW⟩ : ∃ W, sixW w5 w.heap.size (.int .i64 q.most) (.string (bs q.rest)) (.string (bs q.msg)) (.int .i64 q.op) (.int .i64 q.code) (.int .i64 q.echoed) = W := ⟨_, rfl⟩
  rw [hW] at hs1 hs2 hs3 hs4
  unfold sixW at hW
  rw [hW]
  obtain ⟨PH, hPH⟩ : ∃ PH : World → Prop, PH = fun x => Tri' w.heap.size (.cells #[.int .i64 q.most, .string (bs q.rest), .string (bs q.msg), .int .i64 q.op, .int .i64 q.code, .int .i64 q.echoed] 59 (0, 0)) (.cells #[.int .i64 kd, .string S] 63 (0, 0)) x := ⟨_, rfl⟩
  have HP0 := Lib.hid (show PH W by rw [hPH]; exact ⟨hs1, hs2, cs, hcs, hs3⟩)
  have HB0 := Lib.hid hs4
  have HPd := Lib.hid (show ∀ x, PH x → PH x.drew by intro x h; rw [hPH] at h ⊢; exact h.drew)
  have HPr := Lib.hid (show ∀ x y, PH x → Below w.heap.size w x → R x y → PH y by intro x y h hb hr; rw [hPH] at h ⊢; exact h.keep (hR x y hb hr))
  have HPs := Lib.hid (show ∀ x j Y, PH x → PH (x.setCell ⟨w.heap.size + 2, j, none⟩ Y) by intro x j Y h; rw [hPH] at h ⊢; exact h.set j Y)
  have HPt := Lib.hid (show ∀ x, PH x → (∃ x0 x1 x2 x3 x4 x5, x.cell? ⟨w.heap.size + 2, 0, none⟩ = some x0 ∧ x.cell? ⟨w.heap.size + 2, 1, none⟩ = some x1 ∧ x.cell? ⟨w.heap.size + 2, 2, none⟩ = some x2 ∧ x.cell? ⟨w.heap.size + 2, 3, none⟩ = some x3 ∧ x.cell? ⟨w.heap.size + 2, 4, none⟩ = some x4 ∧ x.cell? ⟨w.heap.size + 2, 5, none⟩ = some x5) ∧ ∀ j, x.frozen? ⟨w.heap.size + 2, j, none⟩ = false by
    intro x h; rw [hPH] at h; exact h.there)
  have HKeep := Lib.hid (show ∀ x, PH x → x.cell? ⟨w.heap.size, 0, none⟩ = some (.int .i64 q.most) ∧ x.cell? ⟨w.heap.size, 1, none⟩ = some (.string (bs q.rest)) ∧ x.cell? ⟨w.heap.size, 2, none⟩ = some (.string (bs q.msg)) ∧ x.cell? ⟨w.heap.size, 3, none⟩ = some (.int .i64 q.op) ∧ x.cell? ⟨w.heap.size, 4, none⟩ = some (.int .i64 q.code) ∧ x.cell? ⟨w.heap.size, 5, none⟩ = some (.int .i64 q.echoed) ∧ x.cell? ⟨w.heap.size + 1, 1, none⟩ = some (.string S) ∧ PH x by
    intro x h
    have h' := h
    rw [hPH] at h'
    obtain ⟨c0, c1, c2, c3, c4, c5, -⟩ := six_cells h'.1
    exact ⟨c0, c1, c2, c3, c4, c5, hd_cell h'.2.1 1, h⟩)
  have HPH := Lib.hid hPH
  have HPz := Lib.hid (show ∀ x, PH x → w.heap.size + 2 < x.heap.size by intro x h; rw [hPH] at h; obtain ⟨_, _, cs, _, h4⟩ := h; exact hd_lt h4)
  clear hPH hW hs1 hs2 hs3 hs4 e1 e2 e4 hcs hB5 hT0 hB0 hb5 d0 d1 d2 d3 d4 d5 df hR hG hK
  go_region_held3 (fun x => x.cell? ⟨w.heap.size, 0, none⟩ = some (.int .i64 q.most) ∧ x.cell? ⟨w.heap.size, 1, none⟩ = some (.string (bs q.rest)) ∧ x.cell? ⟨w.heap.size, 2, none⟩ = some (.string (bs q.msg)) ∧ x.cell? ⟨w.heap.size, 3, none⟩ = some (.int .i64 q.op) ∧ x.cell? ⟨w.heap.size, 4, none⟩ = some (.int .i64 q.code) ∧ x.cell? ⟨w.heap.size, 5, none⟩ = some (.int .i64 q.echoed) ∧ x.cell? ⟨w.heap.size + 1, 1, none⟩ = some (.string S) ∧ PH x)
    (first | (refine HKeep.out _ ?_; with_reducible (repeat (first | assumption | exact HP0.out | refine HPs.out _ _ _ ?_ | refine HPd.out _ ?_))))
    (first | (go_at_call 30; refine (hF _ (by first | exact HB0.out | exact HB0.out.drew)).mono ?_; rintro e w6 ⟨rfl, hr6⟩; have hx : PH w6 := (by refine HPr.out _ _ ?_ ?_ hr6; with_reducible (repeat (first | assumption | exact HP0.out | refine HPs.out _ _ _ ?_ | refine HPd.out _ ?_)); first | exact HB0.out | exact HB0.out.drew); obtain ⟨⟨z0, z1, z2, z3, z4, z5, g0, g1, g2, g3, g4, g5⟩, gf⟩ := HPt.out _ hx))
  all_goals
    go_wp2_with fail
    have hz6 := HPz.out _ hx
    rw [HPH.out] at hx
    obtain ⟨q2, q3, cs, hcs, q4⟩ := hx
    have hb9 := sixW_same q4 hcs (.int .i64 q.most) (.string (bs q.rest)) (.string (bs q.msg)) (.int .i64 q.op) (.int .i64 q.code) (.int .i64 q.echoed)
    have hT9 : Touch w6 (sixW w6 (w.heap.size + 2) (.int .i64 q.most) (.string (bs q.rest)) (.string (bs q.msg)) (.int .i64 q.op) (.int .i64 q.code) (.int .i64 q.echoed)) (fun g => g = w.heap.size + 2) :=
      touch_set (touch_set (touch_set (touch_set (touch_set (touch_set (Touch.refl _ _) _ _) _ _) _ _) _ _) _ _) _ _
    obtain ⟨W9, hW9⟩ : ∃ W9, sixW w6 (w.heap.size + 2) (.int .i64 q.most) (.string (bs q.rest)) (.string (bs q.msg)) (.int .i64 q.op) (.int .i64 q.code) (.int .i64 q.echoed) = W9 := ⟨_, rfl⟩
    rw [hW9] at hb9 hT9
    unfold sixW at hW9
    rw [hW9]
    obtain ⟨r0, r1, r2, r3, r4, r5, -⟩ := six_cells hb9
    exact bodyPost_ret (v := .tuple #[.agg #[.int .i64 q.most, .string (bs q.rest), .string (bs q.msg), .int .i64 q.op, .int .i64 q.code, .int .i64 q.echoed], .bool true]) (by simp [results, Tryd.results35, go_sem, r0, r1, r2, r3, r4, r5]) rfl ⟨rfl, _, w6, HB0.out.drew, HPz.out _ (HPd.out _ HP0.out), hr6, hT9⟩

/-- one call's peer -/
def stepL (p : RP) (kd : Int) (S : List UInt8) : RP := if kindN kd 5 = 0 then (feedL p S).1 else p
theorem step_any (base b : Nat) (p : RP) (v : Value) (kd : Int) (S : ByteArray) (w : World) (h : PeerAt w base b p v) (hT : Tabs w) (hbase : 2 ≤ base) (hsz : base ≤ w.heap.size)
    (hm : 0 ≤ p.most ∧ p.most ≤ 16777216) (hml : p.msg.length ≤ 16777216) (hs : p.msg.length + p.rest.length + S.size ≤ 1048576) :
    Calls Tryd.prog 35 #[.pointer (some ⟨b, 0, none⟩), rpV p, .agg #[.int .i64 kd, .string S]] w fun e w' => e = .returned (.tuple #[rpV (stepL p kd (bl S)), .bool true]) ∧ ∃ v', Left w w' base b (stepL p kd (bl S)) v v' := by
  have hTb : ∀ wx, Below w.heap.size w wx → Tabs wx := fun wx hb => hT.below hT.size hb
  by_cases hk : kindN kd 5 = 0
  · have e : stepL p kd (bl S) = (feedL p (bl S)).1 := by rw [stepL, if_pos hk]
    rw [e]
    refine (step_feed (.pointer (some ⟨b, 0, none⟩)) p (feedL p (bl S)).1 (feedL p (bl S)).2 kd S w (fun x y => ∃ v', Left x y base b (feedL p (bl S)).1 v v') hk (fun wx => rfeed_any p S wx hm hml (by omega))
      (fun wx hb => feed_any base b p v S wx (h.below hb (Nat.le_refl _)) (hTb wx hb) hbase (Nat.le_trans hsz hb.size) hm hml (by omega)) (fun x y hb hl g hg hgx => ?_)).mono ?_
    · obtain ⟨v', hl⟩ := hl
      refine hl.2.1.block g hgx ?_
      rintro (rfl | hv)
      · exact absurd h.lt (by omega)
      · exact absurd (h.2.2.1.lt hv).2 (by omega)
    · rintro e w' ⟨rfl, x, y, hb, hx2, ⟨v', hp, ht, hv⟩, ht2⟩
      refine ⟨rfl, v', ?_, ?_, ?_⟩
      · have hby : b < y.heap.size := hp.lt
        refine hp.keep (ht2.block b hby (by have := h.lt; omega)) fun g hg => ht2.block g (hp.2.2.1.lt hg).2 ?_
        rcases hv with hv | hv | hv
        · rw [hv] at hg; cases hg
        · rw [hv] at hg; have := (h.2.2.1.lt hg).2; omega
        · have := hv g hg; omega
      · refine (((Touch.refl w _).below hb (Nat.le_refl _)).trans' ht ?_).trans' ht2 ?_
        · exact fun i _ hi => hi
        · intro i hi he; omega
      · rcases hv with hv | hv | hv
        · exact .inl hv
        · exact .inr (.inl hv)
        · exact .inr (.inr fun g hg => Nat.le_trans hb.size (hv g hg))
  · have e : stepL p kd (bl S) = p := by rw [stepL, if_neg hk]
    rw [e]
    refine (step_ask (.pointer (some ⟨b, 0, none⟩)) p kd S w (by omega) (by omega) hml ?_ ?_ ?_ ?_ hk).mono ?_
    · intro wx hb; exact (closed_any base b p v wx (h.below hb (Nat.le_refl _))).mono fun e w' ⟨h1, h2⟩ => ⟨h1, by rw [← h2]; exact Below.refl _ _⟩
    · intro wx hb; exact (code_any base b p v wx (h.below hb (Nat.le_refl _))).mono fun e w' ⟨h1, h2⟩ => ⟨h1, by rw [← h2]; exact Below.refl _ _⟩
    · intro wx hb; exact held_any base b p v wx (h.below hb (Nat.le_refl _)) (by omega)
    · intro wx hb; exact (echoed_any base b p v wx (h.below hb (Nat.le_refl _))).mono fun e w' ⟨h1, h2⟩ => ⟨h1, by rw [← h2]; exact Below.refl _ _⟩
    · rintro e w' ⟨rfl, hb⟩
      exact ⟨rfl, v, Left.same h hb⟩
theorem step_nil (kd : Int) (S : ByteArray) (w : World) :
    Calls Tryd.prog 35 #[.pointer none, rpV nilL, .agg #[.int .i64 kd, .string S]] w fun e w' => e = .returned (.tuple #[rpV nilL, .bool true]) ∧ Below w.heap.size w w' := by
  by_cases hk : kindN kd 5 = 0
  · refine (step_feed (.pointer none) nilL nilL [] kd S w (fun x y => x = y) hk (fun wx => rfeed_nil S wx) (fun wx _ => feed_nil S wx) (fun x y _ h g _ _ => by rw [h])).mono ?_
    rintro e w' ⟨rfl, x, y, hb, hx2, rfl, ht2⟩
    refine ⟨rfl, ?_⟩
    exact hb.trans (ht2.toBelow hb.size (fun k hk => by omega))
  · refine step_ask (.pointer none) nilL kd S w (by simp [nilL]) (by simp [nilL]) (by simp [nilL]) ?_ ?_ ?_ ?_ hk
    · intro wx _; exact (closed_nil wx).mono fun e w' ⟨h1, h2⟩ => ⟨h1, by rw [← h2]; exact Below.refl _ _⟩
    · intro wx _; exact (code_nil wx).mono fun e w' ⟨h1, h2⟩ => ⟨h1, by rw [← h2]; exact Below.refl _ _⟩
    · intro wx _; exact (held_nil wx).mono fun e w' ⟨h1, h2⟩ => ⟨h1, by rw [← h2]; exact Below.refl _ _⟩
    · intro wx _; exact (echoed_nil wx).mono fun e w' ⟨h1, h2⟩ => ⟨h1, by rw [← h2]; exact Below.refl _ _⟩
end Go.Proofs.YtmgfpjfamdbhbaaDoor
