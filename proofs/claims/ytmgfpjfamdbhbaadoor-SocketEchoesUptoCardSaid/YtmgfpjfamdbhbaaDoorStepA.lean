/- One call on a peer beside the document's: step. -/
import Derived.Test.YtmgfpjfamdbhbaaDoorStep
import Derived.BigQuiet
namespace Go.Proofs.YtmgfpjfamdbhbaaDoor
open Go.RowKit

/-- three blocks in a row behind h: the document's peer, the call, the answer's room -/
def Tri' (h : Nat) (o1 o2 : Obj) (wy : World) : Prop := wy.heap[h]? = some o1 ∧ wy.heap[h + 1]? = some o2 ∧ ∃ cs : Array Value, cs.size = 6 ∧ wy.heap[h + 2]? = some (.cells cs 59 (0, 0))
theorem Tri'.drew {h : Nat} {o1 o2 : Obj} {x : World} (hx : Tri' h o1 o2 x) : Tri' h o1 o2 x.drew := hx
theorem Tri'.keep {h : Nat} {o1 o2 : Obj} {x y : World} (hx : Tri' h o1 o2 x) (k : ∀ g, h ≤ g → g < x.heap.size → y.heap[g]? = x.heap[g]?) : Tri' h o1 o2 y := by
  obtain ⟨h1, h2, cs, h3, h4⟩ := hx
  exact ⟨(k _ (Nat.le_refl _) (hd_lt h1)).trans h1, (k _ (by omega) (hd_lt h2)).trans h2, cs, h3, (k _ (by omega) (hd_lt h4)).trans h4⟩
theorem Tri'.set {h : Nat} {o1 o2 : Obj} {x : World} (hx : Tri' h o1 o2 x) (j : Nat) (Y : Value) : Tri' h o1 o2 (x.setCell ⟨h + 2, j, none⟩ Y) := by
  obtain ⟨h1, h2, cs, h3, h4⟩ := hx
  exact ⟨(Below.heap_setCell _ _ _ _ (by simp)).trans h1, (Below.heap_setCell _ _ _ _ (by simp)).trans h2, _, by simpa using h3, hd_set h4 j Y⟩
theorem Tri'.there {h : Nat} {o1 o2 : Obj} {x : World} (hx : Tri' h o1 o2 x) : (∃ x0 x1 x2 x3 x4 x5, x.cell? ⟨h + 2, 0, none⟩ = some x0 ∧ x.cell? ⟨h + 2, 1, none⟩ = some x1 ∧ x.cell? ⟨h + 2, 2, none⟩ = some x2 ∧ x.cell? ⟨h + 2, 3, none⟩ = some x3 ∧ x.cell? ⟨h + 2, 4, none⟩ = some x4 ∧ x.cell? ⟨h + 2, 5, none⟩ = some x5) ∧ ∀ j, x.frozen? ⟨h + 2, j, none⟩ = false := by
  obtain ⟨_, _, cs, hs, h4⟩ := hx
  refine ⟨?_, hd_frozen h4⟩
  obtain ⟨l⟩ := cs
  match l, hs with
  | [a0, a1, a2, a3, a4, a5], _ => exact ⟨a0, a1, a2, a3, a4, a5, hd_cell h4 0, hd_cell h4 1, hd_cell h4 2, hd_cell h4 3, hd_cell h4 4, hd_cell h4 5⟩

section
variable (p : RP) (kd : Int) (S : ByteArray) (w : World)
def mCells (p : RP) : Array Value := #[.int .i64 p.most, .string (bs p.rest), .string (bs p.msg), .int .i64 p.op, .int .i64 p.code, .int .i64 p.echoed]
theorem tri0' : Tri' w.heap.size (.cells (mCells p) 59 (0, 0)) (.cells #[.int .i64 kd, .string S] 63 (0, 0)) (((w.alloc (.cells (mCells p) 59)).alloc (.cells #[.int .i64 kd, .string S] 63)).alloc (.cells #[.int .i64 0, .string ⟨#[]⟩, .string ⟨#[]⟩, .int .i64 0, .int .i64 0, .int .i64 0] 59)) := by
  have e1 := heap_alloc_new w (.cells (mCells p) 59)
  have e2 := heap_alloc_new (w.alloc (.cells (mCells p) 59)) (.cells #[.int .i64 kd, .string S] 63)
  have e3 := heap_alloc_new ((w.alloc (.cells (mCells p) 59)).alloc (.cells #[.int .i64 kd, .string S] 63)) (.cells #[.int .i64 0, .string ⟨#[]⟩, .string ⟨#[]⟩, .int .i64 0, .int .i64 0, .int .i64 0] 59)
  rw [show (w.alloc (.cells (mCells p) 59)).heap.size = w.heap.size + 1 by simp] at e2
  rw [show ((w.alloc (.cells (mCells p) 59)).alloc (.cells #[.int .i64 kd, .string S] 63)).heap.size = w.heap.size + 2 by simp] at e3
  refine ⟨?_, ?_, _, rfl, e3⟩
  · rw [Below.heap_alloc _ _ _ (by simp <;> omega), Below.heap_alloc _ _ _ (by simp)]; exact e1
  · rw [Below.heap_alloc _ _ _ (by simp)]; exact e2
end
/-- the callee of an asking call, whatever the peer -/
def Asks (f : Nat) (ptr : Value) (x : Value) (W : World) : Prop := ∀ wx, Below W.heap.size W wx → Calls Tryd.prog f #[ptr] wx fun e w' => e = .returned x ∧ Below wx.heap.size wx w'

set_option maxHeartbeats 2000000 in
set_option maxRecDepth 100000 in
/-- the four asking calls: nothing turns but new blocks -/
theorem step_ask (ptr : Value) (p : RP) (kd : Int) (S : ByteArray) (w : World) (hl : p.msg.length ≤ 4611686018427387904) (hl2 : p.rest.length ≤ 1048576) (hl3 : p.msg.length ≤ 16777216)
    (hcl : Asks 31 ptr (.bool (p.code != 0)) w) (hco : Asks 39 ptr (.int .i64 p.code) w) (hhe : Asks 38 ptr (.int .i64 ((p.msg.length + p.rest.length : Nat) : Int)) w) (hec : Asks 37 ptr (.int .i64 p.echoed) w) (hk : kindN kd 5 ≠ 0) :
    Calls Tryd.prog 35 #[ptr, rpV p, .agg #[.int .i64 kd, .string S]] w fun e w' => e = .returned (.tuple #[rpV p, .bool true]) ∧ Below w.heap.size w w' := by
  have hK : ∀ wx, Calls Tryd.prog 29 #[.int .i64 kd, .int .i64 5] wx fun e w' => e = .returned (.int .i64 (kindN kd 5 : Nat)) ∧ wx = w' := fun wx => kind_any kd 5 wx (by omega) (by omega)
  have hlt := kindN_lt kd 5 (by omega)
  have hT0 := tri0' p kd S w
  have hB0 : Below w.heap.size w (((w.alloc (.cells (mCells p) 59)).alloc (.cells #[.int .i64 kd, .string S] 63)).alloc (.cells #[.int .i64 0, .string ⟨#[]⟩, .string ⟨#[]⟩, .int .i64 0, .int .i64 0, .int .i64 0] 59)) := (((Below.refl _ _).alloc (Nat.le_refl _) _).alloc (by simp) _).alloc (by simp <;> omega) _
  unfold mCells at hT0 hB0
  have hrs : (bs p.rest).size = p.rest.length := bs_size _
  have hms : (bs p.msg).size = p.msg.length := bs_size _
  show Calls _ _ #[_, .agg #[.int .i64 p.most, .string (bs p.rest), .string (bs p.msg), .int .i64 p.op, .int .i64 p.code, .int .i64 p.echoed], _] _ _
  have hfin : rpV p = .agg #[.int .i64 p.most, .string (bs p.rest), .string (bs p.msg), .int .i64 p.op, .int .i64 p.code, .int .i64 p.echoed] := rfl
  rw [hfin]
  generalize kindN kd 5 = c at *
  obtain ⟨W, hW⟩ : ∃ W, (((w.alloc (.cells #[.int .i64 p.most, .string (bs p.rest), .string (bs p.msg), .int .i64 p.op, .int .i64 p.code, .int .i64 p.echoed] 59)).alloc (.cells #[.int .i64 kd, .string S] 63)).alloc (.cells #[.int .i64 0, .string ⟨#[]⟩, .string ⟨#[]⟩, .int .i64 0, .int .i64 0, .int .i64 0] 59)) = W := ⟨_, rfl⟩
  rw [hW] at hT0 hB0
  have HA := fun (f : Nat) (x : Value) (h : Asks f ptr x w) (wx : World) (hb : Below w.heap.size w wx) => h wx hb
  obtain ⟨PH, hPH⟩ : ∃ PH : World → Prop, PH = fun x => Below w.heap.size w x ∧ Tri' w.heap.size (.cells #[.int .i64 p.most, .string (bs p.rest), .string (bs p.msg), .int .i64 p.op, .int .i64 p.code, .int .i64 p.echoed] 59 (0, 0)) (.cells #[.int .i64 kd, .string S] 63 (0, 0)) x := ⟨_, rfl⟩
  have HP0 := Lib.hid (show PH W by rw [hPH]; exact ⟨hB0, hT0⟩)
  have HPd := Lib.hid (show ∀ x, PH x → PH x.drew by intro x h; rw [hPH] at h ⊢; exact ⟨h.1.drew, h.2.drew⟩)
  have HPb := Lib.hid (show ∀ x y, PH x → Below x.heap.size x y → PH y by intro x y h hb; rw [hPH] at h ⊢; exact ⟨h.1.trans (hb.mono h.1.size), h.2.keep fun g _ hg => hb.block g hg⟩)
  have HPs := Lib.hid (show ∀ x j Y, PH x → PH (x.setCell ⟨w.heap.size + 2, j, none⟩ Y) by intro x j Y h; rw [hPH] at h ⊢; exact ⟨below_set h.1 (by omega) _ _, h.2.set j Y⟩)
  have HPt := Lib.hid (show ∀ x, PH x → (∃ x0 x1 x2 x3 x4 x5, x.cell? ⟨w.heap.size + 2, 0, none⟩ = some x0 ∧ x.cell? ⟨w.heap.size + 2, 1, none⟩ = some x1 ∧ x.cell? ⟨w.heap.size + 2, 2, none⟩ = some x2 ∧ x.cell? ⟨w.heap.size + 2, 3, none⟩ = some x3 ∧ x.cell? ⟨w.heap.size + 2, 4, none⟩ = some x4 ∧ x.cell? ⟨w.heap.size + 2, 5, none⟩ = some x5) ∧ ∀ j, x.frozen? ⟨w.heap.size + 2, j, none⟩ = false by
    intro x h; rw [hPH] at h; exact h.2.there)
  have HPl := Lib.hid (show ∀ x, PH x → Below w.heap.size w x by intro x h; rw [hPH] at h; exact h.1)
  have HKeep := Lib.hid (show ∀ x, PH x → x.cell? ⟨w.heap.size, 0, none⟩ = some (.int .i64 p.most) ∧ x.cell? ⟨w.heap.size, 1, none⟩ = some (.string (bs p.rest)) ∧ x.cell? ⟨w.heap.size, 2, none⟩ = some (.string (bs p.msg)) ∧ x.cell? ⟨w.heap.size, 3, none⟩ = some (.int .i64 p.op) ∧ x.cell? ⟨w.heap.size, 4, none⟩ = some (.int .i64 p.code) ∧ x.cell? ⟨w.heap.size, 5, none⟩ = some (.int .i64 p.echoed) ∧ PH x by
    intro x h
    have h' := h
    rw [hPH] at h'
    obtain ⟨c0, c1, c2, c3, c4, c5, -⟩ := six_cells h'.2.1
    exact ⟨c0, c1, c2, c3, c4, c5, h⟩)
  have HPH := Lib.hid hPH
  have HCL := Lib.hid (fun wx h => hcl wx h)
  have HCO := Lib.hid (fun wx h => hco wx h)
  have HHE := Lib.hid (fun wx h => hhe wx h)
  have HEC := Lib.hid (fun wx h => hec wx h)
  have hcs : c = 1 ∨ c = 2 ∨ c = 3 ∨ c = 4 := by omega
  have HW := Lib.hid hW
  have HWR := Lib.hid (show IntKind.i64.wrap ((p.rest.length : Int) + (p.msg.length : Int)) = (p.msg.length : Int) + (p.rest.length : Int) by rw [IntKind.wrap_i64]; omega)
  clear hPH hT0 hB0 hcl hco hhe hec HA hk hlt hfin hW
  rcases hcs with rfl | rfl | rfl | rfl
  · go_enter Tryd.func35, Tryd.ntmps35
    go_upto_region 3 with (first | (go_at_call 29; refine (hK _).mono ?_; rintro e w4 ⟨rfl, rfl⟩))
    rw [HW.out]
    go_region_held3 (fun x => x.cell? ⟨w.heap.size, 0, none⟩ = some (.int .i64 p.most) ∧ x.cell? ⟨w.heap.size, 1, none⟩ = some (.string (bs p.rest)) ∧ x.cell? ⟨w.heap.size, 2, none⟩ = some (.string (bs p.msg)) ∧ x.cell? ⟨w.heap.size, 3, none⟩ = some (.int .i64 p.op) ∧ x.cell? ⟨w.heap.size, 4, none⟩ = some (.int .i64 p.code) ∧ x.cell? ⟨w.heap.size, 5, none⟩ = some (.int .i64 p.echoed) ∧ PH x)
      (first | (refine HKeep.out _ ?_; with_reducible (repeat (first | assumption | exact HP0.out | refine HPs.out _ _ _ ?_ | refine HPd.out _ ?_))))
      (first | (go_at_call 31; refine (HCL.out _ (by refine HPl.out _ ?_; with_reducible (repeat (first | assumption | exact HP0.out | refine HPs.out _ _ _ ?_ | refine HPd.out _ ?_)))).mono ?_; rintro e w5 ⟨rfl, hb5⟩; have hx : PH w5 := (by refine HPb.out _ _ ?_ hb5; with_reducible (repeat (first | assumption | exact HP0.out | refine HPs.out _ _ _ ?_ | refine HPd.out _ ?_))); obtain ⟨⟨z0, z1, z2, z3, z4, z5, g0, g1, g2, g3, g4, g5⟩, gf⟩ := HPt.out _ hx))
    all_goals
      go_wp2_with fail
      rw [HPH.out] at hx
      obtain ⟨q1, q2, q3, cs, hcs, q4⟩ := hx
      have hb9 := sixW_same q4 hcs (.int .i64 p.most) (.string (bs p.rest)) (.string (bs p.msg)) (.int .i64 p.op) (.int .i64 p.code) (.int .i64 p.echoed)
      have hB9 := sixW_below q1 (show w.heap.size ≤ w.heap.size + 2 by omega) (.int .i64 p.most) (.string (bs p.rest)) (.string (bs p.msg)) (.int .i64 p.op) (.int .i64 p.code) (.int .i64 p.echoed)
      obtain ⟨W9, hW9⟩ : ∃ W9, sixW w5 (w.heap.size + 2) (.int .i64 p.most) (.string (bs p.rest)) (.string (bs p.msg)) (.int .i64 p.op) (.int .i64 p.code) (.int .i64 p.echoed) = W9 := ⟨_, rfl⟩
      rw [hW9] at hb9 hB9
      unfold sixW at hW9
      rw [hW9]
      obtain ⟨r0, r1, r2, r3, r4, r5, -⟩ := six_cells hb9
      exact bodyPost_ret (v := .tuple #[.agg #[.int .i64 p.most, .string (bs p.rest), .string (bs p.msg), .int .i64 p.op, .int .i64 p.code, .int .i64 p.echoed], .bool true]) (by simp [results, Tryd.results35, go_sem, r0, r1, r2, r3, r4, r5]) rfl ⟨rfl, hB9⟩
  · go_enter Tryd.func35, Tryd.ntmps35
    go_upto_region 5 with (first | (go_at_call 29; refine (hK _).mono ?_; rintro e w4 ⟨rfl, rfl⟩))
    rw [HW.out]
    go_region_held3 (fun x => x.cell? ⟨w.heap.size, 0, none⟩ = some (.int .i64 p.most) ∧ x.cell? ⟨w.heap.size, 1, none⟩ = some (.string (bs p.rest)) ∧ x.cell? ⟨w.heap.size, 2, none⟩ = some (.string (bs p.msg)) ∧ x.cell? ⟨w.heap.size, 3, none⟩ = some (.int .i64 p.op) ∧ x.cell? ⟨w.heap.size, 4, none⟩ = some (.int .i64 p.code) ∧ x.cell? ⟨w.heap.size, 5, none⟩ = some (.int .i64 p.echoed) ∧ PH x)
      (first | (refine HKeep.out _ ?_; with_reducible (repeat (first | assumption | exact HP0.out | refine HPs.out _ _ _ ?_ | refine HPd.out _ ?_))))
      (first | (go_at_call 39; refine (HCO.out _ (by refine HPl.out _ ?_; with_reducible (repeat (first | assumption | exact HP0.out | refine HPs.out _ _ _ ?_ | refine HPd.out _ ?_)))).mono ?_; rintro e w5 ⟨rfl, hb5⟩; have hx : PH w5 := (by refine HPb.out _ _ ?_ hb5; with_reducible (repeat (first | assumption | exact HP0.out | refine HPs.out _ _ _ ?_ | refine HPd.out _ ?_))); obtain ⟨⟨z0, z1, z2, z3, z4, z5, g0, g1, g2, g3, g4, g5⟩, gf⟩ := HPt.out _ hx))
    all_goals
      go_wp2_with fail
      rw [HPH.out] at hx
      obtain ⟨q1, q2, q3, cs, hcs, q4⟩ := hx
      have hb9 := sixW_same q4 hcs (.int .i64 p.most) (.string (bs p.rest)) (.string (bs p.msg)) (.int .i64 p.op) (.int .i64 p.code) (.int .i64 p.echoed)
      have hB9 := sixW_below q1 (show w.heap.size ≤ w.heap.size + 2 by omega) (.int .i64 p.most) (.string (bs p.rest)) (.string (bs p.msg)) (.int .i64 p.op) (.int .i64 p.code) (.int .i64 p.echoed)
      obtain ⟨W9, hW9⟩ : ∃ W9, sixW w5 (w.heap.size + 2) (.int .i64 p.most) (.string (bs p.rest)) (.string (bs p.msg)) (.int .i64 p.op) (.int .i64 p.code) (.int .i64 p.echoed) = W9 := ⟨_, rfl⟩
      rw [hW9] at hb9 hB9
      unfold sixW at hW9
      rw [hW9]
      obtain ⟨r0, r1, r2, r3, r4, r5, -⟩ := six_cells hb9
      exact bodyPost_ret (v := .tuple #[.agg #[.int .i64 p.most, .string (bs p.rest), .string (bs p.msg), .int .i64 p.op, .int .i64 p.code, .int .i64 p.echoed], .bool true]) (by simp [results, Tryd.results35, go_sem, r0, r1, r2, r3, r4, r5]) rfl ⟨rfl, hB9⟩
  · go_enter Tryd.func35, Tryd.ntmps35
    go_upto_region 7 with (first | (go_at_call 29; refine (hK _).mono ?_; rintro e w4 ⟨rfl, rfl⟩))
    rw [HW.out]
    go_region_held3 (fun x => x.cell? ⟨w.heap.size, 0, none⟩ = some (.int .i64 p.most) ∧ x.cell? ⟨w.heap.size, 1, none⟩ = some (.string (bs p.rest)) ∧ x.cell? ⟨w.heap.size, 2, none⟩ = some (.string (bs p.msg)) ∧ x.cell? ⟨w.heap.size, 3, none⟩ = some (.int .i64 p.op) ∧ x.cell? ⟨w.heap.size, 4, none⟩ = some (.int .i64 p.code) ∧ x.cell? ⟨w.heap.size, 5, none⟩ = some (.int .i64 p.echoed) ∧ PH x)
      (first | (refine HKeep.out _ ?_; with_reducible (repeat (first | assumption | exact HP0.out | refine HPs.out _ _ _ ?_ | refine HPd.out _ ?_))))
      (first | (go_at_call 38; refine (HHE.out _ (by refine HPl.out _ ?_; with_reducible (repeat (first | assumption | exact HP0.out | refine HPs.out _ _ _ ?_ | refine HPd.out _ ?_)))).mono ?_; rintro e w5 ⟨rfl, hb5⟩; have hx : PH w5 := (by refine HPb.out _ _ ?_ hb5; with_reducible (repeat (first | assumption | exact HP0.out | refine HPs.out _ _ _ ?_ | refine HPd.out _ ?_))); obtain ⟨⟨z0, z1, z2, z3, z4, z5, g0, g1, g2, g3, g4, g5⟩, gf⟩ := HPt.out _ hx))
    all_goals
      go_wp2_with fail
      rw [HPH.out] at hx
      obtain ⟨q1, q2, q3, cs, hcs, q4⟩ := hx
      have hb9 := sixW_same q4 hcs (.int .i64 p.most) (.string (bs p.rest)) (.string (bs p.msg)) (.int .i64 p.op) (.int .i64 p.code) (.int .i64 p.echoed)
      have hB9 := sixW_below q1 (show w.heap.size ≤ w.heap.size + 2 by omega) (.int .i64 p.most) (.string (bs p.rest)) (.string (bs p.msg)) (.int .i64 p.op) (.int .i64 p.code) (.int .i64 p.echoed)
      obtain ⟨W9, hW9⟩ : ∃ W9, sixW w5 (w.heap.size + 2) (.int .i64 p.most) (.string (bs p.rest)) (.string (bs p.msg)) (.int .i64 p.op) (.int .i64 p.code) (.int .i64 p.echoed) = W9 := ⟨_, rfl⟩
      rw [hW9] at hb9 hB9
      unfold sixW at hW9
      rw [hW9]
      obtain ⟨r0, r1, r2, r3, r4, r5, -⟩ := six_cells hb9
      exact bodyPost_ret (v := .tuple #[.agg #[.int .i64 p.most, .string (bs p.rest), .string (bs p.msg), .int .i64 p.op, .int .i64 p.code, .int .i64 p.echoed], .bool true]) (by simp [results, Tryd.results35, go_sem, r0, r1, r2, r3, r4, r5, HWR.out]) rfl ⟨rfl, hB9⟩
  · go_enter Tryd.func35, Tryd.ntmps35
    go_upto_region 9 with (first | (go_at_call 29; refine (hK _).mono ?_; rintro e w4 ⟨rfl, rfl⟩))
    rw [HW.out]
    go_region_held3 (fun x => x.cell? ⟨w.heap.size, 0, none⟩ = some (.int .i64 p.most) ∧ x.cell? ⟨w.heap.size, 1, none⟩ = some (.string (bs p.rest)) ∧ x.cell? ⟨w.heap.size, 2, none⟩ = some (.string (bs p.msg)) ∧ x.cell? ⟨w.heap.size, 3, none⟩ = some (.int .i64 p.op) ∧ x.cell? ⟨w.heap.size, 4, none⟩ = some (.int .i64 p.code) ∧ x.cell? ⟨w.heap.size, 5, none⟩ = some (.int .i64 p.echoed) ∧ PH x)
      (first | (refine HKeep.out _ ?_; with_reducible (repeat (first | assumption | exact HP0.out | refine HPs.out _ _ _ ?_ | refine HPd.out _ ?_))))
      (first | (go_at_call 37; refine (HEC.out _ (by refine HPl.out _ ?_; with_reducible (repeat (first | assumption | exact HP0.out | refine HPs.out _ _ _ ?_ | refine HPd.out _ ?_)))).mono ?_; rintro e w5 ⟨rfl, hb5⟩; have hx : PH w5 := (by refine HPb.out _ _ ?_ hb5; with_reducible (repeat (first | assumption | exact HP0.out | refine HPs.out _ _ _ ?_ | refine HPd.out _ ?_))); obtain ⟨⟨z0, z1, z2, z3, z4, z5, g0, g1, g2, g3, g4, g5⟩, gf⟩ := HPt.out _ hx))
    all_goals
      go_wp2_with fail
      rw [HPH.out] at hx
      obtain ⟨q1, q2, q3, cs, hcs, q4⟩ := hx
      have hb9 := sixW_same q4 hcs (.int .i64 p.most) (.string (bs p.rest)) (.string (bs p.msg)) (.int .i64 p.op) (.int .i64 p.code) (.int .i64 p.echoed)
      have hB9 := sixW_below q1 (show w.heap.size ≤ w.heap.size + 2 by omega) (.int .i64 p.most) (.string (bs p.rest)) (.string (bs p.msg)) (.int .i64 p.op) (.int .i64 p.code) (.int .i64 p.echoed)
      obtain ⟨W9, hW9⟩ : ∃ W9, sixW w5 (w.heap.size + 2) (.int .i64 p.most) (.string (bs p.rest)) (.string (bs p.msg)) (.int .i64 p.op) (.int .i64 p.code) (.int .i64 p.echoed) = W9 := ⟨_, rfl⟩
      rw [hW9] at hb9 hB9
      unfold sixW at hW9
      rw [hW9]
      obtain ⟨r0, r1, r2, r3, r4, r5, -⟩ := six_cells hb9
      exact bodyPost_ret (v := .tuple #[.agg #[.int .i64 p.most, .string (bs p.rest), .string (bs p.msg), .int .i64 p.op, .int .i64 p.code, .int .i64 p.echoed], .bool true]) (by simp [results, Tryd.results35, go_sem, r0, r1, r2, r3, r4, r5]) rfl ⟨rfl, hB9⟩
end Go.Proofs.YtmgfpjfamdbhbaaDoor
