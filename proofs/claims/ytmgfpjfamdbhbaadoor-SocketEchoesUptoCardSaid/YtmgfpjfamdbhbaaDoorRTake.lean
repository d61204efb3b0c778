/- The reference's take, by value; the message stays shorter than 2^47 bytes. -/
import Derived.Test.YtmgfpjfamdbhbaaDoorREarly
namespace Go.Proofs.YtmgfpjfamdbhbaaDoor
open Go.RowKit

theorem bcell {W w1 : World} (hb : Below W.heap.size W w1) : (∀ b o, b < W.heap.size → w1.cell? ⟨b, o, none⟩ = W.cell? ⟨b, o, none⟩) ∧ (∀ b o, b < W.heap.size → w1.frozen? ⟨b, o, none⟩ = W.frozen? ⟨b, o, none⟩) :=
  ⟨fun b o h => hb.cell (p := ⟨b, o, none⟩) h, fun b o h => hb.frozen (p := ⟨b, o, none⟩) h⟩
/-- what a peer says that closes -/
def closeS (code : Int) : ByteArray := bs (sayL 8 (if code = 1005 then [] else (closeL code []).1))
theorem rclosing' (most op cd ec : Int) (RS MS : ByteArray) (code : Int) (w : World) (hc : code = 1005 ∨ isCodeB code = true) :
    Calls Tryd.prog 60 #[.agg #[.int .i64 most, .string RS, .string MS, .int .i64 op, .int .i64 cd, .int .i64 ec], .int .i64 code] w fun e w' =>
      e = .returned (.tuple #[.agg #[.int .i64 most, .string ⟨#[]⟩, .string ⟨#[]⟩, .int .i64 op, .int .i64 code, .int .i64 ec], .string (closeS code)]) ∧ Below w.heap.size w w' := by
  have := rclosing_any ⟨most, bl RS, bl MS, op, cd, ec⟩ code w hc
  rw [show rpV ⟨most, bl RS, bl MS, op, cd, ec⟩ = .agg #[.int .i64 most, .string RS, .string MS, .int .i64 op, .int .i64 cd, .int .i64 ec] by unfold rpV; rw [bs_bl, bs_bl]] at this
  exact this
theorem parseClose_code (l : List UInt8) (h : (parseCloseL l).2.2 = 0) : (parseCloseL l).1 = 1005 ∨ isCodeB (parseCloseL l).1 = true := by
  unfold parseCloseL at h ⊢
  split
  · exact .inl rfl
  · split
    · rename_i h1 h2; rw [if_neg h1, if_pos h2] at h; cases h
    · split
      · rename_i h1 h2 h3; rw [if_neg h1, if_neg h2, if_pos h3] at h; cases h
      · split
        · rename_i h1 h2 h3 h4; rw [if_neg h1, if_neg h2, if_neg h3, if_pos h4] at h; cases h
        · rename_i h1 h2 h3 h4; right; simpa using h3
/-- three blocks in a row: two that are known, a third of six cells -/
def Tri (w : World) (h : Nat) (o1 o2 : Obj) (wy : World) : Prop := wy.heap[h + 1]? = some o2 ∧ Hd w h h o1 (h + 2) 59 (fun cs => cs.size = 6) wy
theorem Tri.below {w : World} {h : Nat} {o1 o2 : Obj} {x y : World} (hx : Tri w h o1 o2 x) (hb : Below x.heap.size x y) : Tri w h o1 o2 y :=
  ⟨(hb.block _ (hd_lt hx.1)).trans hx.1, Hd.below hx.2 hb (by have := Hd.size hx.2; omega)⟩
theorem Tri.drew {w : World} {h : Nat} {o1 o2 : Obj} {x : World} (hx : Tri w h o1 o2 x) : Tri w h o1 o2 x.drew := ⟨hx.1, Hd.drew hx.2⟩
theorem Tri.set {w : World} {h : Nat} {o1 o2 : Obj} {x : World} (hx : Tri w h o1 o2 x) (j : Nat) (Y : Value) : Tri w h o1 o2 (x.setCell ⟨h + 2, j, none⟩ Y) :=
  ⟨(Below.heap_setCell _ _ _ _ (by simp)).trans hx.1, Hd.set hx.2 (by omega) (by omega) j Y (fun cs hc => by simpa using hc)⟩
theorem Tri.there {w : World} {h : Nat} {o1 o2 : Obj} {x : World} (hx : Tri w h o1 o2 x) : ∃ x0 x1 x2 x3 x4 x5, x.cell? ⟨h + 2, 0, none⟩ = some x0 ∧ x.cell? ⟨h + 2, 1, none⟩ = some x1 ∧ x.cell? ⟨h + 2, 2, none⟩ = some x2 ∧ x.cell? ⟨h + 2, 3, none⟩ = some x3 ∧ x.cell? ⟨h + 2, 4, none⟩ = some x4 ∧ x.cell? ⟨h + 2, 5, none⟩ = some x5 := by
  obtain ⟨_, _, _, cs, hs, h4⟩ := hx
  obtain ⟨l⟩ := cs
  match l, hs with
  | [a0, a1, a2, a3, a4, a5], _ => exact ⟨a0, a1, a2, a3, a4, a5, hd_cell h4 0, hd_cell h4 1, hd_cell h4 2, hd_cell h4 3, hd_cell h4 4, hd_cell h4 5⟩

section
variable (most po cd ec : Int) (RS MS : ByteArray) (fin msk : Bool) (op : Int) (mask body : ByteArray) (w : World)
theorem tri0 : Tri w w.heap.size (.cells #[.int .i64 most, .string RS, .string MS, .int .i64 po, .int .i64 cd, .int .i64 ec] 59 (0, 0)) (.cells #[.bool fin, .bool msk, .int .i64 op, .string mask, .string body] 30 (0, 0)) (((w.alloc (.cells #[.int .i64 most, .string RS, .string MS, .int .i64 po, .int .i64 cd, .int .i64 ec] 59)).alloc (.cells #[.bool fin, .bool msk, .int .i64 op, .string mask, .string body] 30)).alloc (.cells #[.int .i64 0, .string ⟨#[]⟩, .string ⟨#[]⟩, .int .i64 0, .int .i64 0, .int .i64 0] 59)) := by
  have e1 := heap_alloc_new w (.cells #[.int .i64 most, .string RS, .string MS, .int .i64 po, .int .i64 cd, .int .i64 ec] 59)
  have e2 := heap_alloc_new (w.alloc (.cells #[.int .i64 most, .string RS, .string MS, .int .i64 po, .int .i64 cd, .int .i64 ec] 59)) (.cells #[.bool fin, .bool msk, .int .i64 op, .string mask, .string body] 30)
  have e3 := heap_alloc_new ((w.alloc (.cells #[.int .i64 most, .string RS, .string MS, .int .i64 po, .int .i64 cd, .int .i64 ec] 59)).alloc (.cells #[.bool fin, .bool msk, .int .i64 op, .string mask, .string body] 30)) (.cells #[.int .i64 0, .string ⟨#[]⟩, .string ⟨#[]⟩, .int .i64 0, .int .i64 0, .int .i64 0] 59)
  rw [show (w.alloc (.cells #[.int .i64 most, .string RS, .string MS, .int .i64 po, .int .i64 cd, .int .i64 ec] 59)).heap.size = w.heap.size + 1 by simp] at e2
  rw [show ((w.alloc (.cells #[.int .i64 most, .string RS, .string MS, .int .i64 po, .int .i64 cd, .int .i64 ec] 59)).alloc (.cells #[.bool fin, .bool msk, .int .i64 op, .string mask, .string body] 30)).heap.size = w.heap.size + 2 by simp] at e3
  refine ⟨?_, (((Below.refl _ _).alloc (Nat.le_refl _) _).alloc (by simp) _).alloc (by simp <;> omega) _, ?_, _, rfl, e3⟩
  · rw [Below.heap_alloc _ _ _ (by simp)]; exact e2
  · rw [Below.heap_alloc _ _ _ (by simp <;> omega), Below.heap_alloc _ _ _ (by simp)]; exact e1
end

set_option maxHeartbeats 1000000 in
set_option maxRecDepth 100000 in
theorem rtake_ping (most po cd ec : Int) (RS MS : ByteArray) (fin msk : Bool) (mask body : ByteArray) (w : World) (hb : body.size ≤ 281474976710656) :
    Calls Tryd.prog 61 #[.agg #[.int .i64 most, .string RS, .string MS, .int .i64 po, .int .i64 cd, .int .i64 ec], .agg #[.bool fin, .bool msk, .int .i64 9, .string mask, .string body]] w fun e w' => e = .returned (rpRet (takeL ⟨most, bl RS, bl MS, po, cd, ec⟩ fin 9 (bl body))) ∧ Below w.heap.size w w' := by
  have HQ := Lib.hid (show rpRet (takeL ⟨most, bl RS, bl MS, po, cd, ec⟩ fin 9 (bl body)) = .tuple #[.agg #[.int .i64 most, .string RS, .string MS, .int .i64 po, .int .i64 cd, .int .i64 ec], .string (bs (sayL 10 (bl body)))] by
    rw [takeL, if_pos rfl]; unfold rpRet rpV; simp only [bs_bl])
  have hS := fun wx => rsay_any 10 body wx hb
  generalize bs (sayL 10 (bl body)) = X at *
  have hT0 := tri0 most po cd ec RS MS fin msk 9 mask body w
  go_enter Tryd.func61, Tryd.ntmps61
  go_upto_region 3 with fail
  obtain ⟨W, hW⟩ : ∃ W, ((w.alloc (.cells #[.int .i64 most, .string RS, .string MS, .int .i64 po, .int .i64 cd, .int .i64 ec] 59)).alloc (.cells #[.bool fin, .bool msk, .int .i64 9, .string mask, .string body] 30)).alloc (.cells #[.int .i64 0, .string ⟨#[]⟩, .string ⟨#[]⟩, .int .i64 0, .int .i64 0, .int .i64 0] 59) = W := ⟨_, rfl⟩
  rw [hW] at hT0 ⊢
  obtain ⟨PH, hPH⟩ : ∃ PH, PH = Tri w w.heap.size (.cells #[.int .i64 most, .string RS, .string MS, .int .i64 po, .int .i64 cd, .int .i64 ec] 59 (0, 0)) (.cells #[.bool fin, .bool msk, .int .i64 9, .string mask, .string body] 30 (0, 0)) := ⟨_, rfl⟩
  have HP0 := Lib.hid (show PH W by rw [hPH]; exact hT0)
  have HPd := Lib.hid (show ∀ x, PH x → PH x.drew by intro x h; rw [hPH] at h ⊢; exact h.drew)
  have HPb := Lib.hid (show ∀ x y, PH x → Below x.heap.size x y → PH y by intro x y h hb; rw [hPH] at h ⊢; exact h.below hb)
  have HPs := Lib.hid (show ∀ x j Y, PH x → PH (x.setCell ⟨w.heap.size + 2, j, none⟩ Y) by intro x j Y h; rw [hPH] at h ⊢; exact h.set j Y)
  have HPf := Lib.hid (show ∀ x, PH x → ∀ j, x.frozen? ⟨w.heap.size + 2, j, none⟩ = false by intro x h j; rw [hPH] at h; exact h.2.frozen j)
  have HPt := Lib.hid (show ∀ x, PH x → ∃ x0 x1 x2 x3 x4 x5, x.cell? ⟨w.heap.size + 2, 0, none⟩ = some x0 ∧ x.cell? ⟨w.heap.size + 2, 1, none⟩ = some x1 ∧ x.cell? ⟨w.heap.size + 2, 2, none⟩ = some x2 ∧ x.cell? ⟨w.heap.size + 2, 3, none⟩ = some x3 ∧ x.cell? ⟨w.heap.size + 2, 4, none⟩ = some x4 ∧ x.cell? ⟨w.heap.size + 2, 5, none⟩ = some x5 by
    intro x h; rw [hPH] at h; exact h.there)
  have HKeep := Lib.hid (show ∀ x, PH x → x.cell? ⟨w.heap.size, 0, none⟩ = some (.int .i64 most) ∧ x.cell? ⟨w.heap.size, 1, none⟩ = some (.string RS) ∧ x.cell? ⟨w.heap.size, 2, none⟩ = some (.string MS) ∧ x.cell? ⟨w.heap.size, 3, none⟩ = some (.int .i64 po) ∧ x.cell? ⟨w.heap.size, 4, none⟩ = some (.int .i64 cd) ∧ x.cell? ⟨w.heap.size, 5, none⟩ = some (.int .i64 ec) ∧ x.cell? ⟨w.heap.size + 1, 4, none⟩ = some (.string body) ∧ PH x by
    intro x h
    have h' := h
    rw [hPH] at h'
    exact ⟨h'.2.cell 0, h'.2.cell 1, h'.2.cell 2, h'.2.cell 3, h'.2.cell 4, h'.2.cell 5, hd_cell h'.1 4, h⟩)
  have HPH := Lib.hid hPH
  clear hPH hW hT0
  go_region_held3 (fun x => x.cell? ⟨w.heap.size, 0, none⟩ = some (.int .i64 most) ∧ x.cell? ⟨w.heap.size, 1, none⟩ = some (.string RS) ∧ x.cell? ⟨w.heap.size, 2, none⟩ = some (.string MS) ∧ x.cell? ⟨w.heap.size, 3, none⟩ = some (.int .i64 po) ∧ x.cell? ⟨w.heap.size, 4, none⟩ = some (.int .i64 cd) ∧ x.cell? ⟨w.heap.size, 5, none⟩ = some (.int .i64 ec) ∧ x.cell? ⟨w.heap.size + 1, 4, none⟩ = some (.string body) ∧ PH x)
    (first | (refine HKeep.out _ ?_; with_reducible (repeat (first | assumption | exact HP0.out | refine HPs.out _ _ _ ?_ | refine HPd.out _ ?_))))
    (first | (go_at_call 64; refine (hS _).mono ?_; rintro e w5 ⟨rfl, hb5⟩; have hx : PH w5 := (by refine HPb.out _ _ ?_ hb5; with_reducible (repeat (first | assumption | exact HP0.out | refine HPs.out _ _ _ ?_ | refine HPd.out _ ?_))); obtain ⟨z0, z1, z2, z3, z4, z5, g0, g1, g2, g3, g4, g5⟩ := HPt.out _ hx; have gf := HPf.out _ hx))
  go_wp2_with fail
  rw [HPH.out] at hx
  obtain ⟨_, g1, _, cs, hcs, g4⟩ := hx
  have hb9 := six_set (w := w5) (b := w.heap.size + 2) g4 hcs (.int .i64 most) (.string RS) (.string MS) (.int .i64 po) (.int .i64 cd) (.int .i64 ec)
  have hB9 : Below w.heap.size w ((((((w5.setCell ⟨w.heap.size + 2, 0, none⟩ (.int .i64 most)).setCell ⟨w.heap.size + 2, 1, none⟩ (.string RS)).setCell ⟨w.heap.size + 2, 2, none⟩ (.string MS)).setCell ⟨w.heap.size + 2, 3, none⟩ (.int .i64 po)).setCell ⟨w.heap.size + 2, 4, none⟩ (.int .i64 cd)).setCell ⟨w.heap.size + 2, 5, none⟩ (.int .i64 ec)) := below_set (below_set (below_set (below_set (below_set (below_set g1 (by omega) _ _) (by omega) _ _) (by omega) _ _) (by omega) _ _) (by omega) _ _) (by omega) _ _
  obtain ⟨W9, hW9⟩ : ∃ W9, ((((((w5.setCell ⟨w.heap.size + 2, 0, none⟩ (.int .i64 most)).setCell ⟨w.heap.size + 2, 1, none⟩ (.string RS)).setCell ⟨w.heap.size + 2, 2, none⟩ (.string MS)).setCell ⟨w.heap.size + 2, 3, none⟩ (.int .i64 po)).setCell ⟨w.heap.size + 2, 4, none⟩ (.int .i64 cd)).setCell ⟨w.heap.size + 2, 5, none⟩ (.int .i64 ec)) = W9 := ⟨_, rfl⟩
  rw [hW9] at hB9 hb9 ⊢
  have r0 := hd_cell hb9 0
  have r1 := hd_cell hb9 1
  have r2 := hd_cell hb9 2
  have r3 := hd_cell hb9 3
  have r4 := hd_cell hb9 4
  have r5 := hd_cell hb9 5
  simp only [List.getElem?_toArray, List.getElem?_cons_zero, List.getElem?_cons_succ] at r0 r1 r2 r3 r4 r5
  exact bodyPost_ret (v := .tuple #[.agg #[.int .i64 most, .string RS, .string MS, .int .i64 po, .int .i64 cd, .int .i64 ec], .string X]) (by simp [results, Tryd.results61, go_sem, r0, r1, r2, r3, r4, r5]) rfl ⟨by rw [HQ.out], hB9⟩

set_option maxHeartbeats 1000000 in
set_option maxRecDepth 100000 in
theorem rtake_pong (most po cd ec : Int) (RS MS : ByteArray) (fin msk : Bool) (mask body : ByteArray) (w : World) :
    Calls Tryd.prog 61 #[.agg #[.int .i64 most, .string RS, .string MS, .int .i64 po, .int .i64 cd, .int .i64 ec], .agg #[.bool fin, .bool msk, .int .i64 10, .string mask, .string body]] w fun e w' => e = .returned (rpRet (takeL ⟨most, bl RS, bl MS, po, cd, ec⟩ fin 10 (bl body))) ∧ Below w.heap.size w w' := by
  have HQ := Lib.hid (show rpRet (takeL ⟨most, bl RS, bl MS, po, cd, ec⟩ fin 10 (bl body)) = .tuple #[.agg #[.int .i64 most, .string RS, .string MS, .int .i64 po, .int .i64 cd, .int .i64 ec], .string ⟨#[]⟩] by
    rw [takeL, if_neg (by decide), if_pos rfl]; unfold rpRet rpV; simp only [bs_bl]; rfl)
  go_enter Tryd.func61, Tryd.ntmps61
  go_wp2_with fail
  exact bodyPost_ret (v := .tuple #[.agg #[.int .i64 most, .string RS, .string MS, .int .i64 po, .int .i64 cd, .int .i64 ec], .string ⟨#[]⟩]) (by simp [results, Tryd.results61, go_sem]) rfl ⟨by rw [HQ.out], (((Below.refl _ _).alloc (Nat.le_refl _) _).alloc (by simp) _).alloc (by simp <;> omega) _⟩

set_option maxHeartbeats 1000000 in
set_option maxRecDepth 100000 in
theorem rtake_close (most po cd ec : Int) (RS MS : ByteArray) (fin msk : Bool) (mask body : ByteArray) (w : World) (hb : body.size ≤ 281474976710656) :
    Calls Tryd.prog 61 #[.agg #[.int .i64 most, .string RS, .string MS, .int .i64 po, .int .i64 cd, .int .i64 ec], .agg #[.bool fin, .bool msk, .int .i64 8, .string mask, .string body]] w fun e w' => e = .returned (rpRet (takeL ⟨most, bl RS, bl MS, po, cd, ec⟩ fin 8 (bl body))) ∧ Below w.heap.size w w' := by
  have hP := rparseClose_any body
  have hcode := parseClose_code (bl body)
  have HT := Lib.hid (show takeL ⟨most, bl RS, bl MS, po, cd, ec⟩ fin 8 (bl body) = if (parseCloseL (bl body)).2.2 = 0 then closingL ⟨most, bl RS, bl MS, po, cd, ec⟩ (parseCloseL (bl body)).1 else if (parseCloseL (bl body)).2.2 = 223 then closingL ⟨most, bl RS, bl MS, po, cd, ec⟩ 1007 else closingL ⟨most, bl RS, bl MS, po, cd, ec⟩ 1002 by
    rw [takeL, if_neg (by decide), if_neg (by decide), if_pos rfl])
  have HC := Lib.hid (show ∀ c, rpRet (closingL ⟨most, bl RS, bl MS, po, cd, ec⟩ c) = .tuple #[.agg #[.int .i64 most, .string ⟨#[]⟩, .string ⟨#[]⟩, .int .i64 po, .int .i64 c, .int .i64 ec], .string (closeS c)] from fun c => rfl)
  generalize takeL ⟨most, bl RS, bl MS, po, cd, ec⟩ fin 8 (bl body) = TT at *
  generalize parseCloseL (bl body) = Y at *
  obtain ⟨a, b, c⟩ := Y
  simp only at hP hcode HT
  generalize bs b = B at *
  have hT0 := tri0 most po cd ec RS MS fin msk 8 mask body w
  by_cases h0 : c = 0
  · have HQ := Lib.hid (show rpRet TT = .tuple #[.agg #[.int .i64 most, .string ⟨#[]⟩, .string ⟨#[]⟩, .int .i64 po, .int .i64 a, .int .i64 ec], .string (closeS a)] by rw [HT.out, if_pos h0, HC.out])
    have hC := fun wx => rclosing' most po cd ec RS MS a wx (hcode h0)
    subst h0
    generalize closeS a = CS at *
    clear hcode
    go_enter Tryd.func61, Tryd.ntmps61
    go_wp2_with (first | (go_at_call 25; refine (hP _ (by omega)).mono ?_; rintro e w4 ⟨rfl, hb4⟩; obtain ⟨hc4, hf4⟩ := bcell hb4) | (go_at_call 60; refine (hC _).mono ?_; rintro e w5 ⟨rfl, hb5⟩; have hT5 := (hT0.below hb4).below hb5; obtain ⟨z0, z1, z2, z3, z4, z5, g0, g1, g2, g3, g4, g5⟩ := hT5.there; have gf := hT5.2.frozen))
    obtain ⟨_, gg1, _, cs, hcs, gg4⟩ := hT5
    have hb9 := six_set (w := w5) (b := w.heap.size + 2) gg4 hcs (.int .i64 most) (.string ⟨#[]⟩) (.string ⟨#[]⟩) (.int .i64 po) (.int .i64 a) (.int .i64 ec)
    have hB9 : Below w.heap.size w ((((((w5.setCell ⟨w.heap.size + 2, 0, none⟩ (.int .i64 most)).setCell ⟨w.heap.size + 2, 1, none⟩ (.string ⟨#[]⟩)).setCell ⟨w.heap.size + 2, 2, none⟩ (.string ⟨#[]⟩)).setCell ⟨w.heap.size + 2, 3, none⟩ (.int .i64 po)).setCell ⟨w.heap.size + 2, 4, none⟩ (.int .i64 a)).setCell ⟨w.heap.size + 2, 5, none⟩ (.int .i64 ec)) := below_set (below_set (below_set (below_set (below_set (below_set gg1 (by omega) _ _) (by omega) _ _) (by omega) _ _) (by omega) _ _) (by omega) _ _) (by omega) _ _
    obtain ⟨W9, hW9⟩ : ∃ W9, ((((((w5.setCell ⟨w.heap.size + 2, 0, none⟩ (.int .i64 most)).setCell ⟨w.heap.size + 2, 1, none⟩ (.string ⟨#[]⟩)).setCell ⟨w.heap.size + 2, 2, none⟩ (.string ⟨#[]⟩)).setCell ⟨w.heap.size + 2, 3, none⟩ (.int .i64 po)).setCell ⟨w.heap.size + 2, 4, none⟩ (.int .i64 a)).setCell ⟨w.heap.size + 2, 5, none⟩ (.int .i64 ec)) = W9 := ⟨_, rfl⟩
    rw [hW9] at hB9 hb9 ⊢
    have r0 := hd_cell hb9 0
    have r1 := hd_cell hb9 1
    have r2 := hd_cell hb9 2
    have r3 := hd_cell hb9 3
    have r4 := hd_cell hb9 4
    have r5 := hd_cell hb9 5
    simp only [List.getElem?_toArray, List.getElem?_cons_zero, List.getElem?_cons_succ] at r0 r1 r2 r3 r4 r5
    exact bodyPost_ret (v := .tuple #[.agg #[.int .i64 most, .string ⟨#[]⟩, .string ⟨#[]⟩, .int .i64 po, .int .i64 a, .int .i64 ec], .string CS]) (by simp [results, Tryd.results61, go_sem, r0, r1, r2, r3, r4, r5]) rfl ⟨by rw [HQ.out], hB9⟩
  · by_cases h1 : c = 223
    · have HQ := Lib.hid (show rpRet TT = .tuple #[.agg #[.int .i64 most, .string ⟨#[]⟩, .string ⟨#[]⟩, .int .i64 po, .int .i64 1007, .int .i64 ec], .string (closeS 1007)] by rw [HT.out, if_neg h0, if_pos h1, HC.out])
      have hC := fun wx => rclosing' most po cd ec RS MS 1007 wx (.inr (by decide))
      subst h1
      generalize closeS 1007 = CS at *
      clear hcode h0
      go_enter Tryd.func61, Tryd.ntmps61
      go_wp2_with (first | (go_at_call 25; refine (hP _ (by omega)).mono ?_; rintro e w4 ⟨rfl, hb4⟩; obtain ⟨hc4, hf4⟩ := bcell hb4) | (go_at_call 60; refine (hC _).mono ?_; rintro e w5 ⟨rfl, hb5⟩; have hT5 := (hT0.below hb4).below hb5; obtain ⟨z0, z1, z2, z3, z4, z5, g0, g1, g2, g3, g4, g5⟩ := hT5.there; have gf := hT5.2.frozen))
      obtain ⟨_, gg1, _, cs, hcs, gg4⟩ := hT5
      have hb9 := six_set (w := w5) (b := w.heap.size + 2) gg4 hcs (.int .i64 most) (.string ⟨#[]⟩) (.string ⟨#[]⟩) (.int .i64 po) (.int .i64 1007) (.int .i64 ec)
      have hB9 : Below w.heap.size w ((((((w5.setCell ⟨w.heap.size + 2, 0, none⟩ (.int .i64 most)).setCell ⟨w.heap.size + 2, 1, none⟩ (.string ⟨#[]⟩)).setCell ⟨w.heap.size + 2, 2, none⟩ (.string ⟨#[]⟩)).setCell ⟨w.heap.size + 2, 3, none⟩ (.int .i64 po)).setCell ⟨w.heap.size + 2, 4, none⟩ (.int .i64 1007)).setCell ⟨w.heap.size + 2, 5, none⟩ (.int .i64 ec)) := below_set (below_set (below_set (below_set (below_set (below_set gg1 (by omega) _ _) (by omega) _ _) (by omega) _ _) (by omega) _ _) (by omega) _ _) (by omega) _ _
      obtain ⟨W9, hW9⟩ : ∃ W9, ((((((w5.setCell ⟨w.heap.size + 2, 0, none⟩ (.int .i64 most)).setCell ⟨w.heap.size + 2, 1, none⟩ (.string ⟨#[]⟩)).setCell ⟨w.heap.size + 2, 2, none⟩ (.string ⟨#[]⟩)).setCell ⟨w.heap.size + 2, 3, none⟩ (.int .i64 po)).setCell ⟨w.heap.size + 2, 4, none⟩ (.int .i64 1007)).setCell ⟨w.heap.size + 2, 5, none⟩ (.int .i64 ec)) = W9 := ⟨_, rfl⟩
      rw [hW9] at hB9 hb9 ⊢
      have r0 := hd_cell hb9 0
      have r1 := hd_cell hb9 1
      have r2 := hd_cell hb9 2
      have r3 := hd_cell hb9 3
      have r4 := hd_cell hb9 4
      have r5 := hd_cell hb9 5
      simp only [List.getElem?_toArray, List.getElem?_cons_zero, List.getElem?_cons_succ] at r0 r1 r2 r3 r4 r5
      exact bodyPost_ret (v := .tuple #[.agg #[.int .i64 most, .string ⟨#[]⟩, .string ⟨#[]⟩, .int .i64 po, .int .i64 1007, .int .i64 ec], .string CS]) (by simp [results, Tryd.results61, go_sem, r0, r1, r2, r3, r4, r5]) rfl ⟨by rw [HQ.out], hB9⟩
    · have HQ := Lib.hid (show rpRet TT = .tuple #[.agg #[.int .i64 most, .string ⟨#[]⟩, .string ⟨#[]⟩, .int .i64 po, .int .i64 1002, .int .i64 ec], .string (closeS 1002)] by rw [HT.out, if_neg h0, if_neg h1, HC.out])
      have hC := fun wx => rclosing' most po cd ec RS MS 1002 wx (.inr (by decide))
      have e0 : (c != 0) = true := by simpa using h0
      have e1 : (c == 223) = false := by simpa using h1
      generalize closeS 1002 = CS at *
      clear hcode h0 h1
      go_enter Tryd.func61, Tryd.ntmps61
      go_wp2_with (first | (go_at_call 25; refine (hP _ (by omega)).mono ?_; rintro e w4 ⟨rfl, hb4⟩; obtain ⟨hc4, hf4⟩ := bcell hb4) | (go_at_call 60; refine (hC _).mono ?_; rintro e w5 ⟨rfl, hb5⟩; have hT5 := (hT0.below hb4).below hb5; obtain ⟨z0, z1, z2, z3, z4, z5, g0, g1, g2, g3, g4, g5⟩ := hT5.there; have gf := hT5.2.frozen))
      obtain ⟨_, gg1, _, cs, hcs, gg4⟩ := hT5
      have hb9 := six_set (w := w5) (b := w.heap.size + 2) gg4 hcs (.int .i64 most) (.string ⟨#[]⟩) (.string ⟨#[]⟩) (.int .i64 po) (.int .i64 1002) (.int .i64 ec)
      have hB9 : Below w.heap.size w ((((((w5.setCell ⟨w.heap.size + 2, 0, none⟩ (.int .i64 most)).setCell ⟨w.heap.size + 2, 1, none⟩ (.string ⟨#[]⟩)).setCell ⟨w.heap.size + 2, 2, none⟩ (.string ⟨#[]⟩)).setCell ⟨w.heap.size + 2, 3, none⟩ (.int .i64 po)).setCell ⟨w.heap.size + 2, 4, none⟩ (.int .i64 1002)).setCell ⟨w.heap.size + 2, 5, none⟩ (.int .i64 ec)) := below_set (below_set (below_set (below_set (below_set (below_set gg1 (by omega) _ _) (by omega) _ _) (by omega) _ _) (by omega) _ _) (by omega) _ _) (by omega) _ _
      obtain ⟨W9, hW9⟩ : ∃ W9, ((((((w5.setCell ⟨w.heap.size + 2, 0, none⟩ (.int .i64 most)).setCell ⟨w.heap.size + 2, 1, none⟩ (.string ⟨#[]⟩)).setCell ⟨w.heap.size + 2, 2, none⟩ (.string ⟨#[]⟩)).setCell ⟨w.heap.size + 2, 3, none⟩ (.int .i64 po)).setCell ⟨w.heap.size + 2, 4, none⟩ (.int .i64 1002)).setCell ⟨w.heap.size + 2, 5, none⟩ (.int .i64 ec)) = W9 := ⟨_, rfl⟩
      rw [hW9] at hB9 hb9 ⊢
      have r0 := hd_cell hb9 0
      have r1 := hd_cell hb9 1
      have r2 := hd_cell hb9 2
      have r3 := hd_cell hb9 3
      have r4 := hd_cell hb9 4
      have r5 := hd_cell hb9 5
      simp only [List.getElem?_toArray, List.getElem?_cons_zero, List.getElem?_cons_succ] at r0 r1 r2 r3 r4 r5
      exact bodyPost_ret (v := .tuple #[.agg #[.int .i64 most, .string ⟨#[]⟩, .string ⟨#[]⟩, .int .i64 po, .int .i64 1002, .int .i64 ec], .string CS]) (by simp [results, Tryd.results61, go_sem, r0, r1, r2, r3, r4, r5]) rfl ⟨by rw [HQ.out], hB9⟩

set_option maxHeartbeats 2000000 in
set_option maxRecDepth 100000 in
theorem rtake_data0 (most po cd ec : Int) (RS MS : ByteArray) (fin msk : Bool) (op : Int) (mask body : ByteArray) (w : World) (hb : MS.size + body.size ≤ 140737488355328) (h8 : op ≠ 8) (h9 : op ≠ 9) (h10 : op ≠ 10) (h0 : op = 0) :
    Calls Tryd.prog 61 #[.agg #[.int .i64 most, .string RS, .string MS, .int .i64 po, .int .i64 cd, .int .i64 ec], .agg #[.bool fin, .bool msk, .int .i64 op, .string mask, .string body]] w fun e w' => e = .returned (rpRet (takeL ⟨most, bl RS, bl MS, po, cd, ec⟩ fin op (bl body))) ∧ Below w.heap.size w w' := by
  have hpo : (if op = 0 then po else op) = po := by rw [if_pos h0]
  have hTT : takeL ⟨most, bl RS, bl MS, po, cd, ec⟩ fin op (bl body) = if fin = false then (⟨most, bl RS, bl (MS ++ body), po, cd, ec⟩, [])
      else if po = 1 ∧ Lib.validD (bl (MS ++ body)) = false then closingL ⟨most, bl RS, bl (MS ++ body), po, cd, ec⟩ 1007 else (⟨most, bl RS, [], 0, cd, wrap64 (ec + 1)⟩, sayL po (bl (MS ++ body))) := by
    rw [bl_append]
    unfold takeL
    rw [if_neg h9, if_neg h10, if_neg h8]
    simp only [hpo]
  have e8 : (op == 8) = false := by simpa using h8
  have e9 : (op == 9) = false := by simpa using h9
  have e10 : (op == 10) = false := by simpa using h10
  have e0 : (op != 0) = false := by simpa using h0
  have hsz : (MS ++ body).size ≤ 140737488355328 := by rw [ByteArray.size_append]; omega
  have hT0 := tri0 most po cd ec RS (MS ++ body) fin msk op mask body w
  have HTT := Lib.hid hTT
  generalize takeL ⟨most, bl RS, bl MS, po, cd, ec⟩ fin op (bl body) = TT at *
  have H0 := Lib.hid h0
  clear hTT hpo h8 h9 h10 h0
  cases fin
  · have HQ := Lib.hid (show rpRet TT = .tuple #[.agg #[.int .i64 most, .string RS, .string (MS ++ body), .int .i64 po, .int .i64 cd, .int .i64 ec], .string ⟨#[]⟩] by
      rw [HTT.out, if_pos rfl]; unfold rpRet rpV; simp only [bs_bl]; rfl)
    go_enter Tryd.func61, Tryd.ntmps61
    go_wp2_with fail
    exact bodyPost_ret (v := .tuple #[.agg #[.int .i64 most, .string RS, .string (MS ++ body), .int .i64 po, .int .i64 cd, .int .i64 ec], .string ⟨#[]⟩]) (by simp [results, Tryd.results61, go_sem]) rfl ⟨by rw [HQ.out], (((Below.refl _ _).alloc (Nat.le_refl _) _).alloc (by simp) _).alloc (by simp <;> omega) _⟩
  have hV := fun wx => risText_any (MS ++ body) wx (by omega)
  obtain ⟨V, hVV⟩ : ∃ V, Lib.validD (bl (MS ++ body)) = V := ⟨_, rfl⟩
  rw [hVV] at hV
  have HVV := Lib.hid hVV
  clear hVV
  by_cases hp : po = 1 ∧ V = false
  · obtain ⟨hp1, rfl⟩ := hp
    have HQ := Lib.hid (show rpRet TT = .tuple #[.agg #[.int .i64 most, .string ⟨#[]⟩, .string ⟨#[]⟩, .int .i64 po, .int .i64 1007, .int .i64 ec], .string (closeS 1007)] by
      rw [HTT.out, if_neg (by simp), if_pos ⟨hp1, HVV.out⟩]; rfl)
    have hC := fun wx => rclosing' most po cd ec RS (MS ++ body) 1007 wx (.inr (by decide))
    have e1 : (po == 1) = true := by simpa using hp1
    generalize closeS 1007 = CS at *
    clear hp1
    go_enter Tryd.func61, Tryd.ntmps61
    go_wp2_with (first | (go_at_call 21; refine (hV _).mono ?_; rintro e w4 ⟨rfl, rfl⟩) | (go_at_call 60; refine (hC _).mono ?_; rintro e w5 ⟨rfl, hb5⟩; have hT5 := hT0.below hb5; obtain ⟨z0, z1, z2, z3, z4, z5, g0, g1, g2, g3, g4, g5⟩ := hT5.there; have gf := hT5.2.frozen))
    obtain ⟨_, gg1, _, cs, hcs, gg4⟩ := hT5
    have hb9 := six_set (w := w5) (b := w.heap.size + 2) gg4 hcs (.int .i64 most) (.string ⟨#[]⟩) (.string ⟨#[]⟩) (.int .i64 po) (.int .i64 1007) (.int .i64 ec)
    have hB9 : Below w.heap.size w ((((((w5.setCell ⟨w.heap.size + 2, 0, none⟩ (.int .i64 most)).setCell ⟨w.heap.size + 2, 1, none⟩ (.string ⟨#[]⟩)).setCell ⟨w.heap.size + 2, 2, none⟩ (.string ⟨#[]⟩)).setCell ⟨w.heap.size + 2, 3, none⟩ (.int .i64 po)).setCell ⟨w.heap.size + 2, 4, none⟩ (.int .i64 1007)).setCell ⟨w.heap.size + 2, 5, none⟩ (.int .i64 ec)) := below_set (below_set (below_set (below_set (below_set (below_set gg1 (by omega) _ _) (by omega) _ _) (by omega) _ _) (by omega) _ _) (by omega) _ _) (by omega) _ _
    obtain ⟨W9, hW9⟩ : ∃ W9, ((((((w5.setCell ⟨w.heap.size + 2, 0, none⟩ (.int .i64 most)).setCell ⟨w.heap.size + 2, 1, none⟩ (.string ⟨#[]⟩)).setCell ⟨w.heap.size + 2, 2, none⟩ (.string ⟨#[]⟩)).setCell ⟨w.heap.size + 2, 3, none⟩ (.int .i64 po)).setCell ⟨w.heap.size + 2, 4, none⟩ (.int .i64 1007)).setCell ⟨w.heap.size + 2, 5, none⟩ (.int .i64 ec)) = W9 := ⟨_, rfl⟩
    rw [hW9] at hB9 hb9 ⊢
    have r0 := hd_cell hb9 0
    have r1 := hd_cell hb9 1
    have r2 := hd_cell hb9 2
    have r3 := hd_cell hb9 3
    have r4 := hd_cell hb9 4
    have r5 := hd_cell hb9 5
    simp only [List.getElem?_toArray, List.getElem?_cons_zero, List.getElem?_cons_succ] at r0 r1 r2 r3 r4 r5
    exact bodyPost_ret (v := .tuple #[.agg #[.int .i64 most, .string ⟨#[]⟩, .string ⟨#[]⟩, .int .i64 po, .int .i64 1007, .int .i64 ec], .string CS]) (by simp [results, Tryd.results61, go_sem, r0, r1, r2, r3, r4, r5]) rfl ⟨by rw [HQ.out], hB9⟩
  have HQ := Lib.hid (show rpRet TT = .tuple #[.agg #[.int .i64 most, .string RS, .string ⟨#[]⟩, .int .i64 0, .int .i64 cd, .int .i64 (wrap64 (ec + 1))], .string (bs (sayL po (bl (MS ++ body))))] by
    rw [HTT.out, if_neg (by simp), if_neg (by rw [HVV.out]; exact hp)]; unfold rpRet rpV; simp only [bs_bl]; rfl)
  have hS := fun wx => rsay_any po (MS ++ body) wx (by omega)
  generalize bs (sayL po (bl (MS ++ body))) = X at *
  have key : (po == 1) = false ∨ ((po == 1) = true ∧ V = true) := by
    by_cases q : po = 1
    · right; refine ⟨by simpa using q, ?_⟩
      cases V
      · exact absurd ⟨q, rfl⟩ hp
      · rfl
    · left; simpa using q
  clear hp
  rcases key with e1 | ⟨e1, rfl⟩
  all_goals
    go_enter Tryd.func61, Tryd.ntmps61
    go_wp2_with (first | (go_at_call 21; refine (hV _).mono ?_; rintro e w4 ⟨rfl, rfl⟩) | (go_at_call 64; refine (hS _).mono ?_; rintro e w5 ⟨rfl, hb5⟩; have hT5 := hT0.below hb5; obtain ⟨z0, z1, z2, z3, z4, z5, g0, g1, g2, g3, g4, g5⟩ := hT5.there; have gf := hT5.2.frozen; have f0 := hT5.2.cell 0; have f1 := hT5.2.cell 1; have f2 := hT5.2.cell 2; have f3 := hT5.2.cell 3; have f4 := hT5.2.cell 4; have f5 := hT5.2.cell 5; have ff := hd_frozen hT5.2.2.1; simp only [List.getElem?_toArray, List.getElem?_cons_zero, List.getElem?_cons_succ] at f0 f1 f2 f3 f4 f5))
    obtain ⟨_, gg1, _, cs, hcs, gg4⟩ := hT5
    have gb : ((((w5.setCell ⟨w.heap.size, 3, none⟩ (.int .i64 0)).setCell ⟨w.heap.size, 2, none⟩ (.string ⟨#[]⟩)).setCell ⟨w.heap.size, 5, none⟩ (.int .i64 (wrap64 (ec + 1))))).heap[w.heap.size + 2]? = some (.cells cs 59 (0, 0)) :=
      (Below.heap_setCell _ _ _ _ (by simp)).trans ((Below.heap_setCell _ _ _ _ (by simp)).trans ((Below.heap_setCell _ _ _ _ (by simp)).trans gg4))
    have gB : Below w.heap.size w ((((w5.setCell ⟨w.heap.size, 3, none⟩ (.int .i64 0)).setCell ⟨w.heap.size, 2, none⟩ (.string ⟨#[]⟩)).setCell ⟨w.heap.size, 5, none⟩ (.int .i64 (wrap64 (ec + 1))))) := below_set (below_set (below_set gg1 (Nat.le_refl _) _ _) (Nat.le_refl _) _ _) (Nat.le_refl _) _ _
    have hb9 := six_set (w := (((w5.setCell ⟨w.heap.size, 3, none⟩ (.int .i64 0)).setCell ⟨w.heap.size, 2, none⟩ (.string ⟨#[]⟩)).setCell ⟨w.heap.size, 5, none⟩ (.int .i64 (wrap64 (ec + 1))))) (b := w.heap.size + 2) gb hcs (.int .i64 most) (.string RS) (.string ⟨#[]⟩) (.int .i64 0) (.int .i64 cd) (.int .i64 (wrap64 (ec + 1)))
    have hB9 : Below w.heap.size w (((((((((w5.setCell ⟨w.heap.size, 3, none⟩ (.int .i64 0)).setCell ⟨w.heap.size, 2, none⟩ (.string ⟨#[]⟩)).setCell ⟨w.heap.size, 5, none⟩ (.int .i64 (wrap64 (ec + 1)))).setCell ⟨w.heap.size + 2, 0, none⟩ (.int .i64 most)).setCell ⟨w.heap.size + 2, 1, none⟩ (.string RS)).setCell ⟨w.heap.size + 2, 2, none⟩ (.string ⟨#[]⟩)).setCell ⟨w.heap.size + 2, 3, none⟩ (.int .i64 0)).setCell ⟨w.heap.size + 2, 4, none⟩ (.int .i64 cd)).setCell ⟨w.heap.size + 2, 5, none⟩ (.int .i64 (wrap64 (ec + 1)))) := below_set (below_set (below_set (below_set (below_set (below_set gB (by omega) _ _) (by omega) _ _) (by omega) _ _) (by omega) _ _) (by omega) _ _) (by omega) _ _
    obtain ⟨W9, hW9⟩ : ∃ W9, (((((((((w5.setCell ⟨w.heap.size, 3, none⟩ (.int .i64 0)).setCell ⟨w.heap.size, 2, none⟩ (.string ⟨#[]⟩)).setCell ⟨w.heap.size, 5, none⟩ (.int .i64 (wrap64 (ec + 1)))).setCell ⟨w.heap.size + 2, 0, none⟩ (.int .i64 most)).setCell ⟨w.heap.size + 2, 1, none⟩ (.string RS)).setCell ⟨w.heap.size + 2, 2, none⟩ (.string ⟨#[]⟩)).setCell ⟨w.heap.size + 2, 3, none⟩ (.int .i64 0)).setCell ⟨w.heap.size + 2, 4, none⟩ (.int .i64 cd)).setCell ⟨w.heap.size + 2, 5, none⟩ (.int .i64 (wrap64 (ec + 1)))) = W9 := ⟨_, rfl⟩
    rw [hW9] at hB9 hb9 ⊢
    have r0 := hd_cell hb9 0
    have r1 := hd_cell hb9 1
    have r2 := hd_cell hb9 2
    have r3 := hd_cell hb9 3
    have r4 := hd_cell hb9 4
    have r5 := hd_cell hb9 5
    simp only [List.getElem?_toArray, List.getElem?_cons_zero, List.getElem?_cons_succ] at r0 r1 r2 r3 r4 r5
    exact bodyPost_ret (v := .tuple #[.agg #[.int .i64 most, .string RS, .string ⟨#[]⟩, .int .i64 0, .int .i64 cd, .int .i64 (wrap64 (ec + 1))], .string X]) (by simp [results, Tryd.results61, go_sem, r0, r1, r2, r3, r4, r5]) rfl ⟨by rw [HQ.out], hB9⟩

set_option maxHeartbeats 2000000 in
set_option maxRecDepth 100000 in
theorem rtake_data1 (most po cd ec : Int) (RS MS : ByteArray) (fin msk : Bool) (op : Int) (mask body : ByteArray) (w : World) (hb : MS.size + body.size ≤ 140737488355328) (h8 : op ≠ 8) (h9 : op ≠ 9) (h10 : op ≠ 10) (h0 : op ≠ 0) :
    Calls Tryd.prog 61 #[.agg #[.int .i64 most, .string RS, .string MS, .int .i64 po, .int .i64 cd, .int .i64 ec], .agg #[.bool fin, .bool msk, .int .i64 op, .string mask, .string body]] w fun e w' => e = .returned (rpRet (takeL ⟨most, bl RS, bl MS, po, cd, ec⟩ fin op (bl body))) ∧ Below w.heap.size w w' := by
  have hpo : (if op = 0 then po else op) = op := by rw [if_neg h0]
  have hTT : takeL ⟨most, bl RS, bl MS, po, cd, ec⟩ fin op (bl body) = if fin = false then (⟨most, bl RS, bl (MS ++ body), op, cd, ec⟩, [])
      else if op = 1 ∧ Lib.validD (bl (MS ++ body)) = false then closingL ⟨most, bl RS, bl (MS ++ body), op, cd, ec⟩ 1007 else (⟨most, bl RS, [], 0, cd, wrap64 (ec + 1)⟩, sayL op (bl (MS ++ body))) := by
    rw [bl_append]
    unfold takeL
    rw [if_neg h9, if_neg h10, if_neg h8]
    simp only [hpo]
  have e8 : (op == 8) = false := by simpa using h8
  have e9 : (op == 9) = false := by simpa using h9
  have e10 : (op == 10) = false := by simpa using h10
  have e0 : (op != 0) = true := by simpa using h0
  have hsz : (MS ++ body).size ≤ 140737488355328 := by rw [ByteArray.size_append]; omega
  have hT0 := tri0 most op cd ec RS (MS ++ body) fin msk op mask body w
  have HTT := Lib.hid hTT
  generalize takeL ⟨most, bl RS, bl MS, po, cd, ec⟩ fin op (bl body) = TT at *
  have H0 := Lib.hid h0
  clear hTT hpo h8 h9 h10 h0
  cases fin
  · have HQ := Lib.hid (show rpRet TT = .tuple #[.agg #[.int .i64 most, .string RS, .string (MS ++ body), .int .i64 op, .int .i64 cd, .int .i64 ec], .string ⟨#[]⟩] by
      rw [HTT.out, if_pos rfl]; unfold rpRet rpV; simp only [bs_bl]; rfl)
    go_enter Tryd.func61, Tryd.ntmps61
    go_wp2_with fail
    exact bodyPost_ret (v := .tuple #[.agg #[.int .i64 most, .string RS, .string (MS ++ body), .int .i64 op, .int .i64 cd, .int .i64 ec], .string ⟨#[]⟩]) (by simp [results, Tryd.results61, go_sem]) rfl ⟨by rw [HQ.out], (((Below.refl _ _).alloc (Nat.le_refl _) _).alloc (by simp) _).alloc (by simp <;> omega) _⟩
  have hV := fun wx => risText_any (MS ++ body) wx (by omega)
  obtain ⟨V, hVV⟩ : ∃ V, Lib.validD (bl (MS ++ body)) = V := ⟨_, rfl⟩
  rw [hVV] at hV
  have HVV := Lib.hid hVV
  clear hVV
  by_cases hp : op = 1 ∧ V = false
  · obtain ⟨hp1, rfl⟩ := hp
    have HQ := Lib.hid (show rpRet TT = .tuple #[.agg #[.int .i64 most, .string ⟨#[]⟩, .string ⟨#[]⟩, .int .i64 op, .int .i64 1007, .int .i64 ec], .string (closeS 1007)] by
      rw [HTT.out, if_neg (by simp), if_pos ⟨hp1, HVV.out⟩]; rfl)
    have hC := fun wx => rclosing' most op cd ec RS (MS ++ body) 1007 wx (.inr (by decide))
    have e1 : (op == 1) = true := by simpa using hp1
    generalize closeS 1007 = CS at *
    clear hp1
    go_enter Tryd.func61, Tryd.ntmps61
    go_wp2_with (first | (go_at_call 21; refine (hV _).mono ?_; rintro e w4 ⟨rfl, rfl⟩) | (go_at_call 60; refine (hC _).mono ?_; rintro e w5 ⟨rfl, hb5⟩; have hT5 := hT0.below hb5; obtain ⟨z0, z1, z2, z3, z4, z5, g0, g1, g2, g3, g4, g5⟩ := hT5.there; have gf := hT5.2.frozen))
    obtain ⟨_, gg1, _, cs, hcs, gg4⟩ := hT5
    have hb9 := six_set (w := w5) (b := w.heap.size + 2) gg4 hcs (.int .i64 most) (.string ⟨#[]⟩) (.string ⟨#[]⟩) (.int .i64 op) (.int .i64 1007) (.int .i64 ec)
    have hB9 : Below w.heap.size w ((((((w5.setCell ⟨w.heap.size + 2, 0, none⟩ (.int .i64 most)).setCell ⟨w.heap.size + 2, 1, none⟩ (.string ⟨#[]⟩)).setCell ⟨w.heap.size + 2, 2, none⟩ (.string ⟨#[]⟩)).setCell ⟨w.heap.size + 2, 3, none⟩ (.int .i64 op)).setCell ⟨w.heap.size + 2, 4, none⟩ (.int .i64 1007)).setCell ⟨w.heap.size + 2, 5, none⟩ (.int .i64 ec)) := below_set (below_set (below_set (below_set (below_set (below_set gg1 (by omega) _ _) (by omega) _ _) (by omega) _ _) (by omega) _ _) (by omega) _ _) (by omega) _ _
    obtain ⟨W9, hW9⟩ : ∃ W9, ((((((w5.setCell ⟨w.heap.size + 2, 0, none⟩ (.int .i64 most)).setCell ⟨w.heap.size + 2, 1, none⟩ (.string ⟨#[]⟩)).setCell ⟨w.heap.size + 2, 2, none⟩ (.string ⟨#[]⟩)).setCell ⟨w.heap.size + 2, 3, none⟩ (.int .i64 op)).setCell ⟨w.heap.size + 2, 4, none⟩ (.int .i64 1007)).setCell ⟨w.heap.size + 2, 5, none⟩ (.int .i64 ec)) = W9 := ⟨_, rfl⟩
    rw [hW9] at hB9 hb9 ⊢
    have r0 := hd_cell hb9 0
    have r1 := hd_cell hb9 1
    have r2 := hd_cell hb9 2
    have r3 := hd_cell hb9 3
    have r4 := hd_cell hb9 4
    have r5 := hd_cell hb9 5
    simp only [List.getElem?_toArray, List.getElem?_cons_zero, List.getElem?_cons_succ] at r0 r1 r2 r3 r4 r5
    exact bodyPost_ret (v := .tuple #[.agg #[.int .i64 most, .string ⟨#[]⟩, .string ⟨#[]⟩, .int .i64 op, .int .i64 1007, .int .i64 ec], .string CS]) (by simp [results, Tryd.results61, go_sem, r0, r1, r2, r3, r4, r5]) rfl ⟨by rw [HQ.out], hB9⟩
  have HQ := Lib.hid (show rpRet TT = .tuple #[.agg #[.int .i64 most, .string RS, .string ⟨#[]⟩, .int .i64 0, .int .i64 cd, .int .i64 (wrap64 (ec + 1))], .string (bs (sayL op (bl (MS ++ body))))] by
    rw [HTT.out, if_neg (by simp), if_neg (by rw [HVV.out]; exact hp)]; unfold rpRet rpV; simp only [bs_bl]; rfl)
  have hS := fun wx => rsay_any op (MS ++ body) wx (by omega)
  generalize bs (sayL op (bl (MS ++ body))) = X at *
  have key : (op == 1) = false ∨ ((op == 1) = true ∧ V = true) := by
    by_cases q : op = 1
    · right; refine ⟨by simpa using q, ?_⟩
      cases V
      · exact absurd ⟨q, rfl⟩ hp
      · rfl
    · left; simpa using q
  clear hp
  rcases key with e1 | ⟨e1, rfl⟩
  all_goals
    go_enter Tryd.func61, Tryd.ntmps61
    go_wp2_with (first | (go_at_call 21; refine (hV _).mono ?_; rintro e w4 ⟨rfl, rfl⟩) | (go_at_call 64; refine (hS _).mono ?_; rintro e w5 ⟨rfl, hb5⟩; have hT5 := hT0.below hb5; obtain ⟨z0, z1, z2, z3, z4, z5, g0, g1, g2, g3, g4, g5⟩ := hT5.there; have gf := hT5.2.frozen; have f0 := hT5.2.cell 0; have f1 := hT5.2.cell 1; have f2 := hT5.2.cell 2; have f3 := hT5.2.cell 3; have f4 := hT5.2.cell 4; have f5 := hT5.2.cell 5; have ff := hd_frozen hT5.2.2.1; simp only [List.getElem?_toArray, List.getElem?_cons_zero, List.getElem?_cons_succ] at f0 f1 f2 f3 f4 f5))
    obtain ⟨_, gg1, _, cs, hcs, gg4⟩ := hT5
    have gb : ((((w5.setCell ⟨w.heap.size, 3, none⟩ (.int .i64 0)).setCell ⟨w.heap.size, 2, none⟩ (.string ⟨#[]⟩)).setCell ⟨w.heap.size, 5, none⟩ (.int .i64 (wrap64 (ec + 1))))).heap[w.heap.size + 2]? = some (.cells cs 59 (0, 0)) :=
      (Below.heap_setCell _ _ _ _ (by simp)).trans ((Below.heap_setCell _ _ _ _ (by simp)).trans ((Below.heap_setCell _ _ _ _ (by simp)).trans gg4))
    have gB : Below w.heap.size w ((((w5.setCell ⟨w.heap.size, 3, none⟩ (.int .i64 0)).setCell ⟨w.heap.size, 2, none⟩ (.string ⟨#[]⟩)).setCell ⟨w.heap.size, 5, none⟩ (.int .i64 (wrap64 (ec + 1))))) := below_set (below_set (below_set gg1 (Nat.le_refl _) _ _) (Nat.le_refl _) _ _) (Nat.le_refl _) _ _
    have hb9 := six_set (w := (((w5.setCell ⟨w.heap.size, 3, none⟩ (.int .i64 0)).setCell ⟨w.heap.size, 2, none⟩ (.string ⟨#[]⟩)).setCell ⟨w.heap.size, 5, none⟩ (.int .i64 (wrap64 (ec + 1))))) (b := w.heap.size + 2) gb hcs (.int .i64 most) (.string RS) (.string ⟨#[]⟩) (.int .i64 0) (.int .i64 cd) (.int .i64 (wrap64 (ec + 1)))
    have hB9 : Below w.heap.size w (((((((((w5.setCell ⟨w.heap.size, 3, none⟩ (.int .i64 0)).setCell ⟨w.heap.size, 2, none⟩ (.string ⟨#[]⟩)).setCell ⟨w.heap.size, 5, none⟩ (.int .i64 (wrap64 (ec + 1)))).setCell ⟨w.heap.size + 2, 0, none⟩ (.int .i64 most)).setCell ⟨w.heap.size + 2, 1, none⟩ (.string RS)).setCell ⟨w.heap.size + 2, 2, none⟩ (.string ⟨#[]⟩)).setCell ⟨w.heap.size + 2, 3, none⟩ (.int .i64 0)).setCell ⟨w.heap.size + 2, 4, none⟩ (.int .i64 cd)).setCell ⟨w.heap.size + 2, 5, none⟩ (.int .i64 (wrap64 (ec + 1)))) := below_set (below_set (below_set (below_set (below_set (below_set gB (by omega) _ _) (by omega) _ _) (by omega) _ _) (by omega) _ _) (by omega) _ _) (by omega) _ _
    obtain ⟨W9, hW9⟩ : ∃ W9, (((((((((w5.setCell ⟨w.heap.size, 3, none⟩ (.int .i64 0)).setCell ⟨w.heap.size, 2, none⟩ (.string ⟨#[]⟩)).setCell ⟨w.heap.size, 5, none⟩ (.int .i64 (wrap64 (ec + 1)))).setCell ⟨w.heap.size + 2, 0, none⟩ (.int .i64 most)).setCell ⟨w.heap.size + 2, 1, none⟩ (.string RS)).setCell ⟨w.heap.size + 2, 2, none⟩ (.string ⟨#[]⟩)).setCell ⟨w.heap.size + 2, 3, none⟩ (.int .i64 0)).setCell ⟨w.heap.size + 2, 4, none⟩ (.int .i64 cd)).setCell ⟨w.heap.size + 2, 5, none⟩ (.int .i64 (wrap64 (ec + 1)))) = W9 := ⟨_, rfl⟩
    rw [hW9] at hB9 hb9 ⊢
    have r0 := hd_cell hb9 0
    have r1 := hd_cell hb9 1
    have r2 := hd_cell hb9 2
    have r3 := hd_cell hb9 3
    have r4 := hd_cell hb9 4
    have r5 := hd_cell hb9 5
    simp only [List.getElem?_toArray, List.getElem?_cons_zero, List.getElem?_cons_succ] at r0 r1 r2 r3 r4 r5
    exact bodyPost_ret (v := .tuple #[.agg #[.int .i64 most, .string RS, .string ⟨#[]⟩, .int .i64 0, .int .i64 cd, .int .i64 (wrap64 (ec + 1))], .string X]) (by simp [results, Tryd.results61, go_sem, r0, r1, r2, r3, r4, r5]) rfl ⟨by rw [HQ.out], hB9⟩

theorem rtake_any (p : RP) (fin msk : Bool) (op : Int) (mask body : ByteArray) (w : World) (hb : p.msg.length + body.size ≤ 140737488355328) :
    Calls Tryd.prog 61 #[rpV p, .agg #[.bool fin, .bool msk, .int .i64 op, .string mask, .string body]] w fun e w' => e = .returned (rpRet (takeL p fin op (bl body))) ∧ Below w.heap.size w w' := by
  obtain ⟨most, rest, msg, po, cd, ec⟩ := p
  obtain ⟨RS, rfl⟩ : ∃ RS : ByteArray, rest = bl RS := ⟨bs rest, rfl⟩
  obtain ⟨MS, rfl⟩ : ∃ MS : ByteArray, msg = bl MS := ⟨bs msg, rfl⟩
  have hv : rpV ⟨most, bl RS, bl MS, po, cd, ec⟩ = .agg #[.int .i64 most, .string RS, .string MS, .int .i64 po, .int .i64 cd, .int .i64 ec] := by unfold rpV; rw [bs_bl, bs_bl]
  rw [hv]
  simp only [bl_length] at hb
  by_cases h9 : op = 9
  · subst h9; exact rtake_ping most po cd ec RS MS fin msk mask body w (by omega)
  by_cases h10 : op = 10
  · subst h10; exact rtake_pong most po cd ec RS MS fin msk mask body w
  by_cases h8 : op = 8
  · subst h8; exact rtake_close most po cd ec RS MS fin msk mask body w (by omega)
  by_cases h0 : op = 0
  · exact rtake_data0 most po cd ec RS MS fin msk op mask body w hb h8 h9 h10 h0
  · exact rtake_data1 most po cd ec RS MS fin msk op mask body w hb h8 h9 h10 h0
end Go.Proofs.YtmgfpjfamdbhbaaDoor
