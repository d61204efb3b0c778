/- The reference's peer, by value: say, closing, New, early; no condition but that a closing code is one. -/
import Derived.Test.YtmgfpjfamdbhbaaDoorFeedP
import Derived.Test.YtmgfpjfamdbhbaaDoorRParse
import Derived.Test.YtmgfpjfamdbhbaaDoorRClose
namespace Go.Proofs.YtmgfpjfamdbhbaaDoor
open Go.RowKit

theorem below_set {B b : Nat} {w x : World} (h : Below B w x) (hb : B ≤ b) (j : Nat) (v : Value) : Below B w (x.setCell ⟨b, j, none⟩ v) := h.setCell (p := ⟨b, j, none⟩) hb v
/-- the reference's peer as a value -/
def rpV (p : RP) : Value := .agg #[.int .i64 p.most, .string (bs p.rest), .string (bs p.msg), .int .i64 p.op, .int .i64 p.code, .int .i64 p.echoed]
def rpRet (r : RP × List UInt8) : Value := .tuple #[rpV r.1, .string (bs r.2)]
/-- a block of six cells, all of them stored anew -/
theorem six_set {w : World} {b : Nat} {cs : Array Value} {t : TypeId} (h : w.heap[b]? = some (.cells cs t (0, 0))) (hs : cs.size = 6) (v0 v1 v2 v3 v4 v5 : Value) :
    ((((((w.setCell ⟨b, 0, none⟩ v0).setCell ⟨b, 1, none⟩ v1).setCell ⟨b, 2, none⟩ v2).setCell ⟨b, 3, none⟩ v3).setCell ⟨b, 4, none⟩ v4).setCell ⟨b, 5, none⟩ v5).heap[b]? = some (.cells #[v0, v1, v2, v3, v4, v5] t (0, 0)) := by
  obtain ⟨l⟩ := cs
  match l, hs with
  | [a0, a1, a2, a3, a4, a5], _ => exact hd_set (hd_set (hd_set (hd_set (hd_set (hd_set h 0 _) 1 _) 2 _) 3 _) 4 _) 5 _
/-- what a region must keep that calls and stores a peer into block h + 1 -/
def Two (w : World) (h : Nat) (o : Obj) (wy : World) : Prop := Hd w h h o (h + 1) 59 (fun cs => cs.size = 6) wy
theorem Two.there {w : World} {h : Nat} {o : Obj} {x : World} (hx : Two w h o x) : ∃ x0 x1 x2 x3 x4 x5, x.cell? ⟨h + 1, 0, none⟩ = some x0 ∧ x.cell? ⟨h + 1, 1, none⟩ = some x1 ∧ x.cell? ⟨h + 1, 2, none⟩ = some x2 ∧ x.cell? ⟨h + 1, 3, none⟩ = some x3 ∧ x.cell? ⟨h + 1, 4, none⟩ = some x4 ∧ x.cell? ⟨h + 1, 5, none⟩ = some x5 := by
  obtain ⟨_, _, cs, hs, h4⟩ := hx
  obtain ⟨l⟩ := cs
  match l, hs with
  | [a0, a1, a2, a3, a4, a5], _ => exact ⟨a0, a1, a2, a3, a4, a5, hd_cell h4 0, hd_cell h4 1, hd_cell h4 2, hd_cell h4 3, hd_cell h4 4, hd_cell h4 5⟩
theorem Two.below {w : World} {h : Nat} {o : Obj} {x y : World} (hx : Two w h o x) (hb : Below x.heap.size x y) : Two w h o y := Hd.below hx hb (by have := Hd.size hx; omega)
theorem Two.drew {w : World} {h : Nat} {o : Obj} {x : World} (hx : Two w h o x) : Two w h o x.drew := Hd.drew hx
theorem Two.set {w : World} {h : Nat} {o : Obj} {x : World} (hx : Two w h o x) (j : Nat) (Y : Value) : Two w h o (x.setCell ⟨h + 1, j, none⟩ Y) := Hd.set hx (by omega) (by omega) j Y (fun cs hc => by simpa using hc)
theorem Two.frozen {w : World} {h : Nat} {o : Obj} {x : World} (hx : Two w h o x) (j : Nat) : x.frozen? ⟨h + 1, j, none⟩ = false := Hd.frozen hx j
/-- where a call may store a peer of its own: block h + 1 now holds these -/
def Now (w : World) (h : Nat) (v : Value) (wy : World) : Prop := Below h w wy ∧ ∃ v0 v1 v2 v3 v4 v5, v = .agg #[v0, v1, v2, v3, v4, v5] ∧ wy.heap[h + 1]? = some (.cells #[v0, v1, v2, v3, v4, v5] 59 (0, 0))
theorem Two.now {w : World} {h : Nat} {o : Obj} {x : World} (hx : Two w h o x) (v0 v1 v2 v3 v4 v5 : Value) :
    Now w h (.agg #[v0, v1, v2, v3, v4, v5]) ((((((x.setCell ⟨h + 1, 0, none⟩ v0).setCell ⟨h + 1, 1, none⟩ v1).setCell ⟨h + 1, 2, none⟩ v2).setCell ⟨h + 1, 3, none⟩ v3).setCell ⟨h + 1, 4, none⟩ v4).setCell ⟨h + 1, 5, none⟩ v5) := by
  obtain ⟨h1, h2, cs, hs, h4⟩ := hx
  exact ⟨below_set (below_set (below_set (below_set (below_set (below_set h1 (by omega) _ _) (by omega) _ _) (by omega) _ _) (by omega) _ _) (by omega) _ _) (by omega) _ _, v0, v1, v2, v3, v4, v5, rfl, six_set h4 hs _ _ _ _ _ _⟩
theorem Now.below {w : World} {h : Nat} {v : Value} {x y : World} (hx : Now w h v x) (hb : Below x.heap.size x y) : Now w h v y := by
  obtain ⟨h1, v0, v1, v2, v3, v4, v5, e, h4⟩ := hx
  have := hd_lt h4
  exact ⟨h1.trans (hb.mono (by omega)), v0, v1, v2, v3, v4, v5, e, (hb.block _ this).trans h4⟩
theorem Now.drew {w : World} {h : Nat} {v : Value} {x : World} (hx : Now w h v x) : Now w h v x.drew := ⟨hx.1.drew, hx.2⟩

set_option maxHeartbeats 1000000 in
set_option maxRecDepth 100000 in
theorem rsay_any (op : Int) (body : ByteArray) (w : World) (hb : body.size ≤ 281474976710656) :
    Calls Tryd.prog 64 #[.int .i64 op, .string body] w fun e w' => e = .returned (.string (bs (sayL op (bl body)))) ∧ Below w.heap.size w w' := by
  have hP : ∀ wx, Calls Tryd.prog 16 #[.agg #[.bool true, .bool false, .int .i64 op, .string ⟨#[]⟩, .string body]] wx fun e w' =>
      e = .returned (.tuple #[.string (bs (sayL op (bl body))), .int .i64 (printL true false op [] (bl body)).2]) ∧ Below wx.heap.size wx w' := fun wx => rprint_any true false op ⟨#[]⟩ body wx hb (by decide)
  generalize bs (sayL op (bl body)) = S at *
  generalize (printL true false op [] (bl body)).2 = n at *
  go_enter Tryd.func64, Tryd.ntmps64
  go_wp2_with (first | (go_at_call 16; refine (hP _).mono ?_; rintro e w1 ⟨rfl, hb1⟩))
  go_ret
  exact ⟨rfl, hb1⟩

set_option maxHeartbeats 600000 in
set_option maxRecDepth 100000 in
theorem rclosing_any (p : RP) (code : Int) (w : World) (hc : code = 1005 ∨ isCodeB code = true) :
    Calls Tryd.prog 60 #[rpV p, .int .i64 code] w fun e w' => e = .returned (rpRet (closingL p code)) ∧ Below w.heap.size w w' := by
  obtain ⟨most, rest, msg, op, cd, ec⟩ := p
  show Calls _ _ #[.agg #[.int .i64 most, .string (bs rest), .string (bs msg), .int .i64 op, .int .i64 cd, .int .i64 ec], _] _ _
  generalize bs rest = RS
  generalize bs msg = MS
  obtain ⟨X, hX⟩ : ∃ X, bs (closingL ⟨most, rest, msg, op, cd, ec⟩ code).2 = X := ⟨_, rfl⟩
  have hfin := Lib.hid (show rpRet (closingL ⟨most, rest, msg, op, cd, ec⟩ code) = .tuple #[.agg #[.int .i64 most, .string ⟨#[]⟩, .string ⟨#[]⟩, .int .i64 op, .int .i64 code, .int .i64 ec], .string X] by rw [← hX]; rfl)
  have hS : ∀ b, ∀ wx, b.size ≤ 2 → bl b = (if code = 1005 then [] else (closeL code []).1) → Calls Tryd.prog 64 #[.int .i64 8, .string b] wx fun e w' => e = .returned (.string X) ∧ Below wx.heap.size wx w' := fun b wx h1 h2 => by
    have := rsay_any 8 b wx (by omega)
    rw [h2] at this
    rw [← hX]; exact this
  clear hX
  go_enter Tryd.func60, Tryd.ntmps60
  go_upto_if 11 with fail
  obtain ⟨W, hW⟩ : ∃ W, (w.alloc (.cells #[.int .i64 most, .string ⟨#[]⟩, .string ⟨#[]⟩, .int .i64 op, .int .i64 code, .int .i64 ec] 59)).alloc (.cells #[.int .i64 0, .string ⟨#[]⟩, .string ⟨#[]⟩, .int .i64 0, .int .i64 0, .int .i64 0] 59) = W := ⟨_, rfl⟩
  have hWb : Below w.heap.size w W := by rw [← hW]; exact ((Below.refl _ _).alloc (Nat.le_refl _) _).alloc (by simp) _
  have hW0 : W.heap[w.heap.size]? = some (.cells #[.int .i64 most, .string ⟨#[]⟩, .string ⟨#[]⟩, .int .i64 op, .int .i64 code, .int .i64 ec] 59 (0, 0)) := by
    rw [← hW, Below.heap_alloc _ _ _ (by simp)]; exact heap_alloc_new _ _
  have hW1 : W.heap[w.heap.size + 1]? = some (.cells #[.int .i64 0, .string ⟨#[]⟩, .string ⟨#[]⟩, .int .i64 0, .int .i64 0, .int .i64 0] 59 (0, 0)) := by
    have := heap_alloc_new (w.alloc (.cells #[.int .i64 most, .string ⟨#[]⟩, .string ⟨#[]⟩, .int .i64 op, .int .i64 code, .int .i64 ec] 59)) (.cells #[.int .i64 0, .string ⟨#[]⟩, .string ⟨#[]⟩, .int .i64 0, .int .i64 0, .int .i64 0] 59)
    rw [show (w.alloc (.cells #[.int .i64 most, .string ⟨#[]⟩, .string ⟨#[]⟩, .int .i64 op, .int .i64 code, .int .i64 ec] 59)).heap.size = w.heap.size + 1 by simp] at this
    rw [← hW]; exact this
  rw [hW]
  obtain ⟨PH, hPH⟩ : ∃ PH, PH = Two w w.heap.size (.cells #[.int .i64 most, .string ⟨#[]⟩, .string ⟨#[]⟩, .int .i64 op, .int .i64 code, .int .i64 ec] 59 (0, 0)) := ⟨_, rfl⟩
  have hP0 : PH W := by rw [hPH]; exact ⟨hWb, hW0, _, rfl, hW1⟩
  have hPd : ∀ x, PH x → PH x.drew := by intro x h; rw [hPH] at h ⊢; exact h.drew
  have hPb : ∀ x y, PH x → Below x.heap.size x y → PH y := by intro x y h hb; rw [hPH] at h ⊢; exact h.below hb
  have hPs : ∀ x j Y, PH x → PH (x.setCell ⟨w.heap.size + 1, j, none⟩ Y) := by intro x j Y h; rw [hPH] at h ⊢; exact h.set j Y
  have hPf : ∀ x, PH x → ∀ j, x.frozen? ⟨w.heap.size + 1, j, none⟩ = false := by intro x h j; rw [hPH] at h; exact h.frozen j
  have hPt : ∀ x, PH x → ∃ x0 x1 x2 x3 x4 x5, x.cell? ⟨w.heap.size + 1, 0, none⟩ = some x0 ∧ x.cell? ⟨w.heap.size + 1, 1, none⟩ = some x1 ∧ x.cell? ⟨w.heap.size + 1, 2, none⟩ = some x2 ∧ x.cell? ⟨w.heap.size + 1, 3, none⟩ = some x3 ∧ x.cell? ⟨w.heap.size + 1, 4, none⟩ = some x4 ∧ x.cell? ⟨w.heap.size + 1, 5, none⟩ = some x5 := by
    intro x h; rw [hPH] at h; exact h.there
  have hKeep : ∀ x, PH x → x.cell? ⟨w.heap.size, 0, none⟩ = some (.int .i64 most) ∧ x.cell? ⟨w.heap.size, 1, none⟩ = some (.string ⟨#[]⟩) ∧ x.cell? ⟨w.heap.size, 2, none⟩ = some (.string ⟨#[]⟩) ∧ x.cell? ⟨w.heap.size, 3, none⟩ = some (.int .i64 op) ∧ x.cell? ⟨w.heap.size, 4, none⟩ = some (.int .i64 code) ∧ x.cell? ⟨w.heap.size, 5, none⟩ = some (.int .i64 ec) ∧ PH x := by
    intro x h
    have h' := h
    rw [hPH] at h'
    exact ⟨h'.cell 0, h'.cell 1, h'.cell 2, h'.cell 3, h'.cell 4, h'.cell 5, h⟩
  have HPH := Lib.hid hPH
  obtain ⟨c0, c1, c2, c3, c4, c5, -⟩ := hKeep W hP0
  obtain ⟨y0, y1, y2, y3, y4, y5, d0, d1, d2, d3, d4, d5⟩ := hPt W hP0
  have df := hPf W hP0
  have HKeep := Lib.hid hKeep
  have HPd := Lib.hid hPd
  have HPb := Lib.hid hPb
  have HPs := Lib.hid hPs
  have HPf := Lib.hid hPf
  have HPt := Lib.hid hPt
  have HP0 := Lib.hid hP0
  clear hPH hW hW0 hW1 hWb hKeep hPd hPb hPs hPf hPt hP0
  by_cases h5 : code = 1005
  · have e5 : (code == 1005) = true := by simpa using h5
    have hS1 := fun wx => hS ⟨#[]⟩ wx (by decide) (by rw [if_pos h5]; rfl)
    clear h5 hc hS
    go_upto_region 4 with fail
    go_region_held3 (fun x => x.cell? ⟨w.heap.size, 0, none⟩ = some (.int .i64 most) ∧ x.cell? ⟨w.heap.size, 1, none⟩ = some (.string ⟨#[]⟩) ∧ x.cell? ⟨w.heap.size, 2, none⟩ = some (.string ⟨#[]⟩) ∧ x.cell? ⟨w.heap.size, 3, none⟩ = some (.int .i64 op) ∧ x.cell? ⟨w.heap.size, 4, none⟩ = some (.int .i64 code) ∧ x.cell? ⟨w.heap.size, 5, none⟩ = some (.int .i64 ec) ∧ PH x)
      (first | (refine HKeep.out _ ?_; with_reducible (repeat (first | assumption | exact HP0.out | refine HPs.out _ _ _ ?_ | refine HPd.out _ ?_))))
      (first | (go_at_call 64; refine (hS1 _).mono ?_; rintro e w5 ⟨rfl, hb5⟩; have hx : PH w5 := (by refine HPb.out _ _ ?_ hb5; with_reducible (repeat (first | assumption | exact HP0.out | refine HPs.out _ _ _ ?_ | refine HPd.out _ ?_))); obtain ⟨z0, z1, z2, z3, z4, z5, g0, g1, g2, g3, g4, g5⟩ := HPt.out _ hx; have gf := HPf.out _ hx))
    all_goals go_wp2_with fail
    rw [HPH.out] at hx
    obtain ⟨hB9, v0, v1, v2, v3, v4, v5, e9, hb9⟩ := hx.now (.int .i64 most) (.string ⟨#[]⟩) (.string ⟨#[]⟩) (.int .i64 op) (.int .i64 code) (.int .i64 ec)
    obtain ⟨rfl, rfl, rfl, rfl, rfl, rfl⟩ : .int .i64 most = v0 ∧ Value.string ⟨#[]⟩ = v1 ∧ Value.string ⟨#[]⟩ = v2 ∧ .int .i64 op = v3 ∧ .int .i64 code = v4 ∧ .int .i64 ec = v5 := by simpa using e9
    obtain ⟨W9, hW9⟩ : ∃ W9, ((((((w5.setCell ⟨w.heap.size + 1, 0, none⟩ (.int .i64 most)).setCell ⟨w.heap.size + 1, 1, none⟩ (.string ⟨#[]⟩)).setCell ⟨w.heap.size + 1, 2, none⟩ (.string ⟨#[]⟩)).setCell ⟨w.heap.size + 1, 3, none⟩ (.int .i64 op)).setCell ⟨w.heap.size + 1, 4, none⟩ (.int .i64 code)).setCell ⟨w.heap.size + 1, 5, none⟩ (.int .i64 ec)) = W9 := ⟨_, rfl⟩
    rw [hW9] at hB9 hb9 ⊢
    have r0 := hd_cell hb9 0
    have r1 := hd_cell hb9 1
    have r2 := hd_cell hb9 2
    have r3 := hd_cell hb9 3
    have r4 := hd_cell hb9 4
    have r5 := hd_cell hb9 5
    simp only [List.getElem?_toArray, List.getElem?_cons_zero, List.getElem?_cons_succ] at r0 r1 r2 r3 r4 r5
    exact bodyPost_ret (v := .tuple #[.agg #[.int .i64 most, .string ⟨#[]⟩, .string ⟨#[]⟩, .int .i64 op, .int .i64 code, .int .i64 ec], .string X]) (by simp [results, Tryd.results60, go_sem, r0, r1, r2, r3, r4, r5]) rfl ⟨by rw [hfin.out], hB9⟩
  · have e5 : (code == 1005) = false := by simpa using h5
    have hcc : isCodeB code = true := by rcases hc with h | h; exact absurd h h5; exact h
    have hr := isCode_range hcc
    obtain ⟨c, rfl⟩ : ∃ c : Nat, code = c := ⟨code.toNat, by omega⟩
    have hH : ∀ wx, Calls Tryd.prog 43 #[.int .i64 (c : Int), .int .i64 2] wx fun e w' => e = .returned (.string (bs (highL c 2))) ∧ Below wx.heap.size wx w' := fun wx => high_any c 2 wx (by omega) (by omega) (by omega)
    have hs2 : (bs (highL c 2)).size = 2 := by rw [bs_size]; exact highTo_length c 2 0
    have hcl : (closeL (c : Int) []).1 = highL c 2 := by
      unfold closeL
      rw [if_neg (by omega), if_neg (by rw [hcc]; simp), if_neg (by simp; decide)]
      simp
    have hS1 := fun wx => hS (bs (highL c 2)) wx (by omega) (by rw [if_neg h5, hcl]; rfl)
    generalize bs (highL c 2) = HB at *
    clear h5 hc hS hcl hcc
    go_upto_region 5 with fail
    go_region_held3 (fun x => x.cell? ⟨w.heap.size, 0, none⟩ = some (.int .i64 most) ∧ x.cell? ⟨w.heap.size, 1, none⟩ = some (.string ⟨#[]⟩) ∧ x.cell? ⟨w.heap.size, 2, none⟩ = some (.string ⟨#[]⟩) ∧ x.cell? ⟨w.heap.size, 3, none⟩ = some (.int .i64 op) ∧ x.cell? ⟨w.heap.size, 4, none⟩ = some (.int .i64 c) ∧ x.cell? ⟨w.heap.size, 5, none⟩ = some (.int .i64 ec) ∧ PH x)
      (first | (refine HKeep.out _ ?_; with_reducible (repeat (first | assumption | exact HP0.out | refine HPs.out _ _ _ ?_ | refine HPd.out _ ?_))))
      (first | (go_at_call 43; refine (hH _).mono ?_; rintro e w6 ⟨rfl, hb6⟩; have hx6 : PH w6 := (by refine HPb.out _ _ ?_ hb6; with_reducible (repeat (first | assumption | exact HP0.out | refine HPs.out _ _ _ ?_ | refine HPd.out _ ?_)))) | (go_at_call 64; refine (hS1 _).mono ?_; rintro e w5 ⟨rfl, hb5⟩; have hx : PH w5 := (by refine HPb.out _ _ ?_ hb5; with_reducible (repeat (first | assumption | exact HP0.out | refine HPs.out _ _ _ ?_ | refine HPd.out _ ?_))); obtain ⟨z0, z1, z2, z3, z4, z5, g0, g1, g2, g3, g4, g5⟩ := HPt.out _ hx; have gf := HPf.out _ hx))
    all_goals go_wp2_with fail
    rw [HPH.out] at hx
    obtain ⟨hB9, v0, v1, v2, v3, v4, v5, e9, hb9⟩ := hx.now (.int .i64 most) (.string ⟨#[]⟩) (.string ⟨#[]⟩) (.int .i64 op) (.int .i64 c) (.int .i64 ec)
    obtain ⟨rfl, rfl, rfl, rfl, rfl, rfl⟩ : .int .i64 most = v0 ∧ Value.string ⟨#[]⟩ = v1 ∧ Value.string ⟨#[]⟩ = v2 ∧ .int .i64 op = v3 ∧ .int .i64 c = v4 ∧ .int .i64 ec = v5 := by simpa using e9
    obtain ⟨W9, hW9⟩ : ∃ W9, ((((((w5.setCell ⟨w.heap.size + 1, 0, none⟩ (.int .i64 most)).setCell ⟨w.heap.size + 1, 1, none⟩ (.string ⟨#[]⟩)).setCell ⟨w.heap.size + 1, 2, none⟩ (.string ⟨#[]⟩)).setCell ⟨w.heap.size + 1, 3, none⟩ (.int .i64 op)).setCell ⟨w.heap.size + 1, 4, none⟩ (.int .i64 c)).setCell ⟨w.heap.size + 1, 5, none⟩ (.int .i64 ec)) = W9 := ⟨_, rfl⟩
    rw [hW9] at hB9 hb9 ⊢
    have r0 := hd_cell hb9 0
    have r1 := hd_cell hb9 1
    have r2 := hd_cell hb9 2
    have r3 := hd_cell hb9 3
    have r4 := hd_cell hb9 4
    have r5 := hd_cell hb9 5
    simp only [List.getElem?_toArray, List.getElem?_cons_zero, List.getElem?_cons_succ] at r0 r1 r2 r3 r4 r5
    exact bodyPost_ret (v := .tuple #[.agg #[.int .i64 most, .string ⟨#[]⟩, .string ⟨#[]⟩, .int .i64 op, .int .i64 c, .int .i64 ec], .string X]) (by simp [results, Tryd.results60, go_sem, r0, r1, r2, r3, r4, r5]) rfl ⟨by rw [hfin.out], hB9⟩
end Go.Proofs.YtmgfpjfamdbhbaaDoor
