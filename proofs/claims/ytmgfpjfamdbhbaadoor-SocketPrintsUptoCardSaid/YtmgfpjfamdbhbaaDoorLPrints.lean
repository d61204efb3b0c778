/- The law SocketPrints' walk. -/
import Derived.Test.YtmgfpjfamdbhbaaDoorAwake
import Derived.Test.YtmgfpjfamdbhbaaDoorRPrint
import Derived.Deep.RegionHeld3
namespace Go.Proofs.YtmgfpjfamdbhbaaDoor
open Go.RowKit

set_option maxHeartbeats 1000000 in
set_option maxRecDepth 100000 in
theorem prints_any (fin msk : Bool) (op : Int) (mask body : ByteArray) (w : World) (hT : Tabs w) (hb : body.size ≤ 281474976710656) (hm : mask.size ≤ 281474976710656) :
    Calls Tryd.prog 3 #[.agg #[.bool fin, .bool msk, .int .i64 op, .string mask, .string body]] w fun e w' => e = .returned (.bool true) ∧ Below w.heap.size w w' := by
  have hA := fun wx (hb : Below w.heap.size w wx) => awake_any wx (hT.below hT.size hb)
  have hP := fun wx => print_any fin msk op mask body wx hb hm
  have hR := fun wx => rprint_any fin msk op mask body wx hb hm
  have hL := fun wx => plain_any fin msk op mask body wx
  have hM := fun wx => mask_any body mask wx hb
  have hN := fun wx => rmask_any body mask wx hb
  generalize printL fin msk op (bl mask) (bl body) = PR at *
  generalize bs (maskL (bl body) (bl mask)) = MM at *
  obtain ⟨P1, P2⟩ := PR
  simp only at hP hR
  generalize bs P1 = S1 at *
  have hB0 : Below w.heap.size w (w.alloc (.cells #[.bool fin, .bool msk, .int .i64 op, .string mask, .string body] 23)) := (Below.refl _ _).alloc (Nat.le_refl _) _
  go_enter Tryd.func3, Tryd.ntmps3
  go_upto_region 3 with (first | (go_at_call 14; refine (hA _ hB0).mono ?_; rintro e w1 ⟨rfl, hb1⟩))
  have hbx : w.heap.size < (w.alloc (.cells #[.bool fin, .bool msk, .int .i64 op, .string mask, .string body] 23)).heap.size := by simp
  have hbx1 : w.heap.size < w1.heap.size := Nat.lt_of_lt_of_le hbx hb1.size
  have hh1 := (hb1.block _ hbx).trans (heap_alloc_new w (.cells #[.bool fin, .bool msk, .int .i64 op, .string mask, .string body] 23))
  have hBw1 := hB0.trans (hb1.mono (by simp))
  have hcell : ∀ wy, Below w1.heap.size w1 wy → wy.cell? ⟨w.heap.size, 0, none⟩ = some (.bool fin) ∧ wy.cell? ⟨w.heap.size, 1, none⟩ = some (.bool msk) ∧ wy.cell? ⟨w.heap.size, 2, none⟩ = some (.int .i64 op) ∧ wy.cell? ⟨w.heap.size, 3, none⟩ = some (.string mask) ∧ wy.cell? ⟨w.heap.size, 4, none⟩ = some (.string body) := fun wy h => by
    have := (h.block _ hbx1).trans hh1
    exact ⟨cell_of this 0, cell_of this 1, cell_of this 2, cell_of this 3, cell_of this 4⟩
  have hBT : ∀ x y : World, Below w1.heap.size w1 x → Below x.heap.size x y → Below w1.heap.size w1 y := fun x y h1 h2 => h1.trans (h2.mono h1.size)
  have hBr := Below.refl w1.heap.size w1
  obtain ⟨c0, c1, c2, c3, c4⟩ := hcell w1 hBr
  go_upto_region 5 with (first | (go_at_call 15; refine (hP _).mono ?_; rintro e w2 ⟨rfl, hb2⟩; have hx2 := hBT _ _ hBr hb2; obtain ⟨d0, d1, d2, d3, d4⟩ := hcell w2 hx2) | (go_at_call 17; refine (hL _).mono ?_; rintro e w3 ⟨rfl, hb3⟩; have hx3 := hBT _ _ hx2 hb3) | (go_at_call 16; refine (hR _).mono ?_; rintro e w4 ⟨rfl, hb4⟩; have hx4 := hBT _ _ hx3 hb4; obtain ⟨f0, f1, f2, f3, f4⟩ := hcell w4 hx4))
  have hKeep : ∀ wy, Below w1.heap.size w1 wy → wy.cell? ⟨w.heap.size, 3, none⟩ = some (.string mask) ∧ wy.cell? ⟨w.heap.size, 4, none⟩ = some (.string body) ∧ Below w1.heap.size w1 wy := fun wy h => ⟨(hcell wy h).2.2.2.1, (hcell wy h).2.2.2.2, h⟩
  go_region_held3 (fun wy => wy.cell? ⟨w.heap.size, 3, none⟩ = some (.string mask) ∧ wy.cell? ⟨w.heap.size, 4, none⟩ = some (.string body) ∧ Below w1.heap.size w1 wy)
    (first | (refine hKeep _ ?_; first | assumption | exact hx4.drew))
    (first | (go_at_call 18; refine (hM _).mono ?_; rintro e w5 ⟨rfl, hbm⟩; have hx : Below w1.heap.size w1 w5 := (by refine hBT _ _ ?_ hbm; first | assumption | exact hx4.drew)) | (go_at_call 19; refine (hN _).mono ?_; rintro e w5 ⟨rfl, hbm⟩; have hx : Below w1.heap.size w1 w5 := (by refine hBT _ _ ?_ hbm; first | assumption | exact hx4.drew)))
  all_goals
    go_wp2_with fail
    go_ret
    exact ⟨rfl, hBw1.trans (Below.mono (by assumption) hBw1.size)⟩
end Go.Proofs.YtmgfpjfamdbhbaaDoor
