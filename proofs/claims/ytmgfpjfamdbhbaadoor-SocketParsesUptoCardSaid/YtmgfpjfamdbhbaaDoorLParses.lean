/- The law SocketParses' walk. -/
import Derived.Test.YtmgfpjfamdbhbaaDoorAwake
import Derived.Test.YtmgfpjfamdbhbaaDoorParse
import Derived.BigQuiet
namespace Go.Proofs.YtmgfpjfamdbhbaaDoor
open Go.RowKit

set_option maxHeartbeats 2000000 in
set_option maxRecDepth 100000 in
theorem parses_any (s : ByteArray) (most : Int) (w : World) (hT : Tabs w) (hs : s.size ≤ 1048576) :
    Calls Tryd.prog 8 #[.string s, .int .i64 most] w fun e w' => e = .returned (.bool true) ∧ Below w.heap.size w w' := by
  have hA := awake_any w hT
  have hP := fun wx => parse_any s most wx (by omega)
  have hR := fun wx => rparse_any s most wx (by omega)
  unfold parseV FR.v at hP hR
  generalize parseL (bl s) most = R at *
  obtain ⟨⟨f0, f1, f2, f3, f4⟩, n, er⟩ := R
  simp only at hP hR
  generalize bs f3 = M at *
  generalize bs f4 = B at *
  have hL := fun wx => plain_any f0 f1 f2 M B wx
  clear hT
  go_enter Tryd.func8, Tryd.ntmps8
  go_upto_region 5 with (first | (go_at_call 14; refine hA.mono ?_; rintro e w1 ⟨rfl, hb1⟩) | (go_at_call 32; refine (hP _).mono ?_; rintro e w2 ⟨rfl, hb2⟩) | (go_at_call 33; refine (hR _).mono ?_; rintro e w3 ⟨rfl, hb3⟩))
  obtain ⟨W, hW⟩ : ∃ W, w3.alloc (.cells #[.bool f0, .bool f1, .int .i64 f2, .string M, .string B] 30) = W := ⟨_, rfl⟩
  have hk2 : w3.heap[w2.heap.size]? = some (.cells #[.bool f0, .bool f1, .int .i64 f2, .string M, .string B] 23 (0, 0)) := (hb3.block _ (by simp)).trans (heap_alloc_new _ _)
  have hkW : W.heap[w2.heap.size]? = some (.cells #[.bool f0, .bool f1, .int .i64 f2, .string M, .string B] 23 (0, 0)) := by rw [← hW, Below.heap_alloc _ _ _ (hd_lt hk2)]; exact hk2
  have hgW : W.heap[w3.heap.size]? = some (.cells #[.bool f0, .bool f1, .int .i64 f2, .string M, .string B] 30 (0, 0)) := by rw [← hW]; exact heap_alloc_new _ _
  have hs3 := hb3.size
  simp at hs3
  have hBW : Below w.heap.size w W := by
    rw [← hW]
    refine Below.alloc (((hb1.trans (hb2.mono hb1.size)).alloc ?_ _).trans (hb3.mono ?_)) ?_ _
    · exact Nat.le_trans hb1.size hb2.size
    · have h1 := hb1.size; have h2 := hb2.size; simp; omega
    · have h1 := hb1.size; have h2 := hb2.size; omega
  rw [hW]
  have hcell : ∀ x, Below W.heap.size W x → x.cell? ⟨w2.heap.size, 0, none⟩ = some (.bool f0) ∧ x.cell? ⟨w2.heap.size, 1, none⟩ = some (.bool f1) ∧ x.cell? ⟨w2.heap.size, 2, none⟩ = some (.int .i64 f2) ∧ x.cell? ⟨w2.heap.size, 3, none⟩ = some (.string M) ∧ x.cell? ⟨w2.heap.size, 4, none⟩ = some (.string B) ∧
      x.cell? ⟨w3.heap.size, 0, none⟩ = some (.bool f0) ∧ x.cell? ⟨w3.heap.size, 1, none⟩ = some (.bool f1) ∧ x.cell? ⟨w3.heap.size, 2, none⟩ = some (.int .i64 f2) ∧ x.cell? ⟨w3.heap.size, 3, none⟩ = some (.string M) ∧ x.cell? ⟨w3.heap.size, 4, none⟩ = some (.string B) ∧ Below W.heap.size W x := fun x h => by
    have a := (h.block _ (hd_lt hkW)).trans hkW
    have b := (h.block _ (hd_lt hgW)).trans hgW
    exact ⟨hd_cell a 0, hd_cell a 1, hd_cell a 2, hd_cell a 3, hd_cell a 4, hd_cell b 0, hd_cell b 1, hd_cell b 2, hd_cell b 3, hd_cell b 4, h⟩
  have HC := Lib.hid hcell
  have HBW := Lib.hid hBW
  have HR0 := Lib.hid (Below.refl W.heap.size W)
  obtain ⟨c0, c1, c2, c3, c4, d0, d1, d2, d3, d4, -⟩ := hcell W (Below.refl _ _)
  clear hW hk2 hkW hgW hBW hcell hb1 hb2 hb3
  go_region_held3 (fun x => x.cell? ⟨w2.heap.size, 0, none⟩ = some (.bool f0) ∧ x.cell? ⟨w2.heap.size, 1, none⟩ = some (.bool f1) ∧ x.cell? ⟨w2.heap.size, 2, none⟩ = some (.int .i64 f2) ∧ x.cell? ⟨w2.heap.size, 3, none⟩ = some (.string M) ∧ x.cell? ⟨w2.heap.size, 4, none⟩ = some (.string B) ∧
      x.cell? ⟨w3.heap.size, 0, none⟩ = some (.bool f0) ∧ x.cell? ⟨w3.heap.size, 1, none⟩ = some (.bool f1) ∧ x.cell? ⟨w3.heap.size, 2, none⟩ = some (.int .i64 f2) ∧ x.cell? ⟨w3.heap.size, 3, none⟩ = some (.string M) ∧ x.cell? ⟨w3.heap.size, 4, none⟩ = some (.string B) ∧ Below W.heap.size W x)
    (first | (refine HC.out _ ?_; first | assumption | exact HR0.out | exact HR0.out.drew))
    (first | (go_at_call 17; refine (hL _).mono ?_; rintro e w5 ⟨rfl, hb5⟩; have hx : Below W.heap.size W w5 := (by refine Below.trans (b := _) ?_ (Below.mono hb5 ?_); first | assumption | exact HR0.out | exact HR0.out.drew; first | exact Nat.le_refl _ | (simp; done))))
  all_goals
    go_wp2_with fail
    go_ret
    exact ⟨rfl, HBW.out.trans (hx.mono HBW.out.size)⟩
end Go.Proofs.YtmgfpjfamdbhbaaDoor
