/- A slice of ints that came in, opened; its length is bounded by its bulk. -/
import Derived.Test.YtmgfpjfamdbhbaaDoorRow
import Derived.Test.YtmgfpjfamdbhbaaDoorLCuts
import Derived.Carry
namespace Go.Proofs.YtmgfpjfamdbhbaaDoor
open Go.ChangeShapes Go.WideShapes Go.ChangeAt Go.RowKit Go.Deep

theorem laidOut : laidOutB Tryd.prog = true := by kernel_rfl
theorem bulk_one {H : Type} (d : DataW H) : 1 ≤ Rows.uptoBulk d := by
  cases d with
  | lit l => cases l <;> simp [Rows.uptoBulk]
  | _ => simp [Rows.uptoBulk]
theorem bulk_len {H : Type} (l : List (DataW H)) : l.length ≤ Rows.uptoBulkAll l := by
  induction l with
  | nil => simp [Rows.uptoBulkAll]
  | cons d r ih => have := bulk_one d; simp only [Rows.uptoBulkAll, List.length_cons]; omega
theorem cells3 : Tryd.prog.cellsOf 3 = 1 := by kernel_rfl
theorem block_of_row {a : Addr} {n : Nat} {W : World} {ps : List MemPlace} (hlt : ∀ x ∈ MemPlace.row a n ++ ps, x.block < W.heap.size) (hn : 0 < n) : a.block < W.heap.size := by
  obtain ⟨b, off, spot⟩ := a
  exact hlt (.cell b off) (List.mem_append_left _ (MemPlace.mem_row.2 ⟨0, hn, by simp⟩))
set_option maxRecDepth 100000 in
theorem ints_at {H : Type} {enc : TypeId × Value → H} {W : World} {base : Nat} {r : Reach} {v : Value} {d : DataW H} {ps : List MemPlace} (hv : Value.okWide Tryd.prog W r base 45 v)
    (h : DataW.Trod enc Tryd.prog W 0 (fun _ => true) true 45 v d ps) (hlt : ∀ x ∈ ps, x.block < W.heap.size) : ∃ zs : List Int, IntsAt W v zs ∧ zs.length ≤ Rows.uptoBulk d := by
  obtain ⟨ao, len, cap, rfl⟩ := okWide_slice Tryd.underlying45 hv
  obtain ⟨fuel, hf⟩ := h
  rcases open_ints Tryd.underlying45 Tryd.underlying3 cells3 hf with ⟨hcs, hx⟩ | ⟨a, len', cap', zs, hcs, _, hl, _, hz, hx, hcell, _⟩
  · simp [Value.cells] at hcs
    obtain ⟨rfl, rfl, rfl⟩ := hcs
    exact ⟨[], .inl ⟨rfl, rfl⟩, by simp⟩
  · simp [Value.cells] at hcs
    obtain ⟨rfl, rfl, rfl⟩ := hcs
    simp only [Prod.mk.injEq] at hx
    obtain ⟨rfl, rfl⟩ := hx
    simp only [if_true] at hz
    have htl : (zs.take len).length = len := by rw [List.length_take]; omega
    refine ⟨zs.take len, .inr ⟨a, cap, by rw [htl], fun h0 => ?_, fun i hi => ?_⟩, ?_⟩
    · refine block_of_row (n := zs.length) (ps := []) (by simpa using hlt) (by omega)
    · rw [hcell i (by omega)]
      rw [htl] at hi
      rw [List.getElem_take, List.getD_eq_getElem?_getD, List.getElem?_eq_getElem (by omega)]; rfl
    · have := bulk_len (lits (H := H) .i64 (zs.take len))
      simp only [Rows.uptoBulk]
      have e : (lits (H := H) .i64 (zs.take len)).length = (zs.take len).length := by simp [lits]
      omega
end Go.Proofs.YtmgfpjfamdbhbaaDoor
