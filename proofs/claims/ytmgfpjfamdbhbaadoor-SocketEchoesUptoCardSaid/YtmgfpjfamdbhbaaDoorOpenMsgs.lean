/- A slice of messages that came in, opened; the messages' bytes and cuts are bounded by its bulk. -/
import Derived.Test.YtmgfpjfamdbhbaaDoorOpenOps
import Derived.Test.YtmgfpjfamdbhbaaDoorLEchoes
import Derived.Deep.Strs
namespace Go.Proofs.YtmgfpjfamdbhbaaDoor
open Go.ChangeShapes Go.WideShapes Go.ChangeAt Go.RowKit Go.Deep

theorem msgsBulk_append (a b : List Msg) : msgsBulk (a ++ b) = msgsBulk a + msgsBulk b := by
  induction a with
  | nil => simp [msgsBulk]
  | cons d r ih => simp only [List.cons_append, msgsBulk, ih]; omega
theorem cells4 : Tryd.prog.cellsOf 4 = 1 := by kernel_rfl
theorem cells45 : Tryd.prog.cellsOf 45 = 1 := by kernel_rfl
theorem cells71 : Tryd.prog.cellsOf 71 = 3 := by kernel_rfl
set_option maxRecDepth 100000 in
/-- ints_at on a cell -/
theorem ints_cell {H : Type} {enc : TypeId × Value → H} {W : World} {n : Nat} {v : Value} {y : DataW H × List MemPlace}
    (hf : DataW.trod enc Tryd.prog W 0 (fun _ => true) true n 45 [v] = some y) (hlt : ∀ x ∈ y.2, x.block < W.heap.size) : ∃ zs : List Int, IntsAt W v zs ∧ zs.length ≤ Rows.uptoBulk y.1 := by
  obtain ⟨d, ps⟩ := y
  rcases open_ints Tryd.underlying45 Tryd.underlying3 cells3 hf with ⟨hcs, hx⟩ | ⟨a, len, cap, zs, hcs, _, hl, _, hz, hx, hcell, _⟩
  · simp only [List.cons.injEq, and_true] at hcs
    exact ⟨[], .inl ⟨hcs, rfl⟩, by simp⟩
  · simp only [List.cons.injEq, and_true] at hcs
    subst hcs
    simp only [Prod.mk.injEq] at hx
    obtain ⟨rfl, rfl⟩ := hx
    simp only [if_true] at hz
    have htl : (zs.take len).length = len := by rw [List.length_take]; omega
    refine ⟨zs.take len, .inr ⟨a, cap, by rw [htl], fun h0 => ?_, fun i hi => ?_⟩, ?_⟩
    · refine block_of_row (n := zs.length) (ps := []) (by simpa using hlt) (by omega)
    · rw [hcell i (by omega)]
      rw [htl] at hi
      rw [List.getElem_take, List.getD_eq_getElem?_getD, List.getElem?_eq_getElem (by omega)]; rfl
    · have := bulk_len (lits (H := H) .i64 (zs.take len))
      simp only [Rows.uptoBulk]
      have e : (lits (H := H) .i64 (zs.take len)).length = (zs.take len).length := by simp [lits]
      omega
set_option maxRecDepth 100000 in
theorem msgs_at {H : Type} {enc : TypeId × Value → H} {W : World} {base : Nat} {r : Reach} {v : Value} {d : DataW H} {ps : List MemPlace} (hv : Value.okWide Tryd.prog W r base 69 v)
    (h : DataW.Trod enc Tryd.prog W 0 (fun _ => true) true 69 v d ps) (hlt : ∀ x ∈ ps, x.block < W.heap.size) : ∃ ms : List Msg, MsgsAt W v ms ∧ msgsBulk ms ≤ Rows.uptoBulk d := by
  obtain ⟨ao, len, cap, rfl⟩ := okWide_slice Tryd.underlying69 hv
  obtain ⟨fuel, hf⟩ := h
  rcases open_slice Tryd.underlying69 hf with ⟨hcs, _⟩ | ⟨a, len', cap', m, n, D, Pl, hcs, _, hl, _, hm, hx, hi⟩
  · simp [Value.cells] at hcs
    obtain ⟨rfl, rfl, rfl⟩ := hcs
    exact ⟨[], .inl ⟨rfl, rfl⟩, by simp [msgsBulk]⟩
  · simp [Value.cells] at hcs
    obtain ⟨rfl, rfl, rfl⟩ := hcs
    simp only [if_true] at hm
    subst hm
    simp only [Prod.mk.injEq] at hx
    obtain ⟨rfl, rfl⟩ := hx
    have one : ∀ i, i < m → ∃ o : Msg, (W.cell? (a.add (i * 3)) = some (.bool o.text) ∧ W.cell? ((a.add (i * 3)).add 1) = some (.string o.body) ∧ W.cell? ((a.add (i * 3)).add 2) = some o.pv ∧ IntsAt W o.pv o.zs) ∧ o.body.size + o.zs.length + 2 ≤ Rows.uptoBulk (D i) := by
      intro i hic
      obtain ⟨cs', hc, ht⟩ := hi i hic
      rw [cells71] at hc
      have hPl : ∀ x ∈ Pl i, x.block < W.heap.size := fun x hx => hlt x (List.mem_append_right _ (List.mem_flatMap.2 ⟨i, List.mem_range.2 hic, hx⟩))
      obtain ⟨y0, y1, y2, n', hd, hcl, ht0, ht1, ht2⟩ := trod_struct3 Tryd.underlying71 ht
      rw [cells71] at hcl
      obtain ⟨c0, c1, c2, rfl⟩ : ∃ c0 c1 c2, cs' = [c0, c1, c2] := by
        match cs', hcl with
        | [c0, c1, c2], _ => exact ⟨c0, c1, c2, rfl⟩
      have ht0' : DataW.trod enc Tryd.prog W 0 (fun _ => true) true n' 4 [c0] = some y0 := by
        have := ht0
        simp only [cells4] at this
        exact this
      have ht1' : DataW.trod enc Tryd.prog W 0 (fun _ => true) true n' 9 [c1] = some y1 := by
        have := ht1
        simp only [cells9] at this
        exact this
      have ht2' : DataW.trod enc Tryd.prog W 0 (fun _ => true) true n' 45 [c2] = some y2 := by
        have := ht2
        simp only [cells45] at this
        exact this
      have hD : D i = .agg [y0.1, y1.1, y2.1] := (Prod.mk.injEq _ _ _ _ ▸ hd).1
      have hP : Pl i = y0.2 ++ (y1.2 ++ y2.2) := (Prod.mk.injEq _ _ _ _ ▸ hd).2
      obtain ⟨_, _, hat⟩ := World.cells?_some hc
      obtain ⟨k, e0, rfl⟩ := DataW.trod_bool Tryd.underlying4 ht0'
      obtain ⟨s, e1, rfl, _⟩ := DataW.trod_string Tryd.underlying9 ht1'
      obtain ⟨zs, hz, hzb⟩ := ints_cell ht2' (fun x hx => hPl x (by rw [hP]; exact List.mem_append_right _ (List.mem_append_right _ hx)))
      simp only [List.cons.injEq, and_true] at e0 e1
      subst e0 e1
      refine ⟨⟨k, s, c2, zs⟩, ⟨?_, ?_, ?_, hz⟩, ?_⟩
      · have := hat 0 (by omega)
        rw [add_zero'] at this
        simpa using this
      · have := hat 1 (by omega)
        simpa using this
      · have := hat 2 (by omega)
        simpa using this
      · rw [hD]; simp only [Rows.uptoBulk, Rows.uptoBulkAll, Array.length_toList]
        show s.data.size + zs.length + 2 ≤ _
        omega
    have build : ∀ k, k ≤ m → ∃ ms : List Msg, ms.length = k ∧ (∀ i (h : i < ms.length), W.cell? (a.add (i * 3)) = some (.bool ms[i].text) ∧ W.cell? ((a.add (i * 3)).add 1) = some (.string ms[i].body) ∧ W.cell? ((a.add (i * 3)).add 2) = some ms[i].pv ∧ IntsAt W ms[i].pv ms[i].zs) ∧ msgsBulk ms ≤ Rows.uptoBulkAll ((List.range k).map D) := by
      intro k
      induction k with
      | zero => intro _; exact ⟨[], rfl, fun i h => by simp at h, by simp [msgsBulk]⟩
      | succ k ih =>
        intro hk
        obtain ⟨ms, hlen, hat, hb⟩ := ih (by omega)
        obtain ⟨o, h1, h3⟩ := one k (by omega)
        refine ⟨ms ++ [o], by simp [hlen], fun i h => ?_, ?_⟩
        · by_cases e : i < ms.length
          · rw [List.getElem_append_left e]; exact hat i e
          · have : i = ms.length := by simp at h; omega
            subst this
            rw [List.getElem_append_right (Nat.le_refl _)]
            simp only [Nat.sub_self, List.getElem_cons_zero]
            rw [hlen]; exact h1
        · rw [msgsBulk_append, List.range_succ, List.map_append, bulkAll_append]
          simp only [msgsBulk, List.map_cons, List.map_nil, Rows.uptoBulkAll]
          omega
    obtain ⟨ms, hlen, hat, hb⟩ := build len hl
    refine ⟨ms, .inr ⟨a, m, by rw [hlen], fun h0 => ?_, hat⟩, ?_⟩
    · exact block_of_row (n := m * Tryd.prog.cellsOf 71) hlt (by rw [cells71]; omega)
    · simp only [Rows.uptoBulk]; omega
end Go.Proofs.YtmgfpjfamdbhbaaDoor
