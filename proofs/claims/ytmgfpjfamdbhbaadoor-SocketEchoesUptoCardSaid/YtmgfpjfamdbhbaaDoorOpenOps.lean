/- A slice of calls that came in, opened; the calls' bytes are bounded by its bulk. -/
import Derived.Test.YtmgfpjfamdbhbaaDoorOpenCuts
import Derived.Test.YtmgfpjfamdbhbaaDoorStepU
import Derived.Deep.Slices
import Derived.Deep.Fields
import Derived.ChangeSame
namespace Go.Proofs.YtmgfpjfamdbhbaaDoor
open Go.ChangeShapes Go.WideShapes Go.ChangeAt Go.RowKit Go.Deep

theorem bulkAll_append {H : Type} (a b : List (DataW H)) : Rows.uptoBulkAll (a ++ b) = Rows.uptoBulkAll a + Rows.uptoBulkAll b := by
  induction a with
  | nil => simp [Rows.uptoBulkAll]
  | cons d r ih => simp only [List.cons_append, Rows.uptoBulkAll, ih]; omega
theorem opsBulk_append (a b : List (Int × ByteArray)) : opsBulk (a ++ b) = opsBulk a + opsBulk b := by
  induction a with
  | nil => simp [opsBulk]
  | cons d r ih => simp only [List.cons_append, opsBulk, ih]; omega
theorem add_zero' (a : Addr) : a.add 0 = a := by simp [Addr.add]
theorem cells9 : Tryd.prog.cellsOf 9 = 1 := by kernel_rfl
theorem cells63 : Tryd.prog.cellsOf 63 = 2 := by kernel_rfl
set_option maxRecDepth 100000 in
theorem ops_at {H : Type} {enc : TypeId × Value → H} {W : World} {base : Nat} {r : Reach} {v : Value} {d : DataW H} {ps : List MemPlace} (hv : Value.okWide Tryd.prog W r base 57 v)
    (h : DataW.Trod enc Tryd.prog W 0 (fun _ => true) true 57 v d ps) (hlt : ∀ x ∈ ps, x.block < W.heap.size) : ∃ ops : List (Int × ByteArray), OpsAt W v ops ∧ opsBulk ops ≤ Rows.uptoBulk d := by
  obtain ⟨ao, len, cap, rfl⟩ := okWide_slice Tryd.underlying57 hv
  obtain ⟨fuel, hf⟩ := h
  rcases open_slice Tryd.underlying57 hf with ⟨hcs, _⟩ | ⟨a, len', cap', m, n, D, Pl, hcs, _, hl, _, hm, hx, hi⟩
  · simp [Value.cells] at hcs
    obtain ⟨rfl, rfl, rfl⟩ := hcs
    exact ⟨[], .inl ⟨rfl, rfl⟩, by simp [opsBulk]⟩
  · simp [Value.cells] at hcs
    obtain ⟨rfl, rfl, rfl⟩ := hcs
    simp only [if_true] at hm
    subst hm
    simp only [Prod.mk.injEq] at hx
    obtain ⟨rfl, rfl⟩ := hx
    have one : ∀ i, i < m → ∃ o : Int × ByteArray, W.cell? (a.add (i * 2)) = some (.int .i64 o.1) ∧ W.cell? ((a.add (i * 2)).add 1) = some (.string o.2) ∧ o.2.size + 1 ≤ Rows.uptoBulk (D i) := by
      intro i hic
      obtain ⟨cs', hc, ht⟩ := hi i hic
      rw [cells63] at hc
      obtain ⟨y0, y1, n', hd, hcl, ht0, ht1⟩ := trod_struct2 Tryd.underlying63 ht
      rw [cells63] at hcl
      obtain ⟨c0, c1, rfl⟩ : ∃ c0 c1, cs' = [c0, c1] := by
        match cs', hcl with
        | [c0, c1], _ => exact ⟨c0, c1, rfl⟩
      have ht0' : DataW.trod enc Tryd.prog W 0 (fun _ => true) true n' 3 [c0] = some y0 := by
        have := ht0
        simp only [cells3] at this
        exact this
      have ht1' : DataW.trod enc Tryd.prog W 0 (fun _ => true) true n' 9 [c1] = some y1 := by
        have := ht1
        simp only [cells9] at this
        exact this
      have hD : D i = .agg [y0.1, y1.1] := (Prod.mk.injEq _ _ _ _ ▸ hd).1
      obtain ⟨_, _, hat⟩ := World.cells?_some hc
      obtain ⟨k, e0, rfl, _⟩ := DataW.trod_int Tryd.underlying3 ht0'
      obtain ⟨s, e1, rfl, _⟩ := DataW.trod_string Tryd.underlying9 ht1'
      simp only [List.cons.injEq, and_true] at e0 e1
      subst e0 e1
      refine ⟨(k, s), ?_, ?_, ?_⟩
      · have := hat 0 (by omega)
        rw [add_zero'] at this
        simpa using this
      · have := hat 1 (by omega)
        simpa using this
      · rw [hD]; simp only [Rows.uptoBulk, Rows.uptoBulkAll, Array.length_toList]
        show s.data.size + 1 ≤ _
        omega
    have build : ∀ k, k ≤ m → ∃ ops : List (Int × ByteArray), ops.length = k ∧ (∀ i (h : i < ops.length), W.cell? (a.add (i * 2)) = some (.int .i64 ops[i].1) ∧ W.cell? ((a.add (i * 2)).add 1) = some (.string ops[i].2)) ∧ opsBulk ops ≤ Rows.uptoBulkAll ((List.range k).map D) := by
      intro k
      induction k with
      | zero => intro _; exact ⟨[], rfl, fun i h => by simp at h, by simp [opsBulk]⟩
      | succ k ih =>
        intro hk
        obtain ⟨ops, hlen, hat, hb⟩ := ih (by omega)
        obtain ⟨o, h1, h2, h3⟩ := one k (by omega)
        refine ⟨ops ++ [o], by simp [hlen], fun i h => ?_, ?_⟩
        · by_cases e : i < ops.length
          · rw [List.getElem_append_left e]; exact hat i e
          · have : i = ops.length := by simp at h; omega
            subst this
            rw [List.getElem_append_right (Nat.le_refl _)]
            simp only [Nat.sub_self, List.getElem_cons_zero]
            rw [hlen]; exact ⟨h1, h2⟩
        · rw [opsBulk_append, List.range_succ, List.map_append, bulkAll_append]
          simp only [opsBulk, List.map_cons, List.map_nil, Rows.uptoBulkAll]
          omega
    obtain ⟨ops, hlen, hat, hb⟩ := build len hl
    refine ⟨ops, .inr ⟨a, m, by rw [hlen], fun h0 => ?_, hat⟩, ?_⟩
    · exact block_of_row (n := m * Tryd.prog.cellsOf 63) hlt (by rw [cells63]; omega)
    · simp only [Rows.uptoBulk]; omega
end Go.Proofs.YtmgfpjfamdbhbaaDoor
