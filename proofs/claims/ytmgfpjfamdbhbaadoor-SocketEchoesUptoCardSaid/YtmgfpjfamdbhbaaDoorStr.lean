/- A string appended to a slice of bytes that the program itself has made, with what of memory stays as it was; lengths below 2^47. -/
import Derived.Test.YtmgfpjfamdbhbaaDoorClose
import Derived.Lib.AppendStr
import Derived.Deep.RegionLaw
namespace Go.Proofs.YtmgfpjfamdbhbaaDoor
open Go.RowKit

/-- of the blocks that were there only those of D may have turned -/
structure Touch (w w' : World) (D : Nat → Prop) : Prop where
  os : w'.os = w.os
  tape : w'.tape = w.tape
  output : w'.output = w.output
  size : w.heap.size ≤ w'.heap.size
  block : ∀ k, k < w.heap.size → ¬ D k → w'.heap[k]? = w.heap[k]?

theorem Touch.refl (w : World) (D : Nat → Prop) : Touch w w D := ⟨rfl, rfl, rfl, Nat.le_refl _, fun _ _ _ => rfl⟩
theorem Touch.trans {a b c : World} {D : Nat → Prop} (h : Touch a b D) (k : Touch b c D) : Touch a c D :=
  ⟨k.os.trans h.os, k.tape.trans h.tape, k.output.trans h.output, Nat.le_trans h.size k.size,
    fun i hi hd => (k.block i (Nat.lt_of_lt_of_le hi h.size) hd).trans (h.block i hi hd)⟩
/-- what may turn may be said more widely, of the blocks that were there -/
theorem Touch.widen {a b : World} {D E : Nat → Prop} (h : Touch a b D) (hd : ∀ k, k < a.heap.size → D k → E k) : Touch a b E :=
  ⟨h.os, h.tape, h.output, h.size, fun i hi he => h.block i hi (fun x => he (hd i hi x))⟩
theorem Touch.drew {a b : World} {D : Nat → Prop} (h : Touch a b D) : Touch a b.drew D := ⟨h.os, h.tape, h.output, h.size, h.block⟩
theorem Touch.alloc {a b : World} {D : Nat → Prop} (h : Touch a b D) (o : Obj) : Touch a (b.alloc o) D :=
  h.trans ⟨rfl, rfl, rfl, by simp, fun k hk _ => Below.heap_alloc _ _ _ hk⟩
theorem Touch.setCell {a b : World} {D : Nat → Prop} (h : Touch a b D) {p : Addr} (hp : D p.block ∨ a.heap.size ≤ p.block) (u : Value) : Touch a (b.setCell p u) D :=
  ⟨h.os, h.tape, h.output, by simpa using h.size, fun k hk hd => (Below.heap_setCell _ _ _ _ (by rintro rfl; rcases hp with x | x; exact hd x; omega)).trans (h.block k hk hd)⟩
theorem Touch.below {a b c : World} {D : Nat → Prop} (h : Touch a b D) {B : Nat} (hb : Below B b c) (hB : b.heap.size ≤ B) : Touch a c D :=
  ⟨hb.os.trans h.os, hb.tape.trans h.tape, hb.output.trans h.output, Nat.le_trans h.size hb.size,
    fun i hi hd => (hb.block i (Nat.lt_of_lt_of_le hi (Nat.le_trans h.size hB))).trans (h.block i hi hd)⟩
theorem Touch.toBelow {a b : World} {D : Nat → Prop} (h : Touch a b D) {B : Nat} (hB : B ≤ a.heap.size) (hd : ∀ k, D k → B ≤ k) : Below B a b :=
  ⟨h.os, h.tape, h.output, h.size, fun k hk => h.block k (by omega) (fun x => by have := hd k x; omega)⟩

/-- the value v is a slice of these bytes, of a block of its own -/
def RowV (w : World) (base : Nat) (v : Value) (l : List UInt8) : Prop := w.ownsRow base 5 1 v l.length (l.map cellB)

theorem strCells_eq (s : ByteArray) : Lib.strCells s = (bl s).map cellB := rfl
theorem RowV.nil (w : World) (base : Nat) : RowV w base (.slice none 0 0) [] := World.ownsRow_nil _ _ _ _
theorem RowV.keep {w w' : World} {base : Nat} {v : Value} {l : List UInt8} (h : RowV w base v l) (hk : ∀ g, v.ownBlock = some g → w'.heap[g]? = w.heap[g]?) : RowV w' base v l := by
  obtain ⟨h1, h2⟩ := h
  refine ⟨h1, ?_⟩
  rcases h2 with h2 | ⟨g, cap, cur, hv, hg, hh, r⟩
  · exact .inl h2
  · exact .inr ⟨g, cap, cur, hv, hg, by rw [hk g (by rw [hv]; rfl)]; exact hh, r⟩
theorem RowV.lt {w : World} {base : Nat} {v : Value} {l : List UInt8} (h : RowV w base v l) {g : Nat} (hg : v.ownBlock = some g) : base ≤ g ∧ g < w.heap.size := World.ownsRow.lt h g hg
theorem RowV.shape {w : World} {base : Nat} {v : Value} {l : List UInt8} (h : RowV w base v l) : ∃ ao cap, v = .slice ao l.length cap := by
  rcases h.2 with ⟨hv, h0⟩ | ⟨g, cap, cur, hv, _⟩
  · exact ⟨none, 0, by rw [hv, h0]⟩
  · exact ⟨_, _, hv⟩

/-- the law -/
theorem run_append_str (w : World) (base : Nat) (ty : TypeId) (v : Value) (l : List UInt8) (hown : RowV w base v l) (s : ByteArray) (hlen : l.length + s.size ≤ 140737488355328) (hbase : base ≤ w.heap.size) :
    ∃ v' w', (Builtin.append_ #[76, 9] ty #[v, .string s]).run Tryd.prog w = .ok v' w' ∧ RowV w' base v' (l ++ bl s) ∧ w.grownBy w' v.ownBlock ∧
      (v'.ownBlock = v.ownBlock ∨ ∀ g, v'.ownBlock = some g → w.heap.size ≤ g) := by
  obtain ⟨i0, hi, hz0, hz1, hz2⟩ := info_parts info5
  have hm : l.length + s.size ≤ maxLen := by unfold maxLen; omega
  obtain ⟨v', w', hr, h2, h3, _⟩ := Lib.run_append_own_string (P := Tryd.prog) w base 76 9 ty 5 i0 Tryd.underlying76 Tryd.underlying9 hi hz0 hz1 hz2 v l.length (l.map cellB) hown s hm hlen hbase
  have hrow : RowV w' base v' (l ++ bl s) := by
    unfold RowV
    rw [List.map_append, List.length_append, bl_length]
    rw [strCells_eq] at h2
    exact h2
  refine ⟨v', w', hr, hrow, h3, ?_⟩
  rcases hown.2 with ⟨rfl, h0⟩ | ⟨g, cap, cur, rfl, hbg, hg, hnc, hcm, hcs, htake⟩
  · obtain ⟨v2, w2, hr2, k2, _, _⟩ := Lib.run_append_own_string (P := Tryd.prog) w w.heap.size 76 9 ty 5 i0 Tryd.underlying76 Tryd.underlying9 hi hz0 hz1 hz2 (.slice none 0 0) 0 [] (World.ownsRow_nil _ _ _ _) s (by unfold maxLen; omega) (by omega) (Nat.le_refl _)
    rw [hr] at hr2
    injection hr2 with e1 e2
    subst e1 e2
    exact .inr fun k hk => (World.ownsRow.lt k2 k hk).1
  · by_cases hroom : l.length + s.size ≤ cap
    · have hcs' : cur.size = cap := by simpa using hcs
      have hr2 := Lib.run_append_room_string (P := Tryd.prog) w 76 9 ty 5 i0 Tryd.underlying76 Tryd.underlying9 hi hz1 g l.length cap cur hg s hroom (by omega)
      rw [hr] at hr2
      injection hr2 with e1 e2
      subst e1
      exact .inl rfl
    · have holds : ∀ j u, (l.map cellB)[j]? = some u → w.cell? ((⟨g, 0, none⟩ : Addr).add j) = some u := World.ownsRow.cells hown (g := g) rfl
      have hr2 := Lib.run_append_grow_string (P := Tryd.prog) w 76 9 ty 5 i0 (.int .u8 0) Tryd.underlying76 Tryd.underlying9 hi hz0 ⟨g, 0, none⟩ l.length cap (l.map cellB) (by rw [hz1]; simp) holds s (by omega) (by omega) (by rw [hz2]; exact growslice_fits (by omega) (by omega))
      rw [hr] at hr2
      injection hr2 with e1 e2
      subst e1
      refine .inr fun k hk => ?_
      simp only [Value.ownBlock, Option.some.injEq] at hk
      omega

section
variable {ops : Array Oper} {rest : List Oper} {o : Oper} {a : Act} {w : World}
theorem wpList_append_str {Q : Exit → Act → World → Prop} (hgd : o.guard = none) (sl x : Operand)
    (ho : o.op = .call { callee := .builtin .append, args := #[sl, x], argTypes := #[76, 9] }) (base : Nat) (v : Value) (l : List UInt8) (hs : a.eval sl = v) (hown : RowV w base v l) (s : ByteArray) (hx : a.eval x = .string s)
    (hlen : l.length + s.size ≤ 140737488355328) (hbase : base ≤ w.heap.size)
    (h : ∀ v' w', RowV w' base v' (l ++ bl s) → w.grownBy w' v.ownBlock → (v'.ownBlock = v.ownBlock ∨ ∀ g, v'.ownBlock = some g → w.heap.size ≤ g) → wpList Tryd.prog ops Q rest (a.put o.dst v') w') :
    wpList Tryd.prog ops Q (o :: rest) a w := by
  refine wpList_plain hgd fun K hK => ?_
  obtain ⟨v', w', hr, h2, h3, h4⟩ := run_append_str w base o.type v l hown s hlen hbase
  unfold Oper.wp execOp
  simp only [ho, resolve, invoke, builtin, Sem.run_bind, Sem.run_pure, Result.andThen_ok, List.map_toArray, List.map_cons, List.map_nil, hs, hx, hr]
  exact hK _ _ (h v' w' h2 h3 h4)

theorem step_append_str {K : Act → World → Prop} {Q : Exit → Act → World → Prop} {E : Prop} (hg : o.guard = none) (sl x : Operand)
    (ho : o.op = .call { callee := .builtin .append, args := #[sl, x], argTypes := #[76, 9] }) (base : Nat) (v : Value) (l : List UInt8) (hs : a.eval sl = v) (hown : RowV w base v l) (s : ByteArray) (hx : a.eval x = .string s)
    (hlen : l.length + s.size ≤ 140737488355328) (hbase : base ≤ w.heap.size)
    (h : ∀ v' w', RowV w' base v' (l ++ bl s) → w.grownBy w' v.ownBlock → (v'.ownBlock = v.ownBlock ∨ ∀ g, v'.ownBlock = some g → w.heap.size ≤ g) → K (a.put o.dst v') w') :
    if Region.wanted o (yielded ops a.tmps) = true then Oper.wp Tryd.prog o a w K Q else E := by
  have hw : Region.wanted o (yielded ops a.tmps) = true := by simp [Region.wanted, hg]
  rw [if_pos hw]
  obtain ⟨v', w', hr, h2, h3, h4⟩ := run_append_str w base o.type v l hown s hlen hbase
  unfold Oper.wp execOp
  simp only [ho, resolve, invoke, builtin, Sem.run_bind, Sem.run_pure, Result.andThen_ok, List.map_toArray, List.map_cons, List.map_nil, hs, hx, hr]
  exact h v' w' h2 h3 h4
end
end Go.Proofs.YtmgfpjfamdbhbaaDoor
