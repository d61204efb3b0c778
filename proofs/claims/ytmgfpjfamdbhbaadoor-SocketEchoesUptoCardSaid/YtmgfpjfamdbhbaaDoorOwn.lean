/- A slice of bytes that a call has made, and one byte appended to it; the slice is shorter than 2^47 bytes. -/
import Derived.Test.YtmgfpjfamdbhbaaDoorSmall
namespace Go.Proofs.YtmgfpjfamdbhbaaDoor
open Go.RowKit

def cellB (x : UInt8) : Value := .int .u8 x.toNat
/-- the slice at block g (from base on) of these bytes is the call's own -/
def OwnB (w : World) (base g cap : Nat) (l : List UInt8) : Prop :=
  w.ownsRow base 5 1 (.slice (some ⟨g, 0, none⟩) l.length cap) l.length (l.map cellB)

theorem OwnB.row {w : World} {base g cap : Nat} {l : List UInt8} (h : OwnB w base g cap l) : RowB w g l := by
  intro j hj
  refine ⟨?_, World.ownsRow.frozenAt h j⟩
  rw [World.ownsRow.cellAt h j (by omega), List.getElem?_map, List.getElem?_eq_getElem hj]; rfl
theorem OwnB.back {w : World} {base g cap : Nat} {l : List UInt8} (h : OwnB w base g cap l) :
    (convert 76 9 (.slice (some ⟨g, 0, none⟩) l.length cap)).run Tryd.prog w = .ok (.string (bs l)) w := h.row.back cap
theorem OwnB.one (w : World) (base : Nat) (x : UInt8) (hb : base ≤ w.heap.size) : OwnB (w.alloc (.cells #[.int .u8 x.toNat] 5)) base w.heap.size 1 [x] :=
  World.ownsRow_lit w #[.int .u8 x.toNat] 1 hb (by unfold maxLen; omega) rfl
theorem OwnB.drew {w : World} {base g cap : Nat} {l : List UInt8} (h : OwnB w base g cap l) : OwnB w.drew base g cap l := h

theorem OwnB.lt {w : World} {base g cap : Nat} {l : List UInt8} (h : OwnB w base g cap l) : base ≤ g ∧ g < w.heap.size := World.ownsRow.lt h _ rfl
theorem OwnB.kept {w w' : World} {base g cap : Nat} {l : List UInt8} (h : OwnB w base g cap l) (hb : Below w.heap.size w w') : OwnB w' base g cap l := by
  have hlt := h.lt.2
  obtain ⟨h1, h2⟩ := h
  refine ⟨h1, ?_⟩
  rcases h2 with h2 | ⟨g', cap', cur, hv, hg, hh, r⟩
  · exact Or.inl h2
  · obtain rfl : g = g' := by simp only [Value.slice.injEq, Option.some.injEq, Addr.mk.injEq] at hv; exact hv.1.1
    exact Or.inr ⟨g, cap', cur, hv, hg, by rw [hb.block g hlt]; exact hh, r⟩
theorem OwnB.alloc {w : World} {base g cap : Nat} {l : List UInt8} (h : OwnB w base g cap l) (o : Obj) : OwnB (w.alloc o) base g cap l := World.ownsRow.alloc h o

section
variable {ops : Array Oper} {rest : List Oper} {o : Oper} {a : Act} {Q : Exit → Act → World → Prop}
theorem wpList_append_byte (W : World) (hgd : o.guard = none) (s x : Operand)
    (ho : o.op = .call { callee := .builtin .append, args := #[s, x], argTypes := #[76, 76] }) (base g cap n : Nat) (l : List UInt8)
    (hs : a.eval s = .slice (some ⟨g, 0, none⟩) n cap) (hown : OwnB W base g cap l) (hn : n = l.length) (u : Int) (y : UInt8) (b : Nat) (hx : a.eval x = .slice (some ⟨b, 0, none⟩) 1 1) (hb : b = W.heap.size)
    (hu : u = y.toNat) (hlen : l.length + 1 ≤ 140737488355328) (hbase : base ≤ W.heap.size)
    (h : ∀ g' cap' w', OwnB w' base g' cap' (l ++ [y]) → Below base W w' → wpList Tryd.prog ops Q rest (a.put o.dst (.slice (some ⟨g', 0, none⟩) (l.length + 1) cap')) w') :
    wpList Tryd.prog ops Q (o :: rest) a (W.alloc (.cells #[.int .u8 u] 5)) := by
  subst hu hn hb
  obtain ⟨i0, hi, hz0, hz1, hz2⟩ := info_parts info5
  refine wpList_append_own _ hgd s x 76 ho base 5 i0 (.int .u8 0) 1 1 Tryd.underlying76 hi hz0 hz1 hz2 rfl (by decide) _ l.length (l.map cellB) hs (World.ownsRow.alloc hown _)
    ⟨W.heap.size, 0, none⟩ 1 1 [cellB y] hx rfl ?_ ?_ (by unfold maxLen; omega) (by omega) (by simp; omega) ?_
  · intro j u hj
    match j, hj with
    | 0, hj => simp at hj; subst hj; simp [Addr.add, cellB]
  · intro u hu; simp at hu; subst hu; rfl
  · intro v' w' hown' hg _
    have hl : (l ++ [y]).length = l.length + 1 := by simp
    have hm : l.map cellB ++ [cellB y] = (l ++ [y]).map cellB := by simp
    rw [hm] at hown'
    rcases hown'.2 with ⟨_, h0⟩ | ⟨g', cap', cur, hv, hrest⟩
    · omega
    · subst hv
      refine h g' cap' w' (by unfold OwnB; rw [hl]; exact hown') ?_
      refine ((Below.refl base W).alloc hbase _).grown hg (by simp; omega) ?_
      intro k hk
      simp only [Value.ownBlock, Option.some.injEq] at hk
      subst hk
      exact (World.ownsRow.lt hown _ rfl).1
end
end Go.Proofs.YtmgfpjfamdbhbaaDoor
