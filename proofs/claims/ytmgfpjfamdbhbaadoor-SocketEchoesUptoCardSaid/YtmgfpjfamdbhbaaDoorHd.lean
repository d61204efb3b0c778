/- A block behind a call: what a region that calls and then stores needs to know; no condition. -/
import Derived.Test.YtmgfpjfamdbhbaaDoorBase
import Derived.Deep.RegionHeld3
import Derived.Deep.DrawnRows
import Derived.Deep.OwnRows
namespace Go.Proofs.YtmgfpjfamdbhbaaDoor
open Go.RowKit

theorem hd_lt {w : World} {b : Nat} {o : Obj} (h : w.heap[b]? = some o) : b < w.heap.size := by
  rcases Nat.lt_or_ge b w.heap.size with h' | h'
  · exact h'
  · simp [Array.getElem?_eq_none h'] at h
theorem hd_cell {w : World} {b : Nat} {cs : Array Value} {t : TypeId} (h : w.heap[b]? = some (.cells cs t (0, 0))) (j : Nat) : w.cell? ⟨b, j, none⟩ = cs[j]? := by simp [World.cell?, h]
theorem hd_frozen {w : World} {b : Nat} {cs : Array Value} {t : TypeId} (h : w.heap[b]? = some (.cells cs t (0, 0))) (j : Nat) : w.frozen? ⟨b, j, none⟩ = false := by simp [World.frozen?, h]
theorem hd_set {w : World} {b : Nat} {cs : Array Value} {t : TypeId} (h : w.heap[b]? = some (.cells cs t (0, 0))) (j : Nat) (x : Value) :
    (w.setCell ⟨b, j, none⟩ x).heap[b]? = some (.cells (cs.setIfInBounds j x) t (0, 0)) := by
  simp [World.setCell, Array.getElem?_modify, h]

/-- as w below block B; block b holds o; block hh holds cells that are as C says -/
def Hd (w : World) (B b : Nat) (o : Obj) (hh : Nat) (t : TypeId) (C : Array Value → Prop) (wy : World) : Prop :=
  Below B w wy ∧ wy.heap[b]? = some o ∧ ∃ cs, C cs ∧ wy.heap[hh]? = some (.cells cs t (0, 0))
theorem Hd.below {w : World} {B b : Nat} {o : Obj} {hh : Nat} {t : TypeId} {C : Array Value → Prop} {x y : World} (h : Hd w B b o hh t C x) (hb : Below x.heap.size x y) (hB : B ≤ x.heap.size) : Hd w B b o hh t C y := by
  obtain ⟨h1, h2, cs, h3, h4⟩ := h
  exact ⟨h1.trans (hb.mono hB), (hb.block _ (hd_lt h2)).trans h2, cs, h3, (hb.block _ (hd_lt h4)).trans h4⟩
theorem Hd.drew {w : World} {B b : Nat} {o : Obj} {hh : Nat} {t : TypeId} {C : Array Value → Prop} {x : World} (h : Hd w B b o hh t C x) : Hd w B b o hh t C x.drew := ⟨h.1.drew, h.2.1, h.2.2⟩
theorem Hd.size {w : World} {B b : Nat} {o : Obj} {hh : Nat} {t : TypeId} {C : Array Value → Prop} {x : World} (h : Hd w B b o hh t C x) : b < x.heap.size ∧ hh < x.heap.size := by
  obtain ⟨h1, h2, cs, h3, h4⟩ := h
  exact ⟨hd_lt h2, hd_lt h4⟩
theorem Hd.set {w : World} {B b : Nat} {o : Obj} {hh : Nat} {t : TypeId} {C : Array Value → Prop} {x : World} (h : Hd w B b o hh t C x) (hB : B ≤ hh) (hne : b ≠ hh) (j : Nat) (Y : Value) (hC : ∀ cs, C cs → C (cs.setIfInBounds j Y)) :
    Hd w B b o hh t C (x.setCell ⟨hh, j, none⟩ Y) := by
  obtain ⟨h1, h2, cs, h3, h4⟩ := h
  exact ⟨h1.setCell (p := ⟨hh, j, none⟩) hB _, (Below.heap_setCell _ _ _ _ hne).trans h2, _, hC _ h3, hd_set h4 j Y⟩
theorem Hd.frozen {w : World} {B b : Nat} {o : Obj} {hh : Nat} {t : TypeId} {C : Array Value → Prop} {x : World} (h : Hd w B b o hh t C x) (j : Nat) : x.frozen? ⟨hh, j, none⟩ = false := by
  obtain ⟨h1, h2, cs, h3, h4⟩ := h
  exact hd_frozen h4 j
theorem Hd.there {w : World} {B b : Nat} {o : Obj} {hh : Nat} {t : TypeId} {C : Array Value → Prop} {x : World} (h : Hd w B b o hh t C x) (j : Nat) (hj : ∀ cs, C cs → j < cs.size) : ∃ v, x.cell? ⟨hh, j, none⟩ = some v := by
  obtain ⟨h1, h2, cs, h3, h4⟩ := h
  exact ⟨cs[j]'(hj _ h3), by rw [hd_cell h4, Array.getElem?_eq_getElem (hj _ h3)]⟩
theorem Hd.cell {w : World} {B b : Nat} {cs : Array Value} {t' : TypeId} {hh : Nat} {t : TypeId} {C : Array Value → Prop} {x : World} (h : Hd w B b (.cells cs t' (0, 0)) hh t C x) (j : Nat) : x.cell? ⟨b, j, none⟩ = cs[j]? := hd_cell h.2.1 j
end Go.Proofs.YtmgfpjfamdbhbaaDoor
