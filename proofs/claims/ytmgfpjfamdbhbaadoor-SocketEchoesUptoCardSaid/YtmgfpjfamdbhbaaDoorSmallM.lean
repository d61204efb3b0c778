/- New, Closed, Code, Held and Echoed of a peer. -/
import Derived.Test.YtmgfpjfamdbhbaaDoorTake
namespace Go.Proofs.YtmgfpjfamdbhbaaDoor
open Go.RowKit

theorem closed_any (base b : Nat) (p : RP) (v : Value) (w : World) (h : PeerAt w base b p v) :
    Calls Tryd.prog 31 #[.pointer (some ⟨b, 0, none⟩)] w fun e w' => e = .returned (.bool (p.code != 0)) ∧ w = w' := by
  obtain ⟨_, ⟨op, o, hbk, _⟩, _⟩ := h
  have c5 := cell_of hbk 5
  simp only [List.getElem?_toArray, List.getElem?_cons_zero, List.getElem?_cons_succ] at c5
  go_enter Tryd.func31, Tryd.ntmps31
  go_wp2
  go_ret
  exact ⟨rfl, rfl⟩
theorem closed_nil (w : World) : Calls Tryd.prog 31 #[.pointer none] w fun e w' => e = .returned (.bool false) ∧ w = w' := by
  go_enter Tryd.func31, Tryd.ntmps31
  go_wp2
  go_ret
  exact ⟨rfl, rfl⟩
theorem code_any (base b : Nat) (p : RP) (v : Value) (w : World) (h : PeerAt w base b p v) :
    Calls Tryd.prog 39 #[.pointer (some ⟨b, 0, none⟩)] w fun e w' => e = .returned (.int .i64 p.code) ∧ w = w' := by
  obtain ⟨_, ⟨op, o, hbk, _⟩, _⟩ := h
  have c5 := cell_of hbk 5
  simp only [List.getElem?_toArray, List.getElem?_cons_zero, List.getElem?_cons_succ] at c5
  go_enter Tryd.func39, Tryd.ntmps39
  go_wp2
  go_ret
  exact ⟨rfl, rfl⟩
theorem code_nil (w : World) : Calls Tryd.prog 39 #[.pointer none] w fun e w' => e = .returned (.int .i64 0) ∧ w = w' := by
  go_enter Tryd.func39, Tryd.ntmps39
  go_wp2
  go_ret
  exact ⟨rfl, rfl⟩
theorem echoed_any (base b : Nat) (p : RP) (v : Value) (w : World) (h : PeerAt w base b p v) :
    Calls Tryd.prog 37 #[.pointer (some ⟨b, 0, none⟩)] w fun e w' => e = .returned (.int .i64 p.echoed) ∧ w = w' := by
  obtain ⟨_, ⟨op, o, hbk, _⟩, _⟩ := h
  have c6 := cell_of hbk 6
  simp only [List.getElem?_toArray, List.getElem?_cons_zero, List.getElem?_cons_succ] at c6
  go_enter Tryd.func37, Tryd.ntmps37
  go_wp2
  go_ret
  exact ⟨rfl, rfl⟩
theorem echoed_nil (w : World) : Calls Tryd.prog 37 #[.pointer none] w fun e w' => e = .returned (.int .i64 0) ∧ w = w' := by
  go_enter Tryd.func37, Tryd.ntmps37
  go_wp2
  go_ret
  exact ⟨rfl, rfl⟩
theorem held_nil (w : World) : Calls Tryd.prog 38 #[.pointer none] w fun e w' => e = .returned (.int .i64 0) ∧ w = w' := by
  go_enter Tryd.func38, Tryd.ntmps38
  go_wp2
  go_ret
  exact ⟨rfl, rfl⟩
set_option maxRecDepth 100000 in
theorem held_any (base b : Nat) (p : RP) (v : Value) (w : World) (h : PeerAt w base b p v) (hl : p.msg.length + p.rest.length ≤ 4611686018427387904) :
    Calls Tryd.prog 38 #[.pointer (some ⟨b, 0, none⟩)] w fun e w' => e = .returned (.int .i64 ((p.msg.length + p.rest.length : Nat) : Int)) ∧ Below w.heap.size w w' := by
  obtain ⟨_, ⟨op, o, hbk, _⟩, hown, _⟩ := h
  obtain ⟨ao, cap, hv⟩ := hown.shape
  subst hv
  have c1 := cell_of hbk 1
  have c4 := cell_of hbk 4
  simp only [List.getElem?_toArray, List.getElem?_cons_zero, List.getElem?_cons_succ] at c1 c4
  have hsz : (bs p.rest).size = p.rest.length := bs_size _
  generalize bs p.rest = S at *
  have hw : IntKind.i64.wrap ((p.msg.length : Int) + (p.rest.length : Int)) = ((p.msg.length + p.rest.length : Nat) : Int) := by rw [IntKind.wrap_i64]; omega
  have hw2 : wrap64 ((p.msg.length : Int) + (p.rest.length : Int)) = ((p.msg.length + p.rest.length : Nat) : Int) := by unfold wrap64; omega
  go_enter Tryd.func38, Tryd.ntmps38
  go_wp2
  go_quiet (fail)
  go_wp2
  go_ret
  exact ⟨ret_int (by omega), drewN_below _ _ _⟩

def newL (most : Int) : RP := ⟨most, [], [], 0, 0, 0⟩
theorem new_bad (most : Int) (w : World) (h : most < 0 ∨ 16777216 < most) :
    Calls Tryd.prog 28 #[.int .i64 most] w fun e w' => e = .returned (.tuple #[.pointer none, .int .i64 1]) ∧ w = w' := by
  by_cases h0 : most < 0
  · go_enter Tryd.func28, Tryd.ntmps28
    go_wp2
    go_ret2
    exact ⟨rfl, rfl⟩
  · have h1 : 16777216 < most := by omega
    clear h
    go_enter Tryd.func28, Tryd.ntmps28
    go_wp2
    go_ret2
    exact ⟨rfl, rfl⟩
theorem new_ok (most : Int) (w : World) (h0 : 0 ≤ most) (h1 : most ≤ 16777216) :
    Calls Tryd.prog 28 #[.int .i64 most] w fun e w' => e = .returned (.tuple #[.pointer (some ⟨w.heap.size, 0, none⟩), .int .i64 0]) ∧ PeerAt w' w.heap.size w.heap.size (newL most) (.slice none 0 0) ∧ Below w.heap.size w w' ∧ w'.heap.size = w.heap.size + 1 := by
  have hfin : ∀ w', w' = w.alloc (.cells #[.int .i64 most, .string ⟨#[]⟩, .bool false, .int .i64 0, .slice none 0 0, .int .i64 0, .int .i64 0] 85) →
      PeerAt w' w.heap.size w.heap.size (newL most) (.slice none 0 0) ∧ Below w.heap.size w w' ∧ w'.heap.size = w.heap.size + 1 := by
    rintro w' rfl
    refine ⟨⟨Nat.le_refl _, ⟨false, 0, ?_, fun _ => ⟨rfl, fun h => absurd rfl h⟩⟩, RowV.nil _ _, by simp [Value.ownBlock]⟩, (Below.refl _ _).alloc (Nat.le_refl _) _, by simp⟩
    exact heap_alloc_new w _
  go_enter Tryd.func28, Tryd.ntmps28
  go_wp2
  go_ret2
  exact ⟨rfl, hfin _ rfl⟩
end Go.Proofs.YtmgfpjfamdbhbaaDoor
