/- strings.Builder's copyCheck, WriteString and String at a builder that the program has made, with what of memory stays as it was; lengths below 2^47. -/
import Derived.Test.YtmgfpjfamdbhbaaDoorStr
import Derived.Test.YtmgfpjfamdbhbaaDoorBld
namespace Go.Proofs.YtmgfpjfamdbhbaaDoor
open Go.RowKit

theorem size88 : (Tryd.prog.info? 88).map (fun i => (i.size, i.bytes)) = some (2, 32) := by kernel_rfl

theorem info88 : (Tryd.prog.info? 88).map (fun i => i.size) = some 2 := by kernel_rfl
set_option maxHeartbeats 1000000 in
set_option maxRecDepth 100000 in
theorem copyCheck_used (b : Nat) (w : World) (h0 : w.cell? ⟨b, 0, none⟩ = some (.pointer (some ⟨b, 0, none⟩))) :
    Calls Tryd.prog 62 #[.pointer (some ⟨b, 0, none⟩)] w fun e w' => e = .returned (.tuple #[]) ∧ w = w' := by
  obtain ⟨j, hj, hjs⟩ := Option.map_eq_some_iff.1 info88
  go_enter Tryd.func62, Tryd.ntmps62
  go_wp2
  rw [Lib.run_neq_ptr_same w _ Tryd.underlying86 hj]
  go_wp2
  go_end0
  exact ⟨rfl, rfl⟩

set_option maxHeartbeats 1000000 in
set_option maxRecDepth 100000 in
theorem copyCheck_fresh (b : Nat) (w : World) (h0 : w.cell? ⟨b, 0, none⟩ = some (.pointer none)) (hsh : w.shape? b = some (88, 2)) (hfz : w.frozen? ⟨b, 0, none⟩ = false) :
    Calls Tryd.prog 62 #[.pointer (some ⟨b, 0, none⟩)] w fun e w' => e = .returned (.tuple #[]) ∧ w.setCell ⟨b, 0, none⟩ (.pointer (some ⟨b, 0, none⟩)) = w' := by
  obtain ⟨j, hj, hjs⟩ := Option.map_eq_some_iff.1 info88
  go_enter Tryd.func62, Tryd.ntmps62
  go_wp2
  rw [Lib.run_to_unsafe w ⟨b, 0, none⟩ Tryd.underlying86 Tryd.underlying114 hj (by rw [hjs]; decide) hsh (Nat.zero_lt_succ 1)]
  simp only [Result.andThen]
  rw [Oper.upon_value]
  go_wp2
  rw [run_callFunc_extern Tryd.func65 (by kernel_rfl) (by kernel_rfl) (by kernel_rfl) (e := Extern.AbiNoEscape.same) (by kernel_rfl)]
  rw [Lib.run_noEscape]
  simp only [Result.andThen]
  rw [Oper.upon_value]
  go_wp2
  rw [Lib.run_from_unsafe w ⟨b, 0, none⟩ Tryd.underlying114 Tryd.underlying86 hj hsh (by kernel_rfl)]
  simp only [Result.andThen]
  rw [Oper.upon_value]
  go_wp2
  go_end0
  exact ⟨rfl, rfl⟩

/-- block b is a builder, which has been written (u) or not, and holds these bytes in the slice v -/
def BldAt (w : World) (base b : Nat) (u : Bool) (v : Value) (l : List UInt8) : Prop :=
  base ≤ b ∧ w.heap[b]? = some (.cells #[if u then .pointer (some ⟨b, 0, none⟩) else .pointer none, v] 88 (0, 0)) ∧ RowV w base v l ∧ v.ownBlock ≠ some b

theorem cell_of {w : World} {b : Nat} {cs : Array Value} {t : TypeId} (h : w.heap[b]? = some (.cells cs t (0, 0))) (j : Nat) : w.cell? ⟨b, j, none⟩ = cs[j]? := by simp [World.cell?, h]
theorem frozen_of {w : World} {b : Nat} {cs : Array Value} {t : TypeId} (h : w.heap[b]? = some (.cells cs t (0, 0))) (j : Nat) : w.frozen? ⟨b, j, none⟩ = false := by simp [World.frozen?, h]
theorem lt_of {w : World} {b : Nat} {o : Obj} (h : w.heap[b]? = some o) : b < w.heap.size := by
  rcases Nat.lt_or_ge b w.heap.size with h' | h'
  · exact h'
  · simp [Array.getElem?_eq_none h'] at h
theorem heap_set {w : World} {b : Nat} {cs : Array Value} {t : TypeId} (h : w.heap[b]? = some (.cells cs t (0, 0))) (j : Nat) (x : Value) :
    (w.setCell ⟨b, j, none⟩ x).heap[b]? = some (.cells (cs.setIfInBounds j x) t (0, 0)) := by
  simp [World.setCell, Array.getElem?_modify, h]
theorem heap_set_other {w : World} {b g j : Nat} {x : Value} (h : g ≠ b) : (w.setCell ⟨b, j, none⟩ x).heap[g]? = w.heap[g]? := Below.heap_setCell _ _ _ _ h

/-- what is written by a call that owns block b and the slice v's block -/
def Own (b : Nat) (v : Value) (k : Nat) : Prop := k = b ∨ v.ownBlock = some k

set_option maxHeartbeats 1000000 in
set_option maxRecDepth 100000 in
theorem writeString_any (base b : Nat) (u : Bool) (v : Value) (l : List UInt8) (s : ByteArray) (w : World) (h : BldAt w base b u v l) (hlen : l.length + s.size ≤ 140737488355328) (hbase : base ≤ w.heap.size) :
    Calls Tryd.prog 52 #[.pointer (some ⟨b, 0, none⟩), .string s] w fun e w' => ∃ v', e = .returned (.tuple #[.int .i64 s.size, .nilIface]) ∧ BldAt w' base b true v' (l ++ bl s) ∧ Touch w w' (Own b v) ∧
      (v'.ownBlock = v.ownBlock ∨ ∀ g, v'.ownBlock = some g → w.heap.size ≤ g) := by
  obtain ⟨hB, hbk, hown, hne⟩ := h
  have hlt := lt_of hbk
  have hcc : Calls Tryd.prog 62 #[.pointer (some ⟨b, 0, none⟩)] w fun e w' => e = .returned (.tuple #[]) ∧
      (w'.heap[b]? = some (.cells #[.pointer (some ⟨b, 0, none⟩), v] 88 (0, 0)) ∧ RowV w' base v l ∧ Touch w w' (Own b v) ∧ w'.heap.size = w.heap.size) := by
    cases u
    · refine (copyCheck_fresh b w (by rw [cell_of hbk]; rfl) (by simp [World.shape?, hbk]) (frozen_of hbk 0)).mono ?_
      rintro e w' ⟨rfl, rfl⟩
      refine ⟨rfl, by rw [heap_set hbk]; rfl, hown.keep fun g hg => heap_set_other (by rintro rfl; exact hne hg), (Touch.refl _ _).setCell (p := ⟨b, 0, none⟩) (.inl (.inl rfl)) _, by simp⟩
    · refine (copyCheck_used b w (by rw [cell_of hbk]; rfl)).mono ?_
      rintro e w' ⟨rfl, rfl⟩
      exact ⟨rfl, hbk, hown, Touch.refl _ _, rfl⟩
  go_enter Tryd.func52, Tryd.ntmps52
  go_wp2_with (go_at_call 62; refine hcc.mono ?_)
  rintro e w1 ⟨rfl, hbk1, hown1, ht1, hs1⟩
  have c1 : w1.cell? ⟨b, 1, none⟩ = some v := by rw [cell_of hbk1]; rfl
  go_wp2_with (at_builtin; refine wpList_append_str rfl _ _ rfl base v l rfl hown1 s rfl hlen (by omega) ?_)
  intro v' w2 hown2 hgr hblk
  have hb2 : w2.heap[b]? = some (.cells #[.pointer (some ⟨b, 0, none⟩), v] 88 (0, 0)) := by
    rw [hgr.block b (by omega) (fun e => hne e.symm)]; exact hbk1
  have d1 : w2.cell? ⟨b, 1, none⟩ = some v := by rw [cell_of hb2]; rfl
  have f1 := frozen_of hb2 1
  obtain ⟨ao, cap, rfl⟩ := hown2.shape
  go_wp2
  go_ret2
  have ht2 : Touch w w2 (Own b v) := ht1.trans ⟨hgr.os, hgr.tape, hgr.output, hgr.size, fun k hk hd => hgr.block k hk (fun e => hd (.inr e.symm))⟩
  refine ⟨_, rfl, ⟨hB, by rw [heap_set hb2]; simp, hown2.keep fun g hg => heap_set_other ?_, ?_⟩, ht2.setCell (p := ⟨b, 1, none⟩) (.inl (.inl rfl)) _, ?_⟩
  · rintro rfl
    rcases hblk with hq | hq
    · exact hne (hq.symm.trans hg)
    · have := hq g hg; omega
  · intro hq
    rcases hblk with hx | hx
    · exact hne (hx.symm.trans hq)
    · have := hx b hq; omega
  · rcases hblk with hx | hx
    · exact .inl hx
    · exact .inr fun g hg => by have := hx g hg; omega

theorem touch_freeze (w : World) (g n : Nat) (D : Nat → Prop) (hg : D g) : Touch w (w.drew.freeze ⟨g, 0, none⟩ n) D := by
  unfold World.freeze
  split
  · exact (Touch.refl _ _).drew
  · refine ⟨rfl, rfl, rfl, by simp, fun k hk hd => ?_⟩
    show (w.heap.modify g _)[k]? = w.heap[k]?
    rw [Array.getElem?_modify, if_neg (by rintro rfl; exact hd hg)]

set_option maxHeartbeats 2000000 in
set_option maxRecDepth 100000 in
theorem string_some (base b : Nat) (u : Bool) (v : Value) (l : List UInt8) (w : World) (h : BldAt w base b u v l) (h0 : l ≠ []) :
    Calls Tryd.prog 55 #[.pointer (some ⟨b, 0, none⟩)] w fun e w' => e = .returned (.string (bs l)) ∧ Touch w w' (Own b v) := by
  obtain ⟨hB, hbk, hown, hne⟩ := h
  have hl0 : l.length ≠ 0 := by simpa using h0
  obtain ⟨g, cap, cur, rfl, hbg, hg, hnc, hcm, hcs, htake⟩ : ∃ g cap cur, v = .slice (some ⟨g, 0, none⟩) l.length cap ∧ base ≤ g ∧ w.heap[g]? = some (.cells cur 5 (0, 0)) ∧ l.length ≤ cap ∧ cap ≤ maxLen ∧ cur.size = cap * 1 ∧ cur.toList.take (l.length * 1) = l.map cellB := by
    rcases hown.2 with ⟨_, hz⟩ | ⟨g, cap, cur, hv, r⟩
    · exact absurd hz hl0
    · exact ⟨g, cap, cur, hv, r⟩
  have c1 : w.drew.cell? ⟨b, 1, none⟩ = some (.slice (some ⟨g, 0, none⟩) l.length cap) := by
    have : w.drew.heap[b]? = some (.cells #[if u then .pointer (some ⟨b, 0, none⟩) else .pointer none, .slice (some ⟨g, 0, none⟩) l.length cap] 88 (0, 0)) := hbk
    rw [cell_of this]; rfl
  have hSD : (Builtin.unsafeSliceData_ #[76] 113 #[.slice (some ⟨g, 0, none⟩) l.length cap]).run Tryd.prog w.drew = .ok (.pointer (some ⟨g, 0, none⟩)) w.drew :=
    Lib.run_unsafeSliceData_row _ _ _ _ _ _ (by omega)
  have hUS : (Builtin.unsafeString_ #[113, 3] 9 #[.pointer (some ⟨g, 0, none⟩), .int .i64 l.length]).run Tryd.prog w.drew = .ok (.string (bs l)) (w.drew.freeze ⟨g, 0, none⟩ l.length) := by
    refine Lib.run_unsafeString_row w.drew 113 3 9 5 Tryd.underlying113 (by kernel_rfl) g cur.size (by have hg' : w.drew.heap[g]? = some (.cells cur 5 (0, 0)) := hg; simp [World.shape?, hg']) l h0 (by omega) (by unfold maxLen at hcm; omega) ?_
    intro j x hx
    have := World.ownsRow.cells hown (g := g) rfl j (.int .u8 x.toNat) (by simp [hx, cellB])
    exact this
  have hfin := touch_freeze w g l.length (Own b (.slice (some ⟨g, 0, none⟩) l.length cap)) (.inr rfl)
  go_enter Tryd.func55, Tryd.ntmps55
  go_wp2
  go_region
  all_goals
    go_wp2
    go_ret
    exact ⟨rfl, hfin⟩
theorem string_none (base b : Nat) (u : Bool) (v : Value) (w : World) (h : BldAt w base b u v []) :
    Calls Tryd.prog 55 #[.pointer (some ⟨b, 0, none⟩)] w fun e w' => e = .returned (.string (bs [])) ∧ Below w.heap.size w w' := by
  obtain ⟨hB, hbk, hown, hne⟩ := h
  rcases hown.2 with ⟨rfl, _⟩ | ⟨g, cap, cur, rfl, hbg, hg, _, _, _, _⟩
  · exact Any.Builder_String_nil Tryd.lays169 Tryd.Builder_Extra_169 w.heap.size b _ w hbk
  · by_cases hc0 : cap = 0
    · subst hc0
      exact Any.Builder_String_noroom Tryd.lays169 Tryd.Builder_Extra_169 w.heap.size b g _ cur w (Nat.le_refl _) hbk hg
    · exact Any.Builder_String_room Tryd.lays169 Tryd.Builder_Extra_169 w.heap.size b g cap _ w hc0 hbk
/-- String: the bytes -/
theorem string_any (base b : Nat) (u : Bool) (v : Value) (l : List UInt8) (w : World) (h : BldAt w base b u v l) :
    Calls Tryd.prog 55 #[.pointer (some ⟨b, 0, none⟩)] w fun e w' => e = .returned (.string (bs l)) ∧ Touch w w' (Own b v) := by
  cases l with
  | nil => exact (string_none base b u v w h).mono fun e w' ⟨h1, h2⟩ => ⟨h1, ⟨h2.os, h2.tape, h2.output, h2.size, fun k hk _ => h2.block k hk⟩⟩
  | cons x r => exact string_some base b u v (x :: r) w h (by simp)
end Go.Proofs.YtmgfpjfamdbhbaaDoor
