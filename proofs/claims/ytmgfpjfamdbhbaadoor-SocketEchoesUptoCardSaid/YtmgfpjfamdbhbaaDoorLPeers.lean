/- The law SocketPeers' walk. -/
import Derived.Test.YtmgfpjfamdbhbaaDoorStepU
import Derived.Test.YtmgfpjfamdbhbaaDoorLCuts
namespace Go.Proofs.YtmgfpjfamdbhbaaDoor
open Go.RowKit

theorem add_one (a : Addr) : a.add 1 = ⟨a.block, a.off + 1, none⟩ := by simp [Addr.add]
set_option maxHeartbeats 3000000 in
set_option maxRecDepth 100000 in
theorem peers_any (most : Int) (v : Value) (ops : List (Int × ByteArray)) (w : World) (hT : Tabs w) (ho : OpsAt w v ops) (hsz : opsBulk ops ≤ 1048576) :
    Calls Tryd.prog 9 #[.int .i64 most, v] w fun e w' => e = .returned (.bool true) ∧ Below w.heap.size w w' := by
  have hA := awake_any w hT
  have H2 := Lib.hid hT.two
  have HT := Lib.hid (fun wx (hb : Below w.heap.size w wx) => hT.below hT.size hb)
  have hBg := fun wx => begun_uni most wx
  have hlen : ∃ ao cap, v = .slice ao ops.length cap := by
    rcases ho with ⟨rfl, rfl⟩ | ⟨a, cap, rfl, _, _⟩
    · exact ⟨none, 0, rfl⟩
    · exact ⟨_, cap, rfl⟩
  obtain ⟨ao, cap, hv⟩ := hlen
  subst hv
  have Ho := Lib.hid ho
  have hol := opsBulk_len ops
  have Hsz := Lib.hid hsz
  have hol2 : ops.length ≤ 1048576 := by omega
  clear ho hT hol hsz
  go_enter Tryd.func9, Tryd.ntmps9
  go_upto_region 7 with (first | (go_at_call 14; refine hA.mono ?_; rintro e w1 ⟨rfl, hb1⟩) | (go_at_call 34; refine (hBg _).mono ?_; rintro e w2 ⟨ptr, p0, v0, rfl, hp2, hb2⟩))
  obtain ⟨W, hW⟩ : ∃ W, w2.alloc (.cells #[.int .i64 p0.most, .string (bs p0.rest), .string (bs p0.msg), .int .i64 p0.op, .int .i64 p0.code, .int .i64 p0.echoed] 59) = W := ⟨_, rfl⟩
  have hWb : Below w2.heap.size w2 W := by rw [← hW]; exact (Below.refl _ _).alloc (Nat.le_refl _) _
  have hkW : RAt W w2.heap.size p0 := by rw [← hW]; exact heap_alloc_new _ _
  have hBW : Below w.heap.size w W := (hb1.trans (hb2.mono hb1.size)).trans (hWb.mono (Nat.le_trans hb1.size hb2.size))
  have HP := Lib.hid (hp2.below hWb)
  have HK := Lib.hid hkW
  have HB := Lib.hid hBW
  have HN := Lib.hid (show ¬ OwnP ptr v0 w2.heap.size from fun h => by have := (hp2.lt h).2; omega)
  have H1 := Lib.hid (show 2 ≤ w1.heap.size by have := hb1.size; have := H2.out; omega)
  have H1b := Lib.hid hb1.size
  have H1m := Lib.hid (Nat.le_trans hb1.size hb2.size)
  rw [hW]
  generalize w2.heap.size = mb at *
  generalize w1.heap.size = B at *
  clear hW hWb hkW hBW hp2 hb1 hb2 hA hBg
  go_wp2_with fail
  go_loopg [22] (ops.length + 1) (fun gk i wr => ∃ (p : RP) (pv : Value) (N j : Nat), i = .int .i64 j ∧ j ≤ ops.length ∧ gk = ops.length - j + 1 ∧ Hid (PS B wr ptr p pv N) ∧ Hid (RAt wr mb p) ∧ Hid (Below w.heap.size w wr) ∧ Hid (¬ OwnP ptr pv mb) ∧ Hid (N + opsBulk (ops.drop j) ≤ 1048576))
  case atStart => exact ⟨p0, v0, 0, 0, rfl, Nat.zero_le _, rfl, HP, HK, HB, HN, Lib.hid (by simpa using Hsz.out)⟩
  case round =>
    obtain ⟨p, pv, N, j, rfl, hj, rfl, Hp, Hk, Hb, Hn, Hs⟩ := hrel
    clear HP HK HB HN
    by_cases hlt : j < ops.length
    · obtain ⟨a, hao, hcell⟩ : ∃ a : Addr, ao = some a ∧ wr.cell? (a.add (j * 2)) = some (.int .i64 (ops[j]'hlt).1) ∧ wr.cell? ((a.add (j * 2)).add 1) = some (.string (ops[j]'hlt).2) := by
        rcases Ho.out with ⟨_, h0⟩ | ⟨a, cap', he, hbl, hc⟩
        · rw [h0] at hlt; simp at hlt
        · simp only [Value.slice.injEq] at he
          have hb := hbl (by omega)
          exact ⟨a, he.1, (Hb.out.cell (p := a.add (j * 2)) (by rw [add_block]; exact hb)).trans (hc j hlt).1, (Hb.out.cell (p := (a.add (j * 2)).add 1) (by rw [add_block, add_block]; exact hb)).trans (hc j hlt).2⟩
      subst hao
      have hS := opsBulk_drop ops j hlt
      obtain ⟨kd, hkd⟩ : ∃ x, (ops[j]'hlt).1 = x := ⟨_, rfl⟩
      obtain ⟨S, hSS⟩ : ∃ x, (ops[j]'hlt).2 = x := ⟨_, rfl⟩
      rw [hkd, hSS] at hcell
      rw [hSS] at hS
      obtain ⟨hc1, hc2⟩ := hcell
      rw [add_one] at hc2
      have hs0 := Hs.out
      rw [hS] at hs0
      have Hs0 := Lib.hid hs0
      have HSt := Lib.hid (fun wx (hb : Below wr.heap.size wr wx) => step_uni B ptr p pv N kd S wx (Hp.out.below hb) (HT.out _ (Hb.out.trans (hb.mono Hb.out.size))) H1.out (by omega))
      have hmlt := hd_lt Hk.out
      clear hkd hSS hS hs0
      go_upto_region 9 with fail
      obtain ⟨X, hX⟩ : ∃ X, wr.alloc (.cells #[.int .i64 kd, .string S] 63) = X := ⟨_, rfl⟩
      have hXb : Below wr.heap.size wr X := by rw [← hX]; exact (Below.refl _ _).alloc (Nat.le_refl _) _
      have hXo : X.heap[wr.heap.size]? = some (.cells #[.int .i64 kd, .string S] 63 (0, 0)) := by rw [← hX]; exact heap_alloc_new _ _
      have hXk := Hk.out.below hXb
      rw [hX]
      clear hX hc1 hc2
      have hSt := HSt.out X hXb
      obtain ⟨c0, c1, c2, c3, c4, c5, cf⟩ := hXk.cells
      have o0 := hd_cell hXo 0
      have o1 := hd_cell hXo 1
      simp only [List.getElem?_toArray, List.getElem?_cons_zero, List.getElem?_cons_succ] at o0 o1
      have HXb := Lib.hid hXb
      clear hXb hXo HSt
      go_wp2_with (first | (go_at_call 35; refine hSt.mono ?_; rintro e w5 ⟨p', v', rfl, hp5, ht5, ho5⟩; have hk5 : RAt w5 mb p := (ht5.block mb (hd_lt hXk) Hn.out).trans hXk; obtain ⟨d0, d1, d2, d3, d4, d5, df⟩ := hk5.cells))
      have hmX := hd_lt hXk
      have hne : ¬ OwnP ptr v' mb := fun hk => by
        rcases ho5 mb hk with h | h
        · exact Hn.out h
        · omega
      have hB5 : Below w.heap.size w w5 := (Hb.out.trans (HXb.out.mono Hb.out.size)).trans (ht5.toBelow (by have := Hb.out.size; have := HXb.out.size; omega) (fun k hk => Nat.le_trans H1b.out (Hp.out.lt hk).1))
      go_roundg (ops.length - (j + 1) + 1)
      case measure => omega
      case rel =>
        refine ⟨p', v', N + S.size, j + 1, by go_num, by omega, rfl, ?_, ?_, ?_, Lib.hid hne, Lib.hid (by have := Hs0.out; omega)⟩
        · exact Lib.hid (hp5.keep fun k hk => sixW_other (by rintro rfl; exact hne hk) _ _ _ _ _ _)
        · exact Lib.hid (sixW_same hk5 rfl _ _ _ _ _ _)
        · exact Lib.hid (sixW_below hB5 H1m.out _ _ _ _ _ _)
    · obtain rfl : j = ops.length := by omega
      go_wp2_with fail
      go_ret
      exact ⟨rfl, Hb.out⟩
end Go.Proofs.YtmgfpjfamdbhbaaDoor
