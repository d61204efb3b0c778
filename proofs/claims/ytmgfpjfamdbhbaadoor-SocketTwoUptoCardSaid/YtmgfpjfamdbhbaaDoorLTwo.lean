/- The law SocketTwo's walk. -/
import Derived.Test.YtmgfpjfamdbhbaaDoorLPeers
namespace Go.Proofs.YtmgfpjfamdbhbaaDoor
open Go.RowKit

theorem PS.wide {B B' : Nat} {w : World} {ptr v : Value} {p : RP} {N : Nat} (h : PS B' w ptr p v N) (hB : B ≤ B') : PS B w ptr p v N := by
  rcases h with h | ⟨b, h1, h2, h3⟩
  · exact .inl h
  · exact .inr ⟨b, h1, by omega, h3⟩

set_option maxHeartbeats 3000000 in
set_option maxRecDepth 100000 in
theorem two_any (m1 m2 : Int) (v : Value) (ops : List (Int × ByteArray)) (w : World) (hT : Tabs w) (ho : OpsAt w v ops) (hsz : opsBulk ops ≤ 1048576) :
    Calls Tryd.prog 10 #[.int .i64 m1, .int .i64 m2, v] w fun e w' => e = .returned (.bool true) ∧ Below w.heap.size w w' := by
  have hA := awake_any w hT
  have H2 := Lib.hid hT.two
  have HT := Lib.hid (fun wx (hb : Below w.heap.size w wx) => hT.below hT.size hb)
  have hBg := fun wx => begun_uni m1 wx
  have hBh := fun wx => begun_uni m2 wx
  have hlen : ∃ ao cap, v = .slice ao ops.length cap := by
    rcases ho with ⟨rfl, rfl⟩ | ⟨a, cap, rfl, _, _⟩
    · exact ⟨none, 0, rfl⟩
    · exact ⟨_, cap, rfl⟩
  obtain ⟨ao, cap, hv⟩ := hlen
  subst hv
  have Ho := Lib.hid ho
  have hol := opsBulk_len ops
  have Hsz := Lib.hid hsz
  have hol2 : ops.length ≤ 1048576 := by omega
  clear ho hT hol hsz
  go_enter Tryd.func10, Tryd.ntmps10
  go_upto_region 4 with (first | (go_at_call 14; refine hA.mono ?_; rintro e w1 ⟨rfl, hb1⟩) | (go_at_call 34; refine (hBg _).mono ?_; rintro e w2 ⟨ptr1, p0, v0, rfl, hp2, hb2⟩))
  obtain ⟨W, hW⟩ : ∃ W, w2.alloc (.cells #[.int .i64 p0.most, .string (bs p0.rest), .string (bs p0.msg), .int .i64 p0.op, .int .i64 p0.code, .int .i64 p0.echoed] 59) = W := ⟨_, rfl⟩
  have hWb : Below w2.heap.size w2 W := by rw [← hW]; exact (Below.refl _ _).alloc (Nat.le_refl _) _
  have hWs : W.heap.size = w2.heap.size + 1 := by rw [← hW]; simp
  have hkW : RAt W w2.heap.size p0 := by rw [← hW]; exact heap_alloc_new _ _
  rw [hW]
  clear hW
  go_upto_region 8 with (first | (go_at_call 34; refine (hBh _).mono ?_; rintro e w3 ⟨ptr2, q0, u0, rfl, hp3, hb3⟩))
  obtain ⟨V, hV⟩ : ∃ V, w3.alloc (.cells #[.int .i64 q0.most, .string (bs q0.rest), .string (bs q0.msg), .int .i64 q0.op, .int .i64 q0.code, .int .i64 q0.echoed] 59) = V := ⟨_, rfl⟩
  have hVb : Below w3.heap.size w3 V := by rw [← hV]; exact (Below.refl _ _).alloc (Nat.le_refl _) _
  have hkV : RAt V w3.heap.size q0 := by rw [← hV]; exact heap_alloc_new _ _
  rw [hV]
  have s1 := hb1.size
  have s2 := hb2.size
  have s3 := hb3.size
  have HP := Lib.hid (((hp2.below hWb).below hb3).below hVb)
  have HK := Lib.hid ((hkW.below hb3).below hVb)
  have HQ := Lib.hid ((hp3.below hVb).wide (B := w1.heap.size) (by omega))
  have HL := Lib.hid hkV
  have HB := Lib.hid ((((hb1.trans (hb2.mono hb1.size)).trans (hWb.mono (by omega))).trans (hb3.mono (by omega))).trans (hVb.mono (by omega)))
  have HA := Lib.hid (show ∀ k, OwnP ptr1 v0 k → ¬ OwnP ptr2 u0 k from fun k h1 h2 => by have := (hp2.lt h1).2; have := (hp3.lt h2).1; omega)
  have HN := Lib.hid (show ¬ OwnP ptr1 v0 w2.heap.size ∧ ¬ OwnP ptr1 v0 w3.heap.size ∧ ¬ OwnP ptr2 u0 w2.heap.size ∧ ¬ OwnP ptr2 u0 w3.heap.size ∧ w2.heap.size ≠ w3.heap.size from
    ⟨fun h => by have := (hp2.lt h).2; omega, fun h => by have := (hp2.lt h).2; omega, fun h => by have := (hp3.lt h).1; omega, fun h => by have := (hp3.lt h).2; omega, by omega⟩)
  have H1 := Lib.hid (show 2 ≤ w1.heap.size by have := H2.out; omega)
  have H1b := Lib.hid hb1.size
  have H1m := Lib.hid (show w.heap.size ≤ w2.heap.size by omega)
  have H2m := Lib.hid (show w.heap.size ≤ w3.heap.size by omega)
  generalize w3.heap.size = mb2 at *
  generalize w2.heap.size = mb1 at *
  generalize w1.heap.size = B at *
  clear hV hVb hkV hWb hWs hkW hp2 hp3 hb1 hb2 hb3 hA hBg hBh s1 s2 s3
  go_wp2_with fail
  go_loopg [37] (ops.length + 1) (fun gk i wr => ∃ (p : RP) (pv : Value) (N : Nat) (q : RP) (qv : Value) (M j : Nat), i = .int .i64 j ∧ j ≤ ops.length ∧ gk = ops.length - j + 1 ∧ Hid (PS B wr ptr1 p pv N) ∧ Hid (RAt wr mb1 p) ∧ Hid (PS B wr ptr2 q qv M) ∧ Hid (RAt wr mb2 q) ∧
    Hid (Below w.heap.size w wr) ∧ Hid (∀ k, OwnP ptr1 pv k → ¬ OwnP ptr2 qv k) ∧ Hid (¬ OwnP ptr1 pv mb1 ∧ ¬ OwnP ptr1 pv mb2 ∧ ¬ OwnP ptr2 qv mb1 ∧ ¬ OwnP ptr2 qv mb2 ∧ mb1 ≠ mb2) ∧ Hid (N + M + opsBulk (ops.drop j) ≤ 1048576))
  case atStart => exact ⟨p0, v0, 0, q0, u0, 0, 0, rfl, Nat.zero_le _, rfl, HP, HK, HQ, HL, HB, HA, HN, Lib.hid (by simpa using Hsz.out)⟩
  case round =>
    obtain ⟨p, pv, N, q, qv, M, j, rfl, hj, rfl, Hp, Hk, Hq, Hl, Hb, Ha, Hn, Hs⟩ := hrel
    clear HP HK HQ HL HB HA HN
    by_cases hlt : j < ops.length
    · obtain ⟨a, hao, hcell⟩ : ∃ a : Addr, ao = some a ∧ wr.cell? (a.add (j * 2)) = some (.int .i64 (ops[j]'hlt).1) ∧ wr.cell? ((a.add (j * 2)).add 1) = some (.string (ops[j]'hlt).2) := by
        rcases Ho.out with ⟨_, h0⟩ | ⟨a, cap', he, hbl, hc⟩
        · rw [h0] at hlt; simp at hlt
        · simp only [Value.slice.injEq] at he
          have hb := hbl (by omega)
          exact ⟨a, he.1, (Hb.out.cell (p := a.add (j * 2)) (by rw [add_block]; exact hb)).trans (hc j hlt).1, (Hb.out.cell (p := (a.add (j * 2)).add 1) (by rw [add_block, add_block]; exact hb)).trans (hc j hlt).2⟩
      subst hao
      have hS := opsBulk_drop ops j hlt
      obtain ⟨kd, hkd⟩ : ∃ x, (ops[j]'hlt).1 = x := ⟨_, rfl⟩
      obtain ⟨S, hSS⟩ : ∃ x, (ops[j]'hlt).2 = x := ⟨_, rfl⟩
      rw [hkd, hSS] at hcell
      rw [hSS] at hS
      obtain ⟨hc1, hc2⟩ := hcell
      rw [add_one] at hc2
      have hs0 := Hs.out
      rw [hS] at hs0
      have Hs0 := Lib.hid hs0
      clear hkd hSS hS hs0
      go_upto_region 10 with fail
      obtain ⟨X, hX⟩ : ∃ X, wr.alloc (.cells #[.int .i64 kd, .string S] 63) = X := ⟨_, rfl⟩
      have hXb : Below wr.heap.size wr X := by rw [← hX]; exact (Below.refl _ _).alloc (Nat.le_refl _) _
      have hXo : X.heap[wr.heap.size]? = some (.cells #[.int .i64 kd, .string S] 63 (0, 0)) := by rw [← hX]; exact heap_alloc_new _ _
      rw [hX]
      clear hX hc1 hc2
      have o0 := hd_cell hXo 0
      have o1 := hd_cell hXo 1
      simp only [List.getElem?_toArray, List.getElem?_cons_zero, List.getElem?_cons_succ] at o0 o1
      have HXb := Lib.hid hXb
      clear hXb hXo
      by_cases hpar : j % 2 = 0
      · have e0 : (((j : Int) % 2) == 0) = true := by simp; omega
        have Hpar := Lib.hid hpar
        clear hpar
        have hSt := (fun wx (hb : Below wr.heap.size wr wx) => step_uni B ptr1 p pv N kd S wx (Hp.out.below hb) (HT.out _ (Hb.out.trans (hb.mono Hb.out.size))) H1.out (by have := Hs0.out; omega)) X HXb.out
        have hXk : RAt X mb1 p := Hk.out.below HXb.out
        have hXl : RAt X mb2 q := Hl.out.below HXb.out
        have hXq : PS B X ptr2 q qv M := Hq.out.below HXb.out
        obtain ⟨c0, c1, c2, c3, c4, c5, cf⟩ := hXk.cells
        go_wp2_with (first | (go_at_call 35; refine hSt.mono ?_; rintro e w5 ⟨p', v', rfl, hp5, ht5, ho5⟩; have hk5 : RAt w5 mb1 p := (ht5.block mb1 (hd_lt hXk) Hn.out.1).trans hXk; obtain ⟨d0, d1, d2, d3, d4, d5, df⟩ := hk5.cells))
        have hmX := hd_lt hXk
        have hmX2 := hd_lt hXl
        have hne : ¬ OwnP ptr1 v' mb1 := fun hk => by
          rcases ho5 mb1 hk with h | h
          · exact Hn.out.1 h
          · omega
        have hne2 : ¬ OwnP ptr1 v' mb2 := fun hk => by
          rcases ho5 mb2 hk with h | h
          · exact Hn.out.2.1 h
          · omega
        have hB5 : Below w.heap.size w w5 := (Hb.out.trans (HXb.out.mono Hb.out.size)).trans (ht5.toBelow (by have := Hb.out.size; have := HXb.out.size; omega) (fun k hk => Nat.le_trans H1b.out (Hp.out.lt hk).1))
        have hq5 : PS B w5 ptr2 q qv M := hXq.keep fun k hk => ht5.block k (hXq.lt hk).2 (fun ho => Ha.out k ho hk)
        have hl5 : RAt w5 mb2 q := (ht5.block mb2 hmX2 Hn.out.2.1).trans hXl
        have hap : ∀ k, OwnP ptr1 v' k → ¬ OwnP ptr2 qv k := fun k hk ho => by
          rcases ho5 k hk with h | h
          · exact Ha.out k h ho
          · have := (hXq.lt ho).2; omega
        have hmm := Hn.out.2.2.2.2
        go_roundg (ops.length - (j + 1) + 1)
        case measure => omega
        case rel =>
          have g1 := Lib.hid (hp5.keep (w' := sixW w5 mb1 (.int .i64 p'.most) (.string (bs p'.rest)) (.string (bs p'.msg)) (.int .i64 p'.op) (.int .i64 p'.code) (.int .i64 p'.echoed)) fun k hk => sixW_other (by rintro rfl; exact hne hk) _ _ _ _ _ _)
          have g2 : Hid (RAt (sixW w5 mb1 (.int .i64 p'.most) (.string (bs p'.rest)) (.string (bs p'.msg)) (.int .i64 p'.op) (.int .i64 p'.code) (.int .i64 p'.echoed)) mb1 p') := Lib.hid (sixW_same hk5 rfl _ _ _ _ _ _)
          have g3 := Lib.hid (hq5.keep (w' := sixW w5 mb1 (.int .i64 p'.most) (.string (bs p'.rest)) (.string (bs p'.msg)) (.int .i64 p'.op) (.int .i64 p'.code) (.int .i64 p'.echoed)) fun k hk => sixW_other (by rintro rfl; exact Hn.out.2.2.1 hk) _ _ _ _ _ _)
          have g4 : Hid (RAt (sixW w5 mb1 (.int .i64 p'.most) (.string (bs p'.rest)) (.string (bs p'.msg)) (.int .i64 p'.op) (.int .i64 p'.code) (.int .i64 p'.echoed)) mb2 q) := Lib.hid ((sixW_other (by omega) _ _ _ _ _ _).trans hl5)
          have g5 := Lib.hid (sixW_below hB5 H1m.out (.int .i64 p'.most) (.string (bs p'.rest)) (.string (bs p'.msg)) (.int .i64 p'.op) (.int .i64 p'.code) (.int .i64 p'.echoed))
          exact ⟨p', v', N + S.size, q, qv, M, j + 1, by go_num, by omega, rfl, g1, g2, g3, g4, g5, Lib.hid hap, Lib.hid ⟨hne, hne2, Hn.out.2.2.1, Hn.out.2.2.2.1, hmm⟩, Lib.hid (by have := Hs0.out; omega)⟩
      · have e0 : (((j : Int) % 2) == 0) = false := by simp; omega
        have Hpar := Lib.hid hpar
        clear hpar
        have hSt := (fun wx (hb : Below wr.heap.size wr wx) => step_uni B ptr2 q qv M kd S wx (Hq.out.below hb) (HT.out _ (Hb.out.trans (hb.mono Hb.out.size))) H1.out (by have := Hs0.out; omega)) X HXb.out
        have hXk : RAt X mb2 q := Hl.out.below HXb.out
        have hXl : RAt X mb1 p := Hk.out.below HXb.out
        have hXq : PS B X ptr1 p pv N := Hp.out.below HXb.out
        obtain ⟨c0, c1, c2, c3, c4, c5, cf⟩ := hXk.cells
        go_wp2_with (first | (go_at_call 35; refine hSt.mono ?_; rintro e w5 ⟨p', v', rfl, hp5, ht5, ho5⟩; have hk5 : RAt w5 mb2 q := (ht5.block mb2 (hd_lt hXk) Hn.out.2.2.2.1).trans hXk; obtain ⟨d0, d1, d2, d3, d4, d5, df⟩ := hk5.cells))
        have hmX := hd_lt hXk
        have hmX2 := hd_lt hXl
        have hne : ¬ OwnP ptr2 v' mb2 := fun hk => by
          rcases ho5 mb2 hk with h | h
          · exact Hn.out.2.2.2.1 h
          · omega
        have hne2 : ¬ OwnP ptr2 v' mb1 := fun hk => by
          rcases ho5 mb1 hk with h | h
          · exact Hn.out.2.2.1 h
          · omega
        have hB5 : Below w.heap.size w w5 := (Hb.out.trans (HXb.out.mono Hb.out.size)).trans (ht5.toBelow (by have := Hb.out.size; have := HXb.out.size; omega) (fun k hk => Nat.le_trans H1b.out (Hq.out.lt hk).1))
        have hq5 : PS B w5 ptr1 p pv N := hXq.keep fun k hk => ht5.block k (hXq.lt hk).2 (fun ho => Ha.out k hk ho)
        have hl5 : RAt w5 mb1 p := (ht5.block mb1 hmX2 Hn.out.2.2.1).trans hXl
        have hap : ∀ k, OwnP ptr2 v' k → ¬ OwnP ptr1 pv k := fun k hk ho => by
          rcases ho5 k hk with h | h
          · exact Ha.out k ho h
          · have := (hXq.lt ho).2; omega
        have hmm := Hn.out.2.2.2.2
        go_roundg (ops.length - (j + 1) + 1)
        case measure => omega
        case rel =>
          have g1 := Lib.hid (hp5.keep (w' := sixW w5 mb2 (.int .i64 p'.most) (.string (bs p'.rest)) (.string (bs p'.msg)) (.int .i64 p'.op) (.int .i64 p'.code) (.int .i64 p'.echoed)) fun k hk => sixW_other (by rintro rfl; exact hne hk) _ _ _ _ _ _)
          have g2 : Hid (RAt (sixW w5 mb2 (.int .i64 p'.most) (.string (bs p'.rest)) (.string (bs p'.msg)) (.int .i64 p'.op) (.int .i64 p'.code) (.int .i64 p'.echoed)) mb2 p') := Lib.hid (sixW_same hk5 rfl _ _ _ _ _ _)
          have g3 := Lib.hid (hq5.keep (w' := sixW w5 mb2 (.int .i64 p'.most) (.string (bs p'.rest)) (.string (bs p'.msg)) (.int .i64 p'.op) (.int .i64 p'.code) (.int .i64 p'.echoed)) fun k hk => sixW_other (by rintro rfl; exact Hn.out.2.1 hk) _ _ _ _ _ _)
          have g4 : Hid (RAt (sixW w5 mb2 (.int .i64 p'.most) (.string (bs p'.rest)) (.string (bs p'.msg)) (.int .i64 p'.op) (.int .i64 p'.code) (.int .i64 p'.echoed)) mb1 p) := Lib.hid ((sixW_other (by omega) _ _ _ _ _ _).trans hl5)
          have g5 := Lib.hid (sixW_below hB5 H2m.out (.int .i64 p'.most) (.string (bs p'.rest)) (.string (bs p'.msg)) (.int .i64 p'.op) (.int .i64 p'.code) (.int .i64 p'.echoed))
          exact ⟨p, pv, N, p', v', M + S.size, j + 1, by go_num, by omega, rfl, g3, g4, g1, g2, g5, Lib.hid (fun k hk ho => hap k ho hk), Lib.hid ⟨Hn.out.1, Hn.out.2.1, hne2, hne, hmm⟩, Lib.hid (by have := Hs0.out; omega)⟩
    · obtain rfl : j = ops.length := by omega
      go_wp2_with fail
      go_ret
      exact ⟨rfl, Hb.out⟩
end Go.Proofs.YtmgfpjfamdbhbaaDoor
