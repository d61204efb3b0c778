/- Peer.take: the peer behind a whole frame, and what it says. -/
import Derived.Test.YtmgfpjfamdbhbaaDoorPeer
namespace Go.Proofs.YtmgfpjfamdbhbaaDoor
open Go.RowKit

theorem Touch.below' {a b c : World} {D : Nat → Prop} (h : Touch a b D) {B : Nat} (hb : Below B b c) (hB : a.heap.size ≤ B) : Touch a c D :=
  ⟨hb.os.trans h.os, hb.tape.trans h.tape, hb.output.trans h.output, Nat.le_trans h.size hb.size,
    fun i hi hd => (hb.block i (Nat.lt_of_lt_of_le hi hB)).trans (h.block i hi hd)⟩
theorem PeerAt.keep {w w' : World} {base b : Nat} {p : RP} {v : Value} (h : PeerAt w base b p v) (hb : w'.heap[b]? = w.heap[b]?) (hv : ∀ g, v.ownBlock = some g → w'.heap[g]? = w.heap[g]?) : PeerAt w' base b p v := by
  obtain ⟨hB, ⟨op, o, hbk, hopn⟩, hown, hne⟩ := h
  exact ⟨hB, ⟨op, o, hb.trans hbk, hopn⟩, hown.keep hv, hne⟩
theorem PeerAt.lt {w : World} {base b : Nat} {p : RP} {v : Value} (h : PeerAt w base b p v) : b < w.heap.size := by
  obtain ⟨_, ⟨_, _, hbk, _⟩, _⟩ := h; exact lt_of hbk
theorem PeerAt.below {w w' : World} {base b : Nat} {p : RP} {v : Value} (h : PeerAt w base b p v) {B : Nat} (hb : Below B w w') (hB : w.heap.size ≤ B) : PeerAt w' base b p v :=
  h.keep (hb.block b (Nat.lt_of_lt_of_le h.lt hB)) fun g hg => hb.block g (Nat.lt_of_lt_of_le (h.2.2.1.lt hg).2 hB)
theorem Left.pre {w w1 w2 : World} {base b : Nat} {p : RP} {v v' : Value} (h : Left w1 w2 base b p v v') (ht : Touch w w1 (Own b v)) : Left w w2 base b p v v' := by
  obtain ⟨h1, h2, h3⟩ := h
  refine ⟨h1, ht.trans h2, ?_⟩
  rcases h3 with h3 | h3 | h3
  · exact .inl h3
  · exact .inr (.inl h3)
  · exact .inr (.inr fun g hg => Nat.le_trans ht.size (h3 g hg))
theorem Left.same {w w' : World} {base b : Nat} {p : RP} {v : Value} (h : PeerAt w base b p v) (hb : Below w.heap.size w w') : Left w w' base b p v v :=
  ⟨h.below hb (Nat.le_refl _), (Touch.refl _ _).below hb (Nat.le_refl _), .inr (.inl rfl)⟩

theorem parseClose_ne (l : List UInt8) : (parseCloseL l).2.2 = 0 → (parseCloseL l).1 ≠ 0 := by
  unfold parseCloseL
  split
  · intro _; simp
  · split
    · simp
    · split
      · simp
      · rename_i h
        split
        · simp
        · intro _
          have := isCode_range (n := ((256 * (at0 l).toNat + (at1 l).toNat : Nat) : Int)) (by simpa using h)
          simp only
          omega

set_option maxHeartbeats 1000000 in
set_option maxRecDepth 100000 in
theorem take_control (base b : Nat) (p : RP) (v : Value) (fin msk : Bool) (op : Int) (mask body : ByteArray) (w : World) (h : PeerAt w base b p v) (hT : Tabs w) (hbase : 2 ≤ base) (hsz : base ≤ w.heap.size)
    (hbs : body.size ≤ 140737488355328) (hop : op = 8 ∨ op = 9 ∨ op = 10) :
    Calls Tryd.prog 54 #[.pointer (some ⟨b, 0, none⟩), .agg #[.bool fin, .bool msk, .int .i64 op, .string mask, .string body]] w fun e w' =>
      e = .returned (.string (bs (takeL p fin op (bl body)).2)) ∧ ∃ v', Left w w' base b (takeL p fin op (bl body)).1 v v' := by
  have hbx : Below w.heap.size w (w.alloc (.cells #[.bool fin, .bool msk, .int .i64 op, .string mask, .string body] 23)) := (Below.refl _ _).alloc (Nat.le_refl _) _
  rcases hop with rfl | rfl | rfl
  · have hPC := parseClose_any body (w.alloc (.cells #[.bool fin, .bool msk, .int .i64 8, .string mask, .string body] 23)) (by omega) (hT.below hT.size hbx)
    have Hk := Lib.hid (show takeL p fin 8 (bl body) = (if (parseCloseL (bl body)).2.2 = 0 then closingL p (parseCloseL (bl body)).1 else if (parseCloseL (bl body)).2.2 = 223 then closingL p 1007 else closingL p 1002) by
      simp [takeL])
    have hcode : (parseCloseL (bl body)).2.2 = 0 → (parseCloseL (bl body)).1 ≠ 0 := parseClose_ne _
    generalize (parseCloseL (bl body)).1 = C at *
    generalize bs (parseCloseL (bl body)).2.1 = S at *
    generalize (parseCloseL (bl body)).2.2 = E at *
    have hSh := fun code hc wx (hbw : Below w.heap.size w wx) => shut_any base b p v code wx (h.below hbw (Nat.le_refl _)) (hT.below hT.size hbw) hbase (Nat.le_trans hsz hbw.size) hc
    by_cases e0 : E = 0
    · have t0 : (E == 0) = true := by simpa using e0
      have Hf := Lib.hid (show takeL p fin 8 (bl body) = closingL p C by rw [Hk.out, if_pos e0])
      have hS := hSh C (hcode e0)
      clear e0 hcode hSh
      go_enter Tryd.func54, Tryd.ntmps54
      go_wp2_with (first | (go_at_call 24; refine hPC.mono ?_; rintro e w4 ⟨rfl, hb4⟩) | (go_at_call 53; refine (hS _ (hbx.trans (hb4.mono (by simp)))).mono ?_; rintro e w5 ⟨rfl, hl5⟩))
      go_ret
      exact ⟨by rw [Hf.out]; rfl, _, by rw [Hf.out]; exact hl5.pre ((Touch.refl _ _).below (hbx.trans (hb4.mono (by simp))) (Nat.le_refl _))⟩
    · have t0 : (E == 0) = false := by simpa using e0
      clear hcode
      by_cases e3 : E = 223
      · have t3 : (E == 223) = true := by simpa using e3
        have Hf := Lib.hid (show takeL p fin 8 (bl body) = closingL p 1007 by rw [Hk.out, if_neg e0, if_pos e3])
        have hS := hSh 1007 (by decide)
        clear e0 e3 hSh
        go_enter Tryd.func54, Tryd.ntmps54
        go_wp2_with (first | (go_at_call 24; refine hPC.mono ?_; rintro e w4 ⟨rfl, hb4⟩) | (go_at_call 53; refine (hS _ (hbx.trans (hb4.mono (by simp)))).mono ?_; rintro e w5 ⟨rfl, hl5⟩))
        go_ret
        exact ⟨by rw [Hf.out]; rfl, _, by rw [Hf.out]; exact hl5.pre ((Touch.refl _ _).below (hbx.trans (hb4.mono (by simp))) (Nat.le_refl _))⟩
      · have t3 : (E == 223) = false := by simpa using e3
        have Hf := Lib.hid (show takeL p fin 8 (bl body) = closingL p 1002 by rw [Hk.out, if_neg e0, if_neg e3])
        have hS := hSh 1002 (by decide)
        clear e0 e3 hSh
        go_enter Tryd.func54, Tryd.ntmps54
        go_wp2_with (first | (go_at_call 24; refine hPC.mono ?_; rintro e w4 ⟨rfl, hb4⟩) | (go_at_call 53; refine (hS _ (hbx.trans (hb4.mono (by simp)))).mono ?_; rintro e w5 ⟨rfl, hl5⟩))
        go_ret
        exact ⟨by rw [Hf.out]; rfl, _, by rw [Hf.out]; exact hl5.pre ((Touch.refl _ _).below (hbx.trans (hb4.mono (by simp))) (Nat.le_refl _))⟩
  · have Hf := Lib.hid (show takeL p fin 9 (bl body) = (p, sayL 10 (bl body)) by simp [takeL])
    have hS := fun wx => say_any 10 body wx (by omega)
    generalize sayL 10 (bl body) = S at *
    go_enter Tryd.func54, Tryd.ntmps54
    go_wp2_with (first | (go_at_call 63; refine (hS _).mono ?_; rintro e w5 ⟨rfl, hb5⟩))
    go_ret
    exact ⟨by rw [Hf.out]; rfl, v, by rw [Hf.out]; exact Left.same h (hbx.trans (hb5.mono (by simp)))⟩
  · have Hf := Lib.hid (show takeL p fin 10 (bl body) = (p, []) by simp [takeL])
    go_enter Tryd.func54, Tryd.ntmps54
    go_wp2_with fail
    go_ret
    exact ⟨by rw [Hf.out]; rfl, v, by rw [Hf.out]; exact Left.same h hbx⟩

theorem RowV.back {w : World} {base : Nat} {v : Value} {l : List UInt8} (h : RowV w base v l) : (convert 76 9 v).run Tryd.prog w = .ok (.string (bs l)) w := by
  rcases h.2 with ⟨hv, h0⟩ | ⟨g, cap, cur, hv, _⟩
  · have hl : l = [] := by simpa using h0
    subst hl hv
    have e0 : bs [] = ByteArray.empty := rfl
    rw [e0]
    exact run_convert_bytes_nil (P := Tryd.prog) w 76 5 Tryd.underlying76 Tryd.underlying5 0 0 9 Tryd.underlying9
  · subst hv
    exact OwnB.back (base := base) (show OwnB w base g cap l from h)
theorem PeerAt.ops {w : World} {base b : Nat} {p p' : RP} {v : Value} (h : PeerAt w base b p v) (hc : p.code ≠ 0) (e1 : p'.most = p.most) (e2 : p'.rest = p.rest) (e3 : p'.msg = p.msg) (e4 : p'.code = p.code) (e5 : p'.echoed = p.echoed) : PeerAt w base b p' v := by
  obtain ⟨hB, ⟨op, o, hbk, _⟩, hown, hne⟩ := h
  exact ⟨hB, ⟨op, o, by rw [e1, e2, e4, e5]; exact hbk, fun h0 => absurd (e4 ▸ h0) hc⟩, by rw [e3]; exact hown, hne⟩

set_option maxHeartbeats 2000000 in
set_option maxRecDepth 100000 in
theorem take_data (base b : Nat) (p : RP) (v : Value) (fin msk : Bool) (op : Int) (mask body : ByteArray) (w : World) (h : PeerAt w base b p v) (hc0 : p.code = 0) (hT : Tabs w) (hbase : 2 ≤ base) (hsz : base ≤ w.heap.size)
    (hbs : p.msg.length + body.size ≤ 33554432) (hop : op = 0 ∨ op = 1 ∨ op = 2) (h0 : op = 0 → p.op ≠ 0) :
    Calls Tryd.prog 54 #[.pointer (some ⟨b, 0, none⟩), .agg #[.bool fin, .bool msk, .int .i64 op, .string mask, .string body]] w fun e w' =>
      e = .returned (.string (bs (takeL p fin op (bl body)).2)) ∧ ∃ v', Left w w' base b (takeL p fin op (bl body)).1 v v' := by
  have hbx : Below w.heap.size w (w.alloc (.cells #[.bool fin, .bool msk, .int .i64 op, .string mask, .string body] 23)) := (Below.refl _ _).alloc (Nat.le_refl _) _
  obtain ⟨hB, ⟨ob, o, hbk, hopn⟩, hown, hne⟩ := h
  obtain ⟨hob, ho⟩ := hopn hc0
  have hlt := lt_of hbk
  -- the kind of the message that goes on
  obtain ⟨q, hq⟩ : ∃ q, (if op = 0 then p.op else op) = q := ⟨_, rfl⟩
  have t9 : (op == 9) = false := by simp; omega
  have t10 : (op == 10) = false := by simp; omega
  have t8 : (op == 8) = false := by simp; omega
  have Hk := Lib.hid (show takeL p fin op (bl body) = if fin = false then ({ p with op := q, msg := p.msg ++ bl body }, []) else if q = 1 ∧ Lib.validD (p.msg ++ bl body) = false then closingL { p with op := q, msg := p.msg ++ bl body } 1007
      else ({ p with op := 0, msg := [], echoed := wrap64 (p.echoed + 1) }, sayL q (p.msg ++ bl body)) by
    rw [takeL, if_neg (by omega), if_neg (by omega), if_neg (by omega), hq])
  have hq0 : q ≠ 0 := by rw [← hq]; split; exact h0 ‹_›; assumption
  have hvb : ∀ k, v.ownBlock = some k → base ≤ k := fun k hk => (hown.lt hk).1
  have k2 := cell_of hbk 2
  have k3 := cell_of hbk 3
  have k4 := cell_of hbk 4
  have fz := frozen_of hbk
  simp only [List.getElem?_toArray, List.getElem?_cons_zero, List.getElem?_cons_succ] at k2 k3 k4
  go_enter Tryd.func54, Tryd.ntmps54
  go_upto_if 41 with fail
  go_cut [] (fun wx => ∃ o' : Int, Hid (o' = q) ∧ wx.heap[b]? = some (.cells #[.int .i64 p.most, .string (bs p.rest), .bool true, .int .i64 o', v, .int .i64 p.code, .int .i64 p.echoed] 85 (0, 0)) ∧ RowV wx base v p.msg ∧ Touch w wx (Own b v) ∧
     wx.cell? ⟨w.heap.size, 0, none⟩ = some (.bool fin) ∧ wx.cell? ⟨w.heap.size, 4, none⟩ = some (.string body) ∧ w.heap.size < wx.heap.size)
  case first =>
    have hbk2 : (w.alloc (.cells #[.bool fin, .bool msk, .int .i64 op, .string mask, .string body] 23)).heap[b]? = some (.cells #[.int .i64 p.most, .string (bs p.rest), .bool ob, .int .i64 o, v, .int .i64 p.code, .int .i64 p.echoed] 85 (0, 0)) := (hbx.block b hlt).trans hbk
    by_cases h00 : op = 0
    · have u0 : (op != 0) = false := by simp [h00]
      have hoq : o = q := by rw [← hq, if_pos h00]; exact ho (h0 h00)
      have hot : ob = true := by rw [hob]; simpa using h0 h00
      have HH := Lib.hid hoq
      have HO := Lib.hid hot
      clear h00 hoq hot hob ho hopn
      go_wp2_with fail
      go_meet
      refine ⟨o, HH.out, by rw [hbk2, HO.out], hown.keep fun g hg => hbx.block g (hown.lt hg).2, (Touch.refl _ _).alloc _, by simp [World.cell?_alloc_at], by simp [World.cell?_alloc_at], by simp⟩
    · have u0 : (op != 0) = true := by simpa using h00
      have hoq : op = q := by rw [← hq, if_neg h00]
      have HH := Lib.hid hoq
      clear h00 hoq hob ho hopn
      go_wp2_with fail
      go_meet
      refine ⟨op, HH.out, ?_, ?_, ?_, by rw [World.cell?_alloc_at _ _ _ _ (by simp)]; rfl, by rw [World.cell?_alloc_at _ _ _ _ (by simp)]; rfl, by simp⟩
      · rw [Below.heap_alloc _ _ _ (by simpa using hlt)]; exact heap_set (heap_set hbk 3 _) 2 _
      · refine hown.keep fun g hg => ?_
        have hgb : g ≠ b := by rintro rfl; exact hne hg
        rw [Below.heap_alloc _ _ _ (by simpa using (hown.lt hg).2), heap_set_other hgb, heap_set_other hgb]
      · exact (((Touch.refl _ _).setCell (p := ⟨b, 3, none⟩) (.inl (.inl rfl)) _).setCell (p := ⟨b, 2, none⟩) (.inl (.inl rfl)) _).alloc _
  case rest =>
  obtain ⟨o', Ho', hbk2, hown2, ht2, hbf, hbb, hsz2⟩ := hcut
  have hown0 := hown
  clear k2 k3 k4 fz hown hbk hbx hob ho hopn
  have l4 := cell_of hbk2 4
  have gz := frozen_of hbk2
  simp only [List.getElem?_toArray, List.getElem?_cons_zero, List.getElem?_cons_succ] at l4
  have htl := ht2.size
  go_upto_region 16 with fail
  go_cut [] (fun wx => ∃ v2 : Value, wx.heap[b]? = some (.cells #[.int .i64 p.most, .string (bs p.rest), .bool true, .int .i64 o', v2, .int .i64 p.code, .int .i64 p.echoed] 85 (0, 0)) ∧ RowV wx base v2 (p.msg ++ bl body) ∧ v2.ownBlock ≠ some b ∧ Touch w wx (Own b v) ∧
     (v2.ownBlock = v.ownBlock ∨ ∀ g, v2.ownBlock = some g → w.heap.size ≤ g) ∧ wx.cell? ⟨w.heap.size, 0, none⟩ = some (.bool fin))
  case first =>
    go_region_law (first | (refine step_append_str rfl _ _ rfl base v p.msg rfl hown2 body rfl (by omega) (by show base ≤ wc.heap.size; omega) ?_; intro v' w' hr hg hblk; obtain ⟨ao', cap', hv'⟩ := hr.shape; rw [hv']; have Hv := Lib.hid (show v' = .slice ao' (p.msg.length + (bl body).length) cap' by rw [hv', List.length_append]); clear hv'; have hb8 := (hg.block b (by show b < wc.heap.size; omega) (fun e => hne e.symm)).trans hbk2; have m4 := cell_of hb8 4; simp only [List.getElem?_toArray, List.getElem?_cons_zero, List.getElem?_cons_succ] at m4; have m5 := frozen_of hb8 4) | fail)
    all_goals
      go_wp2_with fail
      go_meet
    all_goals
      have hr2 := hr
      have hblk2 := hblk
      rw [Hv.out] at hr2 hblk2
      generalize Value.slice ao' (p.msg.length + (bl body).length) cap' = V at *
      have hVb : V.ownBlock ≠ some b := by
        intro hq
        rcases hblk2 with hx | hx
        · exact hne (hx.symm.trans hq)
        · have hx2 := hx b hq; have : wc.heap.size ≤ b := hx2; omega
      have hcb : ∀ k, k < wc.heap.size → v.ownBlock ≠ some k → w'.heap[k]? = wc.heap[k]? := fun k hk hk2 => hg.block k hk (fun e => hk2 e.symm)
      refine ⟨V, heap_set hb8 4 _, hr2.keep fun g hgg => heap_set_other (by rintro rfl; exact hVb hgg), hVb, ?_, ?_, ?_⟩
      · refine Touch.setCell ?_ (p := ⟨b, 4, none⟩) (.inl (.inl rfl)) _
        exact ht2.trans ⟨hg.os, hg.tape, hg.output, hg.size, fun k hk hd => hcb k hk (fun e => hd (.inr e))⟩
      · rcases hblk2 with hx | hx
        · exact .inl hx
        · exact .inr fun g hgg => Nat.le_trans htl (hx g hgg)
      · have hbn : w.heap.size ≠ b := by omega
        rw [World.cell?_setCell_other _ _ _ _ (by intro hq; injection hq; omega)]
        rw [World.cell?_of_block (w := wc) (hcb w.heap.size hsz2 (fun e => by have := (hown0.lt e).2; omega))]
        exact hbf
  case rest =>
  obtain ⟨v2, hbk3, hown3, hne3, ht3, hblk3, hbf3⟩ := hcut
  have m2 := cell_of hbk3 2
  have m3 := cell_of hbk3 3
  have m4 := cell_of hbk3 4
  have m6 := cell_of hbk3 6
  have mz := frozen_of hbk3
  simp only [List.getElem?_toArray, List.getElem?_cons_zero, List.getElem?_cons_succ] at m2 m3 m4 m6
  have hlast : v2.ownBlock = none ∨ v2.ownBlock = v.ownBlock ∨ ∀ g, v2.ownBlock = some g → w.heap.size ≤ g := .inr hblk3
  have hqd : decide (q ≠ 0) = true := by simpa using hq0
  clear hbk2 hown2 ht2 l4 gz hbb hsz2 htl hown0
  cases fin
  case false =>
    go_wp2_with fail
    go_ret
    refine ⟨by rw [Hk.out, if_pos trivial]; rfl, v2, ?_⟩
    rw [Hk.out, if_pos trivial]
    exact ⟨⟨hB, ⟨true, o', hbk3, fun _ => ⟨hqd.symm, fun _ => Ho'.out⟩⟩, hown3, hne3⟩, ht3, hlast⟩
  have hback := hown3.back
  have hsb : (bs (p.msg ++ bl body)).size ≤ 33554432 := by rw [bs_size, List.length_append, bl_length]; exact hbs
  have hW2 : ((wc.setCell ⟨b, 4, none⟩ (.slice none 0 0)).setCell ⟨b, 2, none⟩ (.bool false)).heap[b]? =
    some (.cells #[.int .i64 p.most, .string (bs p.rest), .bool false, .int .i64 o', .slice none 0 0, .int .i64 p.code, .int .i64 p.echoed] 85 (0, 0)) := heap_set (heap_set hbk3 4 _) 2 _
  have hT2 : Touch w ((wc.setCell ⟨b, 4, none⟩ (.slice none 0 0)).setCell ⟨b, 2, none⟩ (.bool false)) (Own b v) := (ht3.setCell (p := ⟨b, 4, none⟩) (.inl (.inl rfl)) _).setCell (p := ⟨b, 2, none⟩) (.inl (.inl rfl)) _
  have hPY : PeerAt ((wc.setCell ⟨b, 4, none⟩ (.slice none 0 0)).setCell ⟨b, 2, none⟩ (.bool false)) base b { p with op := 0, msg := [] } (.slice none 0 0) :=
    ⟨hB, ⟨false, o', hW2, fun _ => ⟨rfl, fun h => absurd rfl h⟩⟩, RowV.nil _ _, by simp [Value.ownBlock]⟩
  have n3 := cell_of hW2 3
  have n6 := cell_of hW2 6
  have nz := frozen_of hW2
  simp only [List.getElem?_toArray, List.getElem?_cons_zero, List.getElem?_cons_succ] at n3 n6
  have hTb : Tabs ((wc.setCell ⟨b, 4, none⟩ (.slice none 0 0)).setCell ⟨b, 2, none⟩ (.bool false)) := hT.below hbase (hT2.toBelow hsz (fun k hk => by rcases hk with rfl | hk; exact hB; exact hvb k hk))
  have hsW : base ≤ ((wc.setCell ⟨b, 4, none⟩ (.slice none 0 0)).setCell ⟨b, 2, none⟩ (.bool false)).heap.size := Nat.le_trans hsz hT2.size
  obtain ⟨W2, hW2e⟩ : ∃ W2, ((wc.setCell ⟨b, 4, none⟩ (.slice none 0 0)).setCell ⟨b, 2, none⟩ (.bool false)) = W2 := ⟨_, rfl⟩
  have Hback := Lib.hid hback
  have hbb2 : bl (bs (p.msg ++ bl body)) = p.msg ++ bl body := rfl
  have HbS := Lib.hid hbb2
  generalize bs (p.msg ++ bl body) = S at *
  have hIs := fun wx hTx => isText_any S wx (by omega) hTx
  have hSay := fun wx => say_any q S wx (by omega)
  rw [HbS.out] at hIs hSay
  obtain ⟨V, hV⟩ : ∃ V, Lib.validD (p.msg ++ bl body) = V := ⟨_, rfl⟩
  rw [hV] at hIs
  have HV := Lib.hid hV
  clear hV hbb2
  go_upto_region 21 with fail
  rw [hW2e] at hW2 hT2 hPY hTb hsW n3 n6 nz
  clear hW2e hback Hback m2 m3 m4 m6 mz hbk3 hown3 ht3
  have hbl := lt_of hW2
  have finE : ∀ W5, Below W2.heap.size W2 W5 → ∀ w6, Below W2.heap.size (W5.setCell ⟨b, 6, none⟩ (.int .i64 (wrap64 (p.echoed + 1)))) w6 →
      Left w w6 base b { p with op := 0, msg := [], echoed := wrap64 (p.echoed + 1) } v (.slice none 0 0) := by
    intro W5 h5 w6 h6
    refine ⟨⟨hB, ⟨false, o', ?_, fun _ => ⟨rfl, fun h => absurd rfl h⟩⟩, RowV.nil _ _, by simp [Value.ownBlock]⟩, ?_, .inl rfl⟩
    · rw [h6.block b hbl]; exact heap_set ((h5.block b hbl).trans hW2) 6 _
    · have h7 : Touch w W5 (Own b v) := hT2.below h5 (Nat.le_refl _)
      exact (h7.setCell (p := ⟨b, 6, none⟩) (.inl (.inl rfl)) _).below' h6 hT2.size
  have hSay' := hSay
  rw [← Ho'.out] at hSay'
  have n3' := fun wx (h : Below W2.heap.size W2 wx) => (h.cell (p := ⟨b, 3, none⟩) hbl).trans n3
  have n6' := fun wx (h : Below W2.heap.size W2 wx) => (h.cell (p := ⟨b, 6, none⟩) hbl).trans n6
  have nz' := fun wx (h : Below W2.heap.size W2 wx) => (h.frozen (p := ⟨b, 6, none⟩) hbl).trans (nz 6)
  have hIs2 := hIs W2 hTb
  have Hk2 := Lib.hid (show takeL p true op (bl body) = if q = 1 ∧ Lib.validD (p.msg ++ bl body) = false then closingL { p with op := q, msg := p.msg ++ bl body } 1007
      else ({ p with op := 0, msg := [], echoed := wrap64 (p.echoed + 1) }, sayL q (p.msg ++ bl body)) by rw [Hk.out, if_neg (by simp)])
  clear hSay hIs Hk
  by_cases h1 : q = 1
  · have t1 : (o' == 1) = true := by rw [Ho'.out]; simpa using h1
    cases V
    · have Hf := Lib.hid (show takeL p true op (bl body) = closingL { p with op := q, msg := p.msg ++ bl body } 1007 by rw [Hk2.out, if_pos ⟨h1, HV.out⟩])
      have hS := fun wx (hx : Below W2.heap.size W2 wx) => shut_any base b { p with op := 0, msg := [] } (.slice none 0 0) 1007 wx (hPY.below hx (Nat.le_refl _)) (hTb.below hTb.size hx) hbase (Nat.le_trans hsW hx.size) (by decide)
      have hcl : (closingL { p with op := 0, msg := [] } 1007).2 = (closingL { p with op := q, msg := p.msg ++ bl body } 1007).2 := rfl
      rw [hcl] at hS
      clear h1 hcl Hk2
      go_wp2_with (first | (go_at_call 20; refine hIs2.mono ?_; rintro e w5 ⟨rfl, hb5⟩) | (go_at_call 53; refine (hS _ (by assumption)).mono ?_; rintro e w6 ⟨rfl, hl6⟩))
      go_ret
      refine ⟨by rw [Hf.out]; rfl, .slice none 0 0, ?_⟩
      rw [Hf.out]
      obtain ⟨g1, g2, g3⟩ := hl6
      refine ⟨g1.ops (by show (1007 : Int) ≠ 0; decide) rfl rfl rfl rfl rfl, ?_, .inl rfl⟩
      refine (hT2.below hb5 (Nat.le_refl _)).trans (g2.widen ?_)
      intro k hk hd
      rcases hd with rfl | hd
      · exact .inl rfl
      · simp [Value.ownBlock] at hd
    · have Hf := Lib.hid (show takeL p true op (bl body) = ({ p with op := 0, msg := [], echoed := wrap64 (p.echoed + 1) }, sayL q (p.msg ++ bl body)) by rw [Hk2.out, if_neg (by rintro ⟨_, h⟩; rw [HV.out] at h; cases h)])
      clear h1 Hk2
      go_wp2_with (first | (go_at_call 20; refine hIs2.mono ?_; rintro e w5 ⟨rfl, hb5⟩; have q3 := n3' w5 hb5; have q6 := n6' w5 hb5; have qz := nz' w5 hb5) | (go_at_call 63; refine (hSay' _).mono ?_; rintro e w6 ⟨rfl, hb6⟩))
      go_ret
      refine ⟨by rw [Hf.out, Ho'.out]; rfl, .slice none 0 0, ?_⟩
      rw [Hf.out]
      exact finE _ hb5 _ (hb6.mono (by simpa using hb5.size))
  · have t1 : (o' == 1) = false := by rw [Ho'.out]; simpa using h1
    have Hf := Lib.hid (show takeL p true op (bl body) = ({ p with op := 0, msg := [], echoed := wrap64 (p.echoed + 1) }, sayL q (p.msg ++ bl body)) by rw [Hk2.out, if_neg (by rintro ⟨h, _⟩; exact h1 h)])
    clear h1 Hk2
    go_wp2_with (first | (go_at_call 63; refine (hSay' _).mono ?_; rintro e w6 ⟨rfl, hb6⟩))
    go_ret
    refine ⟨by rw [Hf.out, Ho'.out]; rfl, .slice none 0 0, ?_⟩
    rw [Hf.out]
    exact finE _ (Below.refl _ _) _ (hb6.mono (by simp))
end Go.Proofs.YtmgfpjfamdbhbaaDoor
