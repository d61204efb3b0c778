/- Peer.Feed: what it says to what comes. -/
import Derived.Test.YtmgfpjfamdbhbaaDoorFeedP
import Derived.Deep.RegionHeld3
namespace Go.Proofs.YtmgfpjfamdbhbaaDoor
open Go.RowKit

theorem feed_nil (s : ByteArray) (w : World) : Calls Tryd.prog 30 #[.pointer none, .string s] w fun e w' => e = .returned (.string (bs [])) ∧ w = w' := by
  go_enter Tryd.func30, Tryd.ntmps30
  go_wp2
  go_ret
  exact ⟨rfl, rfl⟩
theorem feed_closed (base b : Nat) (p : RP) (v : Value) (s : ByteArray) (w : World) (h : PeerAt w base b p v) (hc : p.code ≠ 0) :
    Calls Tryd.prog 30 #[.pointer (some ⟨b, 0, none⟩), .string s] w fun e w' => e = .returned (.string (bs (feedL p (bl s)).2)) ∧ ∃ v', Left w w' base b (feedL p (bl s)).1 v v' := by
  have hC := closed_any base b p v w h
  have e1 : (p.code != 0) = true := by simpa using hc
  rw [e1] at hC
  have Hf := Lib.hid (show feedL p (bl s) = (p, []) by rw [feedL, if_pos hc])
  clear hc e1
  go_enter Tryd.func30, Tryd.ntmps30
  go_wp2_with (first | (go_at_call 31; refine hC.mono ?_; rintro e w' ⟨rfl, rfl⟩))
  go_ret
  exact ⟨by rw [Hf.out]; rfl, v, by rw [Hf.out]; exact Left.same h (Below.refl _ _)⟩

/-- what holds at each round's head of Feed -/
structure Mid (w wr : World) (base b bb : Nat) (v : Value) (T : Nat) (p : RP) (out : List UInt8) (v' vb : Value) (u : Bool) : Prop where
  mem : Mem w wr base b bb v p out v' vb u
  most : 0 ≤ p.most ∧ p.most ≤ 16777216
  msgs : p.msg.length ≤ 16777216
  sizo : out.length ≤ T + 8
  size : p.code = 0 → out.length + p.msg.length + p.rest.length ≤ T + slack p

/-- the worlds of a region that fills a head's cell 4 -/
def Sm (wr w4 : World) (b hh : Nat) (cs : Value → Array Value) (wy : World) : Prop :=
  Below wr.heap.size wr wy ∧ w4.heap.size ≤ wy.heap.size ∧ wy.heap[b]? = w4.heap[b]? ∧ ∃ X, wy.heap[hh]? = some (.cells (cs X) 90 (0, 0))
theorem Sm.below {wr w4 : World} {b hh : Nat} {cs : Value → Array Value} {x y : World} (h : Sm wr w4 b hh cs x) (hb : b < w4.heap.size) (hh4 : hh < w4.heap.size) (hbl : Below x.heap.size x y) : Sm wr w4 b hh cs y := by
  obtain ⟨h1, h2, h3, X, h4⟩ := h
  exact ⟨h1.trans (hbl.mono h1.size), Nat.le_trans h2 hbl.size, (hbl.block b (by omega)).trans h3, X, (hbl.block hh (by omega)).trans h4⟩
theorem Sm.set {wr w4 : World} {b hh : Nat} {cs : Value → Array Value} {x : World} (h : Sm wr w4 b hh cs x) (hw : wr.heap.size ≤ hh) (hne : b ≠ hh) (hcs : ∀ X Y, (cs X).setIfInBounds 4 Y = cs Y) (Y : Value) :
    Sm wr w4 b hh cs (x.setCell ⟨hh, 4, none⟩ Y) := by
  obtain ⟨h1, h2, h3, X, h4⟩ := h
  exact ⟨h1.setCell (p := ⟨hh, 4, none⟩) hw _, by simpa using h2, (heap_set_other hne).trans h3, Y, by rw [heap_set h4, hcs]⟩

theorem feedGo_closed {k : Nat} {p : RP} {out : List UInt8} (h : p.code ≠ 0) : feedGo (k + 1) p out = (p, out) := by rw [feedGo, if_pos h]
theorem feedGo_short {k : Nat} {p : RP} {out : List UInt8} (h : p.code = 0) (h2 : headOk p.rest = false) : feedGo (k + 1) p out = (p, out) := by rw [feedGo, if_neg (by simp [h]), if_pos h2]
theorem feedGo_early {k : Nat} {p : RP} {out : List UInt8} (h : p.code = 0) (h2 : headOk p.rest = true) (h3 : earlyL p ≠ 0) :
    feedGo (k + 1) p out = ((closingL p (earlyL p)).1, out ++ (closingL p (earlyL p)).2) := by rw [feedGo, if_neg (by simp [h]), if_neg (by simp [h2]), if_pos h3]
theorem feedGo_wait {k : Nat} {p : RP} {out : List UInt8} (h : p.code = 0) (h2 : headOk p.rest = true) (h3 : earlyL p = 0) (h4 : p.rest.length < hsizeN (at1 p.rest) + lenN p.rest) :
    feedGo (k + 1) p out = (p, out) := by rw [feedGo, if_neg (by simp [h]), if_neg (by simp [h2]), if_neg (by simp [h3]), if_pos h4]
theorem feedGo_take {k : Nat} {p : RP} {out : List UInt8} (h : p.code = 0) (h2 : headOk p.rest = true) (h3 : earlyL p = 0) (h4 : ¬ p.rest.length < hsizeN (at1 p.rest) + lenN p.rest) :
    feedGo (k + 1) p out = feedGo k (takeL { p with rest := p.rest.drop (hsizeN (at1 p.rest) + lenN p.rest) } (hiB (at0 p.rest)) (opN p.rest) (bodyL p.rest)).1
      (out ++ (takeL { p with rest := p.rest.drop (hsizeN (at1 p.rest) + lenN p.rest) } (hiB (at0 p.rest)) (opN p.rest) (bodyL p.rest)).2) := by
  rw [feedGo, if_neg (by simp [h]), if_neg (by simp [h2]), if_neg (by simp [h3]), if_neg h4]

set_option maxHeartbeats 2000000 in
set_option maxRecDepth 100000 in
theorem feed_open (base b : Nat) (p : RP) (v : Value) (s : ByteArray) (w : World) (h : PeerAt w base b p v) (hc : p.code = 0) (hT : Tabs w) (hbase : 2 ≤ base) (hsz : base ≤ w.heap.size)
    (hm : 0 ≤ p.most ∧ p.most ≤ 16777216) (hml : p.msg.length ≤ 16777216) (hs : p.msg.length + p.rest.length + s.size + 12 ≤ 140737488355328) :
    Calls Tryd.prog 30 #[.pointer (some ⟨b, 0, none⟩), .string s] w fun e w' => e = .returned (.string (bs (feedL p (bl s)).2)) ∧ ∃ v', Left w w' base b (feedL p (bl s)).1 v v' := by
  have hC := closed_any base b p v w h
  have e1 : (p.code != 0) = false := by simpa using hc
  rw [e1] at hC
  obtain ⟨hB, ⟨op, o, hbk, hopn⟩, hown, hne⟩ := h
  have hlt := lt_of hbk
  have c1 := cell_of hbk 1
  have cz := frozen_of hbk
  simp only [List.getElem?_toArray, List.getElem?_cons_zero, List.getElem?_cons_succ] at c1
  have hrs : (bs p.rest).size = p.rest.length := bs_size _
  have Hf := Lib.hid (show feedL p (bl s) = feedGo (p.rest.length + (bl s).length + 1) { p with rest := p.rest ++ bl s } [] by rw [feedL, if_neg (by simp [hc])])
  have Hc := Lib.hid hc
  clear hc e1
  go_enter Tryd.func30, Tryd.ntmps30
  have hst : bl (bs p.rest ++ s) = p.rest ++ bl s := by rw [bl_append, bl_bs]
  have hstz : (bs p.rest ++ s).size ≤ 140737488355328 := by rw [ByteArray.size_append, hrs]; omega
  have M0 : Mid w ((w.setCell ⟨b, 1, none⟩ (.string (bs p.rest ++ s))).alloc (.cells #[.pointer none, .slice none 0 0] 88)) base b w.heap.size v (p.msg.length + p.rest.length + s.size) { p with rest := p.rest ++ bl s } [] v (.slice none 0 0) false := by
    have hb2 : ((w.setCell ⟨b, 1, none⟩ (.string (bs p.rest ++ s))).alloc (.cells #[.pointer none, .slice none 0 0] 88)).heap[b]? =
        some (.cells #[.int .i64 p.most, .string (bs (p.rest ++ bl s)), .bool op, .int .i64 o, v, .int .i64 p.code, .int .i64 p.echoed] 85 (0, 0)) := by
      rw [Below.heap_alloc _ _ _ (by simpa using hlt), heap_set hbk, ← hst, bs_bl]; rfl
    refine ⟨⟨⟨hB, ⟨op, o, hb2, hopn⟩, hown.keep fun g hg => ?_, hne⟩, ⟨Nat.le_refl _, ?_, RowV.nil _ _, by simp [Value.ownBlock]⟩, ((Touch.refl _ _).setCell (p := ⟨b, 1, none⟩) (.inl (.inl rfl)) _).alloc _,
      .inr (.inl rfl), hlt, ?_, by simp [Value.ownBlock]⟩, hm, hml, by simp, fun _ => ?_⟩
    · have hgb : g ≠ b := by rintro rfl; exact hne hg
      rw [Below.heap_alloc _ _ _ (by simpa using (hown.lt hg).2), heap_set_other hgb]
    · have := heap_alloc_new (w.setCell ⟨b, 1, none⟩ (.string (bs p.rest ++ s))) (.cells #[.pointer none, .slice none 0 0] 88)
      simpa using this
    · intro hq; have := (hown.lt hq).2; omega
    · simp only [List.length_nil, List.length_append, bl_length]; omega
  have hfu : (p.rest ++ bl s).length < p.rest.length + (bl s).length + 1 := by simp
  have hres0 : ∀ P, P = ({ p with rest := p.rest ++ bl s } : RP) → feedGo (p.rest.length + (bl s).length + 1) P [] = feedL p (bl s) := by rintro P rfl; exact Hf.out.symm
  have hP0l : ({ p with rest := p.rest ++ bl s } : RP).rest.length < p.rest.length + (bl s).length + 1 := hfu
  have hres := hres0 _ rfl
  generalize hTT : p.msg.length + p.rest.length + s.size = T at M0
  have hT47 : T + 12 ≤ 140737488355328 := by omega
  generalize ({ p with rest := p.rest ++ bl s } : RP) = P0 at *
  generalize hF : feedL p (bl s) = F at *
  generalize p.rest.length + (bl s).length + 1 = G at *
  have HM0 := Lib.hid M0
  have Hres := Lib.hid hres
  have htab : ∀ wx, Touch w wx (Own b v) → Tabs wx := fun wx hx => hT.below hbase (hx.toBelow hsz (fun k hk => by rcases hk with rfl | hk; exact hB; exact (hown.lt hk).1))
  clear M0 hres hres0 hTT hF Hf Hc hfu
  go_upto_block 0 with (first | (go_at_call 31; refine hC.mono ?_; rintro e w' ⟨rfl, rfl⟩))
  go_cut [] (fun wx => ∃ (pf : RP) (out : List UInt8) (v' vb : Value) (u : Bool), Hid (F = (pf, out)) ∧ Mem w wx base b w.heap.size v pf out v' vb u)
  case first =>
    clear hC c1 cz hown hne hbk hopn hT
    go_wp2_with fail
    go_loopg [6] G (fun gk _ wr => ∃ (P : RP) (out : List UInt8) (v' vb : Value) (u : Bool), Hid (feedGo gk P out = F) ∧ Hid (Mid w wr base b w.heap.size v T P out v' vb u) ∧ Hid (1 ≤ gk ∧ (P.code = 0 → P.rest.length < gk)))
    case atStart => exact ⟨P0, [], v, .slice none 0 0, false, Hres.out, HM0.out, by omega, fun _ => hP0l⟩
    case round =>
      obtain ⟨P, out, v', vb, u, HFG, HMid, Hgk⟩ := hrel
      clear HM0 Hres hP0l
      obtain ⟨k, rfl⟩ : ∃ k, gk = k + 1 := ⟨gk - 1, by have := Hgk.out.1; omega⟩
      have hpeer := HMid.out.mem.peer
      have hCl := closed_any base b P v' wr hpeer
      by_cases hc : P.code = 0
      case neg =>
        have e1 : (P.code != 0) = true := by simpa using hc
        rw [e1] at hCl
        have HFe := Lib.hid (show F = (P, out) by rw [← HFG.out, feedGo_closed hc])
        clear e1 hc hpeer
        go_wp2_with (first | (go_at_call 31; refine hCl.mono ?_; rintro e w' ⟨rfl, rfl⟩))
        go_meet
        exact ⟨P, out, v', vb, u, HFe.out, HMid.out.mem⟩
      have e1 : (P.code != 0) = false := by simpa using hc
      rw [e1] at hCl
      have Hc := Lib.hid hc
      have hsize := HMid.out.size hc
      have hrl : P.rest.length ≤ 140737488355328 := by have := slack_le P; omega
      have hRH := readHead_any (bs P.rest) wr (by rw [bs_size]; omega)
      obtain ⟨hB2, ⟨op2, o2, hbk2, hopn2⟩, hown2, hne2⟩ := hpeer
      have hlt2 := lt_of hbk2
      have k1 := cell_of hbk2 1
      simp only [List.getElem?_toArray, List.getElem?_cons_zero, List.getElem?_cons_succ] at k1
      rw [bl_bs, headRet] at hRH
      clear e1 hc hsize
      by_cases hok : headOk P.rest = true
      case neg =>
        have hok' : headOk P.rest = false := by simpa using hok
        have HFe := Lib.hid (show F = (P, out) by rw [← HFG.out, feedGo_short Hc.out hok'])
        rw [hok', if_neg (by simp), zeroHead] at hRH
        clear hok hok'
        go_wp2_with (first | (go_at_call 31; refine hCl.mono ?_; rintro e w' ⟨rfl, rfl⟩) | (go_at_call 50; refine hRH.mono ?_; rintro e w2 ⟨rfl, hb2⟩))
        go_meet
        exact ⟨P, out, v', vb, u, HFe.out, HMid.out.mem.below (hb2.alloc hb2.size _)⟩
      rw [hok, if_pos rfl, headV] at hRH
      have hEq := early_eq P
      have hbm : bl (bs (maskOf P.rest)) = maskOf P.rest := rfl
      have Hgd := Lib.hid (fun (h : earlyL P = 0) => early_good h)
      have Hok := Lib.hid hok
      have Hstep := Lib.hid (fun (h1 : Pass P) (h2 : hsizeN (at1 P.rest) + lenN P.rest ≤ P.rest.length) (h3 : out.length + P.msg.length + P.rest.length ≤ T + slack P) =>
        take_size Hc.out h1 HMid.out.most.2 HMid.out.msgs h2 h3)
      have Hbody := Lib.hid (show bodyL P.rest = maskL ((P.rest.drop (hsizeN (at1 P.rest))).take (lenN P.rest)) (maskOf P.rest) from rfl)
      have hZ14 := (hsizeN_le (at1 P.rest)).2
      have Ha := Lib.hid (fun (h : earlyL P ≠ 0) => feedGo_early (k := k) (out := out) Hc.out hok h)
      have Hw := Lib.hid (fun (h : earlyL P = 0) (h4 : P.rest.length < hsizeN (at1 P.rest) + lenN P.rest) => feedGo_wait (k := k) (out := out) Hc.out hok h h4)
      have Ht := Lib.hid (fun (h : earlyL P = 0) (h4 : ¬ P.rest.length < hsizeN (at1 P.rest) + lenN P.rest) => feedGo_take (k := k) (out := out) Hc.out hok h h4)
      obtain ⟨L, hL⟩ : ∃ L, lenN P.rest % half = L := ⟨_, rfl⟩
      rw [hL] at hEq hRH
      have hop16 : 0 ≤ opN P.rest ∧ opN P.rest < 16 := by unfold opN; have := Nat.mod_lt (at0 P.rest).toNat (show 16 > 0 by decide); omega
      have HL := Lib.hid hL
      generalize decide (half ≤ lenN P.rest) = LG at *
      generalize errN P.rest = EN at *
      generalize hMK : hiB (at1 P.rest) = MK at *
      generalize hFI : hiB (at0 P.rest) = FI at *
      generalize hOP : opN P.rest = OP at *
      generalize hZ : hsizeN (at1 P.rest) = Z at *
      generalize hMB : bs (maskOf P.rest) = MB at *
      have HOP := Lib.hid hOP
      have HZ := Lib.hid hZ
      have HMK := Lib.hid hMK
      have Hbm := Lib.hid hbm
      have hmost := HMid.out.most
      have hmsgs := HMid.out.msgs
      clear hok hL hMK hFI hOP hZ hMB hbm
      go_upto_region 8 with (first | (go_at_call 31; refine hCl.mono ?_; rintro e w' ⟨rfl, rfl⟩) | (go_at_call 50; refine hRH.mono ?_; rintro e w2 ⟨rfl, hb2⟩))
      obtain ⟨W, hW⟩ : ∃ W, (w2.alloc (.cells #[.bool FI, .bool MK, .int .i64 OP, .string MB, .string ⟨#[]⟩, .int .i64 Z, .int .i64 L, .bool LG, .int .i64 EN] 90)) = W := ⟨_, rfl⟩
      have hWb : Below wr.heap.size wr W := by rw [← hW]; exact hb2.alloc hb2.size _
      have hWh : W.heap[w2.heap.size]? = some (.cells #[.bool FI, .bool MK, .int .i64 OP, .string MB, .string ⟨#[]⟩, .int .i64 Z, .int .i64 L, .bool LG, .int .i64 EN] 90 (0, 0)) := by rw [← hW]; exact heap_alloc_new _ _
      have hhs := hb2.size
      rw [hW]
      clear hCl hRH hW hb2 k1 hlt2
      have hbkW := (hWb.block b (lt_of hbk2)).trans hbk2
      have k0 := cell_of hbkW 0
      have k1 := cell_of hbkW 1
      have k2 := cell_of hbkW 2
      have k4 := cell_of hbkW 4
      have kz := frozen_of hbkW
      have i0 := cell_of hWh 0
      have i1 := cell_of hWh 1
      have i2 := cell_of hWh 2
      have i3 := cell_of hWh 3
      have i4 := cell_of hWh 4
      have i5 := cell_of hWh 5
      have i6 := cell_of hWh 6
      have i7 := cell_of hWh 7
      have i8 := cell_of hWh 8
      have iz := frozen_of hWh
      simp only [List.getElem?_toArray, List.getElem?_cons_zero, List.getElem?_cons_succ] at k0 k1 k2 k4 i0 i1 i2 i3 i4 i5 i6 i7 i8
      have hop3 := (hopn2 Hc.out).1
      obtain ⟨ao, cap, hvs⟩ := hown2.shape
      have hWr := wrong_any b FI MK op2 LG OP Z L EN P.most P.echoed MB ⟨#[]⟩ ao P.msg.length cap W k0 k2 (by rw [k4, hvs]) hmost.1 hmost.2 hmsgs hop16.1 hop16.2
      rw [hop3, hEq] at hWr
      by_cases he : earlyL P = 0
      case neg =>
        have HFe := Lib.hid (show F = ((closingL P (earlyL P)).1, out ++ (closingL P (earlyL P)).2) by rw [← HFG.out, Ha.out he])
        have hSh := fun wx (hbx : Below W.heap.size W wx) => shut_any base b P v' (earlyL P) wx (HMid.out.mem.peer.below (hWb.trans (hbx.mono hWb.size)) (Nat.le_refl _)) (htab _ (HMid.out.mem.touch.below (hWb.trans (hbx.mono hWb.size)) (Nat.le_refl _))) hbase
          (by have := HMid.out.mem.touch.size; have := hWb.size; have := hbx.size; omega) he
        have e1 : (earlyL P != 0) = true := by simpa using he
        have hans := closingL_len P (earlyL P)
        generalize earlyL P = EC at *
        generalize hPA : closingL P EC = PA at *
        obtain ⟨PP, ans⟩ := PA
        simp only at HFe hans hSh
        have hso : out.length + 4 ≤ 140737488355328 := by have := HMid.out.sizo; omega
        clear he hPA Ha Hw Ht Hgd Hstep
        go_wp2_with (first | (go_at_call 51; refine hWr.mono ?_; rintro e w4 ⟨rfl, hb4⟩) | (go_at_call 53; refine (hSh _ hb4).mono ?_; rintro e w5 ⟨rfl, hl5⟩; have hlb := HMid.out.mem.bld' ((((Touch.refl _ (Own b v')).below hWb (Nat.le_refl _)).below hb4 (by have := hWb.size; omega)).trans hl5.2.1)) | (go_at_call 52; refine (writeString_any _ _ _ _ _ (bs ans) _ hlb (by rw [bs_size]; omega) (by have := HMid.out.mem.touch.size; have := hWb.size; have := hb4.size; have := hl5.2.1.size; omega)).mono ?_; rintro e w6 ⟨vb2, rfl, hb6, ht6, hv6⟩))
        go_meet
        exact ⟨PP, out ++ ans, _, vb2, true, HFe.out, HMid.out.mem.step (((Touch.refl _ (Own b v')).below hWb (Nat.le_refl _)).below hb4 (by have := hWb.size; omega)) hl5 hb6 ht6 hv6⟩
      have e1 : (earlyL P != 0) = false := by simpa using he
      have hg := Hgd.out he
      have hsm := hg.small hmost.2
      have hLl : L = lenN P.rest := by rw [← HL.out]; exact Nat.mod_eq_of_lt hg.len
      have hWt := Hw.out he
      have hTk := Ht.out he
      have hSt := Hstep.out hg
      clear he Ha Hw Ht Hgd Hstep HL
      rw [← hLl] at hsm hWt hTk hSt Hbody
      generalize earlyL P = EC at *
      obtain ⟨n, hn⟩ : ∃ n, (bs P.rest).size = n := ⟨_, rfl⟩
      have hrn : P.rest.length = n := by rw [← hn, bs_size]
      have hw1 : IntKind.i64.wrap ((Z : Int) + (L : Int)) = (Z : Int) + (L : Int) := by rw [IntKind.wrap_i64]; omega
      rw [hrn] at hrl
      have Hg := Lib.hid hg
      have HLl := Lib.hid hLl
      have HWt := Lib.hid hWt
      have HTk := Lib.hid hTk
      have HSt := Lib.hid hSt
      have Hrn := Lib.hid hrn
      clear hg hLl hWt hTk hSt hrn
      go_upto_region 11 with (first | (go_at_call 51; refine hWr.mono ?_; rintro e w4 ⟨rfl, hb4⟩))
      have hW4 : Below wr.heap.size wr w4 := hWb.trans (hb4.mono hWb.size)
      have q1 := (hb4.cell (p := ⟨b, 1, none⟩) (lt_of hbkW)).trans k1
      have j1 := (hb4.cell (p := ⟨w2.heap.size, 5, none⟩) (lt_of hWh)).trans i5
      have j2 := (hb4.cell (p := ⟨w2.heap.size, 6, none⟩) (lt_of hWh)).trans i6
      by_cases hlt : n < Z + L
      case pos =>
        have hd : decide ((n : Int) < (Z : Int) + (L : Int)) = true := by simp; omega
        have HFe := Lib.hid (show F = (P, out) by rw [← HFG.out]; exact HWt.out (by rw [Hrn.out]; exact hlt))
        go_quiet (fail)
        go_wp2_with fail
        go_meet
        exact ⟨P, out, v', vb, u, HFe.out, HMid.out.mem.below (hW4.trans (drewN_below _ _ _))⟩
      have hd : decide ((n : Int) < (Z : Int) + (L : Int)) = false := by simp; omega
      go_quiet (fail)
      have hMk := fun wx => mask_any ((bs P.rest).extract Z (Z + L)) MB wx (by rw [ByteArray.size_extract]; omega)
      rw [show maskL (bl ((bs P.rest).extract Z (Z + L))) (bl MB) = bodyL P.rest by rw [Hbody.out, bl_extract, bl_bs, Hbm.out, Nat.add_sub_cancel_left]] at hMk
      have j3 := (hb4.cell (p := ⟨w2.heap.size, 3, none⟩) (lt_of hWh)).trans i3
      have j4 := (hb4.cell (p := ⟨w2.heap.size, 4, none⟩) (lt_of hWh)).trans i4
      have jz := fun j => (hb4.frozen (p := ⟨w2.heap.size, j, none⟩) (lt_of hWh)).trans (iz j)
      have hh4 : w2.heap.size < w4.heap.size := Nat.lt_of_lt_of_le (lt_of hWh) hb4.size
      have hb44 : b < w4.heap.size := Nat.lt_of_lt_of_le (lt_of hbkW) hb4.size
      have hW4h := (hb4.block _ (lt_of hWh)).trans hWh
      go_upto_region 12 with fail
      go_cut [] (fun wx => Below wr.heap.size wr wx ∧ wx.heap[w2.heap.size]? = some (.cells #[.bool FI, .bool MK, .int .i64 OP, .string MB, .string (bs (bodyL P.rest)), .int .i64 Z, .int .i64 L, .bool LG, .int .i64 EN] 90 (0, 0)))
      case first =>
        have hbkq : w4.heap[b]? = some (.cells #[.int .i64 P.most, .string (bs P.rest), .bool op2, .int .i64 o2, v', .int .i64 P.code, .int .i64 P.echoed] 85 (0, 0)) := (hb4.block b (lt_of hbkW)).trans hbkW
        have hKeep : ∀ wy, Sm wr w4 b w2.heap.size (fun X => #[.bool FI, .bool MK, .int .i64 OP, .string MB, X, .int .i64 Z, .int .i64 L, .bool LG, .int .i64 EN]) wy → wy.cell? ⟨b, 1, none⟩ = some (.string (bs P.rest)) ∧ wy.cell? ⟨w2.heap.size, 5, none⟩ = some (.int .i64 Z) ∧ wy.cell? ⟨w2.heap.size, 6, none⟩ = some (.int .i64 L) ∧ wy.cell? ⟨w2.heap.size, 3, none⟩ = some (.string MB) ∧ Sm wr w4 b w2.heap.size (fun X => #[.bool FI, .bool MK, .int .i64 OP, .string MB, X, .int .i64 Z, .int .i64 L, .bool LG, .int .i64 EN]) wy :=
          fun wy h => ⟨(cell_of (h.2.2.1.trans hbkq) 1).trans rfl, (h.2.2.2.elim fun X hX => (cell_of hX 5).trans rfl), (h.2.2.2.elim fun X hX => (cell_of hX 6).trans rfl), (h.2.2.2.elim fun X hX => (cell_of hX 3).trans rfl), h⟩
        have hK4 : ∀ wy, Sm wr w4 b w2.heap.size (fun X => #[.bool FI, .bool MK, .int .i64 OP, .string MB, X, .int .i64 Z, .int .i64 L, .bool LG, .int .i64 EN]) wy → ∃ X, wy.cell? ⟨w2.heap.size, 4, none⟩ = some X := fun wy h => h.2.2.2.elim fun X hX => ⟨X, (cell_of hX 4).trans rfl⟩
        have hKz : ∀ wy, Sm wr w4 b w2.heap.size (fun X => #[.bool FI, .bool MK, .int .i64 OP, .string MB, X, .int .i64 Z, .int .i64 L, .bool LG, .int .i64 EN]) wy → wy.frozen? ⟨w2.heap.size, 4, none⟩ = false := fun wy h => h.2.2.2.elim fun X hX => frozen_of hX 4
        have hBT : ∀ x y : World, Sm wr w4 b w2.heap.size (fun X => #[.bool FI, .bool MK, .int .i64 OP, .string MB, X, .int .i64 Z, .int .i64 L, .bool LG, .int .i64 EN]) x → Below x.heap.size x y → Sm wr w4 b w2.heap.size (fun X => #[.bool FI, .bool MK, .int .i64 OP, .string MB, X, .int .i64 Z, .int .i64 L, .bool LG, .int .i64 EN]) y := fun x y h1 h2 => h1.below hb44 hh4 h2
        have hS0 : ∀ x, Below w4.heap.size w4 x → Sm wr w4 b w2.heap.size (fun X => #[.bool FI, .bool MK, .int .i64 OP, .string MB, X, .int .i64 Z, .int .i64 L, .bool LG, .int .i64 EN]) x := fun x h => ⟨hW4.trans (h.mono hW4.size), h.size, h.block b hb44, _, (h.block _ hh4).trans hW4h⟩
        have hne4 : b ≠ w2.heap.size := by have := lt_of hbk2; omega
        have hSS : ∀ x Y, Sm wr w4 b w2.heap.size (fun X => #[.bool FI, .bool MK, .int .i64 OP, .string MB, X, .int .i64 Z, .int .i64 L, .bool LG, .int .i64 EN]) x → Sm wr w4 b w2.heap.size (fun X => #[.bool FI, .bool MK, .int .i64 OP, .string MB, X, .int .i64 Z, .int .i64 L, .bool LG, .int .i64 EN]) (x.setCell ⟨w2.heap.size, 4, none⟩ Y) := fun x Y h => h.set hhs hne4 (fun _ _ => rfl) Y
        have b0 : (0 : Int) ≤ (Z : Int) := by omega
        have b1 : (Z : Int) ≤ (Z : Int) + (L : Int) := by omega
        have b2 : (Z : Int) + (L : Int) ≤ (n : Int) := by omega
        have b3 : ((Z : Int) + (L : Int)).toNat = Z + L := by omega
        clear hm hml hs hmost hmsgs hop16 hT47
        go_region_held3 (fun wy => wy.cell? ⟨b, 1, none⟩ = some (.string (bs P.rest)) ∧ wy.cell? ⟨w2.heap.size, 5, none⟩ = some (.int .i64 Z) ∧ wy.cell? ⟨w2.heap.size, 6, none⟩ = some (.int .i64 L) ∧ wy.cell? ⟨w2.heap.size, 3, none⟩ = some (.string MB) ∧ Sm wr w4 b w2.heap.size (fun X => #[.bool FI, .bool MK, .int .i64 OP, .string MB, X, .int .i64 Z, .int .i64 L, .bool LG, .int .i64 EN]) wy)
          (first | (refine hKeep _ ?_; first | assumption | (refine hSS _ _ ?_; assumption) | exact hS0 _ (drewN_below _ _ _) | exact hS0 _ (drewN_below _ _ _).drew))
          (first | (go_at_call 18; refine (hMk _).mono ?_; rintro e w5 ⟨rfl, hbm⟩; have hx : Sm wr w4 b w2.heap.size (fun X => #[.bool FI, .bool MK, .int .i64 OP, .string MB, X, .int .i64 Z, .int .i64 L, .bool LG, .int .i64 EN]) w5 := (by refine hBT _ _ ?_ hbm; first | assumption | (refine hSS _ _ ?_; assumption) | exact hS0 _ (drewN_below _ _ _) | exact hS0 _ (drewN_below _ _ _).drew); obtain ⟨X4, x4⟩ := hK4 _ hx; have xz := hKz _ hx))
        go_wp2_with fail
        go_meet
        exact ⟨(hSS _ _ hx).1, hx.2.2.2.elim fun X hX => heap_set hX 4 _⟩
      case rest =>
      obtain ⟨hBc, hHc⟩ := hcut
      have hbkc := (hBc.block b (lt_of hbk2)).trans hbk2
      have hne4 : b ≠ w2.heap.size := by have := lt_of hbk2; omega
      have hZ2 := (hsizeN_le (at1 P.rest)).1
      rw [HZ.out] at hZ2
      have hfl : Z + L ≤ P.rest.length := by rw [Hrn.out]; omega
      have hEx : ((bs P.rest).extract (Z + L) n) = bs (P.rest.drop (Z + L)) := by
        apply bl_inj; rw [bl_extract, bl_bs, bl_bs, List.take_of_length_le (by rw [List.length_drop, Hrn.out]; omega)]
      obtain ⟨R', hR'⟩ : ∃ R', (bs P.rest).extract (Z + L) n = R' := ⟨_, rfl⟩
      have hRR : R' = bs (P.rest.drop (Z + L)) := by rw [← hR', hEx]
      have b0 : (0 : Int) ≤ (Z : Int) := by omega
      have b1 : (Z : Int) ≤ (Z : Int) + (L : Int) := by omega
      have b2 : (Z : Int) + (L : Int) ≤ (n : Int) := by omega
      have b3 : ((Z : Int) + (L : Int)).toNat = Z + L := by omega
      obtain ⟨P', ans, hTL⟩ : ∃ P' ans, takeL { P with rest := P.rest.drop (Z + L) } FI OP (bodyL P.rest) = (P', ans) := ⟨_, _, rfl⟩
      have hbz : (bodyL P.rest).length = L := by rw [HLl.out]; exact bodyL_len (by rw [HZ.out, ← HLl.out]; exact hfl)
      have hSz := HSt.out hfl (HMid.out.size Hc.out) P' ans hTL
      have hFk : feedGo k P' (out ++ ans) = F := by
        rw [← HFG.out, HTk.out (by omega), hTL]
      have hkk : 1 ≤ k ∧ (P'.code = 0 → P'.rest.length < k) := by
        have h1 := Hgk.out.2 Hc.out
        exact ⟨by omega, fun h => by have := (hSz.2.2.2 h).2; omega⟩
      have hLm := Hg.out.data
      rw [HOP.out, ← HLl.out] at hLm
      have hopc := isOp_cases Hg.out.isop
      rw [HOP.out] at hopc
      have hcont := Hg.out.cont
      rw [HOP.out] at hcont
      have hTake : ∀ wx, PeerAt wx base b { P with rest := P.rest.drop (Z + L) } v' → Tabs wx → base ≤ wx.heap.size →
          Calls Tryd.prog 54 #[.pointer (some ⟨b, 0, none⟩), .agg #[.bool FI, .bool MK, .int .i64 OP, .string MB, .string (bs (bodyL P.rest))]] wx fun e w' => e = .returned (.string (bs ans)) ∧ ∃ v2, Left wx w' base b P' v' v2 := by
        intro wx hp hTx hbx
        have hbb : bl (bs (bodyL P.rest)) = bodyL P.rest := rfl
        have hsb : (bs (bodyL P.rest)).size = L := by rw [bs_size, hbz]
        by_cases h8 : OP < 8
        · have := take_data base b _ v' FI MK OP MB (bs (bodyL P.rest)) wx hp Hc.out hTx hbase hbx (by rw [hsb]; have := hLm h8; show P.msg.length + L ≤ _; omega) (by omega) (fun h => hcont h)
          rw [hbb, hTL] at this; exact this
        · have := take_control base b _ v' FI MK OP MB (bs (bodyL P.rest)) wx hp hTx hbase hbx (by rw [hsb]; omega) (by omega)
          rw [hbb, hTL] at this; exact this
      have hans := hSz.2.2.1
      have HSz := Lib.hid hSz
      have HFk := Lib.hid hFk
      have Hkk := Lib.hid hkk
      have m1 := cell_of hbkc 1
      have mz := frozen_of hbkc
      have n0 := cell_of hHc 0
      have n1 := cell_of hHc 1
      have n2 := cell_of hHc 2
      have n3 := cell_of hHc 3
      have n4 := cell_of hHc 4
      have n5 := cell_of hHc 5
      have n6 := cell_of hHc 6
      have nz := frozen_of hHc
      simp only [List.getElem?_toArray, List.getElem?_cons_zero, List.getElem?_cons_succ] at m1 n0 n1 n2 n3 n4 n5 n6
      have hRz : (bs P.rest).extract (Z + L) (bs P.rest).size = R' := by rw [hn]; exact hR'
      clear hSz hFk hkk hopc hcont hLm hTL q1 j1 j2 j3 j4 jz hMk hWr k0 k1 k2 k4 kz i0 i1 i2 i3 i4 i5 i6 i7 i8 iz hW4h hW4 hb4 hWh hbkW hEx
      go_upto_region 13 with fail
      go_region
      go_upto_region 14 with fail
      obtain ⟨X, hX⟩ : ∃ X, (wc.setCell ⟨b, 1, none⟩ (.string (bs (P.rest.drop (Z + L))))).drew = X := ⟨_, rfl⟩
      have hXb : X.heap[b]? = some (.cells #[.int .i64 P.most, .string (bs (P.rest.drop (Z + L))), .bool op2, .int .i64 o2, v', .int .i64 P.code, .int .i64 P.echoed] 85 (0, 0)) := by rw [← hX]; exact heap_set hbkc 1 _
      have hXh : X.heap[w2.heap.size]? = some (.cells #[.bool FI, .bool MK, .int .i64 OP, .string MB, .string (bs (bodyL P.rest)), .int .i64 Z, .int .i64 L, .bool LG, .int .i64 EN] 90 (0, 0)) := by rw [← hX]; exact (heap_set_other (fun e => hne4 e.symm)).trans hHc
      have hXt : Touch wr X (Own b v') := by rw [← hX]; exact ((((Touch.refl _ _).below hBc (Nat.le_refl _)).setCell (p := ⟨b, 1, none⟩) (.inl (.inl rfl)) _).drew)
      have hXp : PeerAt X base b { P with rest := P.rest.drop (Z + L) } v' := by
        refine ⟨hB2, ⟨op2, o2, hXb, hopn2⟩, hown2.keep fun g hg => ?_, hne2⟩
        have hgb : g ≠ b := by rintro rfl; exact hne2 hg
        exact (show X.heap[g]? = wc.heap[g]? by rw [← hX]; exact heap_set_other hgb).trans (hBc.block g (hown2.lt hg).2)
      have hXs := hXt.size
      have hXT : Touch w X (Own b v) := HMid.out.mem.touch.trans' hXt (by
        intro i hi hd
        rcases hd with rfl | hd
        · exact .inl rfl
        · rcases HMid.out.mem.msg with e | e | e
          · rw [e] at hd; cases hd
          · exact .inr (e.symm.trans hd)
          · have := e i hd; omega)
      have hTK := hTake X hXp (htab X hXT) (by have := HMid.out.mem.touch.size; omega)
      rw [hX]
      clear hX hTake m1 mz n0 n1 n2 n3 n4 n5 n6 nz hHc hbkc hBc hXb
      have n0 := cell_of hXh 0
      have n1 := cell_of hXh 1
      have n2 := cell_of hXh 2
      have n3 := cell_of hXh 3
      have n4 := cell_of hXh 4
      simp only [List.getElem?_toArray, List.getElem?_cons_zero, List.getElem?_cons_succ] at n0 n1 n2 n3 n4
      go_wp2_with (first | (go_at_call 54; refine hTK.mono ?_; rintro e w5 ⟨rfl, v2, hl5⟩; have hlb := HMid.out.mem.bld' (hXt.trans hl5.2.1)) | (go_at_call 52; refine (writeString_any _ _ _ _ _ (bs ans) _ hlb (by rw [bs_size]; omega) (by have := HMid.out.mem.touch.size; have := hl5.2.1.size; omega)).mono ?_; rintro e w6 ⟨vb2, rfl, hb6, ht6, hv6⟩))
      go_roundg k
      case measure => exact Nat.lt_succ_self k
      refine ⟨P', out ++ ans, v2, vb2, true, HFk.out, ⟨HMid.out.mem.step hXt hl5 hb6 ht6 hv6, ?_, ?_, ?_, ?_⟩, Hkk.out⟩
      · rw [HSz.out.1]; exact HMid.out.most
      · exact HSz.out.2.1
      · rw [List.length_append]; exact HSz.out.2.2.1
      · intro h; rw [List.length_append]; exact (HSz.out.2.2.2 h).1
  case rest =>
  obtain ⟨pf, out, v', vb, u, HFe, hM⟩ := hcut
  have hS := string_any w.heap.size w.heap.size u vb out wc hM.bld
  go_wp2_with (first | (go_at_call 55; refine hS.mono ?_; rintro e w6 ⟨rfl, hb6⟩))
  go_ret
  exact ⟨by rw [HFe.out]; rfl, v', by rw [HFe.out]; exact hM.fin hb6⟩

/-- Feed: the bytes that feedL says, and the peer that it leaves -/
theorem feed_any (base b : Nat) (p : RP) (v : Value) (s : ByteArray) (w : World) (h : PeerAt w base b p v) (hT : Tabs w) (hbase : 2 ≤ base) (hsz : base ≤ w.heap.size)
    (hm : 0 ≤ p.most ∧ p.most ≤ 16777216) (hml : p.msg.length ≤ 16777216) (hs : p.msg.length + p.rest.length + s.size + 12 ≤ 140737488355328) :
    Calls Tryd.prog 30 #[.pointer (some ⟨b, 0, none⟩), .string s] w fun e w' => e = .returned (.string (bs (feedL p (bl s)).2)) ∧ ∃ v', Left w w' base b (feedL p (bl s)).1 v v' := by
  by_cases hc : p.code = 0
  · exact feed_open base b p v s w h hc hT hbase hsz hm hml hs
  · exact feed_closed base b p v s w h hc
end Go.Proofs.YtmgfpjfamdbhbaaDoor
